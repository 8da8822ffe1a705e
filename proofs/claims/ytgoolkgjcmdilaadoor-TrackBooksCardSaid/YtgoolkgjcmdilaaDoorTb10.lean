/-
  Tb, part 10 of 36: the texts BitA TabV BitB.
-/
import Derived.Test.YtgoolkgjcmdilaaDoorProg
import Derived.WalkSmall
import Derived.BigRegion
import Derived.Deep.CutBlock
import Derived.Deep.DeepCutAuto
import Derived.Deep.RegionLaw
import Derived.Shelf.RegionOpenPlain
import Derived.Laws.Bits64b
import Derived.Test.YtgoolkgjcmdilaaDoorTb7
section
namespace Go.Proofs.YtgoolkgjcmdilaaDoor
open Go.RowKit
set_option linter.unusedVariables false
set_option linter.unusedSimpArgs false
attribute [local go_sem] Oper.semAt_some
/-- Words as values. -/
def wds (ws : List Nat) : List Value := ws.map fun (x : Nat) => .int .u64 (x : Int)
structure BitsAt (W : World) (b : Nat) (v : Value) (B : List Bool) (ws : List Nat) : Prop where
  hd : Blk W b #[.int .i64 B.length, v] 90
  own : W.ownsRow 0 96 1 v ws.length (wds ws)
  nn : v.ownBlock ≠ none
  len : ws.length = (B.length + 63) / 64
  lt : ∀ x ∈ ws, x < 18446744073709551616
  bits : ∀ i j, j < 64 → ((ws.getD i 0).testBit j) = B.getD (i * 64 + j) false
  lim : B.length ≤ 65536
theorem BitsAt.row {W : World} {b : Nat} {v : Value} {B : List Bool} {ws : List Nat} (h : BitsAt W b v B ws) :
    ∃ g cap, v = .slice (some ⟨g, 0, none⟩) ws.length cap ∧ ws.length ≤ cap ∧ cap ≤ maxLen ∧ g < W.heap.size ∧ (∀ i, W.frozen? ⟨g, i, none⟩ = false) ∧ ∀ i, i < ws.length → W.cell? ⟨g, i, none⟩ = some (.int .u64 (ws.getD i 0 : Nat)) := by
  rcases h.own.2 with ⟨rfl, _⟩ | ⟨g, cap, cur, rfl, _, hg, hnc, hm, _, _⟩
  · exact absurd rfl h.nn
  · refine ⟨g, cap, rfl, hnc, hm, (Array.getElem?_eq_some_iff.1 hg).1, fun i => Blk.free hg i, fun i hi => ?_⟩
    have := h.own.cells (g := g) rfl i (.int .u64 (ws.getD i 0 : Nat)) (by simp [wds, List.getD_eq_getElem?_getD, hi])
    rw [Addr.add_lit] at this
    simpa using this
theorem may_any (w : World) (b : Nat) (v : Value) (B : List Bool) (ws : List Nat) (i : Int) (h : BitsAt w b v B ws) : Calls Tryd.prog 90 #[.pointer (some ⟨b, 0, none⟩), .int .i64 i] w fun e w' => e = .returned (.bool (decide (0 ≤ i ∧ i < (B.length : Int)))) ∧ w = w' := by
  have c0 := h.hd.at 0 (v := .int .i64 B.length) rfl
  by_cases h1 : 0 ≤ i
  · by_cases h2 : i < (B.length : Int)
    · rw [decide_eq_true (And.intro h1 h2)]
      go_enter Tryd.func90, Tryd.ntmps90
      go_wp2
      go_ret
      exact ⟨rfl, rfl⟩
    · rw [decide_eq_false (by omega)]
      go_enter Tryd.func90, Tryd.ntmps90
      go_wp2
      go_ret
      exact ⟨rfl, rfl⟩
  · rw [decide_eq_false (by omega)]
    go_enter Tryd.func90, Tryd.ntmps90
    go_wp2
    go_ret
    exact ⟨rfl, rfl⟩
theorem blive_any (w : World) (b : Nat) (v : Value) (B : List Bool) (ws : List Nat) (h : BitsAt w b v B ws) : Calls Tryd.prog 75 #[.pointer (some ⟨b, 0, none⟩)] w fun e w' => e = .returned (.bool true) ∧ w = w' := by
  obtain ⟨g, cap, rfl, _⟩ := h.row
  have c1 := h.hd.at 1 (v := .slice (some ⟨g, 0, none⟩) ws.length cap) rfl
  clear h
  go_enter Tryd.func75, Tryd.ntmps75
  go_wp2
  go_ret
  exact ⟨rfl, rfl⟩
theorem q64 {i : Nat} (h : i ≤ 65536) : wrap64 ((i : Int) / 64) = ((i / 64 : Nat) : Int) := by
  rw [w64 (by omega)]; rfl
theorem r64 (i : Nat) : (i : Int) % 64 = ((i % 64 : Nat) : Int) := rfl
theorem bit_term {x r : Nat} (hx : x < 18446744073709551616) : (bits BinOp.and IntKind.u64 ((x : Int) / 2 ^ r) 1 == 1) = x.testBit r := by
  have e : (x : Int) / 2 ^ r = ((x / 2 ^ r : Nat) : Int) := by rw [Int.natCast_ediv, Int.natCast_pow]; rfl
  have hle : x / 2 ^ r ≤ x := Nat.div_le_self _ _
  rw [e, Nat.testBit_eq_decide_div_mod_eq]
  generalize x / 2 ^ r = y at *
  rw [and_one_u64 _ (by omega) (by omega), Bool.eq_iff_iff]
  simp
  omega
/-- Is a number in? -/
def hasB (B : List Bool) (i : Int) : Bool := decide (0 ≤ i) && B.getD i.toNat false
theorem has_in (w : World) (b : Nat) (v : Value) (B : List Bool) (ws : List Nat) (i : Nat) (h : BitsAt w b v B ws) (hi : i < B.length) : Calls Tryd.prog 61 #[.pointer (some ⟨b, 0, none⟩), .int .i64 (i : Nat)] w fun e w' => e = .returned (.bool (B.getD i false)) ∧ w = w' := by
  have HH := Lib.hid h
  obtain ⟨g, cap, rfl, h1, h2, h3, h4, h5⟩ := h.row
  have c1 := h.hd.at 1 (v := .slice (some ⟨g, 0, none⟩) ws.length cap) rfl
  have hk : i / 64 < ws.length := by rw [h.len]; omega
  have c2 := h5 _ hk
  have hb := h.bits (i / 64) (i % 64) (by omega)
  rw [show i / 64 * 64 + i % 64 = i by omega] at hb
  have hM := may_any w b _ B ws (i : Nat) h
  rw [decide_eq_true (And.intro (Int.natCast_nonneg i) (Int.ofNat_lt.2 hi))] at hM
  have HM := Lib.hid hM
  obtain ⟨n, hn⟩ : ∃ n, n = ws.length := ⟨_, rfl⟩
  rw [← hn] at c1 hk
  obtain ⟨q, hq⟩ : ∃ q, q = i / 64 := ⟨_, rfl⟩
  obtain ⟨r, hr⟩ : ∃ r, r = i % 64 := ⟨_, rfl⟩
  have e1 := q64 (i := i) (Nat.le_trans (Nat.le_of_lt hi) h.lim)
  have e2 := r64 i
  have hr6 : r < 64 := by rw [hr]; exact Nat.mod_lt _ (by decide)
  rw [← hq] at e1
  rw [← hr] at e2
  rw [← hq] at c2 hb hk
  rw [← hr] at hb
  obtain ⟨x, hx⟩ : ∃ x, x = ws.getD q 0 := ⟨_, rfl⟩
  rw [← hx] at c2 hb
  have g0 : (0 : Int) ≤ (q : Int) := Int.natCast_nonneg q
  have g1 : (q : Int) < (n : Int) := Int.ofNat_lt.2 hk
  have hxl : x < 18446744073709551616 := by
    rw [hx, List.getD_eq_getElem?_getD, List.getElem?_eq_getElem (by rw [← hn]; exact hk)]
    exact HH.out.lt _ (List.getElem_mem _)
  have HB := Lib.hid ((bit_term (r := r) hxl).trans hb)
  clear h h1 h2 h3 h4 h5 hb hM hn hq hr hx hk hi hxl
  go_enter Tryd.func61, Tryd.ntmps61
  go_wp2_with fail
  (with_reducible refine (HM.out).mono ?_)
  rintro e w1 ⟨rfl, rfl⟩
  go_wp2_with fail
  go_ret
  exact ⟨ret_bool HB.out, rfl⟩
theorem has_out (w : World) (b : Nat) (v : Value) (B : List Bool) (ws : List Nat) (i : Int) (h : BitsAt w b v B ws) (hi : ¬ (0 ≤ i ∧ i < (B.length : Int))) : Calls Tryd.prog 61 #[.pointer (some ⟨b, 0, none⟩), .int .i64 i] w fun e w' => e = .returned (.bool false) ∧ w = w' := by
  have hM := may_any w b _ B ws i h
  rw [decide_eq_false hi] at hM
  have HM := Lib.hid hM
  clear h hi hM
  go_enter Tryd.func61, Tryd.ntmps61
  go_wp2_with fail
  (with_reducible refine (HM.out).mono ?_)
  rintro e w1 ⟨rfl, rfl⟩
  go_wp2_with fail
  go_ret
  exact ⟨rfl, rfl⟩
theorem has_any (w : World) (b : Nat) (v : Value) (B : List Bool) (ws : List Nat) (i : Int) (h : BitsAt w b v B ws) : Calls Tryd.prog 61 #[.pointer (some ⟨b, 0, none⟩), .int .i64 i] w fun e w' => e = .returned (.bool (hasB B i)) ∧ w = w' := by
  by_cases h0 : 0 ≤ i
  · obtain ⟨k, rfl⟩ := Int.eq_ofNat_of_zero_le h0
    by_cases h1 : k < B.length
    · rw [show hasB B (k : Int) = B.getD k false by unfold hasB; rw [decide_eq_true h0]; rfl]
      exact has_in w b v B ws k h h1
    · rw [show hasB B (k : Int) = false by unfold hasB; rw [decide_eq_true h0, Int.toNat_natCast, List.getD_eq_getElem?_getD, List.getElem?_eq_none (by omega)]; rfl]
      exact has_out w b v B ws k h (by omega)
  · rw [show hasB B i = false by unfold hasB; rw [decide_eq_false h0]; rfl]
    exact has_out w b v B ws i h (by omega)
end Go.Proofs.YtgoolkgjcmdilaaDoor
end
section
namespace Go.Proofs.YtgoolkgjcmdilaaDoor
open Go.RowKit
set_option linter.unusedVariables false
set_option linter.unusedSimpArgs false
attribute [local go_sem] Oper.semAt_some
def payV (x : Int × ByteArray) : List Value := [.int .i64 x.1, .string x.2]
theorem wideV : Wide payV 2 := ⟨fun _ => rfl, fun x v hv => by simp [payV] at hv; rcases hv with rfl | rfl <;> rfl⟩
structure TabV (W : World) (b : Nat) (v : Value) (Ps : List (Int × (Int × ByteArray))) (room : Int) : Prop where
  hd : Blk W b #[.int .i64 room, v] 68
  own : W.ownsRow 0 143 3 v Ps.length (flat payV Ps)
  nn : v.ownBlock ≠ none
  up : Up Ps
  ids : ∀ p ∈ Ps, U32 p.1
  lim : (Ps.length : Int) ≤ room ∧ room ≤ 65536
/-- A slice of pairs reads. -/
def RowV (W : World) (g : Nat) (Ps : List (Int × (Int × ByteArray))) : Prop := ∀ j u, (flat payV Ps)[j]? = some u → W.cell? ⟨g, j, none⟩ = some u
theorem RowV.at {W : World} {g : Nat} {Ps : List (Int × (Int × ByteArray))} (h0 : RowV W g Ps) {i : Nat} {p : Int × (Int × ByteArray)} (h : Ps[i]? = some p) : W.cell? ⟨g, i * 3, none⟩ = some (.int .u32 p.1) ∧ W.cell? ⟨g, i * 3 + 1, none⟩ = some (.int .i64 p.2.1) ∧ W.cell? ⟨g, i * 3 + 2, none⟩ = some (.string p.2.2) :=
  ⟨h0 (i * 3) _ (flat_id wideV h), h0 (i * 3 + 1) _ (flat_pay wideV h (j := 0) rfl), h0 (i * 3 + 2) _ (flat_pay wideV h (j := 1) rfl)⟩
theorem RowV.fr {W W' : World} {g : Nat} {Ps : List (Int × (Int × ByteArray))} (h : RowV W g Ps) (hf : Fr [] W W') : RowV W' g Ps :=
  fun j u hu => (hf.cell (World.block_lt_of_cell? W _ (h j u hu)) (by simp)).trans (h j u hu)
theorem TabV.row {W : World} {b : Nat} {v : Value} {Ps : List (Int × (Int × ByteArray))} {room : Int} (h : TabV W b v Ps room) :
    ∃ g cap, v = .slice (some ⟨g, 0, none⟩) Ps.length cap ∧ Ps.length ≤ cap ∧ cap ≤ maxLen ∧ g < W.heap.size ∧ RowV W g Ps := by
  rcases h.own.2 with ⟨rfl, _⟩ | ⟨g, cap, cur, rfl, _, hg, hnc, hm, _, _⟩
  · exact absurd rfl h.nn
  · refine ⟨g, cap, rfl, hnc, hm, (Array.getElem?_eq_some_iff.1 hg).1, fun j u hu => ?_⟩
    have := h.own.cells (g := g) rfl j u hu
    rw [Addr.add_lit] at this
    simpa using this
theorem TabV.notin {W : World} {b : Nat} {v : Value} {Ps : List (Int × (Int × ByteArray))} {room : Int} (h : TabV W b v Ps room) : b ∉ v.ownBlock.toList := own_notin h.own h.hd (by decide)
theorem TabV.fr {S : List Nat} {W W' : World} {b : Nat} {v : Value} {Ps : List (Int × (Int × ByteArray))} {room : Int} (h : TabV W b v Ps room) (hf : Fr S W W') (h1 : b ∉ S) (h2 : ∀ g, v.ownBlock = some g → g ∉ S) : TabV W' b v Ps room :=
  ⟨hf.blk h.hd h1, own_fr h.own hf h2, h.nn, h.up, h.ids, h.lim⟩
theorem TabV.grow {W W' : World} {b : Nat} {v : Value} {Ps : List (Int × (Int × ByteArray))} {room : Int} (h : TabV W b v Ps room) (hf : Fr [] W W') : TabV W' b v Ps room := h.fr hf (by simp) (by simp)
end Go.Proofs.YtgoolkgjcmdilaaDoor
namespace Go.Proofs.YtgoolkgjcmdilaaDoor
open Go.RowKit
set_option linter.unusedVariables false
set_option linter.unusedSimpArgs false
attribute [local go_sem] Oper.semAt_some
end Go.Proofs.YtgoolkgjcmdilaaDoor
namespace Go.Proofs.YtgoolkgjcmdilaaDoor
open Go.RowKit
set_option linter.unusedVariables false
set_option linter.unusedSimpArgs false
attribute [local go_sem] Oper.semAt_some
end Go.Proofs.YtgoolkgjcmdilaaDoor
namespace Go.Proofs.YtgoolkgjcmdilaaDoor
open Go.RowKit
set_option linter.unusedVariables false
set_option linter.unusedSimpArgs false
attribute [local go_sem] Oper.semAt_some
end Go.Proofs.YtgoolkgjcmdilaaDoor
namespace Go.Proofs.YtgoolkgjcmdilaaDoor
open Go.RowKit
set_option linter.unusedVariables false
set_option linter.unusedSimpArgs false
attribute [local go_sem] Oper.semAt_some
theorem own_set {w : World} {e : TypeId} {K n g : Nat} {v : Value} {xs : List Value} (h : w.ownsRow 0 e K v n xs) (hg : v.ownBlock = some g) (j : Nat) (u : Value) (hj : j < xs.length) : (w.setCell ⟨g, j, none⟩ u).ownsRow 0 e K v n (xs.set j u) := by
  refine ⟨by rw [List.length_set]; exact h.1, ?_⟩
  rcases h.2 with ⟨rfl, _⟩ | ⟨g', cap, cur, rfl, hb, hgg, hnc, hm, hcs, htake⟩
  · simp [Value.ownBlock] at hg
  · simp [Value.ownBlock] at hg
    subst hg
    refine .inr ⟨g', cap, cur.setIfInBounds j u, rfl, hb, Blk.set hgg j u, hnc, hm, by simpa using hcs, ?_⟩
    rw [Array.toList_setIfInBounds, List.take_set, htake]
end Go.Proofs.YtgoolkgjcmdilaaDoor
namespace Go.Proofs.YtgoolkgjcmdilaaDoor
open Go.RowKit
set_option linter.unusedVariables false
set_option linter.unusedSimpArgs false
attribute [local go_sem] Oper.semAt_some
end Go.Proofs.YtgoolkgjcmdilaaDoor
namespace Go.Proofs.YtgoolkgjcmdilaaDoor
open Go.RowKit
set_option linter.unusedVariables false
set_option linter.unusedSimpArgs false
attribute [local go_sem] Oper.semAt_some
end Go.Proofs.YtgoolkgjcmdilaaDoor
namespace Go.Proofs.YtgoolkgjcmdilaaDoor
open Go.RowKit
set_option linter.unusedVariables false
set_option linter.unusedSimpArgs false
attribute [local go_sem] Oper.semAt_some
theorem eqlNilV (a : Addr) (n c : Nat) (w : World) : (binOp .eql 66 (.slice (some a) n c) (.slice none 0 0)).run Tryd.prog w = .ok (.bool false) w := by
  exact Lib.run_eql_slice_nil _ _ _ _ _ _ _ _ Tryd.underlying66
attribute [local go_sem] eqlNilV
end Go.Proofs.YtgoolkgjcmdilaaDoor
end
section
namespace Go.Proofs.YtgoolkgjcmdilaaDoor
open Go.RowKit
set_option linter.unusedVariables false
set_option linter.unusedSimpArgs false
attribute [local go_sem] Oper.semAt_some
theorem pow_lt {r : Nat} (h : r < 64) : 2 ^ r < 18446744073709551616 := Nat.lt_of_lt_of_le (Nat.pow_lt_pow_right (by decide) h) (by decide)
theorem pow_term {r : Nat} (h : r < 64) : IntKind.u64.wrap (2 ^ r) = ((2 ^ r : Nat) : Int) := by
  have := pow_lt h
  have e : ((2 : Int) ^ r) = ((2 ^ r : Nat) : Int) := by rw [Int.natCast_pow]; rfl
  rw [e]
  generalize 2 ^ r = y at *
  rw [IntKind.wrap_u64]
  omega
theorem or_term {x r : Nat} (hx : x < 18446744073709551616) (h : r < 64) : bits BinOp.or IntKind.u64 (x : Int) (IntKind.u64.wrap (2 ^ r)) = ((x ||| 2 ^ r : Nat) : Int) := by
  rw [pow_term h, bits_or_u64_nat _ _ hx (pow_lt h)]
theorem or_lt {x r : Nat} (hx : x < 18446744073709551616) (h : r < 64) : x ||| 2 ^ r < 18446744073709551616 := by
  have : x ||| 2 ^ r < 2 ^ 64 := Nat.or_lt_two_pow (by omega) (by have := pow_lt h; omega)
  omega
theorem or_bit (x r j : Nat) : (x ||| 2 ^ r).testBit j = if j = r then true else x.testBit j := by
  rw [Nat.testBit_or, Nat.testBit_two_pow]
  by_cases e : j = r
  · simp [e]
  · rw [if_neg e, decide_eq_false (by omega), Bool.or_false]
theorem BitsAt.drew {W : World} {b : Nat} {v : Value} {B : List Bool} {ws : List Nat} (h : BitsAt W b v B ws) : BitsAt W.drew b v B ws := ⟨h.hd, h.own, h.nn, h.len, h.lt, h.bits, h.lim⟩
theorem BitsAt.word {W : World} {b : Nat} {v : Value} {B : List Bool} {ws : List Nat} (h : BitsAt W b v B ws) (q : Nat) : ws.getD q 0 < 18446744073709551616 := by
  rw [List.getD_eq_getElem?_getD]
  cases hq : ws[q]? with
  | none => simp
  | some x => exact h.lt x (List.mem_of_getElem? hq)
theorem BitsAt.notin {W : World} {b : Nat} {v : Value} {B : List Bool} {ws : List Nat} (h : BitsAt W b v B ws) : b ∉ v.ownBlock.toList := own_notin h.own h.hd (by decide)
theorem BitsAt.fr {S : List Nat} {W W' : World} {b : Nat} {v : Value} {B : List Bool} {ws : List Nat} (h : BitsAt W b v B ws) (hf : Fr S W W') (h1 : b ∉ S) (h2 : ∀ g, v.ownBlock = some g → g ∉ S) : BitsAt W' b v B ws :=
  ⟨hf.blk h.hd h1, own_fr h.own hf h2, h.nn, h.len, h.lt, h.bits, h.lim⟩
theorem BitsAt.grow {W W' : World} {b : Nat} {v : Value} {B : List Bool} {ws : List Nat} (h : BitsAt W b v B ws) (hf : Fr [] W W') : BitsAt W' b v B ws := h.fr hf (by simp) (by simp)
theorem BitsAt.upd {W : World} {b g : Nat} {v : Value} {B : List Bool} {ws : List Nat} (h : BitsAt W b v B ws) {i : Nat} (hi : i < B.length) (hg : v.ownBlock = some g) (c : Bool) (x' : Nat) (hlt : x' < 18446744073709551616)
    (hx' : ∀ j, j < 64 → x'.testBit j = if j = i % 64 then c else (ws.getD (i / 64) 0).testBit j) : BitsAt (W.setCell ⟨g, i / 64, none⟩ (.int .u64 (x' : Nat))) b v (B.set i c) (ws.set (i / 64) x') := by
  have hbg : b ≠ g := fun e => h.notin (by rw [hg, e]; simp)
  have hk : i / 64 < ws.length := by rw [h.len]; omega
  refine ⟨by rw [List.length_set]; exact h.hd.other _ _ hbg, ?_, h.nn, by rw [List.length_set, List.length_set]; exact h.len, fun y hy => ?_, fun a j hj => ?_, by rw [List.length_set]; exact h.lim⟩
  · have e : wds (ws.set (i / 64) x') = (wds ws).set (i / 64) (.int .u64 (x' : Nat)) := by simp [wds, List.map_set]
    rw [e, List.length_set]
    exact own_set h.own hg _ _ (by simpa [wds] using hk)
  · rcases List.mem_or_eq_of_mem_set hy with hy | rfl
    · exact h.lt y hy
    · exact hlt
  · have hb := h.bits a j hj
    rw [List.getD_eq_getElem?_getD, List.getD_eq_getElem?_getD] at *
    rw [List.getElem?_set, List.getElem?_set]
    by_cases ha : i / 64 = a
    · subst ha
      rw [if_pos rfl, if_pos hk]
      have hxx := hx' j hj
      by_cases hjr : j = i % 64
      · rw [if_pos hjr] at hxx
        rw [if_pos (by omega), if_pos hi]
        simpa using hxx
      · rw [if_neg hjr] at hxx
        rw [if_neg (by omega)]
        rw [← hb]
        simpa using hxx
    · rw [if_neg ha, if_neg (by omega)]
      exact hb
set_option maxRecDepth 100000 in
set_option maxHeartbeats 1000000 in
theorem add_new (w : World) (b : Nat) (v : Value) (B : List Bool) (ws : List Nat) (i : Nat) (h : BitsAt w b v B ws) (hi : i < B.length) (hB : B.getD i false = false) :
    Calls Tryd.prog 34 #[.pointer (some ⟨b, 0, none⟩), .int .i64 (i : Nat)] w fun e w' => e = .returned (.bool true) ∧ ∃ ws', BitsAt w' b v (B.set i true) ws' ∧ Fr v.ownBlock.toList w w' := by
  have HH := Lib.hid h
  have hH := has_in w b v B ws i h hi
  rw [hB] at hH
  have HHS := Lib.hid hH
  have hM := may_any w b v B ws (i : Nat) h
  rw [decide_eq_true (And.intro (Int.natCast_nonneg i) (Int.ofNat_lt.2 hi))] at hM
  have HM := Lib.hid hM
  obtain ⟨g, cap, rfl, h1, h2, h3, h4, h5⟩ := h.row
  have c1 := h.hd.at 1 (v := .slice (some ⟨g, 0, none⟩) ws.length cap) rfl
  have hk : i / 64 < ws.length := by rw [h.len]; omega
  have c2 := h5 _ hk
  obtain ⟨n, hn⟩ : ∃ n, n = ws.length := ⟨_, rfl⟩
  rw [← hn] at c1 hk
  obtain ⟨q, hq⟩ : ∃ q, q = i / 64 := ⟨_, rfl⟩
  obtain ⟨r, hr⟩ : ∃ r, r = i % 64 := ⟨_, rfl⟩
  have e1 := q64 (i := i) (Nat.le_trans (Nat.le_of_lt hi) h.lim)
  have e2 := r64 i
  have hr6 : r < 64 := by rw [hr]; exact Nat.mod_lt _ (by decide)
  rw [← hq] at e1
  rw [← hr] at e2
  rw [← hq] at c2 hk
  obtain ⟨x, hx⟩ : ∃ x, x = ws.getD q 0 := ⟨_, rfl⟩
  rw [← hx] at c2
  have g0 : (0 : Int) ≤ (q : Int) := Int.natCast_nonneg q
  have g1 : (q : Int) < (n : Int) := Int.ofNat_lt.2 hk
  have fz := h4 q
  have HN := Lib.hid (And.intro hn (And.intro hq (And.intro hr (And.intro hx (And.intro hk (And.intro hi hB))))))
  clear h h1 h2 h3 h4 h5 hM hn hq hr hx hk hi hB hH
  go_enter Tryd.func34, Tryd.ntmps34
  go_wp2_with fail
  (with_reducible refine (HM.out).mono ?_)
  rintro e w1 ⟨rfl, rfl⟩
  go_wp2_with fail
  (with_reducible refine (HHS.out).mono ?_)
  rintro e w1 ⟨rfl, rfl⟩
  go_wp2_with fail
  go_region
  simp only [Exit.then]
  go_wp2
  go_ret
  obtain ⟨hn, hq, hr, hx, hk, hi, hB⟩ := HN.out
  have hxl : x < 18446744073709551616 := by rw [hx]; exact HH.out.word q
  refine ⟨rfl, ws.set (i / 64) (x ||| 2 ^ r), ?_, ?_⟩
  · have hu := HH.out.upd (g := g) hi rfl true (x ||| 2 ^ r) (or_lt hxl hr6) (fun j hj => by rw [or_bit, ← hr, ← hq, ← hx])
    rw [or_term hxl hr6, hq]
    exact hu.drew
  · exact ((Fr.refl _ w).setCell _ _ (.inl (by simp [Value.ownBlock]))).drew
theorem hasB_nat (B : List Bool) (i : Nat) : hasB B (i : Int) = B.getD i false := by
  unfold hasB
  rw [decide_eq_true (Int.natCast_nonneg i)]
  rfl
theorem add_not (w : World) (b : Nat) (v : Value) (B : List Bool) (ws : List Nat) (i : Int) (h : BitsAt w b v B ws) (hi : ¬ (0 ≤ i ∧ i < (B.length : Int)) ∨ hasB B i = true) :
    Calls Tryd.prog 34 #[.pointer (some ⟨b, 0, none⟩), .int .i64 i] w fun e w' => e = .returned (.bool false) ∧ w = w' := by
  have hM := may_any w b v B ws i h
  have hH := has_any w b v B ws i h
  by_cases h0 : 0 ≤ i ∧ i < (B.length : Int)
  · have h1 := hi.resolve_left (fun q => q h0)
    rw [decide_eq_true h0] at hM
    rw [h1] at hH
    have HM := Lib.hid hM
    have HHS := Lib.hid hH
    clear hM hH h hi h0 h1
    go_enter Tryd.func34, Tryd.ntmps34
    go_wp2_with fail
    (with_reducible refine (HM.out).mono ?_)
    rintro e w1 ⟨rfl, rfl⟩
    go_wp2_with fail
    (with_reducible refine (HHS.out).mono ?_)
    rintro e w1 ⟨rfl, rfl⟩
    go_wp2_with fail
    go_ret
    exact ⟨rfl, rfl⟩
  · rw [decide_eq_false h0] at hM
    have HM := Lib.hid hM
    clear hM hH h hi h0
    go_enter Tryd.func34, Tryd.ntmps34
    go_wp2_with fail
    (with_reducible refine (HM.out).mono ?_)
    rintro e w1 ⟨rfl, rfl⟩
    go_wp2_with fail
    go_ret
    exact ⟨rfl, rfl⟩
theorem bdel_not (w : World) (b : Nat) (v : Value) (B : List Bool) (ws : List Nat) (i : Int) (h : BitsAt w b v B ws) (hi : hasB B i = false) :
    Calls Tryd.prog 80 #[.pointer (some ⟨b, 0, none⟩), .int .i64 i] w fun e w' => e = .returned (.bool false) ∧ w = w' := by
  have hH := has_any w b v B ws i h
  rw [hi] at hH
  have HHS := Lib.hid hH
  clear hH h hi
  go_enter Tryd.func80, Tryd.ntmps80
  go_wp2_with fail
  (with_reducible refine (HHS.out).mono ?_)
  rintro e w1 ⟨rfl, rfl⟩
  go_wp2_with fail
  go_ret
  exact ⟨rfl, rfl⟩
theorem winfo : (Tryd.prog.info? 96).map (fun i => (i.zero, i.size, i.bytes)) = some (some (.int .u64 0), 1, 8) := by kernel_rfl
theorem made_wds (n : Nat) : madeCells (Value.int .u64 0).cells (n * 1) = (wds (List.replicate n 0)).toArray := by
  apply Array.ext
  · simp [madeCells, wds]
  · intro i h1 h2
    simp [madeCells, wds, Value.cells, Nat.mod_one]
theorem make_wds (n : Nat) (hn : n ≤ 1000000) (w : World) : (Instr.makeSlice 88 (.int .i64 (n : Int)) (.int .i64 (n : Int))).run Tryd.prog w =
    .ok (.slice (some ⟨w.heap.size, 0, none⟩) n n) (w.alloc (.cells (wds (List.replicate n 0)).toArray 96)) := by
  obtain ⟨i, hi, hz, hs, hb⟩ := info_parts winfo
  have hr := run_make (P := Tryd.prog) w 88 96 i (.int .u64 0) Tryd.underlying88 hi hz .i64 .i64 n n (by omega) (by omega) (by rw [hb]; omega) (by omega)
  rw [hs, Int.toNat_natCast, made_wds] at hr
  exact hr
def NewBPost (w : World) (n : Nat) (e : Ending) (w' : World) : Prop :=
  ∃ b v ws, e = .returned (.tuple #[.pointer (some ⟨b, 0, none⟩), .int .i64 0]) ∧ BitsAt w' b v (List.replicate n false) ws ∧ w.heap.size ≤ b ∧ (∀ g, v.ownBlock = some g → w.heap.size ≤ g) ∧ Fr [] w w'
set_option maxRecDepth 100000 in
theorem newB_ok (w : World) (n : Nat) (hn : n ≤ 65536) : Calls Tryd.prog 25 #[.int .i64 (n : Nat)] w (NewBPost w n) := by
  have hmk := make_wds ((n + 63) / 64) (by omega) w
  have hP : NewBPost w n (.returned (.tuple #[.pointer (some ⟨w.heap.size + 1, 0, none⟩), .int .i64 0])) ((w.alloc (.cells (wds (List.replicate ((n + 63) / 64) 0)).toArray 96)).alloc (.cells #[.int .i64 (n : Nat), .slice (some ⟨w.heap.size, 0, none⟩) ((n + 63) / 64) ((n + 63) / 64)] 90)) := by
    refine ⟨w.heap.size + 1, .slice (some ⟨w.heap.size, 0, none⟩) ((n + 63) / 64) ((n + 63) / 64), List.replicate ((n + 63) / 64) 0, rfl, ⟨by simpa using Blk.new_at (by simp) _ _, ?_, by simp [Value.ownBlock], by simp, by simp, fun i j hj => ?_, by simpa using hn⟩, by omega, by simp [Value.ownBlock], ((Fr.refl _ _).alloc _).alloc _⟩
    · refine ⟨by simp [wds], .inr ⟨w.heap.size, (n + 63) / 64, _, by simp, Nat.zero_le _, heap_alloc_old _ _ (by simp) |>.trans (heap_alloc_new w _), by simp, by unfold maxLen; omega, by simp [wds], by simp [wds]⟩⟩
    · simp [List.getD_eq_getElem?_getD, List.getElem?_replicate]
      split <;> split <;> simp
  have HP := Lib.hid hP
  obtain ⟨k, hk⟩ : ∃ k, k = (n + 63) / 64 := ⟨_, rfl⟩
  rw [← hk] at hmk HP
  have e1 : ((n : Int) + 64 - 1) / 64 = (k : Int) := by omega
  have h1 : ¬ (n : Int) < 0 := by omega
  have h2 : ¬ 65536 < (n : Int) := by omega
  clear hP hk
  go_enter Tryd.func25, Tryd.ntmps25
  go_wp2
  refine bodyPost_ret (v := .tuple #[.pointer (some ⟨w.heap.size + 1, 0, none⟩), .int .i64 0]) (by simp [results, Tryd.results25, go_sem]) rfl ?_
  exact HP.out
end Go.Proofs.YtgoolkgjcmdilaaDoor
end
