/-
  Sets of small numbers: NewBits, Add, Del.
-/
import Derived.Test.YtgoolkgjcmdilaaDoorBitA
import Derived.Test.YtgoolkgjcmdilaaDoorTabV
import Derived.BigRegion
import Derived.Laws.Bits64b
namespace Go.Proofs.YtgoolkgjcmdilaaDoor
open Go.RowKit
set_option linter.unusedVariables false
set_option linter.unusedSimpArgs false
attribute [local go_sem] Oper.semAt_some

theorem pow_lt {r : Nat} (h : r < 64) : 2 ^ r < 18446744073709551616 := Nat.lt_of_lt_of_le (Nat.pow_lt_pow_right (by decide) h) (by decide)
theorem pow_term {r : Nat} (h : r < 64) : IntKind.u64.wrap (2 ^ r) = ((2 ^ r : Nat) : Int) := by
  have := pow_lt h
  have e : ((2 : Int) ^ r) = ((2 ^ r : Nat) : Int) := by rw [Int.natCast_pow]; rfl
  rw [e]
  generalize 2 ^ r = y at *
  rw [IntKind.wrap_u64]
  omega
theorem or_term {x r : Nat} (hx : x < 18446744073709551616) (h : r < 64) : bits BinOp.or IntKind.u64 (x : Int) (IntKind.u64.wrap (2 ^ r)) = ((x ||| 2 ^ r : Nat) : Int) := by
  rw [pow_term h, bits_or_u64_nat _ _ hx (pow_lt h)]
theorem or_lt {x r : Nat} (hx : x < 18446744073709551616) (h : r < 64) : x ||| 2 ^ r < 18446744073709551616 := by
  have : x ||| 2 ^ r < 2 ^ 64 := Nat.or_lt_two_pow (by omega) (by have := pow_lt h; omega)
  omega
theorem or_bit (x r j : Nat) : (x ||| 2 ^ r).testBit j = if j = r then true else x.testBit j := by
  rw [Nat.testBit_or, Nat.testBit_two_pow]
  by_cases e : j = r
  · simp [e]
  · rw [if_neg e, decide_eq_false (by omega), Bool.or_false]
theorem BitsAt.drew {W : World} {b : Nat} {v : Value} {B : List Bool} {ws : List Nat} (h : BitsAt W b v B ws) : BitsAt W.drew b v B ws := ⟨h.hd, h.own, h.nn, h.len, h.lt, h.bits, h.lim⟩
theorem BitsAt.word {W : World} {b : Nat} {v : Value} {B : List Bool} {ws : List Nat} (h : BitsAt W b v B ws) (q : Nat) : ws.getD q 0 < 18446744073709551616 := by
  rw [List.getD_eq_getElem?_getD]
  cases hq : ws[q]? with
  | none => simp
  | some x => exact h.lt x (List.mem_of_getElem? hq)
theorem BitsAt.notin {W : World} {b : Nat} {v : Value} {B : List Bool} {ws : List Nat} (h : BitsAt W b v B ws) : b ∉ v.ownBlock.toList := own_notin h.own h.hd (by decide)
theorem BitsAt.fr {S : List Nat} {W W' : World} {b : Nat} {v : Value} {B : List Bool} {ws : List Nat} (h : BitsAt W b v B ws) (hf : Fr S W W') (h1 : b ∉ S) (h2 : ∀ g, v.ownBlock = some g → g ∉ S) : BitsAt W' b v B ws :=
  ⟨hf.blk h.hd h1, own_fr h.own hf h2, h.nn, h.len, h.lt, h.bits, h.lim⟩
theorem BitsAt.grow {W W' : World} {b : Nat} {v : Value} {B : List Bool} {ws : List Nat} (h : BitsAt W b v B ws) (hf : Fr [] W W') : BitsAt W' b v B ws := h.fr hf (by simp) (by simp)
theorem BitsAt.upd {W : World} {b g : Nat} {v : Value} {B : List Bool} {ws : List Nat} (h : BitsAt W b v B ws) {i : Nat} (hi : i < B.length) (hg : v.ownBlock = some g) (c : Bool) (x' : Nat) (hlt : x' < 18446744073709551616)
    (hx' : ∀ j, j < 64 → x'.testBit j = if j = i % 64 then c else (ws.getD (i / 64) 0).testBit j) : BitsAt (W.setCell ⟨g, i / 64, none⟩ (.int .u64 (x' : Nat))) b v (B.set i c) (ws.set (i / 64) x') := by
  have hbg : b ≠ g := fun e => h.notin (by rw [hg, e]; simp)
  have hk : i / 64 < ws.length := by rw [h.len]; omega
  refine ⟨by rw [List.length_set]; exact h.hd.other _ _ hbg, ?_, h.nn, by rw [List.length_set, List.length_set]; exact h.len, fun y hy => ?_, fun a j hj => ?_, by rw [List.length_set]; exact h.lim⟩
  · have e : wds (ws.set (i / 64) x') = (wds ws).set (i / 64) (.int .u64 (x' : Nat)) := by simp [wds, List.map_set]
    rw [e, List.length_set]
    exact own_set h.own hg _ _ (by simpa [wds] using hk)
  · rcases List.mem_or_eq_of_mem_set hy with hy | rfl
    · exact h.lt y hy
    · exact hlt
  · have hb := h.bits a j hj
    rw [List.getD_eq_getElem?_getD, List.getD_eq_getElem?_getD] at *
    rw [List.getElem?_set, List.getElem?_set]
    by_cases ha : i / 64 = a
    · subst ha
      rw [if_pos rfl, if_pos hk]
      have hxx := hx' j hj
      by_cases hjr : j = i % 64
      · rw [if_pos hjr] at hxx
        rw [if_pos (by omega), if_pos hi]
        simpa using hxx
      · rw [if_neg hjr] at hxx
        rw [if_neg (by omega)]
        rw [← hb]
        simpa using hxx
    · rw [if_neg ha, if_neg (by omega)]
      exact hb

set_option maxRecDepth 100000 in
set_option maxHeartbeats 1000000 in
theorem add_new (w : World) (b : Nat) (v : Value) (B : List Bool) (ws : List Nat) (i : Nat) (h : BitsAt w b v B ws) (hi : i < B.length) (hB : B.getD i false = false) :
    Calls Tryd.prog 34 #[.pointer (some ⟨b, 0, none⟩), .int .i64 (i : Nat)] w fun e w' => e = .returned (.bool true) ∧ ∃ ws', BitsAt w' b v (B.set i true) ws' ∧ Fr v.ownBlock.toList w w' := by
  have HH := Lib.hid h
  have hH := has_in w b v B ws i h hi
  rw [hB] at hH
  have HHS := Lib.hid hH
  have hM := may_any w b v B ws (i : Nat) h
  rw [decide_eq_true (And.intro (Int.natCast_nonneg i) (Int.ofNat_lt.2 hi))] at hM
  have HM := Lib.hid hM
  obtain ⟨g, cap, rfl, h1, h2, h3, h4, h5⟩ := h.row
  have c1 := h.hd.at 1 (v := .slice (some ⟨g, 0, none⟩) ws.length cap) rfl
  have hk : i / 64 < ws.length := by rw [h.len]; omega
  have c2 := h5 _ hk
  obtain ⟨n, hn⟩ : ∃ n, n = ws.length := ⟨_, rfl⟩
  rw [← hn] at c1 hk
  obtain ⟨q, hq⟩ : ∃ q, q = i / 64 := ⟨_, rfl⟩
  obtain ⟨r, hr⟩ : ∃ r, r = i % 64 := ⟨_, rfl⟩
  have e1 := q64 (i := i) (Nat.le_trans (Nat.le_of_lt hi) h.lim)
  have e2 := r64 i
  have hr6 : r < 64 := by rw [hr]; exact Nat.mod_lt _ (by decide)
  rw [← hq] at e1
  rw [← hr] at e2
  rw [← hq] at c2 hk
  obtain ⟨x, hx⟩ : ∃ x, x = ws.getD q 0 := ⟨_, rfl⟩
  rw [← hx] at c2
  have g0 : (0 : Int) ≤ (q : Int) := Int.natCast_nonneg q
  have g1 : (q : Int) < (n : Int) := Int.ofNat_lt.2 hk
  have fz := h4 q
  have HN := Lib.hid (And.intro hn (And.intro hq (And.intro hr (And.intro hx (And.intro hk (And.intro hi hB))))))
  clear h h1 h2 h3 h4 h5 hM hn hq hr hx hk hi hB hH
  go_enter Tryd.func34, Tryd.ntmps34
  go_wp2_with fail
  (with_reducible refine (HM.out).mono ?_)
  rintro e w1 ⟨rfl, rfl⟩
  go_wp2_with fail
  (with_reducible refine (HHS.out).mono ?_)
  rintro e w1 ⟨rfl, rfl⟩
  go_wp2_with fail
  go_region
  simp only [Exit.then]
  go_wp2
  go_ret
  obtain ⟨hn, hq, hr, hx, hk, hi, hB⟩ := HN.out
  have hxl : x < 18446744073709551616 := by rw [hx]; exact HH.out.word q
  refine ⟨rfl, ws.set (i / 64) (x ||| 2 ^ r), ?_, ?_⟩
  · have hu := HH.out.upd (g := g) hi rfl true (x ||| 2 ^ r) (or_lt hxl hr6) (fun j hj => by rw [or_bit, ← hr, ← hq, ← hx])
    rw [or_term hxl hr6, hq]
    exact hu.drew
  · exact ((Fr.refl _ w).setCell _ _ (.inl (by simp [Value.ownBlock]))).drew
theorem hasB_nat (B : List Bool) (i : Nat) : hasB B (i : Int) = B.getD i false := by
  unfold hasB
  rw [decide_eq_true (Int.natCast_nonneg i)]
  rfl
theorem add_not (w : World) (b : Nat) (v : Value) (B : List Bool) (ws : List Nat) (i : Int) (h : BitsAt w b v B ws) (hi : ¬ (0 ≤ i ∧ i < (B.length : Int)) ∨ hasB B i = true) :
    Calls Tryd.prog 34 #[.pointer (some ⟨b, 0, none⟩), .int .i64 i] w fun e w' => e = .returned (.bool false) ∧ w = w' := by
  have hM := may_any w b v B ws i h
  have hH := has_any w b v B ws i h
  by_cases h0 : 0 ≤ i ∧ i < (B.length : Int)
  · have h1 := hi.resolve_left (fun q => q h0)
    rw [decide_eq_true h0] at hM
    rw [h1] at hH
    have HM := Lib.hid hM
    have HHS := Lib.hid hH
    clear hM hH h hi h0 h1
    go_enter Tryd.func34, Tryd.ntmps34
    go_wp2_with fail
    (with_reducible refine (HM.out).mono ?_)
    rintro e w1 ⟨rfl, rfl⟩
    go_wp2_with fail
    (with_reducible refine (HHS.out).mono ?_)
    rintro e w1 ⟨rfl, rfl⟩
    go_wp2_with fail
    go_ret
    exact ⟨rfl, rfl⟩
  · rw [decide_eq_false h0] at hM
    have HM := Lib.hid hM
    clear hM hH h hi h0
    go_enter Tryd.func34, Tryd.ntmps34
    go_wp2_with fail
    (with_reducible refine (HM.out).mono ?_)
    rintro e w1 ⟨rfl, rfl⟩
    go_wp2_with fail
    go_ret
    exact ⟨rfl, rfl⟩
theorem bdel_not (w : World) (b : Nat) (v : Value) (B : List Bool) (ws : List Nat) (i : Int) (h : BitsAt w b v B ws) (hi : hasB B i = false) :
    Calls Tryd.prog 80 #[.pointer (some ⟨b, 0, none⟩), .int .i64 i] w fun e w' => e = .returned (.bool false) ∧ w = w' := by
  have hH := has_any w b v B ws i h
  rw [hi] at hH
  have HHS := Lib.hid hH
  clear hH h hi
  go_enter Tryd.func80, Tryd.ntmps80
  go_wp2_with fail
  (with_reducible refine (HHS.out).mono ?_)
  rintro e w1 ⟨rfl, rfl⟩
  go_wp2_with fail
  go_ret
  exact ⟨rfl, rfl⟩

theorem winfo : (Tryd.prog.info? 96).map (fun i => (i.zero, i.size, i.bytes)) = some (some (.int .u64 0), 1, 8) := by kernel_rfl
theorem made_wds (n : Nat) : madeCells (Value.int .u64 0).cells (n * 1) = (wds (List.replicate n 0)).toArray := by
  apply Array.ext
  · simp [madeCells, wds]
  · intro i h1 h2
    simp [madeCells, wds, Value.cells, Nat.mod_one]
theorem make_wds (n : Nat) (hn : n ≤ 1000000) (w : World) : (Instr.makeSlice 88 (.int .i64 (n : Int)) (.int .i64 (n : Int))).run Tryd.prog w =
    .ok (.slice (some ⟨w.heap.size, 0, none⟩) n n) (w.alloc (.cells (wds (List.replicate n 0)).toArray 96)) := by
  obtain ⟨i, hi, hz, hs, hb⟩ := info_parts winfo
  have hr := run_make (P := Tryd.prog) w 88 96 i (.int .u64 0) Tryd.underlying88 hi hz .i64 .i64 n n (by omega) (by omega) (by rw [hb]; omega) (by omega)
  rw [hs, Int.toNat_natCast, made_wds] at hr
  exact hr
theorem newB_no (w : World) (n : Int) (hr : n < 0 ∨ 65536 < n) : Calls Tryd.prog 25 #[.int .i64 n] w fun e w' => e = .returned (.tuple #[.pointer none, .int .i64 2]) ∧ Fr [] w w' := by
  by_cases h1 : n < 0
  · clear hr
    go_enter Tryd.func25, Tryd.ntmps25
    go_wp2
    refine bodyPost_ret (v := .tuple #[.pointer none, .int .i64 2]) (by simp [results, Tryd.results25, go_sem]) rfl ⟨rfl, Fr.refl _ _⟩
  · have h2 : 65536 < n := by omega
    clear hr
    go_enter Tryd.func25, Tryd.ntmps25
    go_wp2
    refine bodyPost_ret (v := .tuple #[.pointer none, .int .i64 2]) (by simp [results, Tryd.results25, go_sem]) rfl ⟨rfl, Fr.refl _ _⟩
def NewBPost (w : World) (n : Nat) (e : Ending) (w' : World) : Prop :=
  ∃ b v ws, e = .returned (.tuple #[.pointer (some ⟨b, 0, none⟩), .int .i64 0]) ∧ BitsAt w' b v (List.replicate n false) ws ∧ w.heap.size ≤ b ∧ (∀ g, v.ownBlock = some g → w.heap.size ≤ g) ∧ Fr [] w w'
set_option maxRecDepth 100000 in
theorem newB_ok (w : World) (n : Nat) (hn : n ≤ 65536) : Calls Tryd.prog 25 #[.int .i64 (n : Nat)] w (NewBPost w n) := by
  have hmk := make_wds ((n + 63) / 64) (by omega) w
  have hP : NewBPost w n (.returned (.tuple #[.pointer (some ⟨w.heap.size + 1, 0, none⟩), .int .i64 0])) ((w.alloc (.cells (wds (List.replicate ((n + 63) / 64) 0)).toArray 96)).alloc (.cells #[.int .i64 (n : Nat), .slice (some ⟨w.heap.size, 0, none⟩) ((n + 63) / 64) ((n + 63) / 64)] 90)) := by
    refine ⟨w.heap.size + 1, .slice (some ⟨w.heap.size, 0, none⟩) ((n + 63) / 64) ((n + 63) / 64), List.replicate ((n + 63) / 64) 0, rfl, ⟨by simpa using Blk.new_at (by simp) _ _, ?_, by simp [Value.ownBlock], by simp, by simp, fun i j hj => ?_, by simpa using hn⟩, by omega, by simp [Value.ownBlock], ((Fr.refl _ _).alloc _).alloc _⟩
    · refine ⟨by simp [wds], .inr ⟨w.heap.size, (n + 63) / 64, _, by simp, Nat.zero_le _, heap_alloc_old _ _ (by simp) |>.trans (heap_alloc_new w _), by simp, by unfold maxLen; omega, by simp [wds], by simp [wds]⟩⟩
    · simp [List.getD_eq_getElem?_getD, List.getElem?_replicate]
      split <;> split <;> simp
  have HP := Lib.hid hP
  obtain ⟨k, hk⟩ : ∃ k, k = (n + 63) / 64 := ⟨_, rfl⟩
  rw [← hk] at hmk HP
  have e1 : ((n : Int) + 64 - 1) / 64 = (k : Int) := by omega
  have h1 : ¬ (n : Int) < 0 := by omega
  have h2 : ¬ 65536 < (n : Int) := by omega
  clear hP hk
  go_enter Tryd.func25, Tryd.ntmps25
  go_wp2
  refine bodyPost_ret (v := .tuple #[.pointer (some ⟨w.heap.size + 1, 0, none⟩), .int .i64 0]) (by simp [results, Tryd.results25, go_sem]) rfl ?_
  exact HP.out
end Go.Proofs.YtgoolkgjcmdilaaDoor
