/-
  What the small functions of package turns do, each by a contract.
-/
import Derived.Test.YtjinppoecdbloaaKit
import Derived.Test.YtjinppoecdbloaaRows
namespace Go.Proofs.Ytjinppoecdbloaa
open Go.RowKit

theorem info3 : (Try.prog.info? 3).map (fun i => (i.zero, i.size, i.bytes)) = some (some (.int .i64 0), 1, 8) := by kernel_rfl

/-- What a Turns lies as: n, last, and the row of waited numbers. -/
structure TurnsAt (w : World) (bt bw : Nat) (n : Nat) (last : Int) (ws : List Int) : Prop where
  t : Blk w bt #[.int .i64 n, .int .i64 last, .slice (some ⟨bw, 0, none⟩) n n] 27
  s : Blk w bw (ints ws).toArray 3
  len : ws.length = n

/-- A nil one: no fields. -/
theorem len_nil (w : World) : Calls Try.prog 13 #[.pointer none] w fun e w' => e = .returned (.int .i64 0) ∧ w = w' := by
  go_enter Try.func13, Try.ntmps13
  go_wp2
  go_ret
  exact ⟨rfl, rfl⟩
theorem len_some (w : World) (b : Nat) (n last s : Value) (h : Blk w b #[n, last, s] 27) :
    Calls Try.prog 13 #[.pointer (some ⟨b, 0, none⟩)] w fun e w' => e = .returned n ∧ w = w' := by
  have h0 := h.at 0 (v := n) rfl
  go_enter Try.func13, Try.ntmps13
  go_wp2
  go_ret
  exact ⟨rfl, rfl⟩
theorem last_nil (w : World) : Calls Try.prog 14 #[.pointer none] w fun e w' => e = .returned (.int .i64 (-1)) ∧ w = w' := by
  go_enter Try.func14, Try.ntmps14
  go_wp2
  go_ret
  exact ⟨rfl, rfl⟩
theorem last_zero (w : World) (b : Nat) (last s : Value) (h : Blk w b #[.int .i64 0, last, s] 27) :
    Calls Try.prog 14 #[.pointer (some ⟨b, 0, none⟩)] w fun e w' => e = .returned (.int .i64 (-1)) ∧ w = w' := by
  have h0 := h.at 0 (v := .int .i64 0) rfl
  go_enter Try.func14, Try.ntmps14
  go_wp2
  go_ret
  exact ⟨rfl, rfl⟩
theorem last_some (w : World) (b : Nat) (n : Int) (last s : Value) (hn : 0 < n) (h : Blk w b #[.int .i64 n, last, s] 27) :
    Calls Try.prog 14 #[.pointer (some ⟨b, 0, none⟩)] w fun e w' => e = .returned last ∧ w = w' := by
  have h0 := h.at 0 (v := .int .i64 n) rfl
  have h1 := h.at 1 (v := last) rfl
  have hz : (n == 0) = false := by simp; omega
  go_enter Try.func14, Try.ntmps14
  go_wp2
  go_ret
  exact ⟨rfl, rfl⟩
theorem order_any (w : World) (p : Option Addr) :
    Calls Try.prog 23 #[.pointer p] w fun e w' => e = .returned (.func (.func 30) #[] #[.pointer (some ⟨w.heap.size, 0, none⟩)]) ∧ w.alloc (.cells #[.pointer p] 23) = w' := by
  go_enter Try.func23, Try.ntmps23
  go_wp2
  go_ret
  exact ⟨rfl, rfl⟩

/-- Everybody has waited one turn more, but 'to'. -/
def given (ws : List Int) (k : Nat) : List Int := (ws.map (· + 1)).set k 0

theorem mid_get (ws : List Int) (k : Nat) (hk : k < ws.length) : ((ws.take k).map (· + 1) ++ ws.drop k).getD k 0 = ws.getD k 0 := by
  simp [List.getD_eq_getElem?_getD, List.getElem?_append, hk, Nat.min_eq_left (Nat.le_of_lt hk)]
theorem mid_set (ws : List Int) (k : Nat) (hk : k < ws.length) :
    ((ws.take k).map (· + 1) ++ ws.drop k).set k (ws.getD k 0 + 1) = (ws.take (k + 1)).map (· + 1) ++ ws.drop (k + 1) := by
  have h1 : ((ws.take k).map (· + 1)).length = k := by simp; omega
  rw [List.set_append_right _ _ (by omega), h1, Nat.sub_self, List.drop_eq_getElem_cons hk, List.set_cons_zero, List.take_succ_eq_append_getElem hk]
  rw [List.map_append, List.append_assoc]
  simp [List.getD_eq_getElem?_getD, hk]
theorem mid_len (ws : List Int) (k : Nat) (hk : k ≤ ws.length) : ((ws.take k).map (· + 1) ++ ws.drop k).length = ws.length := by
  simp; omega

set_option maxHeartbeats 1000000 in
/-- (*Turns).give. -/
theorem give_any (w : World) (bt bw n to : Nat) (last : Int) (ws : List Int) (h : TurnsAt w bt bw n last ws) (ht : to < n) (hn : n ≤ 16) (hb : ∀ k, k < n → 0 ≤ ws.getD k 0 ∧ ws.getD k 0 ≤ 1000000) :
    Calls Try.prog 22 #[.pointer (some ⟨bt, 0, none⟩), .int .i64 to] w fun e w' => e = .returned (.tuple #[]) ∧ TurnsAt w' bt bw n to (given ws to) ∧ Fr [bt, bw] w w' ∧ w'.heap.size = w.heap.size := by
  obtain ⟨h1, h2, h3⟩ := h
  have hne : bt ≠ bw := h1.ne h2 (by decide)
  have c2 := h1.at 2 (v := .slice (some ⟨bw, 0, none⟩) n n) rfl
  have H3 := Lib.hid h3
  clear h3
  have H1 := Lib.hid h1
  have H2 := Lib.hid h2
  have HB := Lib.hid hb
  clear h1 h2 hb
  go_enter Try.func22, Try.ntmps22
  go_wp2
  go_loopw [10] (fun i wr => ∃ k : Nat, i = .int .i64 k ∧ k ≤ n ∧ Blk wr bt #[.int .i64 n, .int .i64 last, .slice (some ⟨bw, 0, none⟩) n n] 27 ∧ Blk wr bw (ints ((ws.take k).map (· + 1) ++ ws.drop k)).toArray 3 ∧ Fr [bt, bw] w wr ∧ wr.heap.size = w.heap.size)
    (fun i _ => n - (intOf i).toNat)
  case atStart => exact ⟨0, rfl, Nat.zero_le _, H1.out, by simpa using H2.out, Fr.refl _ _, rfl⟩
  case round =>
    obtain ⟨k, rfl, hk, b1, b2, hf, hs⟩ := hrel
    have d2 := b1.at 2 (v := .slice (some ⟨bw, 0, none⟩) n n) rfl
    by_cases hlt : k < n
    · have hb' := HB.out k hlt
      have hkw : k < ws.length := by rw [H3.out]; exact hlt
      have e := b2.int (k := k) (by rw [mid_len _ _ (by omega)]; exact hkw)
      rw [mid_get _ _ hkw] at e
      have f := b2.free k
      have hst := mid_set ws k hkw
      generalize hx : ws.getD k 0 = x at e hb' hst
      have hlb := hb'.1
      have hub := hb'.2
      have HST := Lib.hid hst
      clear hb' hx hkw hst
      go_wp2
      go_roundw
      case rel => exact ⟨k + 1, by go_num, by omega, b1.other _ _ hne, by rw [← HST.out, ← ints_set]; exact b2.set k _, hf.setCell _ _ (.inl (by simp)), by simpa using hs⟩
      case measure => simp [intOf]; omega
    · obtain rfl : k = n := by omega
      have hw : ws.length = k := H3.out
      have hm : (ws.take k).map (· + 1) ++ ws.drop k = ws.map (· + 1) := by rw [← hw]; simp
      rw [hm] at b2
      have hbl : (ws.map (· + 1)).length = k := by simp [hw]
      have e := b2.int (k := to) (by rw [hbl]; exact ht)
      have f := b2.free to
      have f1 := b1.free 1
      have g1 := (b1.other ⟨bw, to, none⟩ (.int .i64 0) hne).at 1 (v := .int .i64 last) rfl
      have g2 := (b1.other ⟨bw, to, none⟩ (.int .i64 0) hne).free 1
      clear hw hm hbl
      go_wp2
      go_end0
      refine ⟨rfl, ⟨?_, ?_, ?_⟩, (hf.setCell _ _ (.inl (by simp))).setCell _ _ (.inl (by simp)), by simpa using hs⟩
      · exact (b1.other ⟨bw, to, none⟩ (.int .i64 0) hne).set 1 _
      · refine Blk.other ?_ _ _ (by simpa using hne.symm)
        have := b2.set to (.int .i64 0)
        rw [ints_set] at this
        exact this
      · simp [given, H3.out]

/-- A row of noughts. -/
def zeros (n : Nat) : Array Value := (ints (List.replicate n 0)).toArray
theorem madeCells_zeros (n : Nat) : madeCells (Value.int .i64 0).cells (n * 1) = zeros n := by
  have hc : (Value.int .i64 0).cells = #[.int .i64 0] := rfl
  simp only [madeCells, hc, zeros, ints, Nat.mul_one]
  apply Array.ext
  · simp
  · intro i h1 h2
    simp [Nat.mod_one]
theorem make_ints (n : Nat) (hn : n ≤ 1000000) (w : World) : (Instr.makeSlice 25 (.int .i64 (n : Int)) (.int .i64 (n : Int))).run Try.prog w =
    .ok (.slice (some ⟨w.heap.size, 0, none⟩) n n) (w.alloc (.cells (zeros n) 3)) := by
  obtain ⟨i, hi, hz, hs, hb⟩ := info_parts info3
  have hr := run_make (P := Try.prog) w 25 3 i (.int .i64 0) Try.underlying25 hi hz .i64 .i64 n n (by omega) (by omega) (by rw [hb]; omega) (by omega)
  rw [hs, Int.toNat_natCast, madeCells_zeros] at hr
  exact hr

/-- New and From refuse. -/
theorem from_no (w : World) (n last : Int) (h : n < 1 ∨ 16 < n ∨ last < -1 ∨ n ≤ last) :
    Calls Try.prog 11 #[.int .i64 n, .int .i64 last] w fun e w' => e = .returned (.tuple #[.pointer none, .int .i64 2]) ∧ w = w' := by
  go_enter Try.func11, Try.ntmps11
  go_wp2
  all_goals
    go_ret2
    exact ⟨rfl, rfl⟩
theorem from_new (w : World) (n : Nat) (h1 : 1 ≤ n) (h2 : n ≤ 16) :
    Calls Try.prog 11 #[.int .i64 n, .int .i64 (-1)] w fun e w' => e = .returned (.tuple #[.pointer (some ⟨w.heap.size + 1, 0, none⟩), .int .i64 0]) ∧
      TurnsAt w' (w.heap.size + 1) w.heap.size n (-1) (List.replicate n 0) ∧ Fr [] w w' := by
  have hmk := make_ints n (by omega)
  go_enter Try.func11, Try.ntmps11
  go_wp2
  go_ret2
  exact ⟨rfl, ⟨Blk.new_at (by simp) _ _, (Blk.new w _ _).alloc _, by simp⟩, ((Fr.refl _ _).alloc _).alloc _⟩

theorem from_last (w : World) (n last : Nat) (h1 : 1 ≤ n) (h2 : n ≤ 16) (h3 : last < n) :
    Calls Try.prog 11 #[.int .i64 n, .int .i64 last] w fun e w' => e = .returned (.tuple #[.pointer (some ⟨w.heap.size + 1, 0, none⟩), .int .i64 0]) ∧
      TurnsAt w' (w.heap.size + 1) w.heap.size n last (given (List.replicate n 0) last) ∧ Fr [] w w' := by
  have hmk := make_ints n (by omega)
  go_enter Try.func11, Try.ntmps11
  go_wp2_with (go_at_call 22; go_loud (refine (give_any _ _ w.heap.size n last (-1) (List.replicate n 0) ⟨Blk.new_at (by simp) _ _, (Blk.new w _ _).alloc _, by simp⟩ h3 h2 (fun k hk => by simp [List.getD_eq_getElem?_getD, hk])).mono ?_); rintro e w' ⟨rfl, ht, hf, -⟩)
  go_ret2
  exact ⟨rfl, ht, (((Fr.refl [] w).alloc _).alloc _).trans hf (by simp)⟩
/-- append([]int{}, t.waited...): the result is new memory. -/
theorem waited_nil (w : World) : Calls Try.prog 21 #[.pointer none] w fun e w' => e = .returned (.slice none 0 0) ∧ w = w' := by
  go_enter Try.func21, Try.ntmps21
  go_wp2
  go_ret
  exact ⟨rfl, rfl⟩
theorem waited_any (w : World) (bt bw n : Nat) (last : Int) (ws : List Int) (h : TurnsAt w bt bw n last ws) (hn1 : 1 ≤ n) (hn : n ≤ 16) :
    Calls Try.prog 21 #[.pointer (some ⟨bt, 0, none⟩)] w fun e w' => ∃ v, e = .returned v ∧ w'.ownsRow w.heap.size 3 1 v n (ints ws) ∧ Fr [] w w' := by
  obtain ⟨h1, h2, h3⟩ := h
  have c2 := h1.at 2 (v := .slice (some ⟨bw, 0, none⟩) n n) rfl
  have hl := h1.lt
  obtain ⟨i0, hi, hz0, hz1, hz2⟩ := info_parts info3
  have H3 := Lib.hid h3
  have hm := World.ownsRow_made (base := w.heap.size) (e := 3) (size := 1) w #[] 0 (Nat.le_refl _) (by decide) rfl
  clear h3
  go_enter Try.func21, Try.ntmps21
  go_wp2_with (at_builtin; go_loud (refine wpList_append_own _ rfl (.tmp 5) (.tmp 9) 25 rfl w.heap.size 3 i0 (.int .i64 0) 1 8 Try.underlying25 hi hz0 hz1 hz2 rfl (by decide) _ 0 [] rfl hm ⟨bw, 0, none⟩ n n (ints ws) rfl (by simp [ints, H3.out]) (h2.alloc _).ints (ints_one ws) (by unfold maxLen; omega) (by omega) (by simp) ?_); intro v' w1 hown hg hnil)
  go_ret
  exact ⟨_, rfl, by simpa using hown, ((Fr.refl [] w).alloc _).grown hg fun k hk => .inr (hm.lt k hk).1⟩

/-- Two rows of numbers. -/
theorem same_any (w : World) (a b : Value) (xs ys : List Int) (ha : RdInts w a xs) (hb : RdInts w b ys) (hn : xs.length ≤ 1000000) (hm : ys.length ≤ 1000000) :
    Calls Try.prog 15 #[a, b] w fun e w' => e = .returned (.bool (decide (xs = ys))) ∧ ∃ j, w' = w.drewN j := by
  obtain ⟨p, c, rfl, hc, ha⟩ := ha
  obtain ⟨q, d, rfl, hd, hb⟩ := hb
  by_cases hl : xs.length = ys.length
  · have hr : ∀ k, xs.take k = ys.take k → k < xs.length → (xs.getD k 0 = ys.getD k 0 → xs.take (k + 1) = ys.take (k + 1)) ∧ (xs.getD k 0 ≠ ys.getD k 0 → xs ≠ ys) := by
      intro k h1 h2
      constructor
      · intro h3
        simp [List.getD_eq_getElem?_getD, h2, show k < ys.length by omega] at h3
        rw [List.take_succ_eq_append_getElem h2, List.take_succ_eq_append_getElem (show k < ys.length by omega), h1, h3]
      · rintro h3 rfl; exact h3 rfl
    rw [← hl] at hb hd ⊢
    generalize hN : xs.length = N at *
    have HR := Lib.hid hr
    have HN := Lib.hid hN
    have HL := Lib.hid hl
    clear hr hN hl
    go_enter Try.func15, Try.ntmps15
    go_wp2
    go_loopw [5] (fun i wr => ∃ k : Nat, i = .int .i64 k ∧ k ≤ N ∧ xs.take k = ys.take k ∧ ∃ j, wr = w.drewN j) (fun i _ => N - (intOf i).toNat)
    case atStart => exact ⟨0, rfl, Nat.zero_le _, rfl, 0, rfl⟩
    case round =>
      obtain ⟨k, rfl, hk, ht, j, rfl⟩ := hrel
      have HT := Lib.hid ht
      clear ht
      by_cases hlt : k < N
      · obtain ⟨g, o, rfl, ha'⟩ := ha.resolve_left (by omega)
        obtain ⟨g', o', rfl, hb'⟩ := hb.resolve_left (by omega)
        have e1 := ha' k hlt
        have e2 := hb' k hlt
        have hs := HR.out k HT.out hlt
        generalize xs.getD k 0 = x at *
        generalize ys.getD k 0 = y at *
        have HS := Lib.hid hs
        clear hs ha hb ha' hb'
        go_wp2
        go_quiet (fail)
        go_wp2
        · have hx : x ≠ y := by simpa using ‹(x != y) = true›
          go_ret
          exact ⟨ret_bool (decide_eq_false (HS.out.2 hx)).symm, j + nq, drewN_two _ _ _⟩
        · have hx : x = y := by simpa using ‹(x != y) = false›
          go_roundw
          case rel => exact ⟨k + 1, by go_num, by omega, HS.out.1 hx, j + nq, by first | rfl | exact drewN_two _ _ _⟩
          case measure => simp [intOf]; omega
      · obtain rfl : k = N := by omega
        go_wp2
        go_ret
        refine ⟨ret_bool (decide_eq_true ?_).symm, j, rfl⟩
        have := HT.out
        rwa [List.take_of_length_le (Nat.le_of_eq HN.out), List.take_of_length_le (Nat.le_of_eq (HL.out.symm))] at this
  · go_enter Try.func15, Try.ntmps15
    have hl' : ((xs.length : Int) != ys.length) = true := by simp; omega
    go_wp2
    go_ret
    exact ⟨ret_bool (decide_eq_false (by rintro rfl; exact hl rfl)).symm, 0, rfl⟩
end Go.Proofs.Ytjinppoecdbloaa
