/-
  QueueOrder: what was put in comes out in that order, one at a time; its walk.
-/
import Derived.Test.YtehdhdocalbfpaaQueueD
namespace Go.Proofs.Ytehdhdocalbfpaa
open Go.RowKit ring
set_option linter.unusedVariables false
attribute [local go_sem ↓] Go.wp_at_zero Go.wp_at_succ

def span (a b : Nat) : List Int := (List.range (b - a)).map fun k => ((a + k : Nat) : Int)
theorem span_len (a b : Nat) : (span a b).length = b - a := by simp [span]
theorem span_snoc (a b : Nat) (h : a ≤ b) : span a b ++ [(b : Int)] = span a (b + 1) := by
  unfold span
  rw [show b + 1 - a = (b - a) + 1 by omega, List.range_succ, List.map_append]
  simp
  omega
theorem span_tail (a b : Nat) (h : a < b) : (span a b).drop 1 = span (a + 1) b ∧ (span a b).getD 0 0 = (a : Int) := by
  unfold span
  obtain ⟨c, hc⟩ : ∃ c, b - a = c + 1 := ⟨b - a - 1, by omega⟩
  rw [hc, show b - (a + 1) = c by omega, List.range_succ_eq_map]
  constructor
  · simp [Function.comp_def]
    intro x hx
    omega
  · simp

theorem works_any (w : World) : Calls Try.prog 10 #[] w fun e w' => e = .returned (.bool true) ∧ Fr [] w w' := by
  have h1 : Calls Try.prog 9 #[.int .i64 1] w (NewPost w 1) := new_ok w 1 (by omega) (by omega)
  have H1 := Lib.hid h1
  clear h1
  go_enter Try.func10, Try.ntmps10
  go_wp2_with fail
  (with_reducible refine H1.out.mono ?_)
  rintro e w1 ⟨b, g, Cs, rfl, l1, hb, hg, f1⟩
  have H2 := Lib.hid (push_any w1 b g Cs 0 [] 1 0 7 l1 (by simp))
  have F1 := Lib.hid f1
  clear l1 f1
  go_wp2_with fail
  (with_reducible refine H2.out.mono ?_)
  rintro e w2 ⟨rfl, g2, Cs2, f2, l2, hg2, fr2⟩
  have F2 := Lib.hid (F1.out.trans fr2 (by intro x hx; simp at hx; rcases hx with rfl | rfl <;> exact .inr (by assumption)))
  have H3 := Lib.hid (push_full w2 b g2 Cs2 f2 [7] 1 _ 8 l2 rfl)
  have F1s := F1.out.size
  have hg2' : w.heap.size ≤ g2 := by rcases hg2 with rfl | hg2 <;> omega
  have G2 := Lib.hid hg2'
  clear l2 fr2 hg2 hg2'
  go_wp2_with fail
  (with_reducible refine H3.out.mono ?_)
  rintro e w3 ⟨rfl, l3, fr3⟩
  have F3 := Lib.hid (F2.out.trans fr3 (by intro x hx; simp at hx; rcases hx with rfl | rfl; exact .inr hb; exact .inr G2.out))
  have H4 := Lib.hid (pop_ok w3 b g2 Cs2 f2 [7] 1 _ l3 (by simp))
  clear l3 fr3
  go_wp2_with fail
  (with_reducible refine H4.out.mono ?_)
  rintro e w4 ⟨rfl, Cs4, f4, l4, fr4⟩
  have F4 := Lib.hid (F3.out.trans fr4 (by intro x hx; simp at hx; rcases hx with rfl | rfl; exact .inr hb; exact .inr G2.out))
  have h5 : Calls Try.prog 13 #[.pointer (some ⟨b, 0, none⟩)] w4 fun e w' => e = .returned (.int .i64 0) ∧ w4 = w' := len_any w4 b g2 Cs4 f4 [] 1 _ l4
  have H5 := Lib.hid h5
  clear l4 fr4 h5
  go_wp2_with fail
  (with_reducible refine H5.out.mono ?_)
  rintro e w5 ⟨rfl, rfl⟩
  go_wp2
  go_ret
  exact ⟨rfl, F4.out⟩

namespace queueOrder
theorem walk_no (w : World) (most : Int) (pv : Value) (hp : ∃ p n c, pv = .slice p n c) (h : most < 1 ∨ 65536 < most) : Calls Try.prog 3 #[.int .i64 most, pv] w fun e w' => e = .returned (.bool true) ∧ Fr [] w w' := by
  obtain ⟨p, n, c, rfl⟩ := hp
  have H1 := Lib.hid (fun w => new_no w most h)
  have HW := Lib.hid works_any
  rcases h with h | h
  · go_enter Try.func3, Try.ntmps3
    go_wp2_with (first | (go_at_call 9; refine (H1.out _).mono ?_; rintro e w1 ⟨rfl, rfl⟩) | (go_at_call 10; refine (HW.out _).mono ?_; rintro e w1 ⟨rfl, f1⟩; have HF := Lib.hid f1; clear f1))
    go_ret
    exact ⟨rfl, HF.out⟩
  · have h' : ¬ most < 1 := by omega
    go_enter Try.func3, Try.ntmps3
    go_wp2_with (first | (go_at_call 9; refine (H1.out _).mono ?_; rintro e w1 ⟨rfl, rfl⟩) | (go_at_call 10; refine (HW.out _).mono ?_; rintro e w1 ⟨rfl, f1⟩; have HF := Lib.hid f1; clear f1))
    go_ret
    exact ⟨rfl, HF.out⟩

/-- At the loop's head. -/
def At (w wr : World) (b most k a o : Nat) (cb : Bool) : Prop :=
  ∃ g Cs f peak, RingAt wr b g Cs f (span o a) most peak ∧ Fr [] w wr ∧ w.heap.size ≤ b ∧ w.heap.size ≤ g ∧ o ≤ a ∧ a ≤ k ∧ (cb = true ↔ peak = most)

theorem At.len {w wr : World} {b most k a o : Nat} {cb : Bool} (h : At w wr b most k a o cb) : Calls Try.prog 13 #[.pointer (some ⟨b, 0, none⟩)] wr fun e w' => e = .returned (.int .i64 (a - o : Nat)) ∧ wr = w' := by
  obtain ⟨g, Cs, f, peak, hR, _⟩ := h
  have := len_any wr b g Cs f _ most peak hR
  rwa [span_len] at this
theorem At.peak {w wr : World} {b most k a o : Nat} {cb : Bool} (h : At w wr b most k a o cb) : Calls Try.prog 14 #[.pointer (some ⟨b, 0, none⟩)] wr fun e w' => (∃ p : Nat, e = .returned (.int .i64 p) ∧ ((p : Int) == (most : Int)) = cb) ∧ wr = w' := by
  obtain ⟨g, Cs, f, peak, hR, _, _, _, _, _, hc⟩ := h
  refine (peak_any wr b g Cs f _ most peak hR).mono ?_
  rintro e w' ⟨rfl, rfl⟩
  refine ⟨⟨peak, rfl, ?_⟩, rfl⟩
  rw [Bool.eq_iff_iff, hc]
  simp
  omega
theorem At.push {w wr : World} {b most k a o : Nat} {cb : Bool} (h : At w wr b most k a o cb) (hl : a - o < most) (cb' : Bool) (hcb : (cb' = true ↔ cb = true ∨ a - o + 1 = most)) : Calls Try.prog 11 #[.pointer (some ⟨b, 0, none⟩), .int .i64 a] wr fun e w' => e = .returned (.int .i64 0) ∧ At w w' b most (k + 1) (a + 1) o cb' := by
  obtain ⟨g, Cs, f, peak, hR, fr, hb, hg, ho, ha, hc⟩ := h
  refine (push_any wr b g Cs f _ most peak a hR (by rw [span_len]; exact hl)).mono ?_
  rintro e w' ⟨rfl, g2, Cs2, f2, l2, hg2, fr2⟩
  rw [span_snoc _ _ ho] at l2
  have hs := fr.size
  refine ⟨rfl, g2, Cs2, f2, _, l2, fr.trans fr2 (by intro x hx; simp at hx; rcases hx with rfl | rfl; exact .inr hb; exact .inr hg), hb, by rcases hg2 with rfl | hg2 <;> omega, by omega, by omega, ?_⟩
  have hpk := hR.pk
  rw [span_len] at hpk ⊢
  rw [hcb, hc]
  omega
theorem At.full {w wr : World} {b most k a o : Nat} {cb : Bool} (h : At w wr b most k a o cb) (hl : a - o = most) : cb = true ∧ Calls Try.prog 11 #[.pointer (some ⟨b, 0, none⟩), .int .i64 a] wr fun e w' => e = .returned (.int .i64 5) ∧ At w w' b most (k + 1) a o true := by
  obtain ⟨g, Cs, f, peak, hR, fr, hb, hg, ho, ha, hc⟩ := h
  have hpk := hR.pk
  rw [span_len] at hpk
  refine ⟨hc.2 (by omega), (push_full wr b g Cs f _ most peak a hR (by rw [span_len]; exact hl)).mono ?_⟩
  rintro e w' ⟨rfl, l2, fr2⟩
  exact ⟨rfl, g, Cs, f, _, l2, fr.trans fr2 (by intro x hx; simp at hx; rcases hx with rfl | rfl; exact .inr hb; exact .inr hg), hb, hg, ho, by omega, by simp; omega⟩
theorem At.pop {w wr : World} {b most k a o : Nat} {cb : Bool} (h : At w wr b most k a o cb) (hl : o < a) : Calls Try.prog 12 #[.pointer (some ⟨b, 0, none⟩)] wr fun e w' => e = .returned (.tuple #[.int .i64 o, .bool true]) ∧ At w w' b most (k + 1) a (o + 1) cb := by
  obtain ⟨g, Cs, f, peak, hR, fr, hb, hg, ho, ha, hc⟩ := h
  refine (pop_ok wr b g Cs f _ most peak hR (by rw [span_len]; omega)).mono ?_
  rintro e w' ⟨rfl, Cs2, f2, l2, fr2⟩
  obtain ⟨s1, s2⟩ := span_tail o a hl
  rw [s1] at l2
  rw [s2]
  exact ⟨rfl, g, Cs2, f2, _, l2, fr.trans fr2 (by intro x hx; simp at hx; rcases hx with rfl | rfl; exact .inr hb; exact .inr hg), hb, hg, by omega, by omega, hc⟩
theorem At.dry {w wr : World} {b most k a : Nat} {cb : Bool} (h : At w wr b most k a a cb) : Calls Try.prog 12 #[.pointer (some ⟨b, 0, none⟩)] wr fun e w' => e = .returned (.tuple #[.int .i64 0, .bool false]) ∧ At w w' b most (k + 1) a a cb := by
  obtain ⟨g, Cs, f, peak, hR, fr, hb, hg, ho, ha, hc⟩ := h
  have hs : span a a = [] := by simp [span]
  rw [hs] at hR
  refine (pop_no wr b g Cs f most peak hR).mono ?_
  rintro e w' ⟨rfl, rfl⟩
  exact ⟨rfl, g, Cs, f, _, by rw [hs]; exact hR, fr, hb, hg, by omega, by omega, hc⟩

theorem At.small {w wr : World} {b most k a o : Nat} {cb : Bool} (h : At w wr b most k a o cb) : a - o ≤ most := by
  obtain ⟨g, Cs, f, peak, hR, fr, hb, hg, ho, ha, hc⟩ := h
  have hpk := hR.pk
  rw [span_len] at hpk
  omega

set_option maxRecDepth 100000 in
set_option maxHeartbeats 4000000 in
theorem walk_ok (w : World) (most : Nat) (pv : Value) (P : List Bool) (hP : RdS w pv 1 (fun cs (b : Bool) => cs = [.bool b]) P) (h1 : 1 ≤ most) (h64 : most ≤ 65536) :
    Calls Try.prog 3 #[.int .i64 most, pv] w fun e w' => e = .returned (.bool true) ∧ Fr [] w w' := by
  have H1 := Lib.hid (fun w => new_ok w most h1 h64)
  have HW := Lib.hid works_any
  have HP := Lib.hid hP
  obtain ⟨p, c, rfl, hc, hcm⟩ := RdS.form hP
  have hmx : maxLen = 9223372036854775807 := by decide
  obtain ⟨n, hn⟩ : ∃ n, n = P.length := ⟨_, rfl⟩
  have hlen : P.length ≤ 9223372036854775807 := by omega
  rw [← hn] at hlen ⊢
  have HN := Lib.hid hn
  clear hn hP hc hmx
  go_enter Try.func3, Try.ntmps3
  go_wp2_with fail
  (with_reducible refine (H1.out _).mono ?_)
  rintro e w1 ⟨b, g, Cs, rfl, l1, hb, hg, fr1⟩
  have hA : At w w1 b most 0 0 0 false := ⟨g, Cs, 0, 0, l1, fr1, hb, hg, Nat.le_refl _, Nat.le_refl _, by simp; omega⟩
  have HA0 := Lib.hid hA
  clear l1 fr1 hA hb hg
  go_wp2_with fail
  go_loopw [9, 10, 11, 12] (fun a o c i wr => ∃ (k a' o' : Nat) (cb : Bool), a = .int .i64 a' ∧ o = .int .i64 o' ∧ c = .bool cb ∧ i = .int .i64 k ∧ k ≤ n ∧ At w wr b most k a' o' cb) (fun _ _ _ i _ => n - (intOf i).toNat)
  case atStart => exact ⟨0, 0, 0, false, rfl, rfl, rfl, rfl, Nat.zero_le _, HA0.out⟩
  case round =>
    obtain ⟨k, a, o, cb, rfl, rfl, rfl, rfl, hk, hA⟩ := hrel
    obtain ⟨wi, rfl⟩ : ∃ wi : World, wi = wr := ⟨_, rfl⟩
    clear HA0
    have HA := Lib.hid hA
    obtain ⟨hfr, ho, ha⟩ : Fr [] w wi ∧ o ≤ a ∧ a ≤ k := by obtain ⟨_, _, _, _, _, hfr, _, _, ho, ha, _⟩ := hA; exact ⟨hfr, ho, ha⟩
    clear hA
    by_cases hlt : k < n
    · obtain ⟨g, of, cap', cs, he, _, _, _, hcell, rfl⟩ := HP.out.get (k := k) (by rw [← HN.out]; exact hlt)
      rw [← HN.out] at he
      cases he
      have c0 : w.cell? ⟨g, of + k, none⟩ = some (.bool (P[k]'(by rw [← HN.out]; exact hlt))) := by simpa using hcell 0 _ rfl
      generalize P[k]'(by rw [← HN.out]; exact hlt) = x at c0
      clear hcell
      have d0 := (hfr.cell (World.block_lt_of_cell? w _ c0) (by simp)).trans c0
      clear hfr c0
      obtain ⟨d, hd⟩ : ∃ d : Nat, d = a - o := ⟨_, rfl⟩
      have hwr : IntKind.i64.wrap ((a : Int) - (o : Int)) = (d : Int) := by rw [IntKind.wrap_i64]; omega
      have HD := Lib.hid (And.intro hd (And.intro ho ha))
      cases x
      · by_cases hoa : o < a
        · have HE := Lib.hid (HA.out.pop hoa)
          have hoi : (o : Int) < (a : Int) := by omega
          have hwo : IntKind.i64.wrap ((o : Int) + 1) = (o : Int) + 1 := by rw [IntKind.wrap_i64]; omega
          have hwd : IntKind.i64.wrap ((a : Int) - ((o : Int) + 1)) = ((d - 1 : Nat) : Int) := by rw [IntKind.wrap_i64]; omega
          have hdm := HA.out.small
          have hdl : ¬ (most : Int) < ((d - 1 : Nat) : Int) := by omega
          have hdd : a - (o + 1) = d - 1 := by omega
          generalize d - 1 = d1 at hwd hdl hdd
          have HD1 := Lib.hid hdd
          clear hd ho ha hdm hdd
          go_wp2_with fail
          (with_reducible refine HE.out.mono ?_)
          rintro e wa ⟨rfl, hA2⟩
          have hl := hA2.len
          rw [HD1.out] at hl
          have HL := Lib.hid hl
          have HA2 := Lib.hid hA2
          clear hl hA2
          go_wp2_with (go_at_call 13; refine HL.out.mono ?_; rintro e w9 ⟨rfl, rfl⟩)
          go_roundw
          case rel => exact ⟨k + 1, a, o + 1, cb, rfl, by go_num, rfl, by go_num, by omega, HA2.out⟩
          case measure => simp [intOf]; omega
        · obtain rfl : o = a := by omega
          have HE := Lib.hid HA.out.dry
          clear hd ho ha hwr
          go_wp2_with fail
          (with_reducible refine HE.out.mono ?_)
          rintro e wa ⟨rfl, hA2⟩
          have hl := hA2.len
          rw [Nat.sub_self] at hl
          have HL := Lib.hid hl
          have HA2 := Lib.hid hA2
          clear hl hA2
          go_wp2_with (go_at_call 13; refine HL.out.mono ?_; rintro e w9 ⟨rfl, rfl⟩)
          go_roundw
          case rel => exact ⟨k + 1, o, o, cb, rfl, rfl, rfl, by go_num, by omega, HA2.out⟩
          case measure => simp [intOf]; omega
      · by_cases hf : d < most
        · have hwa : IntKind.i64.wrap ((a : Int) + 1) = (a : Int) + 1 := by rw [IntKind.wrap_i64]; omega
          have hwd : IntKind.i64.wrap ((a : Int) + 1 - (o : Int)) = ((d + 1 : Nat) : Int) := by rw [IntKind.wrap_i64]; omega
          obtain ⟨cb', hcb'⟩ : ∃ cb' : Bool, (((d + 1 : Nat) : Int) == (most : Int)) = cb' := ⟨_, rfl⟩
          have hcc : cb' = true ↔ a - o + 1 = most := by rw [← hcb']; simp; omega
          have HE := Lib.hid (HA.out.push (by omega) (cb || cb') (by rw [Bool.or_eq_true, hcc]))
          clear hcc
          have hfi : (d : Int) < (most : Int) := by omega
          have hdl : ¬ (most : Int) < ((d + 1 : Nat) : Int) := by omega
          have hdd : a + 1 - o = d + 1 := by omega
          generalize d + 1 = d1 at hwd hdl hdd hcb'
          have HD1 := Lib.hid hdd
          have hfb : ((d : Int) < (most : Int)) = True := by simpa using hfi
          clear hd ho ha hdd hf
          go_wp2_with fail
          (with_reducible refine HE.out.mono ?_)
          rintro e wa ⟨rfl, hA2⟩
          have hl := hA2.len
          rw [HD1.out] at hl
          have HL := Lib.hid hl
          have HA2 := Lib.hid hA2
          clear hl hA2
          cases cb
          · go_wp2_with (go_at_call 13; refine HL.out.mono ?_; rintro e w9 ⟨rfl, rfl⟩)
            go_roundw
            case rel => exact ⟨k + 1, a + 1, o, cb', by go_num, rfl, rfl, by go_num, by omega, HA2.out⟩
            case measure => simp [intOf]; omega
          · go_wp2_with (go_at_call 13; refine HL.out.mono ?_; rintro e w9 ⟨rfl, rfl⟩)
            go_roundw
            case rel => exact ⟨k + 1, a + 1, o, true, by go_num, rfl, rfl, by go_num, by omega, HA2.out⟩
            case measure => simp [intOf]; omega
        · have hdm := HA.out.small
          obtain rfl : d = most := by omega
          obtain ⟨rfl, hE⟩ := HA.out.full hd.symm
          have HE := Lib.hid hE
          clear hdm hE
          clear hd ho ha hf
          go_wp2_with fail
          (with_reducible refine HE.out.mono ?_)
          rintro e wa ⟨rfl, hA2⟩
          have hl := hA2.len
          rw [← HD.out.1] at hl
          have HL := Lib.hid hl
          have HA2 := Lib.hid hA2
          clear hl hA2
          go_wp2_with (go_at_call 13; refine HL.out.mono ?_; rintro e w9 ⟨rfl, rfl⟩)
          go_roundw
          case rel => exact ⟨k + 1, a, o, true, rfl, rfl, rfl, by go_num, by omega, HA2.out⟩
          case measure => simp [intOf]; omega
    · obtain rfl : n = k := by omega
      have HE := Lib.hid HA.out.peak
      have HF := Lib.hid hfr
      clear hfr ho ha
      go_wp2_with fail
      (with_reducible refine HE.out.mono ?_)
      rintro e wa ⟨⟨p, rfl, hp⟩, rfl⟩
      go_wp2_with fail
      (with_reducible refine (HW.out _).mono ?_)
      rintro e wb ⟨rfl, fr2⟩
      have HF2 := Lib.hid (HF.out.trans fr2 (by simp))
      clear fr2
      go_wp2
      go_ret
      exact ⟨rfl, HF2.out⟩
end queueOrder

end Go.Proofs.Ytehdhdocalbfpaa
