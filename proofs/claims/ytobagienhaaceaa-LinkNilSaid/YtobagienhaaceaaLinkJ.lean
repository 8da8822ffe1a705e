/-
  LinkOrder: its walk.
-/
import Derived.Test.YtobagienhaaceaaLinkI
namespace Go.Proofs.Ytobagienhaaceaa
open Go.RowKit Go.Shelf
set_option linter.unusedVariables false

/-- Bytes, one cell each. -/
def RdBytes (w : World) (v : Value) (P : List Int) : Prop := RdS w v 1 (fun cs (x : Int) => cs = [.int .u8 x] ∧ 0 ≤ x ∧ x ≤ 255) P

theorem start_lo (w w2 : World) (bl bm most : Nat) (f1 : Fr [] w w2) (hl : LineAt w2 bl (.slice none 0 0) [] most) (hm : LineAt w2 bm (.slice none 0 0) [] most) (hbl : w.heap.size ≤ bl) (hbm : w.heap.size ≤ bm) (hne : bl ≠ bm) :
    LO w w2 bl bm most (.slice none 0 0) (.slice none 0 0) (.slice none 0 0) (span 0 0) [] [] :=
  ⟨hl, by simp [span], hm, by simp, World.ownsRow_nil _ _ _ _, f1, by intro x hx hx2; simp [ownL, Value.ownBlock] at hx hx2; omega, by intro x hx; simp [Value.ownBlock], by intro x hx; simp [Value.ownBlock],
    by intro x hx; simp [ownL, Value.ownBlock] at hx; omega, by intro x hx; simp [ownL, Value.ownBlock] at hx; omega, by intro x hx; simp [Value.ownBlock] at hx⟩

namespace linkOrder
set_option maxHeartbeats 1000000 in
theorem walk_no (w : World) (most : Int) (pv : Value) (hp : ∃ p n c, pv = .slice p n c) (h : most < 1 ∨ 64 < most) : Calls Try.prog 3 #[.int .i64 most, pv] w fun e w' => e = .returned (.bool true) ∧ Fr [] w w' := by
  obtain ⟨p, n, c, rfl⟩ := hp
  have H1 := Lib.hid (fun w => new_no w most h)
  have HW := Lib.hid works_any
  rcases h with h | h
  · go_enter Try.func3, Try.ntmps3
    go_wp2_with (first | (go_at_call 5; refine (H1.out _).mono ?_; rintro e w1 ⟨rfl, rfl⟩) | (go_at_call 6; refine (HW.out _).mono ?_; rintro e w1 ⟨rfl, f1⟩; have HF := Lib.hid f1; clear f1))
    go_ret
    exact ⟨rfl, HF.out⟩
  · have h' : ¬ most < 1 := by omega
    go_enter Try.func3, Try.ntmps3
    go_wp2_with (first | (go_at_call 5; refine (H1.out _).mono ?_; rintro e w1 ⟨rfl, rfl⟩) | (go_at_call 6; refine (HW.out _).mono ?_; rintro e w1 ⟨rfl, f1⟩; have HF := Lib.hid f1; clear f1))
    go_ret
    exact ⟨rfl, HF.out⟩

/-- At the loop's head. -/
def At (w wr : World) (bl bm most k : Nat) (put out made : Nat) (vt : Value) : Prop :=
  ∃ vl vm Lm ts, LO w wr bl bm most vl vm vt (span out put) Lm ts ∧ May Lm ts (k + 1) ∧ ts.length = made ∧ out ≤ put ∧ put ≤ k ∧ made ≤ k

theorem grown_times {w wb w3 : World} {bl bm most made : Nat} {vl vm vt v1 : Value} {Ll Lm ts : List Int} (h : LO w wb bl bm most vl vm vt Ll Lm ts) (hT : ts.length = made) (hp : Appended (wb.alloc (.cells #[.int .i64 1] 3)) 3 1 vt (made + 1) (ints ts ++ [.int .i64 1]) v1 w3) :
    LO w w3 bl bm most vl vm v1 Ll Lm (ts ++ [1]) := by
  refine h.times (ts' := ts ++ [1]) ?_ ?_ (((Fr.refl _ wb).alloc _).trans hp.fr (fun x hx => .inl hx))
  · rw [List.length_append, hT]
    have := hp.own
    simpa [ints] using this
  · rcases hp.place with h1 | h1
    · exact .inl h1
    · exact .inr ⟨_, h1, by simp⟩

set_option maxRecDepth 100000 in
set_option maxHeartbeats 4000000 in
theorem walk_ok (w : World) (most : Nat) (pv : Value) (P : List Int) (hP : RdBytes w pv P) (h1 : 1 ≤ most) (h64 : most ≤ 64) (hlen : P.length ≤ 1048576) :
    Calls Try.prog 3 #[.int .i64 most, pv] w fun e w' => e = .returned (.bool true) ∧ Fr [] w w' := by
  have H1 := Lib.hid (fun w => new_ok w most h1 h64)
  have HP := Lib.hid hP
  obtain ⟨p, c, rfl, hc, hcm⟩ := RdS.form hP
  obtain ⟨n, hn⟩ : ∃ n, n = P.length := ⟨_, rfl⟩
  rw [← hn] at hlen ⊢
  have HN := Lib.hid hn
  clear hn hP hc
  go_enter Try.func3, Try.ntmps3
  go_wp2_with fail
  (with_reducible refine (H1.out _).mono ?_)
  rintro e w1 ⟨rfl, l1, f1⟩
  go_wp2_with fail
  (with_reducible refine (H1.out _).mono ?_)
  rintro e w2 ⟨rfl, l2, f2⟩
  have hlt := l1.lt
  have hS := start_lo w w2 w.heap.size w1.heap.size most (f1.trans f2 (by simp)) (l1.fr f2 (by simp) (by simp)) l2 (Nat.le_refl _) f1.size (by omega)
  clear l1 f1 l2 f2 hlt
  generalize w.heap.size = bl at *
  generalize w1.heap.size = bm at *
  have hA : At w w2 bl bm most 0 0 0 0 (.slice none 0 0) := ⟨_, _, [], [], hS, ⟨by simp, by simp, by simp⟩, rfl, Nat.le_refl _, Nat.le_refl _, Nat.le_refl _⟩
  have HA0 := Lib.hid hA
  clear hS hA
  go_wp2_with fail
  go_loopw [9, 10, 11, 12, 13] (fun a b c v i wr => ∃ k put out made : Nat, a = .int .i64 put ∧ b = .int .i64 out ∧ c = .int .i64 made ∧ i = .int .i64 k ∧ k ≤ n ∧ At w wr bl bm most k put out made v) (fun _ _ _ _ i _ => n - (intOf i).toNat)
  case atStart => exact ⟨0, 0, 0, 0, rfl, rfl, rfl, rfl, Nat.zero_le _, HA0.out⟩
  case round =>
    obtain ⟨k, put, out, made, rfl, rfl, rfl, rfl, hk, hA⟩ := hrel
    obtain ⟨wi, rfl⟩ : ∃ wi : World, wi = wr := ⟨_, rfl⟩
    clear HA0
    have HA := Lib.hid hA
    clear hA
    by_cases hlt : k < n
    · obtain ⟨g, o, cap', cs, he, _, _, _, hcell, ⟨rfl, x1, x2⟩⟩ := HP.out.get (k := k) (by rw [← HN.out]; exact hlt)
      rw [← HN.out] at he
      cases he
      have c0 : w.cell? ⟨g, o + k, none⟩ = some (.int .u8 (P[k]'(by rw [← HN.out]; exact hlt))) := by simpa using hcell 0 _ rfl
      generalize P[k]'(by rw [← HN.out]; exact hlt) = x at c0 x1 x2
      clear hcell
      have hgl := Lib.hid (World.block_lt_of_cell? w _ c0)
      obtain ⟨vl, vm, Lm, ts, hLO, hMay, hT, hop, hpk, hmk⟩ := HA.out
      have d0 := (hLO.fr.cell hgl.out (by simp)).trans c0
      have HMay := Lib.hid hMay
      have HT := Lib.hid hT
      clear hMay hT HA
      have hsp := span_len out put
      by_cases hx : x % 2 = 0
      · have hxb : (x % 2 == 0) = true := by simpa using hx
        clear hx
        by_cases hrl : (span out put).length < most
        · have HRL := Lib.hid (show (span out (put + 1)).length ≤ most by rw [span_len]; omega)
          by_cases hrm : Lm.length < most
          · have HRM := Lib.hid (show (Lm ++ [(made : Int)]).length ≤ most by simp; omega)
            clear hsp
            have HL0 := Lib.hid hLO
            have HCl := Lib.hid (put_ok wi bl vl (span out put) most (put : Int) hLO.l h64 hrl)
            clear hLO hrl
            go_wp2_with fail
            (with_reducible refine HCl.out.mono ?_)
            rintro e wa ⟨rfl, vl', la, ma, fa⟩
            rw [span_snoc out put hop] at la
            have hLa := HL0.out.left la HRL.out ma fa
            clear la ma fa
            have HLa := Lib.hid hLa
            have HCm := Lib.hid (put_ok wa bm vm Lm most (made : Int) hLa.m h64 hrm)
            clear hLa
            go_wp2_with fail
            (with_reducible refine HCm.out.mono ?_)
            rintro e wb ⟨rfl, vm', lb, mb, fb⟩
            have hLb := HLa.out.right lb HRM.out mb fb
            have hown := hLb.t
            rw [HT.out] at hown
            have HLb := Lib.hid hLb
            clear lb mb fb hLb
            go_wp2_with (at_builtin; go_must (refine wpList_app _ rfl _ _ 28 rfl 3 (.int .i64 0) 1 8 Try.underlying28 info3 rfl (by decide) u12 made (ints ts) rfl (hown.alloc _) ⟨wb.heap.size, 0, none⟩ 1 1 [.int .i64 1] rfl rfl (new_one _ _ _ _ rfl) (by simp [Value.oneCell']) (by unfold maxLen; omega) (by omega) ?_); intro v1 w3 happ; have HAP := Lib.hid happ; clear happ)
            go_roundw
            case rel =>
              refine ⟨k + 1, (put + 1), out, made + 1, by go_num, by go_num, by go_num, by go_num, by omega, vl', vm', Lm ++ [(made : Int)], ts ++ [1], grown_times HLb.out HT.out HAP.out, ?_, by rw [List.length_append, HT.out]; rfl, by omega, by omega, by omega⟩
              rw [← HT.out]
              exact (HMay.out.mono (by omega)).put (by omega)
            case measure => simp [intOf]; omega
          · have hrm : most ≤ Lm.length := by omega
            clear hsp
            have HL0 := Lib.hid hLO
            have HCl := Lib.hid (put_ok wi bl vl (span out put) most (put : Int) hLO.l h64 hrl)
            clear hLO hrl
            go_wp2_with fail
            (with_reducible refine HCl.out.mono ?_)
            rintro e wa ⟨rfl, vl', la, ma, fa⟩
            rw [span_snoc out put hop] at la
            have hLa := HL0.out.left la HRL.out ma fa
            clear la ma fa
            have HLa := Lib.hid hLa
            have HCm := Lib.hid (put_full wa bm vm Lm most (made : Int) hLa.m h1 hrm)
            clear hLa
            go_wp2_with fail
            (with_reducible refine HCm.out.mono ?_)
            rintro e wb ⟨rfl, lb, fb⟩
            have HLb := Lib.hid (HLa.out.right lb HLa.out.ml (Moved.refl _ _) (fb.mono (by intro x hx; simp at hx; subst hx; exact .inl (by simp [ownL]))))
            clear lb fb
            go_wp2
            go_roundw
            case rel => exact ⟨k + 1, (put + 1), out, made, by go_num, by go_num, by go_num, by go_num, by omega, vl', vm, Lm, ts, HLb.out, HMay.out.mono (by omega), HT.out, by omega, by omega, by omega⟩
            case measure => simp [intOf]; omega
        · have hrl : most ≤ (span out put).length := by omega
          by_cases hrm : Lm.length < most
          · have HRM := Lib.hid (show (Lm ++ [(made : Int)]).length ≤ most by simp; omega)
            clear hsp
            have HL0 := Lib.hid hLO
            have HCl := Lib.hid (put_full wi bl vl (span out put) most (put : Int) hLO.l h1 hrl)
            clear hLO hrl
            go_wp2_with fail
            (with_reducible refine HCl.out.mono ?_)
            rintro e wa ⟨rfl, la, fa⟩
            have hLa := HL0.out.left la HL0.out.ll (Moved.refl _ _) (fa.mono (by intro x hx; simp at hx; subst hx; exact .inl (by simp [ownL])))
            clear la fa
            have HLa := Lib.hid hLa
            have HCm := Lib.hid (put_ok wa bm vm Lm most (made : Int) hLa.m h64 hrm)
            clear hLa
            go_wp2_with fail
            (with_reducible refine HCm.out.mono ?_)
            rintro e wb ⟨rfl, vm', lb, mb, fb⟩
            have hLb := HLa.out.right lb HRM.out mb fb
            have hown := hLb.t
            rw [HT.out] at hown
            have HLb := Lib.hid hLb
            clear lb mb fb hLb
            go_wp2_with (at_builtin; go_must (refine wpList_app _ rfl _ _ 28 rfl 3 (.int .i64 0) 1 8 Try.underlying28 info3 rfl (by decide) u12 made (ints ts) rfl (hown.alloc _) ⟨wb.heap.size, 0, none⟩ 1 1 [.int .i64 1] rfl rfl (new_one _ _ _ _ rfl) (by simp [Value.oneCell']) (by unfold maxLen; omega) (by omega) ?_); intro v1 w3 happ; have HAP := Lib.hid happ; clear happ)
            go_roundw
            case rel =>
              refine ⟨k + 1, put, out, made + 1, by go_num, by go_num, by go_num, by go_num, by omega, vl, vm', Lm ++ [(made : Int)], ts ++ [1], grown_times HLb.out HT.out HAP.out, ?_, by rw [List.length_append, HT.out]; rfl, by omega, by omega, by omega⟩
              rw [← HT.out]
              exact (HMay.out.mono (by omega)).put (by omega)
            case measure => simp [intOf]; omega
          · have hrm : most ≤ Lm.length := by omega
            clear hsp
            have HL0 := Lib.hid hLO
            have HCl := Lib.hid (put_full wi bl vl (span out put) most (put : Int) hLO.l h1 hrl)
            clear hLO hrl
            go_wp2_with fail
            (with_reducible refine HCl.out.mono ?_)
            rintro e wa ⟨rfl, la, fa⟩
            have hLa := HL0.out.left la HL0.out.ll (Moved.refl _ _) (fa.mono (by intro x hx; simp at hx; subst hx; exact .inl (by simp [ownL])))
            clear la fa
            have HLa := Lib.hid hLa
            have HCm := Lib.hid (put_full wa bm vm Lm most (made : Int) hLa.m h1 hrm)
            clear hLa
            go_wp2_with fail
            (with_reducible refine HCm.out.mono ?_)
            rintro e wb ⟨rfl, lb, fb⟩
            have HLb := Lib.hid (HLa.out.right lb HLa.out.ml (Moved.refl _ _) (fb.mono (by intro x hx; simp at hx; subst hx; exact .inl (by simp [ownL]))))
            clear lb fb
            go_wp2
            go_roundw
            case rel => exact ⟨k + 1, put, out, made, by go_num, by go_num, by go_num, by go_num, by omega, vl, vm, Lm, ts, HLb.out, HMay.out.mono (by omega), HT.out, by omega, by omega, by omega⟩
            case measure => simp [intOf]; omega
      · have hxb : (x % 2 == 0) = false := by simpa using hx
        clear hx hsp
        by_cases hlt2 : out < put
        · have HL0 := Lib.hid hLO
          have ht := take_ok wi bl vl (span out put) most 0 hLO.l (by rw [span_len]; omega) (by have := hLO.ll; omega)
          unfold TakePost at ht
          rw [show place 0 (span out put).length = 0 from by unfold place; simp, (span_tail out put hlt2).1, (span_tail out put hlt2).2] at ht
          have HCl := Lib.hid ht
          clear ht hLO
          go_wp2_with fail
          (with_reducible refine HCl.out.mono ?_)
          rintro e wa ⟨rfl, vl', la, ma, fa⟩
          have hLa := HL0.out.left la (by have := HL0.out.ll; rw [span_len] at this ⊢; omega) (.inl ma) fa
          clear la ma fa
          have hoo : decide ((out : Int) < (put : Int)) = true := by simp; omega
          have HW := Lib.hid (wild_any _ bm vm u12 Lm ts most (k + 1) x hLa.m hLa.ml h64 hLa.t (by rw [HT.out]; omega) HMay.out (by omega) hLa.apart ⟨x1, x2⟩)
          have HLa := Lib.hid hLa
          have da := (hLa.fr.cell hgl.out (by simp)).trans c0
          clear hLa
          go_wp2_with fail
          (with_reducible refine HW.out.mono ?_)
          rintro e wb ⟨rfl, vm', Lm', ts', lb, lb2, tb, tb2, mb, mvb, fb⟩
          have HLb := Lib.hid (HLa.out.both lb lb2 mvb fb (ts' := ts') (by rw [tb2]; exact tb))
          have HMb := Lib.hid (And.intro mb tb2)
          clear lb lb2 tb tb2 mb mvb fb
          go_wp2
          go_roundw
          case rel => exact ⟨k + 1, put, (out + 1), made, by go_num, by go_num, by go_num, by go_num, by omega, vl', vm', Lm', ts', HLb.out, HMb.out.1, HMb.out.2.trans HT.out, by omega, by omega, by omega⟩
          case measure => simp [intOf]; omega
        · have HL0 := Lib.hid hLO
          obtain rfl : out = put := by omega
          have hnil : span out out = [] := by simp [span]
          rw [hnil] at hLO
          have HCl := Lib.hid (take_no wi bl vl most 0 hLO.l)
          clear hLO
          go_wp2_with fail
          (with_reducible refine HCl.out.mono ?_)
          rintro e wa ⟨rfl, rfl⟩
          have hLa := HL0.out
          have HW := Lib.hid (wild_any _ bm vm u12 Lm ts most (k + 1) x hLa.m hLa.ml h64 hLa.t (by rw [HT.out]; omega) HMay.out (by omega) hLa.apart ⟨x1, x2⟩)
          have HLa := Lib.hid hLa
          have da := (hLa.fr.cell hgl.out (by simp)).trans c0
          clear hLa
          go_wp2_with fail
          (with_reducible refine HW.out.mono ?_)
          rintro e wb ⟨rfl, vm', Lm', ts', lb, lb2, tb, tb2, mb, mvb, fb⟩
          have HLb := Lib.hid (HLa.out.both lb lb2 mvb fb (ts' := ts') (by rw [tb2]; exact tb))
          have HMb := Lib.hid (And.intro mb tb2)
          clear lb lb2 tb tb2 mb mvb fb
          go_wp2
          go_roundw
          case rel => exact ⟨k + 1, out, out, made, by go_num, by go_num, by go_num, by go_num, by omega, vl, vm', Lm', ts', HLb.out, HMb.out.1, HMb.out.2.trans HT.out, by omega, by omega, by omega⟩
          case measure => simp [intOf]; omega
    · go_wp2_with fail
      (with_reducible refine (works_any _).mono ?_)
      rintro e w3 ⟨rfl, f3⟩
      obtain ⟨vl, vm, Lm, ts, hLO, _⟩ := HA.out
      have HF := Lib.hid (hLO.fr.trans f3 (by simp))
      clear hLO f3
      go_wp2
      go_ret
      exact ⟨rfl, HF.out⟩

end linkOrder
end Go.Proofs.Ytobagienhaaceaa
