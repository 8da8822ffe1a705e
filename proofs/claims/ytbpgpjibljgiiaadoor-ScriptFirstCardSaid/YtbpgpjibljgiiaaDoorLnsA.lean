/-
  Script: lines: how many lines end within the first bytes of a text, where the last of them ends.
-/
import Derived.Test.YtbpgpjibljgiiaaDoorFirA
namespace Go.Proofs.YtbpgpjibljgiiaaDoor
open Go.RowKit
set_option linter.unusedVariables false
set_option linter.unusedSimpArgs false
attribute [local go_sem] Oper.semAt_some
namespace Sc
/-- What holds ahead of byte i. -/
structure LnI (T : List UInt8) (i e : Nat) (P : List (List UInt8)) : Prop where
  le : e ≤ i
  no : ∀ p ∈ P, (10 : UInt8) ∉ p
  fl : T.take e = flat P
  mid : (10 : UInt8) ∉ (T.take i).drop e
  len : P.length ≤ i
theorem LnI.nl {T : List UInt8} {i e : Nat} {P : List (List UInt8)} (h : LnI T i e P) (hi : i < T.length) (hc : T[i] = 10) : LnI T (i + 1) (i + 1) (P ++ [(T.take i).drop e]) := by
  refine ⟨Nat.le_refl _, fun p hp => ?_, ?_, ?_, ?_⟩
  · rw [List.mem_append, List.mem_singleton] at hp
    rcases hp with hp | rfl
    · exact h.no p hp
    · exact h.mid
  · have h1 : T.take i = T.take e ++ (T.take i).drop e := by
      conv => lhs; rw [← List.take_append_drop e (T.take i)]
      rw [List.take_take, Nat.min_eq_left h.le]
    rw [List.take_succ_eq_append_getElem hi, hc]
    generalize (T.take i).drop e = M at h1 ⊢
    rw [h1, h.fl]
    unfold flat
    rw [List.flatMap_append]
    simp [List.append_assoc]
  · rw [List.drop_eq_nil_of_le (by rw [List.length_take]; omega)]
    simp
  · rw [List.length_append, List.length_singleton]; have := h.len; omega
theorem LnI.other {T : List UInt8} {i e : Nat} {P : List (List UInt8)} (h : LnI T i e P) (hi : i < T.length) (hc : T[i] ≠ 10) : LnI T (i + 1) e P := by
  refine ⟨Nat.le_succ_of_le h.le, h.no, h.fl, ?_, Nat.le_succ_of_le h.len⟩
  rw [List.take_succ_eq_append_getElem hi, List.drop_append_of_le_length (by rw [List.length_take]; have := h.le; omega)]
  rw [List.mem_append, List.mem_singleton]
  rintro (q | q)
  · exact h.mid q
  · exact hc q.symm
set_option maxRecDepth 100000 in
theorem lines_any (w : World) (t : ByteArray) (n : Nat) (hn : n ≤ t.size) (hs : t.size ≤ 9223372036854775806) :
    Calls Tryd.prog 7 #[.string t, .int .i64 n] w fun ev w' => ∃ (P : List (List UInt8)) (e : Nat), ev = .returned (.tuple #[.int .i64 P.length, .int .i64 e]) ∧ (∀ p ∈ P, (10 : UInt8) ∉ p) ∧ t.data.toList.take e = flat P ∧ e ≤ t.size ∧ P.length ≤ t.size ∧ w' = w := by
  have hn1 : (n : Int) ≤ 9223372036854775806 := by omega
  have hn2 : (n : Int) ≤ (t.size : Int) := by omega
  have HN := Lib.hid (And.intro hn hs)
  clear hn hs
  go_enter Tryd.func7, Tryd.ntmps7
  go_wp2_with fail
  go_loopw [6, 7, 8] (fun kv ev iv wr => ∃ (i e : Nat) (P : List (List UInt8)), kv = .int .i64 P.length ∧ ev = .int .i64 e ∧ iv = .int .i64 i ∧ i ≤ n ∧ LnI t.data.toList i e P ∧ wr = w) (fun _ _ iv _ => n - (match iv with | .int _ q => q.toNat | _ => 0))
  case atStart => exact ⟨0, 0, [], rfl, rfl, rfl, Nat.zero_le _, ⟨Nat.le_refl _, by simp, rfl, by simp, Nat.le_refl _⟩, rfl⟩
  case round =>
    obtain ⟨i, e, P, rfl, rfl, rfl, hi, hl, rfl⟩ := hrel
    have HL := Lib.hid hl
    have hp1 : (P.length : Int) ≤ 9223372036854775806 := by have := hl.len; omega
    have he1 : (e : Int) ≤ 9223372036854775806 := by have := hl.le; omega
    obtain ⟨k, hk⟩ : ∃ k, k = P.length := ⟨_, rfl⟩
    have HK := Lib.hid hk
    rw [← hk] at hp1 ⊢
    clear hl hk
    by_cases hlt : i < n
    · have h2 : i < t.size := by have := HN.out.1; omega
      have k3 : (i : Int) < (n : Int) := by omega
      have k4 : (i : Int) < (t.size : Int) := by omega
      have k5 : (0 : Int) ≤ (i : Int) := by omega
      obtain ⟨a, ha⟩ : ∃ a : UInt8, t[i] = a := ⟨_, rfl⟩
      have hil : i < t.data.toList.length := by rw [Array.length_toList]; exact h2
      have HA := Lib.hid (show t.data.toList[i] = a from by rw [← ha]; rfl)
      have HX := Lib.hid (And.intro hlt (And.intro h2 hil))
      by_cases hc : a = 10
      · have e1 : ((a.toNat : Int) == 10) = true := by rw [hc]; rfl
        have HC := Lib.hid hc
        clear hlt hi hc
        go_wp2
        have := HL.out.nl HX.out.2.2 (HA.out.trans HC.out)
        exact ⟨⟨i + 1, i + 1, _, by rw [List.length_append, List.length_singleton, ← HK.out]; rfl, rfl, rfl, HX.out.1, this, trivial⟩, by have := HX.out.1; show n - ((i : Int) + 1).toNat < n - ((i : Nat) : Int).toNat; omega⟩
      · have e1 : ((a.toNat : Int) == 10) = false := by
          rw [beq_eq_false_iff_ne]
          intro q
          apply hc
          have : a.toNat = 10 := by omega
          exact UInt8.toNat_inj.1 this
        have HC := Lib.hid hc
        clear hlt hi hc
        go_wp2
        have := HL.out.other HX.out.2.2 (fun q => HC.out (HA.out.symm.trans q))
        exact ⟨⟨i + 1, e, P, by rw [HK.out], rfl, rfl, HX.out.1, this, trivial⟩, by have := HX.out.1; show n - ((i : Int) + 1).toNat < n - ((i : Nat) : Int).toNat; omega⟩
    · obtain rfl : i = n := by omega
      clear hlt hi
      go_wp2
      go_ret2
      have hl := HL.out
      have hn := HN.out.1
      exact ⟨P, e, by rw [HK.out]; rfl, hl.no, hl.fl, by have := hl.le; omega, by have := hl.len; omega, rfl⟩
end Sc
end Go.Proofs.YtbpgpjibljgiiaaDoor
