/-
  Script: a step's words, the kind that begins with a word. Printed by genWd.py.
-/
import Derived.Test.YtbpgpjibljgiiaaGreatDoorNumA
namespace Go.Proofs.YtbpgpjibljgiiaaGreatDoor
open Go.RowKit
set_option linter.unusedVariables false
set_option linter.unusedSimpArgs false
attribute [local go_sem] Oper.semAt_some
namespace Sc
/-- A kind's words. -/
def wordsL : Nat → List ByteArray
  | 1 => [⟨#[99, 111, 109, 109, 97, 110, 100]⟩]
  | 2 => [⟨#[108, 97, 110, 101]⟩]
  | 3 => [⟨#[116, 117, 114, 110]⟩]
  | 4 => [⟨#[116, 105, 99, 107]⟩]
  | 5 => [⟨#[100, 111, 119, 110]⟩]
  | 6 => [⟨#[117, 112]⟩]
  | 7 => [⟨#[108, 111, 115, 101]⟩, ⟨#[100, 111, 119, 110]⟩]
  | 8 => [⟨#[108, 111, 115, 101]⟩, ⟨#[117, 112]⟩]
  | 9 => [⟨#[116, 119, 105, 99, 101]⟩, ⟨#[100, 111, 119, 110]⟩]
  | 10 => [⟨#[116, 119, 105, 99, 101]⟩, ⟨#[117, 112]⟩]
  | _ => []
/-- A list of texts, just made, or none. -/
def WordsV (W : World) (n0 : Nat) (v : Value) (L : List ByteArray) : Prop :=
  (L = [] ∧ v = .slice none 0 0) ∨ ∃ g, v = .slice (some ⟨g, 0, none⟩) L.length L.length ∧ Blk W g (strs L).toArray 9 ∧ n0 ≤ g
set_option maxRecDepth 100000 in
theorem words_any (w : World) (k : Nat) (hk : k < 256) : Calls Tryz.prog 54 #[.int .u8 k] w fun e w' => ∃ v, e = .returned v ∧ WordsV w' w.heap.size v (wordsL k) ∧ Fr [] w w' := by
  by_cases h : 1 ≤ k ∧ k ≤ 10
  · have hc : k = 1 ∨ k = 2 ∨ k = 3 ∨ k = 4 ∨ k = 5 ∨ k = 6 ∨ k = 7 ∨ k = 8 ∨ k = 9 ∨ k = 10 := by omega
    rcases hc with rfl | rfl | rfl | rfl | rfl | rfl | rfl | rfl | rfl | rfl
    all_goals
      clear h
      go_enter Tryz.func54, Tryz.ntmps54
      go_wp2
      go_ret
      exact ⟨_, rfl, .inr ⟨_, rfl, Blk.new _ _ _, Nat.le_refl _⟩, (Fr.refl _ _).alloc _⟩
  · have e : wordsL k = [] := by
      unfold wordsL
      split <;> first | omega | rfl
    rw [e]
    have k1 : ((k : Int) == 1) = false := by rw [beq_eq_false_iff_ne]; omega
    have k2 : ((k : Int) == 2) = false := by rw [beq_eq_false_iff_ne]; omega
    have k3 : ((k : Int) == 3) = false := by rw [beq_eq_false_iff_ne]; omega
    have k4 : ((k : Int) == 4) = false := by rw [beq_eq_false_iff_ne]; omega
    have k5 : ((k : Int) == 5) = false := by rw [beq_eq_false_iff_ne]; omega
    have k6 : ((k : Int) == 6) = false := by rw [beq_eq_false_iff_ne]; omega
    have k7 : ((k : Int) == 7) = false := by rw [beq_eq_false_iff_ne]; omega
    have k8 : ((k : Int) == 8) = false := by rw [beq_eq_false_iff_ne]; omega
    have k9 : ((k : Int) == 9) = false := by rw [beq_eq_false_iff_ne]; omega
    have k10 : ((k : Int) == 10) = false := by rw [beq_eq_false_iff_ne]; omega
    clear h e
    go_enter Tryz.func54, Tryz.ntmps54
    go_wp2
    go_ret
    exact ⟨_, rfl, .inl ⟨rfl, rfl⟩, Fr.refl _ _⟩
/-- The kind that begins with a word. -/
def kindFrom (x : ByteArray) : Nat → Nat → Nat
  | 0, _ => 0
  | n + 1, j => if (wordsL (j + 1)).head? = some x then j + 1 else kindFrom x n (j + 1)
def kindN (x : ByteArray) : Nat := kindFrom x 9 0
theorem words_cons : ∀ j, j < 10 → ∃ a l, wordsL (j + 1) = a :: l := fun j hj => by
  have hc : j = 0 ∨ j = 1 ∨ j = 2 ∨ j = 3 ∨ j = 4 ∨ j = 5 ∨ j = 6 ∨ j = 7 ∨ j = 8 ∨ j = 9 := by omega
  rcases hc with rfl | rfl | rfl | rfl | rfl | rfl | rfl | rfl | rfl | rfl <;> exact ⟨_, _, rfl⟩
theorem toList_beq (a b : ByteArray) : (a.toList == b.toList) = decide (a = b) := by
  by_cases h : a = b
  · subst h; simp
  · rw [decide_eq_false h, beq_eq_false_iff_ne]
    intro e
    apply h
    rw [ByteArray.toList_eq, ByteArray.toList_eq] at e
    cases a; cases b
    simpa using e
set_option maxRecDepth 100000 in
theorem kind_any (w : World) (x : ByteArray) : Calls Tryz.prog 61 #[.string x] w fun e w' => e = .returned (.int .u8 (kindN x : Nat)) ∧ Fr [] w w' := by
  have HW := Lib.hid (fun W k (h : k < 256) => words_any W k h)
  go_enter Tryz.func61, Tryz.ntmps61
  go_wp2_with fail
  go_loopw [3] (fun k wr => ∃ j : Nat, k = .int .u8 ((j + 1 : Nat) : Int) ∧ j ≤ 9 ∧ kindN x = kindFrom x (9 - j) j ∧ Fr [] w wr) (fun k _ => 10 - (match k with | .int _ q => q.toNat | _ => 0))
  case atStart => exact ⟨0, rfl, by omega, rfl, Fr.refl _ _⟩
  case round =>
    obtain ⟨j, rfl, hj, hm, hf⟩ := hrel
    obtain ⟨wi, hwi⟩ : ∃ wi : World, wi = wr := ⟨_, rfl⟩
    rw [← hwi] at hf ⊢
    clear hwi
    have HF := Lib.hid (And.intro hm hf)
    clear hm hf
    by_cases hlt : j < 9
    · obtain ⟨a, l, hal⟩ := words_cons j (by omega)
      have hc := HW.out wi (j + 1) (by omega)
      rw [hal] at hc
      have HCC := Lib.hid (show Calls Tryz.prog 54 #[.int .u8 ((j : Int) + 1)] wi _ from hc)
      have k1 : ((j : Int) + 1) ≤ 9 := by omega
      have k0 : (0 : Int) ≤ (j : Int) := by omega
      have HK := Lib.hid (show kindFrom x (9 - j) j = if a = x then j + 1 else kindFrom x (9 - (j + 1)) (j + 1) from by
        obtain ⟨n, hn⟩ : ∃ n, 9 - j = n + 1 := ⟨9 - j - 1, by omega⟩
        rw [hn, show 9 - (j + 1) = n by omega, kindFrom, hal, List.head?_cons]
        simp)
      clear hc hal
      go_wp2_with fail
      (with_reducible refine HCC.out.mono ?_)
      rintro e w1 ⟨v, rfl, hv, f1⟩
      obtain ⟨g, rfl, hb⟩ : ∃ g, v = .slice (some ⟨g, 0, none⟩) (l.length + 1) (l.length + 1) ∧ Blk w1 g (strs (a :: l)).toArray 9 := by
        rcases hv with ⟨h, _⟩ | ⟨g, h1, h2, _⟩
        · cases h
        · exact ⟨g, h1, h2⟩
      have c0 := hb.at 0 (v := .string a) rfl
      have l0 : (0 : Int) < ((l.length + 1 : Nat) : Int) := by omega
      have HF1 := Lib.hid f1
      clear hv hb f1 HCC
      by_cases hx : a = x
      · have e1 : (a.toList == x.toList) = true := by rw [toList_beq]; exact decide_eq_true hx
        have HE := Lib.hid (show kindN x = j + 1 by rw [HF.out.1, HK.out, if_pos hx])
        clear hx
        go_wp2
        go_ret
        exact ⟨by rw [HE.out]; rfl, HF.out.2.trans HF1.out (by simp)⟩
      · have e1 : (a.toList == x.toList) = false := by rw [toList_beq]; exact decide_eq_false hx
        have HE := Lib.hid (show kindN x = kindFrom x (9 - (j + 1)) (j + 1) by rw [HF.out.1, HK.out, if_neg hx])
        clear hx
        go_wp2
        exact ⟨⟨j + 1, rfl, by omega, HE.out, HF.out.2.trans HF1.out (by simp)⟩, by show 10 - ((j : Int) + 1 + 1).toNat < 10 - (((j + 1 : Nat) : Int)).toNat; omega⟩
    · obtain rfl : j = 9 := by omega
      have HE := Lib.hid (show kindN x = 0 by rw [HF.out.1]; rfl)
      go_wp2
      go_ret
      exact ⟨by rw [HE.out]; rfl, HF.out.2⟩
end Sc
end Go.Proofs.YtbpgpjibljgiiaaGreatDoor
