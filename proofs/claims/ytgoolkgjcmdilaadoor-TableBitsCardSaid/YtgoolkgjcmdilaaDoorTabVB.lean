/-
  Tables of V: find.
-/
import Derived.Test.YtgoolkgjcmdilaaDoorTabVA
namespace Go.Proofs.YtgoolkgjcmdilaaDoor
open Go.RowKit
set_option linter.unusedVariables false
set_option linter.unusedSimpArgs false
attribute [local go_sem] Oper.semAt_some

theorem bsfV_any (w : World) (g cap : Nat) (Ps : List (Int × (Int × ByteArray))) (id : Int) (hu : Up Ps) (hids : ∀ p ∈ Ps, U32 p.1) (hi : U32 id) (hc : Ps.length ≤ 65536) (hr : RowV w g Ps) :
    Calls Tryd.prog 127 #[.slice (some ⟨g, 0, none⟩) Ps.length cap, .int .u32 id, .func (.func 128) #[] #[]] w fun e w' => e = .returned (.tuple #[.int .i64 (rank Ps id), .bool (hasId Ps id)]) ∧ Fr [] w w' := by
  have HU := Lib.hid hu
  have HI := Lib.hid hids
  have HR := Lib.hid hr
  have HID := Lib.hid hi
  obtain ⟨n, hn⟩ : ∃ n, n = Ps.length := ⟨_, rfl⟩
  obtain ⟨r, hr'⟩ : ∃ r, r = rank Ps id := ⟨_, rfl⟩
  obtain ⟨hs, hhs⟩ : ∃ b, b = hasId Ps id := ⟨_, rfl⟩
  have hrn : r ≤ n := by rw [hn, hr']; exact rank_le _ _
  rw [← hn, ← hr', ← hhs]
  have HN := Lib.hid (And.intro hn (And.intro hr' hhs))
  rw [← hn] at hc
  clear hu hids hr hn hr' hhs hi
  go_enter Tryd.func127, Tryd.ntmps127
  go_wp2_with fail
  go_loopw [9, 10, 11] (fun iw jw hw wr => ∃ i j : Nat, iw = .int .i64 i ∧ jw = .int .i64 j ∧ i ≤ r ∧ r ≤ j ∧ j ≤ n ∧ Fr [] w wr) (fun iw jw _ _ => (intOf jw).toNat - (intOf iw).toNat)
  case atStart => exact ⟨0, n, rfl, rfl, Nat.zero_le _, hrn, Nat.le_refl _, Fr.refl _ _⟩
  case round =>
    obtain ⟨i, j, rfl, rfl, h1, h2, h3, hf⟩ := hrel
    obtain ⟨wi, rfl⟩ : ∃ wi : World, wi = wr := ⟨_, rfl⟩
    have HF := Lib.hid hf
    clear hf
    by_cases hij : i < j
    · have hmid := mid_eq (i := i) (j := j) (by omega)
      obtain ⟨h, hh⟩ : ∃ h, h = (i + j) / 2 := ⟨_, rfl⟩
      rw [← hh] at hmid
      have hih : i ≤ h := by omega
      have hhj : h < j := by omega
      have hhn : h < n := by omega
      have HK := Lib.hid (And.intro h1 (And.intro h2 (And.intro h3 (And.intro hih hhj))))
      have hpl : h < Ps.length := by rw [← HN.out.1]; exact hhn
      have hp : Ps[h]? = some Ps[h] := List.getElem?_eq_getElem hpl
      obtain ⟨⟨p, x⟩, hpx⟩ : ∃ p, p = Ps[h] := ⟨_, rfl⟩
      rw [← hpx] at hp
      have hpid := HI.out _ (List.mem_of_getElem? hp)
      have hlt := rank_lt HU.out id hp
      rw [← HN.out.2.1] at hlt
      dsimp only at hlt hpid
      have hcl := (HR.out.fr HF.out).at hp
      obtain ⟨c0, c1, c2⟩ := hcl
      dsimp only at c0 c1 c2
      have g0 : (0 : Int) ≤ (h : Int) := by omega
      have g1 : (h : Int) < (n : Int) := by omega
      have HP := Lib.hid (And.intro hpid hlt)
      clear hpid hlt hp hpx hpl hh hih hhj h1 h2 h3
      go_wp2_with fail
      (with_reducible refine (cmpV_any _ _ _ _ HP.out.1 HID.out).mono ?_)
      rintro e w1 ⟨rfl, f1⟩
      have HF1 := Lib.hid (HF.out.trans f1 (by simp))
      clear f1
      by_cases hpi : p < id
      · rw [if_pos hpi]
        have hhr : h < r := HP.out.2.1 hpi
        go_wp2_with fail
        obtain ⟨k1, k2, k3, k4, k5⟩ := HK.out
        exact ⟨⟨h + 1, j, by go_num, rfl, hhr, k2, k3, HF1.out⟩, by simp [intOf]; omega⟩
      · have hhr : ¬ h < r := fun a => hpi (HP.out.2.2 a)
        obtain ⟨y, hy⟩ : ∃ y, y = (if p < id then (-1 : Int) else if id < p then 1 else 0) := ⟨_, rfl⟩
        rw [← hy]
        have hy0 : ¬ y < 0 := by rw [hy, if_neg hpi]; split <;> omega
        clear hy
        go_wp2_with fail
        obtain ⟨k1, k2, k3, k4, k5⟩ := HK.out
        exact ⟨⟨i, h, rfl, rfl, k1, Nat.le_of_not_lt hhr, Nat.le_of_lt (Nat.lt_of_lt_of_le k5 k3), HF1.out⟩, by simp [intOf]; omega⟩
    · obtain rfl : i = r := by omega
      by_cases hin : i < n
      · have hpl : i < Ps.length := by rw [← HN.out.1]; exact hin
        have hp : Ps[i]? = some Ps[i] := List.getElem?_eq_getElem hpl
        obtain ⟨⟨p, x⟩, hpx⟩ : ∃ p, p = Ps[i] := ⟨_, rfl⟩
        rw [← hpx] at hp
        have hpid := HI.out _ (List.mem_of_getElem? hp)
        have hlt := rank_lt HU.out id hp
        have hcl := (HR.out.fr HF.out).at hp
        obtain ⟨c0, c1, c2⟩ := hcl
        dsimp only at c0 c1 c2 hpid
        have hhas : hs = decide (p = id) := by
          have ha := has_at HU.out id
          rw [← HN.out.2.1, ← HN.out.2.2, hp] at ha
          rw [Bool.eq_iff_iff, ha]
          simp
        have g0 : (0 : Int) ≤ (i : Int) := by omega
        have g1 : (i : Int) < (n : Int) := by omega
        have HP := Lib.hid (And.intro hpid hhas)
        clear hpid hhas hp hpx hpl h1 h2 h3 hlt
        go_wp2_with fail
        (with_reducible refine (cmpV_any _ _ _ _ HP.out.1 HID.out).mono ?_)
        rintro e w1 ⟨rfl, f1⟩
        have HF1 := Lib.hid (HF.out.trans f1 (by simp))
        clear f1
        by_cases hpi : p = id
        · rw [if_neg (by omega), if_neg (by omega)]
          have he : hs = true := by rw [HP.out.2]; exact decide_eq_true hpi
          go_wp2_with fail
          refine bodyPost_ret (v := .tuple #[.int .i64 i, .bool true]) (by simp [results, Tryd.results127, go_sem]) rfl ⟨by first | rfl | rw [he], HF1.out⟩
        · obtain ⟨y, hy⟩ : ∃ y, y = (if p < id then (-1 : Int) else if id < p then 1 else 0) := ⟨_, rfl⟩
          rw [← hy]
          have hy0 : ¬ y = 0 := by rw [hy]; (repeat' split) <;> omega
          have he : hs = false := by rw [HP.out.2]; exact decide_eq_false hpi
          clear hy
          go_wp2_with fail
          refine bodyPost_ret (v := .tuple #[.int .i64 i, .bool false]) (by simp [results, Tryd.results127, go_sem, hy0]) rfl ⟨by first | rfl | rw [he], HF1.out⟩
      · have he : hs = false := by
          have ha := has_at HU.out id
          rw [← HN.out.2.1, ← HN.out.2.2, List.getElem?_eq_none (by rw [← HN.out.1]; omega)] at ha
          cases hs with
          | false => rfl
          | true => obtain ⟨x, hx⟩ := ha.1 rfl; cases hx
        have g1 : ¬ (i : Int) < (n : Int) := by omega
        go_wp2_with fail
        refine bodyPost_ret (v := .tuple #[.int .i64 i, .bool false]) (by simp [results, Tryd.results127, go_sem]) rfl ⟨by first | rfl | rw [he], HF.out⟩

theorem findV_any (w : World) (b : Nat) (v : Value) (Ps : List (Int × (Int × ByteArray))) (room id : Int) (h : TabV w b v Ps room) (hi : U32 id) :
    Calls Tryd.prog 63 #[.pointer (some ⟨b, 0, none⟩), .int .u32 id] w fun e w' => e = .returned (.tuple #[.int .i64 (rank Ps id), .bool (hasId Ps id)]) ∧ Fr [] w w' := by
  obtain ⟨g, cap, rfl, h1, h2, h3, h4⟩ := h.row
  have c1 := h.hd.at 1 (v := .slice (some ⟨g, 0, none⟩) Ps.length cap) rfl
  have HH := Lib.hid h
  have H4 := Lib.hid h4
  have hl : Ps.length ≤ 65536 := by have := h.lim; omega
  obtain ⟨r, hr'⟩ : ∃ r, r = rank Ps id := ⟨_, rfl⟩
  obtain ⟨hs, hhs⟩ : ∃ b, b = hasId Ps id := ⟨_, rfl⟩
  have C := Lib.hid (fun (W : World) (hW : RowV W g Ps) => hr'.symm ▸ hhs.symm ▸ bsfV_any W g cap Ps id HH.out.up HH.out.ids hi hl hW)
  rw [← hr', ← hhs]
  clear h h2 h3 h4 hr' hhs hl h1
  go_enter Tryd.func63, Tryd.ntmps63
  go_wp2_with fail
  (with_reducible refine (C.out _ H4.out).mono ?_)
  rintro e w1 ⟨rfl, f1⟩
  have HF := Lib.hid f1
  clear f1
  go_wp2_with fail
  refine bodyPost_ret (v := .tuple #[.int .i64 r, .bool hs]) (by simp [results, Tryd.results63, go_sem]) rfl ⟨rfl, HF.out⟩
end Go.Proofs.YtgoolkgjcmdilaaDoor
