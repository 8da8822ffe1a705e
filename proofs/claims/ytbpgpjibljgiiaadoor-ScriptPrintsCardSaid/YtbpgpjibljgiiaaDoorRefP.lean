/-
  Script, the document: a digit, bytes out of a text, a field that is what a letter says.
-/
import Derived.Test.YtbpgpjibljgiiaaDoorRefO
namespace Go.Proofs.YtbpgpjibljgiiaaDoor
open Go.RowKit
set_option linter.unusedVariables false
set_option linter.unusedSimpArgs false
attribute [local go_sem] Oper.semAt_some
namespace Sc
def nibR (c : UInt8) : Int := if nib c < 0 then 16 else nib c
theorem nib_dig {c : UInt8} (h1 : 48 ≤ c.toNat) (h2 : c.toNat ≤ 57) : nibR c = (c.toNat : Int) - 48 := by
  have : ∀ c : Fin 256, 48 ≤ c.val → c.val ≤ 57 → nibR (UInt8.ofNat c) = (c.val : Int) - 48 := by decide +kernel
  have h := this ⟨c.toNat, c.toNat_lt⟩ h1 h2
  simpa using h
theorem nib_let {c : UInt8} (h1 : 97 ≤ c.toNat) (h2 : c.toNat ≤ 102) : nibR c = (c.toNat : Int) - 97 + 10 := by
  have : ∀ c : Fin 256, 97 ≤ c.val → c.val ≤ 102 → nibR (UInt8.ofNat c) = (c.val : Int) - 97 + 10 := by decide +kernel
  have h := this ⟨c.toNat, c.toNat_lt⟩ h1 h2
  simpa using h
theorem nib_no {c : UInt8} (h1 : ¬ (48 ≤ c.toNat ∧ c.toNat ≤ 57)) (h2 : ¬ (97 ≤ c.toNat ∧ c.toNat ≤ 102)) : nibR c = 16 := by
  have : ∀ c : Fin 256, ¬ (48 ≤ c.val ∧ c.val ≤ 57) → ¬ (97 ≤ c.val ∧ c.val ≤ 102) → nibR (UInt8.ofNat c) = 16 := by decide +kernel
  have h := this ⟨c.toNat, c.toNat_lt⟩ h1 h2
  simpa using h
set_option maxRecDepth 100000 in
theorem nibble_any (w : World) (c : UInt8) : Calls Tryd.prog 79 #[.int .u8 (c.toNat : Int)] w fun e w' => e = .returned (.int .u8 (nibR c)) ∧ w' = w := by
  by_cases h1 : 48 ≤ c.toNat ∧ c.toNat ≤ 57
  · have d1 : decide ((48 : Int) ≤ (c.toNat : Int)) = true := decide_eq_true (by omega)
    have d2 : decide ((c.toNat : Int) ≤ 57) = true := decide_eq_true (by omega)
    have q1 : IntKind.u8.wrap ((c.toNat : Int) - 48) = (c.toNat : Int) - 48 := by rw [IntKind.wrap_u8]; omega
    rw [nib_dig h1.1 h1.2]
    clear h1
    go_enter Tryd.func79, Tryd.ntmps79
    go_wp2
    go_ret
    exact ⟨rfl, rfl⟩
  · by_cases h2 : 97 ≤ c.toNat ∧ c.toNat ≤ 102
    · have d1 : decide ((48 : Int) ≤ (c.toNat : Int)) = true := decide_eq_true (by omega)
      have d2 : decide ((c.toNat : Int) ≤ 57) = false := decide_eq_false (by omega)
      have d3 : decide ((97 : Int) ≤ (c.toNat : Int)) = true := decide_eq_true (by omega)
      have d4 : decide ((c.toNat : Int) ≤ 102) = true := decide_eq_true (by omega)
      have q1 : IntKind.u8.wrap ((c.toNat : Int) - 97) = (c.toNat : Int) - 97 := by rw [IntKind.wrap_u8]; omega
      have q2 : IntKind.u8.wrap ((c.toNat : Int) - 97 + 10) = (c.toNat : Int) - 97 + 10 := by rw [IntKind.wrap_u8]; omega
      rw [nib_let h2.1 h2.2]
      clear h1 h2
      go_enter Tryd.func79, Tryd.ntmps79
      go_wp2
      go_ret
      exact ⟨rfl, rfl⟩
    · rw [nib_no h1 h2]
      by_cases a1 : 48 ≤ c.toNat
      · have d1 : decide ((48 : Int) ≤ (c.toNat : Int)) = true := decide_eq_true (by omega)
        have d2 : decide ((c.toNat : Int) ≤ 57) = false := decide_eq_false (by omega)
        by_cases a2 : 97 ≤ c.toNat
        · have d3 : decide ((97 : Int) ≤ (c.toNat : Int)) = true := decide_eq_true (by omega)
          have d4 : decide ((c.toNat : Int) ≤ 102) = false := decide_eq_false (by omega)
          clear h1 h2 a1 a2
          go_enter Tryd.func79, Tryd.ntmps79
          go_wp2
          go_ret
          exact ⟨rfl, rfl⟩
        · have d3 : decide ((97 : Int) ≤ (c.toNat : Int)) = false := decide_eq_false (by omega)
          clear h1 h2 a1 a2
          go_enter Tryd.func79, Tryd.ntmps79
          go_wp2
          go_ret
          exact ⟨rfl, rfl⟩
      · have d1 : decide ((48 : Int) ≤ (c.toNat : Int)) = false := decide_eq_false (by omega)
        have d3 : decide ((97 : Int) ≤ (c.toNat : Int)) = false := decide_eq_false (by omega)
        clear h1 h2 a1
        go_enter Tryd.func79, Tryd.ntmps79
        go_wp2
        go_ret
        exact ⟨rfl, rfl⟩
theorem nibR_range (c : UInt8) : 0 ≤ nibR c ∧ nibR c ≤ 16 := by
  have := nib_range c
  unfold nibR
  split <;> omega
set_option maxRecDepth 100000 in
set_option maxHeartbeats 8000000 in
theorem laid_any (w : World) (s : ByteArray) (hs : s.size ≤ 4294967296) : Calls Tryd.prog 67 #[.string s] w fun e w' => ∃ v, e = .returned (.tuple #[v, .bool (bytL s).isSome]) ∧ BytV w' w.heap.size v ((bytL s).getD []) ∧ Fr [] w w' := by
  by_cases hd : s = dashB
  · have e1 : (s.toList == (⟨#[45]⟩ : ByteArray).toList) = true := beq_is hd
    have e2 : (s.toList == [45]) = true := by rw [hd]; kernel_rfl
    rw [show bytL s = some [] from if_pos hd]
    clear hd
    go_enter Tryd.func67, Tryd.ntmps67
    go_wp2
    go_ret2
    exact ⟨_, rfl, BytV.nil _ _, Fr.refl _ _⟩
  · have e1 : (s.toList == (⟨#[45]⟩ : ByteArray).toList) = false := beq_not hd
    have e2 : (s.toList == [45]) = false := by rw [← e1]; rw [ByteArray.toList_eq (⟨#[45]⟩ : ByteArray)]
    by_cases h0 : s.size = 0 ∨ s.size % 2 ≠ 0
    · rw [show bytL s = none by unfold bytL; rw [if_neg hd, if_pos h0]]
      by_cases hz : s.size = 0
      · have z1 : ((s.size : Int) == 0) = true := by rw [hz]; rfl
        clear hd h0 hz
        go_enter Tryd.func67, Tryd.ntmps67
        go_wp2
        go_ret2
        exact ⟨_, rfl, BytV.nil _ _, Fr.refl _ _⟩
      · have z1 : ((s.size : Int) == 0) = false := by rw [beq_eq_false_iff_ne]; omega
        have z2 : ((s.size : Int) % 2 == 1) = true := by rw [beq_iff_eq]; omega
        clear hd h0 hz
        go_enter Tryd.func67, Tryd.ntmps67
        go_wp2
        go_ret2
        exact ⟨_, rfl, BytV.nil _ _, Fr.refl _ _⟩
    · have z1 : ((s.size : Int) == 0) = false := by rw [beq_eq_false_iff_ne]; omega
      have z2 : ((s.size : Int) % 2 == 1) = false := by rw [beq_eq_false_iff_ne]; omega
      have HB := Lib.hid (show bytL s = hexL s.data.toList by unfold bytL; rw [if_neg hd, if_neg h0])
      have HS := Lib.hid (And.intro hs (show s.size % 2 = 0 by omega))
      obtain ⟨ok, hok⟩ : ∃ ok, ok = (bytL s).isSome := ⟨_, rfl⟩
      obtain ⟨bl, hbl⟩ : ∃ bl, bl = (bytL s).getD [] := ⟨_, rfl⟩
      rw [← hok, ← hbl]
      have HO := Lib.hid (show ok = (hexL s.data.toList).isSome ∧ bl = (hexL s.data.toList).getD [] from ⟨by rw [hok, HB.out], by rw [hbl, HB.out]⟩)
      clear hd h0 hok hbl hs
      go_enter Tryd.func67, Tryd.ntmps67
      go_wp2_with fail
      go_loopw [4, 5] (fun v i wr => ∃ (j : Nat) (L : List Int), i = .int .i64 ((2 * j : Nat) : Int) ∧ 2 * j ≤ s.size ∧ hexL s.data.toList = (hexL (s.data.toList.drop (2 * j))).map (fun t => L ++ t) ∧ L.length = j ∧ BytV wr w.heap.size v L ∧ Fr [] w wr) (fun _ i _ => s.size - (match i with | .int _ q => q.toNat | _ => 0))
      case atStart => exact ⟨0, [], rfl, by omega, by simp, rfl, BytV.nil _ _, Fr.refl _ _⟩
      case round =>
        obtain ⟨j, L, rfl, hj, hx, hl, hv, hf⟩ := hrel
        obtain ⟨wi, hwi⟩ : ∃ wi : World, wi = wr := ⟨_, rfl⟩
        rw [← hwi] at hf hv ⊢
        clear hwi
        obtain ⟨pv, cv, rfl⟩ := hv.form
        obtain ⟨n, hn⟩ : ∃ n, n = 2 * j := ⟨_, rfl⟩
        rw [← hn] at hj hx ⊢
        have HJ := Lib.hid (And.intro hx (And.intro hl (And.intro hv (And.intro hf hn))))
        clear hx hl hv hf hn
        by_cases hlt2 : n < s.size
        · have h1 : n + 1 < s.size := by have := HJ.out.2.2.2.2; have := HS.out.2; omega
          have k3 : (n : Int) < (s.size : Int) := by omega
          have k4 : (n : Int) + 1 < (s.size : Int) := by omega
          have k5 : (0 : Int) ≤ (n : Int) := by omega
          have k6 : (n : Int) ≤ 4294967296 := by have := HS.out.1; omega
          obtain ⟨a, ha⟩ : ∃ a : UInt8, s[n] = a := ⟨_, rfl⟩
          obtain ⟨b, hb⟩ : ∃ b : UInt8, s[n + 1] = b := ⟨_, rfl⟩
          have HAB := Lib.hid (show s.data.toList.drop n = a :: b :: s.data.toList.drop (n + 2) by rw [drop_at hlt2, drop_at h1, ha, hb])
          have HLT := Lib.hid h1
          go_wp2_with fail
          (with_reducible refine (nibble_any _ a).mono ?_)
          rintro e wz ⟨rfl, hwz⟩
          rw [hwz]
          clear hwz
          go_wp2_with fail
          (with_reducible refine (nibble_any _ b).mono ?_)
          rintro e wz ⟨rfl, hwz⟩
          rw [hwz]
          clear hwz
          by_cases hbad : nib a < 0 ∨ nib b < 0
          · have HX := Lib.hid (show hexL s.data.toList = none by rw [HJ.out.1, HAB.out, hexL, if_pos hbad]; rfl)
            obtain rfl : ok = false := by rw [HO.out.1, HX.out]; rfl
            obtain rfl : bl = [] := by rw [HO.out.2, HX.out]; rfl
            by_cases q1 : nib a < 0
            · have g1 : nibR a = 16 := if_pos q1
              clear hbad q1 ha hb
              rw [g1]
              clear g1
              generalize nibR b = y
              go_wp2
              go_ret2
              exact ⟨_, rfl, BytV.nil _ _, HJ.out.2.2.2.1⟩
            · have g2 : nibR b = 16 := if_pos (by omega)
              have g1 : decide ((15 : Int) < nibR a) = false := decide_eq_false (by unfold nibR; rw [if_neg q1]; have := nib_range a; omega)
              clear hbad q1 ha hb
              rw [g2]
              clear g2
              generalize nibR a = x at g1 ⊢
              go_wp2
              go_ret2
              exact ⟨_, rfl, BytV.nil _ _, HJ.out.2.2.2.1⟩
          · have HX := Lib.hid (show hexL s.data.toList = (hexL (s.data.toList.drop (n + 2))).map (fun t => (L ++ [nib a * 16 + nib b]) ++ t) by
              rw [HJ.out.1, HAB.out, hexL, if_neg hbad, Option.map_map]
              congr 1
              funext t
              simp)
            have na := nib_range a
            have nb := nib_range b
            have g1 : nibR a = nib a := if_neg (by omega)
            have g2 : nibR b = nib b := if_neg (by omega)
            have q1 : 0 ≤ nib a := by omega
            have q2 : 0 ≤ nib b := by omega
            have d1 : decide ((15 : Int) < nib a) = false := decide_eq_false (by omega)
            have d2 : decide ((15 : Int) < nib b) = false := decide_eq_false (by omega)
            have p2 : (nib a * 16 + nib b) % 256 = nib a * 16 + nib b := by have := na.2; have := nb.2; omega
            rw [g1, g2]
            clear hbad na nb ha hb g1 g2
            generalize nib a = x at *
            generalize nib b = y at *
            obtain ⟨z, hz⟩ : ∃ z, (x * 16 + y) % 256 = z := ⟨_, rfl⟩
            have hz3 : x * 16 + y = z := by rw [← hz, p2]
            rw [hz3] at HX
            clear p2 hz3
            have HOW := Lib.hid (And.intro (own_fr HJ.out.2.2.1.1 ((Fr.refl [] wi).alloc (.cells #[.int .u8 z] 5)) (by simp)) (new_list wi [.int .u8 z] 5 _ rfl))
            have HLN := Lib.hid (show L.length ≤ 4294967296 by have := HJ.out.2.1; have := HJ.out.2.2.2.2; have := HS.out.1; omega)
            go_wp2_with (at_builtin; go_must (refine wpList_app _ rfl _ _ 42 rfl 5 (.int .u8 0) 1 1 Tryd.underlying42 infoU8 rfl (by decide) (.slice pv L.length cv) L.length (u8s L) rfl HOW.out.1 ⟨wi.heap.size, 0, none⟩ 1 1 [.int .u8 z] rfl rfl HOW.out.2 (by simp [Value.oneCell']) (by have := HLN.out; unfold maxLen; omega) (by have := HLN.out; omega) ?_); intro v1 w4 happ; have HAP := Lib.hid happ; clear happ)
            have hv0 := HJ.out.2.2.1
            have f0 := HJ.out.2.2.2.1
            have f5 : Fr [] w (wi.alloc (.cells #[.int .u8 z] 5)) := f0.trans ((Fr.refl [] wi).alloc _) (by simp)
            have f4 : Fr [] w w4 := f5.trans HAP.out.fr (fun x hx => .inr (hv0.2 x (by simpa using hx)))
            have hgo : ∀ g, v1.ownBlock = some g → w.heap.size ≤ g := fun g hg => by
              rcases HAP.out.place with q | q
              · exact hv0.2 g (by rw [← q]; exact hg)
              · rw [q] at hg; cases hg; exact f5.size
            have hown : w4.ownsRow 0 5 1 v1 (L ++ [z]).length (u8s (L ++ [z])) := by
              have := HAP.out.own
              rw [List.length_append, List.length_singleton]
              simpa [u8s] using this
            have hx2 : hexL s.data.toList = (hexL (s.data.toList.drop (2 * (j + 1)))).map (fun t => (L ++ [z]) ++ t) := by
              rw [show 2 * (j + 1) = n + 2 by have := HJ.out.2.2.2.2; omega]; exact HX.out
            exact ⟨⟨j + 1, L ++ [z], by rw [show ((n : Int) + (2 : Int)) = ((2 * (j + 1) : Nat) : Int) by have := HJ.out.2.2.2.2; omega], by have := HJ.out.2.2.2.2; have := HS.out.2; have := HLT.out; omega, hx2, by rw [List.length_append, HJ.out.2.1]; rfl, ⟨hown, hgo⟩, f4⟩, by have := HLT.out; show s.size - ((n : Int) + 2).toNat < s.size - ((n : Nat) : Int).toNat; omega⟩
        · obtain rfl : n = s.size := by omega
          have k3 : ¬ ((s.size : Int) < (s.size : Int)) := by omega
          clear hlt2
          go_wp2
          go_ret2
          have hlst : s.data.toList.drop s.size = [] := drop_end (by omega)
          have hx := HJ.out.1
          rw [hlst] at hx
          have hx2 : hexL s.data.toList = some L := by rw [hx]; simp [hexL]
          have hb : bl = L := by rw [HO.out.2, hx2]; rfl
          have ho : ok = true := by rw [HO.out.1, hx2]; rfl
          subst hb; subst ho
          exact ⟨_, rfl, HJ.out.2.2.1, HJ.out.2.2.2.1⟩
end Sc
end Go.Proofs.YtbpgpjibljgiiaaDoor
