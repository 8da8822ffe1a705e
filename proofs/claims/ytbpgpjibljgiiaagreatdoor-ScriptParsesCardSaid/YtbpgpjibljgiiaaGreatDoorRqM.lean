/-
  Script, the document: a digit, bytes out of a text, a field that is what a letter says.
  Script, the document: the first field that is not as the letters say. Printed by genWr.py.
  Script, the document: a line's fields.
-/
import Derived.Test.YtbpgpjibljgiiaaGreatDoorRefO
namespace Go.Proofs.YtbpgpjibljgiiaaGreatDoor
open Go.RowKit
set_option linter.unusedVariables false
set_option linter.unusedSimpArgs false
attribute [local go_sem] Oper.semAt_some
namespace Sc
def nibR (c : UInt8) : Int := if nib c < 0 then 16 else nib c
theorem nib_dig {c : UInt8} (h1 : 48 ≤ c.toNat) (h2 : c.toNat ≤ 57) : nibR c = (c.toNat : Int) - 48 := by
  have : ∀ c : Fin 256, 48 ≤ c.val → c.val ≤ 57 → nibR (UInt8.ofNat c) = (c.val : Int) - 48 := by decide +kernel
  have h := this ⟨c.toNat, c.toNat_lt⟩ h1 h2
  simpa using h
theorem nib_let {c : UInt8} (h1 : 97 ≤ c.toNat) (h2 : c.toNat ≤ 102) : nibR c = (c.toNat : Int) - 97 + 10 := by
  have : ∀ c : Fin 256, 97 ≤ c.val → c.val ≤ 102 → nibR (UInt8.ofNat c) = (c.val : Int) - 97 + 10 := by decide +kernel
  have h := this ⟨c.toNat, c.toNat_lt⟩ h1 h2
  simpa using h
theorem nib_no {c : UInt8} (h1 : ¬ (48 ≤ c.toNat ∧ c.toNat ≤ 57)) (h2 : ¬ (97 ≤ c.toNat ∧ c.toNat ≤ 102)) : nibR c = 16 := by
  have : ∀ c : Fin 256, ¬ (48 ≤ c.val ∧ c.val ≤ 57) → ¬ (97 ≤ c.val ∧ c.val ≤ 102) → nibR (UInt8.ofNat c) = 16 := by decide +kernel
  have h := this ⟨c.toNat, c.toNat_lt⟩ h1 h2
  simpa using h
set_option maxRecDepth 100000 in
theorem nibble_any (w : World) (c : UInt8) : Calls Tryz.prog 65 #[.int .u8 (c.toNat : Int)] w fun e w' => e = .returned (.int .u8 (nibR c)) ∧ w' = w := by
  by_cases h1 : 48 ≤ c.toNat ∧ c.toNat ≤ 57
  · have d1 : decide ((48 : Int) ≤ (c.toNat : Int)) = true := decide_eq_true (by omega)
    have d2 : decide ((c.toNat : Int) ≤ 57) = true := decide_eq_true (by omega)
    have q1 : IntKind.u8.wrap ((c.toNat : Int) - 48) = (c.toNat : Int) - 48 := by rw [IntKind.wrap_u8]; omega
    rw [nib_dig h1.1 h1.2]
    clear h1
    go_enter Tryz.func65, Tryz.ntmps65
    go_wp2
    go_ret
    exact ⟨rfl, rfl⟩
  · by_cases h2 : 97 ≤ c.toNat ∧ c.toNat ≤ 102
    · have d1 : decide ((48 : Int) ≤ (c.toNat : Int)) = true := decide_eq_true (by omega)
      have d2 : decide ((c.toNat : Int) ≤ 57) = false := decide_eq_false (by omega)
      have d3 : decide ((97 : Int) ≤ (c.toNat : Int)) = true := decide_eq_true (by omega)
      have d4 : decide ((c.toNat : Int) ≤ 102) = true := decide_eq_true (by omega)
      have q1 : IntKind.u8.wrap ((c.toNat : Int) - 97) = (c.toNat : Int) - 97 := by rw [IntKind.wrap_u8]; omega
      have q2 : IntKind.u8.wrap ((c.toNat : Int) - 97 + 10) = (c.toNat : Int) - 97 + 10 := by rw [IntKind.wrap_u8]; omega
      rw [nib_let h2.1 h2.2]
      clear h1 h2
      go_enter Tryz.func65, Tryz.ntmps65
      go_wp2
      go_ret
      exact ⟨rfl, rfl⟩
    · rw [nib_no h1 h2]
      by_cases a1 : 48 ≤ c.toNat
      · have d1 : decide ((48 : Int) ≤ (c.toNat : Int)) = true := decide_eq_true (by omega)
        have d2 : decide ((c.toNat : Int) ≤ 57) = false := decide_eq_false (by omega)
        by_cases a2 : 97 ≤ c.toNat
        · have d3 : decide ((97 : Int) ≤ (c.toNat : Int)) = true := decide_eq_true (by omega)
          have d4 : decide ((c.toNat : Int) ≤ 102) = false := decide_eq_false (by omega)
          clear h1 h2 a1 a2
          go_enter Tryz.func65, Tryz.ntmps65
          go_wp2
          go_ret
          exact ⟨rfl, rfl⟩
        · have d3 : decide ((97 : Int) ≤ (c.toNat : Int)) = false := decide_eq_false (by omega)
          clear h1 h2 a1 a2
          go_enter Tryz.func65, Tryz.ntmps65
          go_wp2
          go_ret
          exact ⟨rfl, rfl⟩
      · have d1 : decide ((48 : Int) ≤ (c.toNat : Int)) = false := decide_eq_false (by omega)
        have d3 : decide ((97 : Int) ≤ (c.toNat : Int)) = false := decide_eq_false (by omega)
        clear h1 h2 a1
        go_enter Tryz.func65, Tryz.ntmps65
        go_wp2
        go_ret
        exact ⟨rfl, rfl⟩
theorem nibR_range (c : UInt8) : 0 ≤ nibR c ∧ nibR c ≤ 16 := by
  have := nib_range c
  unfold nibR
  split <;> omega
set_option maxRecDepth 100000 in
set_option maxHeartbeats 8000000 in
theorem laid_any (w : World) (s : ByteArray) (hs : s.size ≤ 4294967296) : Calls Tryz.prog 42 #[.string s] w fun e w' => ∃ v, e = .returned (.tuple #[v, .bool (bytL s).isSome]) ∧ BytV w' w.heap.size v ((bytL s).getD []) ∧ Fr [] w w' := by
  by_cases hd : s = dashB
  · have e1 : (s.toList == (⟨#[45]⟩ : ByteArray).toList) = true := beq_is hd
    have e2 : (s.toList == [45]) = true := by rw [hd]; kernel_rfl
    rw [show bytL s = some [] from if_pos hd]
    clear hd
    go_enter Tryz.func42, Tryz.ntmps42
    go_wp2
    go_ret2
    exact ⟨_, rfl, BytV.nil _ _, Fr.refl _ _⟩
  · have e1 : (s.toList == (⟨#[45]⟩ : ByteArray).toList) = false := beq_not hd
    have e2 : (s.toList == [45]) = false := by rw [← e1]; rw [ByteArray.toList_eq (⟨#[45]⟩ : ByteArray)]
    by_cases h0 : s.size = 0 ∨ s.size % 2 ≠ 0
    · rw [show bytL s = none by unfold bytL; rw [if_neg hd, if_pos h0]]
      by_cases hz : s.size = 0
      · have z1 : ((s.size : Int) == 0) = true := by rw [hz]; rfl
        clear hd h0 hz
        go_enter Tryz.func42, Tryz.ntmps42
        go_wp2
        go_ret2
        exact ⟨_, rfl, BytV.nil _ _, Fr.refl _ _⟩
      · have z1 : ((s.size : Int) == 0) = false := by rw [beq_eq_false_iff_ne]; omega
        have z2 : ((s.size : Int) % 2 == 1) = true := by rw [beq_iff_eq]; omega
        clear hd h0 hz
        go_enter Tryz.func42, Tryz.ntmps42
        go_wp2
        go_ret2
        exact ⟨_, rfl, BytV.nil _ _, Fr.refl _ _⟩
    · have z1 : ((s.size : Int) == 0) = false := by rw [beq_eq_false_iff_ne]; omega
      have z2 : ((s.size : Int) % 2 == 1) = false := by rw [beq_eq_false_iff_ne]; omega
      have HB := Lib.hid (show bytL s = hexL s.data.toList by unfold bytL; rw [if_neg hd, if_neg h0])
      have HS := Lib.hid (And.intro hs (show s.size % 2 = 0 by omega))
      obtain ⟨ok, hok⟩ : ∃ ok, ok = (bytL s).isSome := ⟨_, rfl⟩
      obtain ⟨bl, hbl⟩ : ∃ bl, bl = (bytL s).getD [] := ⟨_, rfl⟩
      rw [← hok, ← hbl]
      have HO := Lib.hid (show ok = (hexL s.data.toList).isSome ∧ bl = (hexL s.data.toList).getD [] from ⟨by rw [hok, HB.out], by rw [hbl, HB.out]⟩)
      clear hd h0 hok hbl hs
      go_enter Tryz.func42, Tryz.ntmps42
      go_wp2_with fail
      go_loopw [4, 5] (fun v i wr => ∃ (j : Nat) (L : List Int), i = .int .i64 ((2 * j : Nat) : Int) ∧ 2 * j ≤ s.size ∧ hexL s.data.toList = (hexL (s.data.toList.drop (2 * j))).map (fun t => L ++ t) ∧ L.length = j ∧ BytV wr w.heap.size v L ∧ Fr [] w wr) (fun _ i _ => s.size - (match i with | .int _ q => q.toNat | _ => 0))
      case atStart => exact ⟨0, [], rfl, by omega, by simp, rfl, BytV.nil _ _, Fr.refl _ _⟩
      case round =>
        obtain ⟨j, L, rfl, hj, hx, hl, hv, hf⟩ := hrel
        obtain ⟨wi, hwi⟩ : ∃ wi : World, wi = wr := ⟨_, rfl⟩
        rw [← hwi] at hf hv ⊢
        clear hwi
        obtain ⟨pv, cv, rfl⟩ := hv.form
        obtain ⟨n, hn⟩ : ∃ n, n = 2 * j := ⟨_, rfl⟩
        rw [← hn] at hj hx ⊢
        have HJ := Lib.hid (And.intro hx (And.intro hl (And.intro hv (And.intro hf hn))))
        clear hx hl hv hf hn
        by_cases hlt2 : n < s.size
        · have h1 : n + 1 < s.size := by have := HJ.out.2.2.2.2; have := HS.out.2; omega
          have k3 : (n : Int) < (s.size : Int) := by omega
          have k4 : (n : Int) + 1 < (s.size : Int) := by omega
          have k5 : (0 : Int) ≤ (n : Int) := by omega
          have k6 : (n : Int) ≤ 4294967296 := by have := HS.out.1; omega
          obtain ⟨a, ha⟩ : ∃ a : UInt8, s[n] = a := ⟨_, rfl⟩
          obtain ⟨b, hb⟩ : ∃ b : UInt8, s[n + 1] = b := ⟨_, rfl⟩
          have HAB := Lib.hid (show s.data.toList.drop n = a :: b :: s.data.toList.drop (n + 2) by rw [drop_at hlt2, drop_at h1, ha, hb])
          have HLT := Lib.hid h1
          go_wp2_with fail
          (with_reducible refine (nibble_any _ a).mono ?_)
          rintro e wz ⟨rfl, hwz⟩
          rw [hwz]
          clear hwz
          go_wp2_with fail
          (with_reducible refine (nibble_any _ b).mono ?_)
          rintro e wz ⟨rfl, hwz⟩
          rw [hwz]
          clear hwz
          by_cases hbad : nib a < 0 ∨ nib b < 0
          · have HX := Lib.hid (show hexL s.data.toList = none by rw [HJ.out.1, HAB.out, hexL, if_pos hbad]; rfl)
            obtain rfl : ok = false := by rw [HO.out.1, HX.out]; rfl
            obtain rfl : bl = [] := by rw [HO.out.2, HX.out]; rfl
            by_cases q1 : nib a < 0
            · have g1 : nibR a = 16 := if_pos q1
              clear hbad q1 ha hb
              rw [g1]
              clear g1
              generalize nibR b = y
              go_wp2
              go_ret2
              exact ⟨_, rfl, BytV.nil _ _, HJ.out.2.2.2.1⟩
            · have g2 : nibR b = 16 := if_pos (by omega)
              have g1 : decide ((15 : Int) < nibR a) = false := decide_eq_false (by unfold nibR; rw [if_neg q1]; have := nib_range a; omega)
              clear hbad q1 ha hb
              rw [g2]
              clear g2
              generalize nibR a = x at g1 ⊢
              go_wp2
              go_ret2
              exact ⟨_, rfl, BytV.nil _ _, HJ.out.2.2.2.1⟩
          · have HX := Lib.hid (show hexL s.data.toList = (hexL (s.data.toList.drop (n + 2))).map (fun t => (L ++ [nib a * 16 + nib b]) ++ t) by
              rw [HJ.out.1, HAB.out, hexL, if_neg hbad, Option.map_map]
              congr 1
              funext t
              simp)
            have na := nib_range a
            have nb := nib_range b
            have g1 : nibR a = nib a := if_neg (by omega)
            have g2 : nibR b = nib b := if_neg (by omega)
            have q1 : 0 ≤ nib a := by omega
            have q2 : 0 ≤ nib b := by omega
            have d1 : decide ((15 : Int) < nib a) = false := decide_eq_false (by omega)
            have d2 : decide ((15 : Int) < nib b) = false := decide_eq_false (by omega)
            have p2 : (nib a * 16 + nib b) % 256 = nib a * 16 + nib b := by have := na.2; have := nb.2; omega
            rw [g1, g2]
            clear hbad na nb ha hb g1 g2
            generalize nib a = x at *
            generalize nib b = y at *
            obtain ⟨z, hz⟩ : ∃ z, (x * 16 + y) % 256 = z := ⟨_, rfl⟩
            have hz3 : x * 16 + y = z := by rw [← hz, p2]
            rw [hz3] at HX
            clear p2 hz3
            have HOW := Lib.hid (And.intro (own_fr HJ.out.2.2.1.1 ((Fr.refl [] wi).alloc (.cells #[.int .u8 z] 5)) (by simp)) (new_list wi [.int .u8 z] 5 _ rfl))
            have HLN := Lib.hid (show L.length ≤ 4294967296 by have := HJ.out.2.1; have := HJ.out.2.2.2.2; have := HS.out.1; omega)
            go_wp2_with (at_builtin; go_must (refine wpList_app _ rfl _ _ 62 rfl 5 (.int .u8 0) 1 1 Tryz.underlying62 infoU8 rfl (by decide) (.slice pv L.length cv) L.length (u8s L) rfl HOW.out.1 ⟨wi.heap.size, 0, none⟩ 1 1 [.int .u8 z] rfl rfl HOW.out.2 (by simp [Value.oneCell']) (by have := HLN.out; unfold maxLen; omega) (by have := HLN.out; omega) ?_); intro v1 w4 happ; have HAP := Lib.hid happ; clear happ)
            have hv0 := HJ.out.2.2.1
            have f0 := HJ.out.2.2.2.1
            have f5 : Fr [] w (wi.alloc (.cells #[.int .u8 z] 5)) := f0.trans ((Fr.refl [] wi).alloc _) (by simp)
            have f4 : Fr [] w w4 := f5.trans HAP.out.fr (fun x hx => .inr (hv0.2 x (by simpa using hx)))
            have hgo : ∀ g, v1.ownBlock = some g → w.heap.size ≤ g := fun g hg => by
              rcases HAP.out.place with q | q
              · exact hv0.2 g (by rw [← q]; exact hg)
              · rw [q] at hg; cases hg; exact f5.size
            have hown : w4.ownsRow 0 5 1 v1 (L ++ [z]).length (u8s (L ++ [z])) := by
              have := HAP.out.own
              rw [List.length_append, List.length_singleton]
              simpa [u8s] using this
            have hx2 : hexL s.data.toList = (hexL (s.data.toList.drop (2 * (j + 1)))).map (fun t => (L ++ [z]) ++ t) := by
              rw [show 2 * (j + 1) = n + 2 by have := HJ.out.2.2.2.2; omega]; exact HX.out
            exact ⟨⟨j + 1, L ++ [z], by rw [show ((n : Int) + (2 : Int)) = ((2 * (j + 1) : Nat) : Int) by have := HJ.out.2.2.2.2; omega], by have := HJ.out.2.2.2.2; have := HS.out.2; have := HLT.out; omega, hx2, by rw [List.length_append, HJ.out.2.1]; rfl, ⟨hown, hgo⟩, f4⟩, by have := HLT.out; show s.size - ((n : Int) + 2).toNat < s.size - ((n : Nat) : Int).toNat; omega⟩
        · obtain rfl : n = s.size := by omega
          have k3 : ¬ ((s.size : Int) < (s.size : Int)) := by omega
          clear hlt2
          go_wp2
          go_ret2
          have hlst : s.data.toList.drop s.size = [] := drop_end (by omega)
          have hx := HJ.out.1
          rw [hlst] at hx
          have hx2 : hexL s.data.toList = some L := by rw [hx]; simp [hexL]
          have hb : bl = L := by rw [HO.out.2, hx2]; rfl
          have ho : ok = true := by rw [HO.out.1, hx2]; rfl
          subst hb; subst ho
          exact ⟨_, rfl, HJ.out.2.2.1, HJ.out.2.2.2.1⟩
end Sc
end Go.Proofs.YtbpgpjibljgiiaaGreatDoor
namespace Go.Proofs.YtbpgpjibljgiiaaGreatDoor
open Go.RowKit
set_option linter.unusedVariables false
set_option linter.unusedSimpArgs false
attribute [local go_sem] Oper.semAt_some
namespace Sc
def rightB (s : ByteArray) (c : UInt8) : Bool := if c = 78 then (scan s.data.toList).isSome else if c = 66 then (bytL s).isSome else decide (s = oneB)
set_option maxRecDepth 100000 in
theorem right_any (w : World) (s : ByteArray) (c : UInt8) (hs : s.size ≤ 4294967296) : Calls Tryz.prog 39 #[.string s, .int .u8 (c.toNat : Int)] w fun e w' => e = .returned (.bool (rightB s c)) ∧ Fr [] w w' := by
  have e1 : (s.toList == [49]) = decide (s = oneB) := by rw [show ([49] : List UInt8) = oneB.toList by kernel_rfl, toList_beq]
  have e2 : (s.toList == (⟨#[49]⟩ : ByteArray).toList) = decide (s = oneB) := toList_beq _ _
  by_cases h78 : c = 78
  · have d1 : ((c.toNat : Int) == 78) = true := by rw [h78]; rfl
    have d2 : ((c.toNat : Int) == 66) = false := by rw [h78]; rfl
    have HW := Lib.hid (whole_any w s hs)
    rw [show rightB s c = (scan s.data.toList).isSome from if_pos h78]
    clear h78 hs
    go_enter Tryz.func39, Tryz.ntmps39
    go_wp2_with fail
    (with_reducible refine HW.out.mono ?_)
    rintro e w1 ⟨v, rfl, -, f1⟩
    go_wp2
    go_ret
    exact ⟨rfl, f1⟩
  · have n78 : ((c.toNat : Int) == 78) = false := by
      rw [beq_eq_false_iff_ne]
      intro q
      exact h78 (UInt8.toNat_inj.1 (by rw [show (78 : UInt8).toNat = 78 from rfl]; omega))
    by_cases h66 : c = 66
    · have d2 : ((c.toNat : Int) == 66) = true := by rw [h66]; rfl
      have HW := Lib.hid (laid_any w s hs)
      rw [show rightB s c = (bytL s).isSome by unfold rightB; rw [if_neg h78, if_pos h66]]
      clear h78 h66 hs
      go_enter Tryz.func39, Tryz.ntmps39
      go_wp2_with fail
      (with_reducible refine HW.out.mono ?_)
      rintro e w1 ⟨v, rfl, -, f1⟩
      go_wp2
      go_ret
      exact ⟨rfl, f1⟩
    · have n66 : ((c.toNat : Int) == 66) = false := by
        rw [beq_eq_false_iff_ne]
        intro q
        exact h66 (UInt8.toNat_inj.1 (by rw [show (66 : UInt8).toNat = 66 from rfl]; omega))
      rw [show rightB s c = decide (s = oneB) by unfold rightB; rw [if_neg h78, if_neg h66]]
      clear h78 h66 hs
      go_enter Tryz.func39, Tryz.ntmps39
      go_wp2
      go_ret
      exact ⟨rfl, Fr.refl _ _⟩
/-- The first field from k on that is not as the letters say. -/
def wrongG (F : List ByteArray) (k : Nat) : List UInt8 → Flt
  | [] => overF F k
  | c :: r => if k < F.length then (if rightB (fld F k) c then wrongG F (k + 1) r else some (k, 281)) else some (k, 282)
def fltN (f : Flt) : Nat := match f with | none => 0 | some q => q.1
def fltC (f : Flt) : Int := match f with | none => 0 | some q => q.2
set_option maxRecDepth 100000 in
set_option maxHeartbeats 4000000 in
theorem wrong_fields (w : World) (g c k : Nat) (F : List ByteArray) (ls : ByteArray) (hF : ∀ i s, F[i]? = some s → w.cell? ⟨g, i, none⟩ = some (.string s)) (hFs : ∀ s ∈ F, s.size ≤ 4294967296) (hk : k ≤ 4294967296) (hl : ls.size ≤ 4294967296) (hn : F.length ≤ 4294967296) (hcap : F.length ≤ c) :
    Calls Tryz.prog 16 #[.slice (some ⟨g, 0, none⟩) F.length c, .int .i64 k, .string ls] w fun e w' => e = .returned (.tuple #[.int .i64 (fltN (wrongG F k ls.data.toList)), .int .i64 (fltC (wrongG F k ls.data.toList))]) ∧ Fr [] w w' := by
  obtain ⟨R, hR⟩ : ∃ R, R = wrongG F k ls.data.toList := ⟨_, rfl⟩
  rw [← hR]
  obtain ⟨n, hnn⟩ : ∃ n, n = F.length := ⟨_, rfl⟩
  have HN := Lib.hid hnn
  have HR := Lib.hid hR
  have HFF := Lib.hid (And.intro hF hFs)
  have k1 : (k : Int) ≤ 4294967296 := by omega
  have k2 : (ls.size : Int) ≤ 4294967296 := by omega
  have k3 : (n : Int) ≤ 4294967296 := by omega
  have k4 : (0 : Int) ≤ (k : Int) := by omega
  have HB := Lib.hid (And.intro hk (And.intro hl (And.intro hn hcap)))
  rw [← hnn]
  clear hR hnn hF hFs hk hl hn hcap
  go_enter Tryz.func16, Tryz.ntmps16
  go_wp2_with fail
  go_loopw [8] (fun iv wr => ∃ i : Nat, iv = .int .i64 i ∧ i ≤ ls.size ∧ R = wrongG F (k + i) (ls.data.toList.drop i) ∧ Fr [] w wr) (fun iv _ => ls.size - (match iv with | .int _ q => q.toNat | _ => 0))
  case atStart => exact ⟨0, rfl, Nat.zero_le _, HR.out, Fr.refl _ _⟩
  case round =>
    obtain ⟨i, rfl, hi, hr, hf⟩ := hrel
    obtain ⟨wi, hwi⟩ : ∃ wi : World, wi = wr := ⟨_, rfl⟩
    rw [← hwi] at hf ⊢
    clear hwi
    have HI := Lib.hid (And.intro hi (And.intro hi (And.intro hr hf)))
    have hi4 : (i : Int) ≤ 4294967296 := by omega
    have hi0 : (0 : Int) ≤ (i : Int) := by omega
    clear hi hr hf
    by_cases hlt : i < ls.size
    · have d1 : (i : Int) < (ls.size : Int) := by omega
      obtain ⟨a, ha⟩ : ∃ a : UInt8, ls[i] = a := ⟨_, rfl⟩
      have HL := Lib.hid (show ls.data.toList.drop i = a :: ls.data.toList.drop (i + 1) by rw [drop_at hlt, ha])
      by_cases hkn : k + i < n
      · have d2 : (k : Int) + (i : Int) < (n : Int) := by omega
        have hkF : k + i < F.length := by rw [← HN.out]; exact hkn
        have HLT := Lib.hid (And.intro hlt hkF)
        obtain ⟨x, hx⟩ : ∃ x, x = fld F (k + i) := ⟨_, rfl⟩
        have HFX := Lib.hid hx
        have hxi : F[k + i]? = some x := by rw [hx]; unfold fld; rw [List.getD_eq_getElem?_getD, List.getElem?_eq_getElem hkF, Option.getD_some]
        have HX := Lib.hid (HFF.out.2 x (List.mem_of_getElem? hxi))
        have hcell := HFF.out.1 _ _ hxi
        have HC := Lib.hid (And.intro (HI.out.2.2.2.cell (World.block_lt_of_cell? w _ hcell) (by simp) |>.trans hcell) (show g < wi.heap.size from Nat.lt_of_lt_of_le (World.block_lt_of_cell? w _ hcell) HI.out.2.2.2.size))
        have q1 : IntKind.i64.wrap ((k : Int) + (i : Int)) = (k : Int) + (i : Int) := by rw [IntKind.wrap_i64]; omega
        have q2 : ((k : Int) + (i : Int)).toNat = k + i := by omega
        have q3 : (0 : Int) ≤ (k : Int) + (i : Int) := by omega
        clear hkn hx hxi hcell hkF
        go_wp2_with fail
        refine region_grow (by kernel_rfl) (by kernel_rfl) [.is (.slice (some ⟨g, 0, none⟩) n c), .is (.int .i64 k), .is (.int .i64 i), .is (.int .i64 ((k : Int) + (i : Int))), .is (.pointer (some ⟨g, k + i, none⟩)), .is (.string x), .is (.string ls), .is (.int .i64 i), .is (.int .u8 (a.toNat : Int)), .is (.bool (rightB x a)), .is (.bool (rightB x a))] 51 rfl (by kernel_rfl) [(0, 25), (1, 26), (2, 27), (3, 28), (4, 29), (5, 30), (6, 31), (7, 32), (8, 33), (9, 34), (10, 9)] (by kernel_rfl) ?_ ?_
        · intro q a1 W1 i hi hnq hd hG K hK
          have hlt : i < 11 := hi
          have hc : i = 0 ∨ i = 1 ∨ i = 2 ∨ i = 3 ∨ i = 4 ∨ i = 5 ∨ i = 6 ∨ i = 7 ∨ i = 8 ∨ i = 9 ∨ i = 10 := by omega
          rcases hc with rfl | rfl | rfl | rfl | rfl | rfl | rfl | rfl | rfl | rfl | rfl
          · have e0 := hG.old 0 (by kernel_rfl)
            refine op_do rfl (wanted_none rfl) hK (fun K' hK' => ?_)
            unfold Oper.wp
            go_simp
            exact hK' _ _ (Fr.refl _ _) rfl
          · have e1 := hG.old 1 (by kernel_rfl)
            refine op_do rfl (wanted_none rfl) hK (fun K' hK' => ?_)
            unfold Oper.wp
            go_simp
            exact hK' _ _ (Fr.refl _ _) rfl
          · have e8 := hG.old 8 (by kernel_rfl)
            refine op_do rfl (wanted_none rfl) hK (fun K' hK' => ?_)
            unfold Oper.wp
            go_simp
            exact hK' _ _ (Fr.refl _ _) rfl
          · have e26 := hG.val (v := .int .i64 k) 1 26 (hd _ rfl ⟨1, .data⟩ (by simp) rfl) rfl rfl
            have e27 := hG.val (v := .int .i64 i) 2 27 (hd _ rfl ⟨2, .data⟩ (by simp) rfl) rfl rfl
            refine op_do rfl (wanted_none rfl) hK (fun K' hK' => ?_)
            unfold Oper.wp
            go_simp
            exact hK' _ _ (Fr.refl _ _) rfl
          · have e25 := hG.val (v := .slice (some ⟨g, 0, none⟩) n c) 0 25 (hd _ rfl ⟨0, .data⟩ (by simp) rfl) rfl rfl
            have e28 := hG.val (v := .int .i64 ((k : Int) + (i : Int))) 3 28 (hd _ rfl ⟨3, .data⟩ (by simp) rfl) rfl rfl
            refine op_do rfl (wanted_none rfl) hK (fun K' hK' => ?_)
            unfold Oper.wp
            go_simp
            exact hK' _ _ (Fr.refl _ _) rfl
          · have e29 := hG.val (v := .pointer (some ⟨g, k + i, none⟩)) 4 29 (hd _ rfl ⟨4, .data⟩ (by simp) rfl) rfl rfl
            have cc := (Fr.cell hG.grown (a := ⟨g, k + i, none⟩) HC.out.2 (by simp)).trans HC.out.1
            refine op_do rfl (wanted_none rfl) hK (fun K' hK' => ?_)
            unfold Oper.wp
            go_simp
            exact hK' _ _ (Fr.refl _ _) rfl
          · have e2 := hG.old 2 (by kernel_rfl)
            refine op_do rfl (wanted_none rfl) hK (fun K' hK' => ?_)
            unfold Oper.wp
            go_simp
            exact hK' _ _ (Fr.refl _ _) rfl
          · have e8 := hG.old 8 (by kernel_rfl)
            refine op_do rfl (wanted_none rfl) hK (fun K' hK' => ?_)
            unfold Oper.wp
            go_simp
            exact hK' _ _ (Fr.refl _ _) rfl
          · have e31 := hG.val (v := .string ls) 6 31 (hd _ rfl ⟨6, .data⟩ (by simp) rfl) rfl rfl
            have e32 := hG.val (v := .int .i64 i) 7 32 (hd _ rfl ⟨7, .data⟩ (by simp) rfl) rfl rfl
            refine op_do rfl (wanted_none rfl) hK (fun K' hK' => ?_)
            unfold Oper.wp
            go_simp
            exact hK' _ _ (Fr.refl _ _) rfl
          · have e30 := hG.val (v := .string x) 5 30 (hd _ rfl ⟨5, .data⟩ (by simp) rfl) rfl rfl
            have e33 := hG.val (v := .int .u8 (a.toNat : Int)) 8 33 (hd _ rfl ⟨8, .data⟩ (by simp) rfl) rfl rfl
            refine op_do rfl (wanted_none rfl) hK (fun K' hK' => ?_)
            unfold Oper.wp
            go_simp
            refine (right_any W1 x a HX.out).mono ?_
            rintro e W2 ⟨rfl, hf⟩
            exact hK' _ _ hf rfl
          · have e34 := hG.val (v := .bool (rightB x a)) 9 34 (hd _ rfl ⟨9, .data⟩ (by simp) rfl) rfl rfl
            refine op_do rfl (wanted_none rfl) hK (fun K' hK' => ?_)
            unfold Oper.wp
            go_simp
            exact hK' _ _ (Fr.refl _ _) rfl
        · intro vs W1 f1 hv
          have r0 : vs 0 = .slice (some ⟨g, 0, none⟩) n c := hv 0 25 (by decide) rfl
          have r1 : vs 1 = .int .i64 k := hv 1 26 (by decide) rfl
          have r2 : vs 2 = .int .i64 i := hv 2 27 (by decide) rfl
          have r3 : vs 3 = .int .i64 ((k : Int) + (i : Int)) := hv 3 28 (by decide) rfl
          have r4 : vs 4 = .pointer (some ⟨g, k + i, none⟩) := hv 4 29 (by decide) rfl
          have r5 : vs 5 = .string x := hv 5 30 (by decide) rfl
          have r6 : vs 6 = .string ls := hv 6 31 (by decide) rfl
          have r7 : vs 7 = .int .i64 i := hv 7 32 (by decide) rfl
          have r8 : vs 8 = .int .u8 (a.toNat : Int) := hv 8 33 (by decide) rfl
          have r9 : vs 9 = .bool (rightB x a) := hv 9 34 (by decide) rfl
          have r10 : vs 10 = .bool (rightB x a) := hv 10 9 (by decide) rfl
          simp only [lay, List.foldl_cons, List.foldl_nil, r0, r1, r2, r3, r4, r5, r6, r7, r8, r9, r10]
          simp only [List.setIfInBounds_toArray, List.set_cons_zero, List.set_cons_succ]
          clear hv r0 r1 r2 r3 r4 r5 r6 r7 r8 r9 r10
          have HF := Lib.hid f1
          clear f1
          cases hr : rightB x a with
          | true =>
            have HN := Lib.hid (show R = wrongG F (k + (i + 1)) (ls.data.toList.drop (i + 1)) by rw [HI.out.2.2.1, HL.out, wrongG, if_pos HLT.out.2, if_pos (by rw [← HFX.out]; exact hr), Nat.add_assoc])
            clear hr
            go_wp2
            exact ⟨⟨i + 1, rfl, by have := HLT.out.1; omega, HN.out, HI.out.2.2.2.trans HF.out (by simp)⟩, by have := HLT.out.1; show ls.size - ((i : Int) + 1).toNat < ls.size - ((i : Nat) : Int).toNat; omega⟩
          | false =>
            have HN := Lib.hid (show R = some (k + i, 281) by rw [HI.out.2.2.1, HL.out, wrongG, if_pos HLT.out.2, if_neg (by rw [← HFX.out, hr]; simp)])
            clear hr
            go_wp2
            go_ret2
            exact ⟨by rw [HN.out]; rfl, HI.out.2.2.2.trans HF.out (by simp)⟩
      · have d2 : (n : Int) ≤ (k : Int) + (i : Int) := by omega
        have HE := Lib.hid (show R = some (k + i, 282) by rw [HI.out.2.2.1, HL.out, wrongG, if_neg (by rw [← HN.out]; exact hkn)])
        clear hkn hlt ha
        go_wp2
        go_ret2
        exact ⟨by rw [HE.out]; rfl, HI.out.2.2.2⟩
    · obtain rfl : i = ls.size := by have := HI.out.1; omega
      have HE := Lib.hid (show R = overF F (k + ls.size) by rw [HI.out.2.2.1, drop_end (Nat.lt_irrefl _)]; rfl)
      by_cases ho : k + ls.size < n
      · have d2 : (k : Int) + (ls.size : Int) < (n : Int) := by omega
        have HE2 := Lib.hid (show R = some (k + ls.size, 282) by rw [HE.out]; exact if_pos (by rw [← HN.out]; exact ho))
        clear ho hlt
        go_wp2
        go_ret2
        exact ⟨by rw [HE2.out]; rfl, HI.out.2.2.2⟩
      · have d2 : (n : Int) ≤ (k : Int) + (ls.size : Int) := by omega
        have HE2 := Lib.hid (show R = none by rw [HE.out]; exact if_neg (by rw [← HN.out]; exact ho))
        clear ho hlt
        go_wp2
        go_ret2
        exact ⟨by rw [HE2.out]; rfl, HI.out.2.2.2⟩
end Sc
end Go.Proofs.YtbpgpjibljgiiaaGreatDoor
namespace Go.Proofs.YtbpgpjibljgiiaaGreatDoor
open Go.RowKit
set_option linter.unusedVariables false
set_option linter.unusedSimpArgs false
attribute [local go_sem] Oper.semAt_some
namespace Sc
/-- The pieces of a text, something put ahead of the first. -/
def pre (a : List UInt8) (l : List UInt8) : List (List UInt8) := match pieces 32 l with
  | [] => [a]
  | p :: r => (a ++ p) :: r
theorem pre_nil (l : List UInt8) : pre [] l = pieces 32 l := by
  unfold pre
  obtain ⟨p, r, h⟩ := List.exists_cons_of_ne_nil (pieces_ne 32 l)
  rw [h]; rfl
theorem pre_end (a : List UInt8) : pre a [] = [a] := by simp [pre, pieces]
theorem pre_blank (a l : List UInt8) : pre a (32 :: l) = a :: pieces 32 l := by simp [pre, pieces]
theorem pre_other (a : List UInt8) {c : UInt8} (l : List UInt8) (h : c ≠ 32) : pre a (c :: l) = pre (a ++ [c]) l := by
  unfold pre
  rw [pieces, if_neg h]
  obtain ⟨p, r, hp⟩ := List.exists_cons_of_ne_nil (pieces_ne 32 l)
  rw [hp]
  simp
theorem infoS9 : (Tryz.prog.info? 9).map (fun i => (i.zero, i.size, i.bytes)) = some (some (.string ⟨#[]⟩), 1, 16) := by kernel_rfl
def mkB (P : List (List UInt8)) : List ByteArray := P.map fun l => ⟨l.toArray⟩
/-- A list of texts that lies in memory of its own. -/
def StrV (W : World) (n0 : Nat) (v : Value) (L : List ByteArray) : Prop := W.ownsRow 0 9 1 v L.length (strs L) ∧ ∀ g, v.ownBlock = some g → n0 ≤ g
theorem StrV.nil (W : World) (n0 : Nat) : StrV W n0 (.slice none 0 0) [] := ⟨World.ownsRow_nil _ _ _ _, by simp [Value.ownBlock]⟩
theorem StrV.form {W : World} {n0 : Nat} {v : Value} {L : List ByteArray} (h : StrV W n0 v L) : ∃ p c, v = .slice p L.length c := own_form h.1
theorem StrV.push {w W W5 W' : World} {v v' : Value} {L : List ByteArray} {x : ByteArray} (h : StrV W w.heap.size v L) (f : Fr [] w W5) (happ : Appended W5 9 1 v (L.length + 1) (strs L ++ [.string x]) v' W') : StrV W' w.heap.size v' (L ++ [x]) ∧ Fr [] w W' := by
  refine ⟨⟨?_, fun g hg => ?_⟩, f.trans happ.fr (fun y hy => .inr (h.2 y (by simpa using hy)))⟩
  · have := happ.own
    rw [List.length_append, List.length_singleton]
    simpa [strs] using this
  · rcases happ.place with q | q
    · exact h.2 g (by rw [← q]; exact hg)
    · rw [q] at hg; cases hg; exact f.size
set_option maxRecDepth 100000 in
set_option maxHeartbeats 4000000 in
theorem fields_any (w : World) (s : ByteArray) (hs : s.size ≤ 4294967296) : Calls Tryz.prog 15 #[.string s] w fun e w' => ∃ v, e = .returned v ∧ StrV w' w.heap.size v (fieldsB s) ∧ Fr [] w w' := by
  have hs1 : (s.size : Int) ≤ 4294967296 := by omega
  have HS := Lib.hid hs
  clear hs
  go_enter Tryz.func15, Tryz.ntmps15
  go_wp2_with fail
  go_loopw [3, 4, 5] (fun v fv iv wr => ∃ (i f : Nat) (P : List (List UInt8)), fv = .int .i64 f ∧ iv = .int .i64 i ∧ P.length ≤ i ∧ StrV wr w.heap.size v (mkB P) ∧ Fr [] w wr ∧ ((i ≤ s.size ∧ f ≤ i ∧ pieces 32 s.data.toList = P ++ pre ((s.data.toList.take i).drop f) (s.data.toList.drop i)) ∨ (i = s.size + 1 ∧ f ≤ i ∧ pieces 32 s.data.toList = P))) (fun _ _ iv _ => s.size + 1 - (match iv with | .int _ q => q.toNat | _ => 0))
  case atStart => exact ⟨0, 0, [], rfl, rfl, Nat.le_refl _, StrV.nil _ _, Fr.refl _ _, .inl ⟨Nat.zero_le _, Nat.le_refl _, by simp [pre_nil]⟩⟩
  case round =>
    obtain ⟨i, f, P, rfl, rfl, hPl, hv, hf, hc⟩ := hrel
    obtain ⟨wi, hwi⟩ : ∃ wi : World, wi = wr := ⟨_, rfl⟩
    rw [← hwi] at hf hv ⊢
    clear hwi
    obtain ⟨pv, cv, rfl⟩ := hv.form
    have hfi : f ≤ i := by rcases hc with h | h <;> exact h.2.1
    have hi1 : i ≤ s.size + 1 := by rcases hc with h | h <;> have := h.1 <;> omega
    have HV := Lib.hid (And.intro hv (And.intro hf (And.intro hPl hc)))
    have k0 : (0 : Int) ≤ (i : Int) := by omega
    have k1 : (i : Int) ≤ 4294967297 := by have := HS.out; omega
    have k2 : (0 : Int) ≤ (f : Int) := by omega
    have k3 : (f : Int) ≤ (i : Int) := by omega
    have HFI := Lib.hid (And.intro hfi hi1)
    clear hv hf hPl hc
    by_cases hle : i ≤ s.size
    · have d1 : (i : Int) ≤ (s.size : Int) := by omega
      have hm : pieces 32 s.data.toList = P ++ pre ((s.data.toList.take i).drop f) (s.data.toList.drop i) := by
        rcases HV.out.2.2.2 with h | h
        · exact h.2.2
        · omega
      have HM := Lib.hid hm
      have hx : (s.extract f i).data.toList = (s.data.toList.take i).drop f := by
        rw [ByteArray.data_extract, Array.toList_extract, List.extract_eq_take_drop, List.drop_take]
      obtain ⟨X, hX⟩ : ∃ X, X = s.extract f i := ⟨_, rfl⟩
      have HX := Lib.hid (show X = ⟨((s.data.toList.take i).drop f).toArray⟩ from by
        rw [hX]
        apply ByteArray.ext
        apply Array.toList_inj.1
        exact hx)
      have hX2 : s.extract f i = X := hX.symm
      have HOW := Lib.hid (And.intro (own_fr HV.out.1.1 ((Fr.refl [] wi).alloc (.cells #[.string X] 9)) (by simp)) (new_list wi [.string X] 9 _ rfl))
      have hmk : (mkB P).length = P.length := by simp [mkB]
      have HLN := Lib.hid (show (mkB P).length ≤ 4294967297 by have h1 := HV.out.2.2.1; have h2 := HS.out; omega)
      clear hmk
      clear hm hx hX hfi hi1
      by_cases hend : i = s.size
      · have e1 : ((i : Int) == (s.size : Int)) = true := by rw [hend]; exact beq_self_eq_true _
        have HEN := Lib.hid hend
        clear hle hend
        go_wp2_with (at_builtin; go_must (refine wpList_app _ rfl _ _ 46 rfl 9 (.string ⟨#[]⟩) 1 16 Tryz.underlying46 infoS9 rfl (by decide) (.slice pv (mkB P).length cv) (mkB P).length (strs (mkB P)) rfl HOW.out.1 ⟨wi.heap.size, 0, none⟩ 1 1 [.string X] rfl rfl HOW.out.2 (by simp [Value.oneCell']) (by have := HLN.out; unfold maxLen; omega) (by have := HLN.out; omega) ?_); intro v1 w4 happ; have HAP := Lib.hid happ; clear happ)
        obtain ⟨q1, q2⟩ := HV.out.1.push (HV.out.2.1.trans ((Fr.refl [] wi).alloc (.cells #[.string X] 9)) (by simp)) HAP.out
        have h3 : mkB P ++ [X] = mkB (P ++ [(s.data.toList.take i).drop f]) := by rw [HX.out]; simp [mkB]
        rw [h3] at q1
        exact ⟨⟨i + 1, i + 1, _, rfl, rfl, by rw [List.length_append, List.length_singleton]; have := HV.out.2.2.1; omega, q1, q2, .inr ⟨by rw [HEN.out], Nat.le_refl _, by rw [HM.out, HEN.out, drop_end (Nat.lt_irrefl _), pre_end]⟩⟩, by have := HEN.out; show s.size + 1 - ((i : Int) + 1).toNat < s.size + 1 - ((i : Nat) : Int).toNat; omega⟩
      · have e1 : ((i : Int) == (s.size : Int)) = false := by rw [beq_eq_false_iff_ne]; omega
        have hlt : i < s.size := by omega
        have d2 : (i : Int) < (s.size : Int) := by omega
        obtain ⟨a, ha⟩ : ∃ a : UInt8, s[i] = a := ⟨_, rfl⟩
        have HL := Lib.hid (show s.data.toList.drop i = a :: s.data.toList.drop (i + 1) by rw [drop_at hlt, ha])
        have HLT := Lib.hid hlt
        clear hle hend
        by_cases hb : a = 32
        · have e2 : ((a.toNat : Int) == 32) = true := by rw [hb]; rfl
          have HBL := Lib.hid hb
          clear hb
          go_wp2_with (at_builtin; go_must (refine wpList_app _ rfl _ _ 46 rfl 9 (.string ⟨#[]⟩) 1 16 Tryz.underlying46 infoS9 rfl (by decide) (.slice pv (mkB P).length cv) (mkB P).length (strs (mkB P)) rfl HOW.out.1 ⟨wi.heap.size, 0, none⟩ 1 1 [.string X] rfl rfl HOW.out.2 (by simp [Value.oneCell']) (by have := HLN.out; unfold maxLen; omega) (by have := HLN.out; omega) ?_); intro v1 w4 happ; have HAP := Lib.hid happ; clear happ)
          obtain ⟨q1, q2⟩ := HV.out.1.push (HV.out.2.1.trans ((Fr.refl [] wi).alloc (.cells #[.string X] 9)) (by simp)) HAP.out
          have h3 : mkB P ++ [X] = mkB (P ++ [(s.data.toList.take i).drop f]) := by rw [HX.out]; simp [mkB]
          rw [h3] at q1
          have h4 : (s.data.toList.take (i + 1)).drop (i + 1) = [] := List.drop_eq_nil_of_le (by rw [List.length_take]; omega)
          exact ⟨⟨i + 1, i + 1, _, rfl, rfl, by rw [List.length_append, List.length_singleton]; have := HV.out.2.2.1; omega, q1, q2, .inl ⟨by have := HLT.out; omega, Nat.le_refl _, by rw [HM.out, HL.out, HBL.out, pre_blank, h4, pre_nil, List.append_assoc]; rfl⟩⟩, by have := HLT.out; show s.size + 1 - ((i : Int) + 1).toNat < s.size + 1 - ((i : Nat) : Int).toNat; omega⟩
        · have e2 : ((a.toNat : Int) == 32) = false := by
            rw [beq_eq_false_iff_ne]
            intro q
            exact hb (UInt8.toNat_inj.1 (by rw [show (32 : UInt8).toNat = 32 from rfl]; omega))
          have HBL := Lib.hid hb
          clear hb
          go_wp2
          have hl : i < s.data.toList.length := by rw [Array.length_toList]; exact HLT.out
          have hai : s.data.toList[i] = a := by
            have := HL.out
            rw [List.drop_eq_getElem_cons hl] at this
            exact (List.cons.inj this).1
          have h4 : (s.data.toList.take (i + 1)).drop f = (s.data.toList.take i).drop f ++ [a] := by
            rw [List.take_succ_eq_append_getElem hl, List.drop_append_of_le_length (by rw [List.length_take]; have := HFI.out.1; omega), hai]
          exact ⟨⟨i + 1, f, P, rfl, rfl, by have := HV.out.2.2.1; omega, HV.out.1, HV.out.2.1, .inl ⟨by have := HLT.out; omega, by have := HFI.out.1; omega, by rw [HM.out, HL.out, pre_other _ _ HBL.out, h4]⟩⟩, by have := HLT.out; show s.size + 1 - ((i : Int) + 1).toNat < s.size + 1 - ((i : Nat) : Int).toNat; omega⟩
    · have d1 : (s.size : Int) < (i : Int) := by omega
      have HF := Lib.hid (show fieldsB s = mkB P from by
        unfold fieldsB mkB
        rcases HV.out.2.2.2 with h | h
        · exact absurd h.1 hle
        · rw [h.2.2])
      clear hle hfi hi1
      go_wp2
      go_ret
      rw [HF.out]
      exact ⟨_, rfl, HV.out.1, HV.out.2.1⟩
end Sc
end Go.Proofs.YtbpgpjibljgiiaaGreatDoor
