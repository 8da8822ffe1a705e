/-
  Script: a field that is bytes. Printed by genBy.py.
-/
import Derived.Test.YtbpgpjibljgiiaaGreatDoorWrdA
import Derived.Test.YtbpgpjibljgiiaaGreatDoorShelf
namespace Go.Proofs.YtbpgpjibljgiiaaGreatDoor
open Go.RowKit
set_option linter.unusedVariables false
set_option linter.unusedSimpArgs false
attribute [local go_sem] Oper.semAt_some
namespace Sc
theorem own_form {w : World} {base e size k : Nat} {v : Value} {xs : List Value} (h : w.ownsRow base e size v k xs) : ∃ p c, v = .slice p k c := by
  rcases h.2 with ⟨rfl, rfl⟩ | ⟨g, cap, cur, rfl, _⟩
  · exact ⟨_, _, rfl⟩
  · exact ⟨_, _, rfl⟩
theorem new_list (w : World) (l : List Value) (e : TypeId) (k : Nat) (hk : k = w.heap.size) : ∀ j x, l[j]? = some x → (w.alloc (.cells l.toArray e)).cell? ((⟨k, 0, none⟩ : Addr).add j) = some x := by
  subst hk
  intro j x hj
  rw [Addr.add_lit, Nat.zero_add]
  exact (Blk.new w l.toArray e).at j (by simpa using hj)
def digT : ByteArray := ⟨#[48, 49, 50, 51, 52, 53, 54, 55, 56, 57, 97, 98, 99, 100, 101, 102]⟩
/-- A digit's value, or -1. -/
def nib (c : UInt8) : Int := Lib.indexByte digT.data.toList c
/-- The bytes of a text of digits. -/
def hexL : List UInt8 → Option (List Int)
  | [] => some []
  | [_] => some []
  | a :: b :: l => if nib a < 0 ∨ nib b < 0 then none else (hexL l).map (fun t => (nib a * 16 + nib b) :: t)
def dashB : ByteArray := ⟨#[45]⟩
/-- What bytes answers: the list, the fault. -/
def bytL (s : ByteArray) : Option (List Int) := if s = dashB then some [] else if s.size = 0 ∨ s.size % 2 ≠ 0 then none else hexL s.data.toList
def bytF (F : List ByteArray) (k : Nat) : Flt := if k < F.length then (if (bytL (fld F k)).isSome then none else some (k, 281)) else some (k, 282)
def bytN (F : List ByteArray) (k : Nat) : List Int := if k < F.length then (bytL (fld F k)).getD [] else []
def u8s (l : List Int) : List Value := l.map (fun z => Value.int .u8 z)
theorem infoU8 : (Tryz.prog.info? 5).map (fun i => (i.zero, i.size, i.bytes)) = some (some (.int .u8 0), 1, 1) := by kernel_rfl
theorem nib_range (c : UInt8) : -1 ≤ nib c ∧ nib c ≤ 15 := by
  have : ∀ c : Fin 256, -1 ≤ nib (UInt8.ofNat c) ∧ nib (UInt8.ofNat c) ≤ 15 := by decide +kernel
  have h := this ⟨c.toNat, c.toNat_lt⟩
  simpa using h
theorem or16' : ∀ a b : Fin 16, bits .or .i64 ((a.val : Int) * 16) (b.val : Int) % 256 = (a.val : Int) * 16 + b.val := by decide +kernel
theorem or16 (x y : Int) (h1 : 0 ≤ x) (h2 : x ≤ 15) (h3 : 0 ≤ y) (h4 : y ≤ 15) : bits .or .i64 (x * 16) y % 256 = x * 16 + y := by
  have h := or16' ⟨x.toNat, by omega⟩ ⟨y.toNat, by omega⟩
  simp only [show ((x.toNat : Nat) : Int) = x by omega, show ((y.toNat : Nat) : Int) = y by omega] at h
  exact h
set_option maxRecDepth 100000 in
set_option maxHeartbeats 4000000 in
theorem bytes_any (w : World) (r gF k : Nat) (F : List ByteArray) (h : RowAt w r gF F k) (hF : ∀ s ∈ F, s.size ≤ 4294967296) :
    Calls Tryz.prog 62 #[.pointer (some ⟨r, 0, none⟩)] w fun e w' => ∃ v fv, e = .returned (.tuple #[v, fv]) ∧ RPost w r gF F (nextK F k) (bytF F k) fv w' ∧ w'.ownsRow 0 5 1 v (bytN F k).length (u8s (bytN F k)) ∧ ∀ g, v.ownBlock = some g → w.heap.size ≤ g := by
  have H1 := Lib.hid (next_any w r gF k F h)
  have HW := Lib.hid (fun W (h : RowAt W r gF F (k + 1)) => wrong_any W r gF k F h)
  have HI := Lib.hid (fun W (c : Int) => Tryz.strings_IndexByte digT c W)
  by_cases hlt : k < F.length
  · have hs : (fld F k).size ≤ 4294967296 := hF _ (by unfold fld; rw [List.getD_eq_getElem?_getD, List.getElem?_eq_getElem hlt]; exact List.getElem_mem hlt)
    rw [bytF, bytN, if_pos hlt, if_pos hlt]
    rw [nextK, nextF, if_pos hlt, if_pos hlt] at H1
    rw [nextK, if_pos hlt]
    rw [show F.getD k ⟨#[]⟩ = fld F k from rfl] at H1
    generalize fld F k = s at H1 hs ⊢
    clear h
    by_cases hd : s = dashB
    · have e1 : (s.toList == [45]) = true := by rw [hd]; kernel_rfl
      have e2 : (s.toList == (⟨#[45]⟩ : ByteArray).toList) = true := by rw [hd]; kernel_rfl
      have HD := Lib.hid (show bytL s = some [] from if_pos hd)
      rw [HD.out]
      clear hd
      go_enter Tryz.func62, Tryz.ntmps62
      go_wp2_with fail
      (with_reducible refine H1.out.mono ?_)
      rintro e w1 ⟨fv, rfl, hr, rfl, f1⟩
      have HR := Lib.hid (And.intro hr f1)
      clear hr f1
      go_wp2
      go_ret2
      exact ⟨_, _, rfl, ⟨HR.out.1, rfl, HR.out.2⟩, World.ownsRow_nil _ _ _ _, by simp [Value.ownBlock]⟩
    · have d1 : (s.toList == (⟨#[45]⟩ : ByteArray).toList) = false := by rw [toList_beq]; exact decide_eq_false hd
      have d2 : (s.toList == [45]) = false := by rw [← d1]; rw [ByteArray.toList_eq (⟨#[45]⟩ : ByteArray)]
      have HD := Lib.hid hd
      clear hd
      by_cases h0 : s.size = 0 ∨ s.size % 2 ≠ 0
      · have HB := Lib.hid (show bytL s = none by unfold bytL; rw [if_neg HD.out, if_pos h0])
        rw [HB.out]
        rcases Nat.eq_zero_or_pos s.size with hz | hz
        · have hse : s = ⟨#[]⟩ := by
            obtain ⟨a⟩ := s
            have : a.size = 0 := hz
            rw [Array.eq_empty_of_size_eq_zero this]
          have e1 : (s.toList == []) = true := by rw [hse]; kernel_rfl
          have e2 : (s.toList == (⟨#[]⟩ : ByteArray).toList) = true := by rw [hse]; kernel_rfl
          clear hse h0 hs hF
          go_enter Tryz.func62, Tryz.ntmps62
          go_wp2_with fail
          (with_reducible refine H1.out.mono ?_)
          rintro e w1 ⟨fv, rfl, hr, rfl, f1⟩
          have HR := Lib.hid (And.intro hr f1)
          clear hr f1
          go_wp2_with (go_at_call 34; refine (HW.out _ HR.out.1).mono ?_; rintro e w2 ⟨fv2, rfl, hp⟩)
          go_ret2
          exact ⟨_, _, rfl, RPost.after HR.out.2 hp, World.ownsRow_nil _ _ _ _, by simp [Value.ownBlock]⟩
        · have hne : s ≠ ⟨#[]⟩ := fun e => by rw [e] at hz; exact absurd hz (by decide)
          have e2 : (s.toList == (⟨#[]⟩ : ByteArray).toList) = false := by rw [toList_beq]; exact decide_eq_false hne
          have e1 : (s.toList == []) = false := by rw [← e2]; rw [ByteArray.toList_eq (⟨#[]⟩ : ByteArray)]
          have k0 : (0 : Int) < (s.size : Int) := by omega
          have k2 : ((s.size : Int) % 2 != 0) = true := by rw [bne_iff_ne]; omega
          have HSZ := Lib.hid (And.intro hs hF)
          clear hne h0 hF
          go_enter Tryz.func62, Tryz.ntmps62
          go_wp2_with fail
          (with_reducible refine H1.out.mono ?_)
          rintro e w1 ⟨fv, rfl, hr, rfl, f1⟩
          have HR := Lib.hid (And.intro hr f1)
          clear hr f1
          go_wp2_with (go_at_call 34; refine (HW.out _ HR.out.1).mono ?_; rintro e w2 ⟨fv2, rfl, hp⟩)
          go_ret2
          exact ⟨_, _, rfl, RPost.after HR.out.2 hp, World.ownsRow_nil _ _ _ _, by simp [Value.ownBlock]⟩
      · have hz : 0 < s.size := by omega
        have HB := Lib.hid (show bytL s = hexL s.data.toList by unfold bytL; rw [if_neg HD.out, if_neg h0])
        rw [HB.out]
        obtain ⟨fl, hfl⟩ : ∃ fl : Flt, fl = if (hexL s.data.toList).isSome then none else some (k, 281) := ⟨_, rfl⟩
        obtain ⟨bl, hbl⟩ : ∃ bl : List Int, bl = (hexL s.data.toList).getD [] := ⟨_, rfl⟩
        rw [← hfl, ← hbl]
        have HFL := Lib.hid (And.intro hfl hbl)
        clear hfl hbl
        have hne : s ≠ ⟨#[]⟩ := fun e => by rw [e] at hz; exact absurd hz (by decide)
        have e2 : (s.toList == (⟨#[]⟩ : ByteArray).toList) = false := by rw [toList_beq]; exact decide_eq_false hne
        have e1 : (s.toList == []) = false := by rw [← e2]; rw [ByteArray.toList_eq (⟨#[]⟩ : ByteArray)]
        have k2 : ((s.size : Int) % 2 != 0) = false := by rw [bne_eq_false_iff_eq]; omega
        have HSZ := Lib.hid (And.intro hs (show s.size % 2 = 0 by omega))
        clear hne h0 hF hs hz
        go_enter Tryz.func62, Tryz.ntmps62
        go_wp2_with fail
        (with_reducible refine H1.out.mono ?_)
        rintro e w1 ⟨fv, rfl, hr, rfl, f1⟩
        have HR := Lib.hid (And.intro hr f1)
        clear hr f1
        go_wp2_with fail
        go_loopw [6, 7] (fun v i wr => ∃ (j : Nat) (L : List Int), i = .int .i64 ((2 * j : Nat) : Int) ∧ 2 * j ≤ s.size ∧ hexL s.data.toList = (hexL (s.data.toList.drop (2 * j))).map (fun t => L ++ t) ∧ L.length = j ∧ wr.ownsRow 0 5 1 v L.length (u8s L) ∧ (∀ g, v.ownBlock = some g → w1.heap.size ≤ g) ∧ Fr [] w1 wr) (fun _ i _ => s.size - (match i with | .int _ q => q.toNat | _ => 0))
        case atStart => exact ⟨0, [], rfl, by omega, by simp, rfl, World.ownsRow_nil _ _ _ _, by simp [Value.ownBlock], Fr.refl _ _⟩
        case round =>
          obtain ⟨j, L, rfl, hj, hx, hl, ho, hg, hf⟩ := hrel
          obtain ⟨wi, hwi⟩ : ∃ wi : World, wi = wr := ⟨_, rfl⟩
          rw [← hwi] at hf ho ⊢
          clear hwi
          obtain ⟨pv, cv, rfl⟩ := own_form ho
          obtain ⟨n, hn⟩ : ∃ n, n = 2 * j := ⟨_, rfl⟩
          rw [← hn] at hj hx ⊢
          have HJ := Lib.hid (And.intro hx (And.intro hl (And.intro ho (And.intro hg (And.intro hf hn)))))
          clear hx hl ho hg hf hn
          by_cases hlt2 : n < s.size
          · have h1 : n + 1 < s.size := by have := HJ.out.2.2.2.2.2; have := HSZ.out.2; omega
            have k3 : (n : Int) < (s.size : Int) := by omega
            have k4 : (n : Int) + 1 < (s.size : Int) := by omega
            have k5 : (0 : Int) ≤ (n : Int) := by omega
            have k6 : (n : Int) ≤ 4294967296 := by have := HSZ.out.1; omega
            obtain ⟨a, ha⟩ : ∃ a : UInt8, s[n] = a := ⟨_, rfl⟩
            obtain ⟨b, hb⟩ : ∃ b : UInt8, s[n + 1] = b := ⟨_, rfl⟩
            have HAB := Lib.hid (show s.data.toList.drop n = a :: b :: s.data.toList.drop (n + 2) by rw [drop_at hlt2, drop_at h1, ha, hb])
            have HIa := Lib.hid (fun W (c : UInt8) => show Calls Tryz.prog 84 #[.string ⟨#[48, 49, 50, 51, 52, 53, 54, 55, 56, 57, 97, 98, 99, 100, 101, 102]⟩, .int .u8 (c.toNat : Int)] W fun e w' => e = .returned (.int .i64 (nib c)) ∧ w' = W from (HI.out W (c.toNat : Int)).mono fun e w' q => ⟨by rw [q.1]; simp [nib], q.2⟩)
            have na := nib_range a
            have nb := nib_range b
            go_wp2_with fail
            go_quiet (first | (go_at_call 84; refine (HIa.out _ _).mono ?_; exact fun _ _ h => ⟨h.1, _, h.2⟩))
            generalize hw : wi.drewN _ = wj
            have HWJ := Lib.hid (show Fr [] wi wj from by rw [← hw]; exact (Fr.refl _ _).drewN _)
            clear hw ha hb HIa
            by_cases hbad : nib a < 0 ∨ nib b < 0
            · have HX := Lib.hid (show hexL s.data.toList = none by rw [HJ.out.1, HAB.out, hexL, if_pos hbad]; rfl)
              rcases Int.lt_or_le (nib a) 0 with q1 | q1
              · clear hbad
                go_wp2_with (go_at_call 34; refine (HW.out _ (HR.out.1.fr (HJ.out.2.2.2.2.1.trans HWJ.out (by simp)) (by simp) (by simp))).mono ?_; rintro e w2 ⟨fv2, rfl, hp⟩)
                go_ret2
                have hb : bl = [] := by rw [HFL.out.2, HX.out]; rfl
                have hf : fl = some (k, 281) := by rw [HFL.out.1, HX.out]; rfl
                subst hb; subst hf
                exact ⟨_, _, rfl, RPost.after (HR.out.2.trans (HJ.out.2.2.2.2.1.trans HWJ.out (by simp)) (by simp)) hp, World.ownsRow_nil _ _ _ _, by simp [Value.ownBlock]⟩
              · have q2 : nib b < 0 := by omega
                clear hbad
                go_wp2_with (go_at_call 34; refine (HW.out _ (HR.out.1.fr (HJ.out.2.2.2.2.1.trans HWJ.out (by simp)) (by simp) (by simp))).mono ?_; rintro e w2 ⟨fv2, rfl, hp⟩)
                go_ret2
                have hb : bl = [] := by rw [HFL.out.2, HX.out]; rfl
                have hf : fl = some (k, 281) := by rw [HFL.out.1, HX.out]; rfl
                subst hb; subst hf
                exact ⟨_, _, rfl, RPost.after (HR.out.2.trans (HJ.out.2.2.2.2.1.trans HWJ.out (by simp)) (by simp)) hp, World.ownsRow_nil _ _ _ _, by simp [Value.ownBlock]⟩
            · have HX := Lib.hid (show hexL s.data.toList = (hexL (s.data.toList.drop (n + 2))).map (fun t => (L ++ [nib a * 16 + nib b]) ++ t) by
                rw [HJ.out.1, HAB.out, hexL, if_neg hbad, Option.map_map]
                congr 1
                funext t
                simp)
              have q1 : 0 ≤ nib a := by omega
              have q2 : 0 ≤ nib b := by omega
              have q3 : nib a ≤ 15 := na.2
              have q4 : nib b ≤ 15 := nb.2
              clear hbad na nb
              generalize nib a = x at *
              generalize nib b = y at *
              obtain ⟨z, hz⟩ : ∃ z, bits .or .i64 (x * 16) y % 256 = z := ⟨_, rfl⟩
              have HZ := Lib.hid (show z = x * 16 + y by rw [← hz]; exact or16 x y q1 q3 q2 q4)
              have HOW := Lib.hid (And.intro (own_fr HJ.out.2.2.1 ((HWJ.out.alloc (.cells #[.int .u8 z] 5)).drew) (by simp)) (new_list wj [.int .u8 z] 5 _ rfl))
              have HLN := Lib.hid (show L.length ≤ 4294967296 by have := HJ.out.2.1; have := HJ.out.2.2.2.2.2; have := HSZ.out.1; omega)
              go_wp2_with (at_builtin; go_must (refine wpList_app _ rfl _ _ 62 rfl 5 (.int .u8 0) 1 1 Tryz.underlying62 infoU8 rfl (by decide) (.slice pv L.length cv) L.length (u8s L) rfl HOW.out.1 ⟨wj.heap.size, 0, none⟩ 1 1 [.int .u8 z] rfl rfl HOW.out.2 (by simp [Value.oneCell']) (by have := HLN.out; unfold maxLen; omega) (by have := HLN.out; omega) ?_); intro v1 w4 happ; have HAP := Lib.hid happ; clear happ)
              have f5 : Fr [] w1 (wj.alloc (.cells #[.int .u8 z] 5)) := HJ.out.2.2.2.2.1.trans (HWJ.out.alloc _) (by simp)
              have f4 : Fr [] w1 w4 := f5.trans HAP.out.fr (fun x hx => .inr (HJ.out.2.2.2.1 x (by simpa using hx)))
              have hgo : ∀ g, v1.ownBlock = some g → w1.heap.size ≤ g := fun g hg => by
                rcases HAP.out.place with q | q
                · exact HJ.out.2.2.2.1 g (by rw [← q]; exact hg)
                · rw [q] at hg; cases hg; exact Nat.le_trans f5.size (Nat.le_of_eq rfl) |> fun h => by
                    have := (HJ.out.2.2.2.2.1.trans HWJ.out (by simp)).size
                    simpa using Nat.le_trans this (by simp)
              have hown : w4.ownsRow 0 5 1 v1 (L ++ [z]).length (u8s (L ++ [z])) := by
                have := HAP.out.own
                rw [List.length_append, List.length_singleton]
                simpa [u8s] using this
              have hx2 : hexL s.data.toList = (hexL (s.data.toList.drop (2 * (j + 1)))).map (fun t => (L ++ [z]) ++ t) := by
                rw [show 2 * (j + 1) = n + 2 by have := HJ.out.2.2.2.2.2; omega, HZ.out]; exact HX.out
              exact ⟨⟨j + 1, L ++ [z], by rw [show ((n : Int) + (2 : Int)) = ((2 * (j + 1) : Nat) : Int) by have := HJ.out.2.2.2.2.2; omega], by have := HJ.out.2.2.2.2.2; have := HSZ.out.2; omega, hx2, by rw [List.length_append, HJ.out.2.1]; rfl, hown, hgo, f4⟩, by show s.size - ((n : Int) + 2).toNat < s.size - ((n : Nat) : Int).toNat; omega⟩
          · obtain rfl : n = s.size := by omega
            have k3 : ¬ ((s.size : Int) < (s.size : Int)) := by omega
            go_wp2
            go_ret2
            have hlst : s.data.toList.drop s.size = [] := drop_end (by omega)
            have hx := HJ.out.1
            rw [hlst] at hx
            have hx2 : hexL s.data.toList = some L := by rw [hx]; simp [hexL]
            have hb : bl = L := by rw [HFL.out.2, hx2]; rfl
            have hf : fl = none := by rw [HFL.out.1, hx2]; rfl
            subst hb; subst hf
            exact ⟨_, _, rfl, ⟨HR.out.1.fr HJ.out.2.2.2.2.1 (by simp) (by simp), rfl, HR.out.2.trans HJ.out.2.2.2.2.1 (by simp)⟩, HJ.out.2.2.1, fun g hg => Nat.le_trans HR.out.2.size (HJ.out.2.2.2.1 g hg)⟩
  · rw [bytF, bytN, if_neg hlt, if_neg hlt, nextK, if_neg hlt]
    rw [nextK, nextF, if_neg hlt, if_neg hlt] at H1
    generalize F.getD k ⟨#[]⟩ = s at H1
    clear h
    go_enter Tryz.func62, Tryz.ntmps62
    go_wp2_with fail
    (with_reducible refine H1.out.mono ?_)
    rintro e w1 ⟨fv, rfl, hr, ⟨b, rfl, hb, hn⟩, f1⟩
    have HR := Lib.hid (And.intro hr (And.intro hb (And.intro hn f1)))
    clear hr hb hn f1
    go_wp2
    go_ret2
    exact ⟨_, _, rfl, ⟨HR.out.1, ⟨b, rfl, HR.out.2.1, HR.out.2.2.1⟩, HR.out.2.2.2⟩, World.ownsRow_nil _ _ _ _, by simp [Value.ownBlock]⟩
end Sc
end Go.Proofs.YtbpgpjibljgiiaaGreatDoor
