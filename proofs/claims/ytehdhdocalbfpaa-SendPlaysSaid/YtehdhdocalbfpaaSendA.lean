/-
  A sender in memory; Acked, Free, Sent, way, Has, by contracts.
-/
import Derived.Test.YtehdhdocalbfpaaEvD
namespace Go.Proofs.Ytehdhdocalbfpaa
open Go.RowKit ring
set_option linter.unusedVariables false
attribute [local go_sem ↓] Go.wp_at_zero Go.wp_at_succ

def u32s (xs : List Int) : List Value := xs.map (Value.int .u32)
theorem u32s_len (xs : List Int) : (u32s xs).length = xs.length := by simp [u32s]
theorem u32s_one (xs : List Int) : ∀ u ∈ u32s xs, u.oneCell' = true := by
  intro u hu; simp only [u32s, List.mem_map] at hu; obtain ⟨x, -, rfl⟩ := hu; rfl
/-- A sender at sb, over the blocks S. -/
structure Snd (W : World) (S : List Nat) (sb win tmo most acked : Nat) (L : List Ev) (A : List Int) : Prop where
  ex : ∃ rb g Cs f atv, S = [sb, rb, g] ++ atv.ownBlock.toList ∧ Blk W sb #[.int .i64 win, .int .i64 tmo, .int .u64 acked, .pointer (some ⟨rb, 0, none⟩), atv] 71 ∧ ERing W rb g Cs f L most ∧ W.ownsRow 0 51 1 atv A.length (u32s A)
  al : A.length ≤ L.length
  aw : A.length ≤ win
  lw : 1 ≤ win ∧ win ≤ 32
  lt : 1 ≤ tmo ∧ tmo ≤ 1000
  lm : 1 ≤ most ∧ most ≤ 256
  la : acked + L.length < 18446744073709551616
section
variable {W W' : World} {S T : List Nat} {sb win tmo most acked : Nat} {L : List Ev} {A : List Int}
theorem Snd.fr (h : Snd W S sb win tmo most acked L A) (fr : Fr T W W') (hs : ∀ b ∈ S, b ∉ T) : Snd W' S sb win tmo most acked L A := by
  obtain ⟨rb, g, Cs, f, atv, hS, hb, hr, ho⟩ := h.ex
  refine ⟨⟨rb, g, Cs, f, atv, hS, fr.blk hb (hs _ (by simp [hS])), hr.fr fr (hs _ (by simp [hS])) (hs _ (by simp [hS])), own_fr ho fr (fun k hk => hs k (by simp [hS, hk]))⟩, h.al, h.aw, h.lw, h.lt, h.lm, h.la⟩
theorem Snd.fr0 (h : Snd W S sb win tmo most acked L A) (fr : Fr [] W W') : Snd W' S sb win tmo most acked L A := h.fr fr (by simp)
theorem Snd.lt_size (h : Snd W S sb win tmo most acked L A) : ∀ b ∈ S, b < W.heap.size := by
  obtain ⟨rb, g, Cs, f, atv, hS, hb, hr, ho⟩ := h.ex
  intro b hbS
  rw [hS] at hbS
  simp only [List.cons_append, List.nil_append, List.mem_cons, Option.mem_toList] at hbS
  rcases hbS with rfl | rfl | rfl | h1
  · exact hb.lt
  · obtain ⟨p, r, h2⟩ := hr.hd; exact h2.lt
  · exact hr.pl.lt
  · exact own_lt ho h1
theorem Snd.len (h : Snd W S sb win tmo most acked L A) : L.length ≤ most := by
  obtain ⟨rb, g, Cs, f, atv, hS, hb, hr, ho⟩ := h.ex
  exact hr.len
end

theorem sthere_ok (w : World) (sb rb : Nat) (c3 : w.cell? ⟨sb, 3, none⟩ = some (.pointer (some ⟨rb, 0, none⟩))) : Calls Try.prog 55 #[.pointer (some ⟨sb, 0, none⟩)] w fun e w' => e = .returned (.bool true) ∧ w = w' := by
  go_enter Try.func55, Try.ntmps55
  go_wp2
  go_ret
  exact ⟨rfl, rfl⟩
section
variable (w : World) (S : List Nat) (sb win tmo most acked : Nat) (L : List Ev) (A : List Int)
set_option maxRecDepth 100000 in
theorem snd_acked (h : Snd w S sb win tmo most acked L A) : Calls Try.prog 21 #[.pointer (some ⟨sb, 0, none⟩)] w fun e w' => e = .returned (.int .u64 acked) ∧ w = w' := by
  obtain ⟨rb, g, Cs, f, atv, hS, hb, hr, ho⟩ := h.ex
  have c2 := hb.at 2 (v := .int .u64 acked) rfl
  have c3 := hb.at 3 (v := .pointer (some ⟨rb, 0, none⟩)) rfl
  have ht := Lib.hid (sthere_ok w sb rb c3)
  clear h hS hb hr ho c3
  go_enter Try.func21, Try.ntmps21
  go_wp2_with (go_at_call 55; refine ht.out.mono ?_; rintro e w1 ⟨rfl, rfl⟩)
  go_ret
  exact ⟨rfl, rfl⟩
set_option maxRecDepth 100000 in
theorem snd_free (h : Snd w S sb win tmo most acked L A) : Calls Try.prog 18 #[.pointer (some ⟨sb, 0, none⟩)] w fun e w' => e = .returned (.int .i64 (most - L.length : Nat)) ∧ w = w' := by
  obtain ⟨rb, g, Cs, f, atv, hS, hb, hr, ho⟩ := h.ex
  have c3 := hb.at 3 (v := .pointer (some ⟨rb, 0, none⟩)) rfl
  have ht := Lib.hid (sthere_ok w sb rb c3)
  have hf := Lib.hid (efree w rb g Cs f L most hr)
  clear h hS hb hr ho
  go_enter Try.func18, Try.ntmps18
  go_wp2_with (first | (go_at_call 55; refine ht.out.mono ?_; rintro e w1 ⟨rfl, rfl⟩) | (go_at_call 56; refine hf.out.mono ?_; rintro e w1 ⟨rfl, rfl⟩))
  go_ret
  exact ⟨rfl, rfl⟩
set_option maxRecDepth 100000 in
theorem snd_sent (h : Snd w S sb win tmo most acked L A) : Calls Try.prog 23 #[.pointer (some ⟨sb, 0, none⟩)] w fun e w' => e = .returned (.int .u64 ((acked : Int) + (A.length : Int))) ∧ ∃ m, w' = w.drewN m := by
  obtain ⟨rb, g, Cs, f, atv, hS, hb, hr, ho⟩ := h.ex
  have c2 := hb.at 2 (v := .int .u64 acked) rfl
  have c3 := hb.at 3 (v := .pointer (some ⟨rb, 0, none⟩)) rfl
  have c4 := hb.at 4 (v := atv) rfl
  have hla := h.la
  have hal := h.al
  have haw := h.aw
  have hlw := h.lw
  have ht := Lib.hid (sthere_ok w sb rb c3)
  obtain ⟨p, cap, hav, hc⟩ : ∃ p cap, atv = .slice p A.length cap ∧ A.length ≤ cap := by
    obtain ⟨p, cap, hh, hcap, -⟩ := Rd.of_own ho
    rw [u32s_len] at hh
    exact ⟨p, cap, hh, by rw [u32s_len] at hcap; exact hcap⟩
  rw [hav] at c4
  have k1 : IntKind.u64.wrap (A.length : Int) = A.length := by rw [IntKind.wrap_u64]; omega
  have k2 : IntKind.u64.wrap ((acked : Int) + (A.length : Int)) = (acked : Int) + A.length := by rw [IntKind.wrap_u64]; omega
  clear h hS hb hr ho c3 hav hal haw hla hlw
  go_enter Try.func23, Try.ntmps23
  go_wp2_with (go_at_call 55; refine ht.out.mono ?_; rintro e w1 ⟨rfl, rfl⟩)
  go_quiet (fail)
  go_wp2
  go_ret
  exact ⟨rfl, _, rfl⟩
/-- How something is sent: the oldest again, or the first one that was not sent; none: there is nothing. -/
def wayOf (win tmo n : Nat) (A : List Int) (now : Int) : Option Bool :=
  if A.length > 0 ∧ (tmo : Int) ≤ wrap64 (wrap64 now - wrap64 (A.getD 0 0)) then some false
  else if A.length < n ∧ A.length < win then some true else none
def wayVal (sb : Nat) : Option Bool → Value
  | none => .nilFunc
  | some false => .func (Fn.func 77) #[.pointer (some ⟨sb, 0, none⟩)] #[]
  | some true => .func (Fn.func 78) #[.pointer (some ⟨sb, 0, none⟩)] #[]
set_option maxRecDepth 100000 in
theorem snd_way (now : Int) (h : Snd w S sb win tmo most acked L A) : Calls Try.prog 59 #[.pointer (some ⟨sb, 0, none⟩), .int .u32 now] w fun e w' => e = .returned (wayVal sb (wayOf win tmo L.length A now)) ∧ ∃ m, w' = w.drewN m := by
  obtain ⟨rb, g, Cs, f, atv, hS, hb, hr, ho⟩ := h.ex
  have c0 := hb.at 0 (v := .int .i64 win) rfl
  have c1 := hb.at 1 (v := .int .i64 tmo) rfl
  have c3 := hb.at 3 (v := .pointer (some ⟨rb, 0, none⟩)) rfl
  have c4 := hb.at 4 (v := atv) rfl
  have hal := h.al
  have haw := h.aw
  have hlw := h.lw
  have ht := Lib.hid (sthere_ok w sb rb c3)
  have hl := Lib.hid (fun m => elen (w.drewN m) rb g Cs f L most (hr.fr ((Fr.refl [] w).drewN m) (by simp) (by simp)))
  obtain ⟨n, hn⟩ : ∃ n, L.length = n := ⟨_, rfl⟩
  rw [hn] at hal hl ⊢
  by_cases h0 : 0 < A.length
  · obtain ⟨o, cap, rfl⟩ : ∃ o cap, atv = .slice (some ⟨o, 0, none⟩) A.length cap := by
      obtain ⟨o, cap, hh⟩ := own_succ (k := A.length - 1) (by rw [show A.length - 1 + 1 = A.length by omega]; exact ho)
      exact ⟨o, cap, by rw [hh, show A.length - 1 + 1 = A.length by omega]⟩
    obtain ⟨a0, ha0⟩ : ∃ a0, A.getD 0 0 = a0 := ⟨_, rfl⟩
    have ca : w.cell? ⟨o, 0, none⟩ = some (.int .u32 a0) := by
      have := ho.cells (g := o) rfl 0 (.int .u32 a0) (by simp [u32s, ← ha0, List.getD_eq_getElem?_getD, h0])
      rw [Addr.add_lit] at this
      exact this
    have i0 : (0 : Int) < (A.length : Int) := by omega
    by_cases h1 : (tmo : Int) ≤ wrap64 (wrap64 now - wrap64 a0)
    · have hw : wayOf win tmo n A now = some false := by rw [wayOf, ha0, if_pos ⟨h0, h1⟩]
      rw [hw, wayVal]
      have hd : decide ((tmo : Int) ≤ wrap64 (wrap64 now - wrap64 a0)) = true := by simpa using h1
      clear h hS hb hr ho hal haw hlw ha0 hw h1 hn
      go_enter Try.func59, Try.ntmps59
      go_wp2_with (go_at_call 55; refine ht.out.mono ?_; rintro e w1 ⟨rfl, rfl⟩)
      go_quiet (fail)
      go_wp2
      go_ret
      first | exact ⟨rfl, _, rfl⟩ | exact ⟨rfl, _, drewN_two _ _ _⟩
    · have hd : decide ((tmo : Int) ≤ wrap64 (wrap64 now - wrap64 a0)) = false := by simpa using h1
      by_cases h2 : A.length < n
      · have i2 : (A.length : Int) < (n : Int) := by omega
        have d2 : decide ((A.length : Int) < (n : Int)) = true := by simpa using h2
        by_cases h3 : A.length < win
        · have hw : wayOf win tmo n A now = some true := by rw [wayOf, ha0, if_neg (fun h => h1 h.2), if_pos ⟨h2, h3⟩]
          have d3 : decide ((A.length : Int) < (win : Int)) = true := by simpa using h3
          rw [hw, wayVal]
          clear h hS hb hr ho hal haw hlw ha0 hw h1 hn
          go_enter Try.func59, Try.ntmps59
          go_wp2_with (go_at_call 55; refine ht.out.mono ?_; rintro e w1 ⟨rfl, rfl⟩)
          go_quiet (fail)
          go_wp2_with fail
          go_quiet ((go_at_call 57; exact (hl.out _).mono fun _ _ h => ⟨h.1, _, h.2.symm⟩))
          go_wp2
          go_ret
          first | exact ⟨rfl, _, rfl⟩ | exact ⟨rfl, _, drewN_two _ _ _⟩
        · have hw : wayOf win tmo n A now = none := by rw [wayOf, ha0, if_neg (fun h => h1 h.2), if_neg (fun h => h3 h.2)]
          have d3 : decide ((A.length : Int) < (win : Int)) = false := by simpa using h3
          rw [hw, wayVal]
          clear h hS hb hr ho hal haw hlw ha0 hw h1 hn
          go_enter Try.func59, Try.ntmps59
          go_wp2_with (go_at_call 55; refine ht.out.mono ?_; rintro e w1 ⟨rfl, rfl⟩)
          go_quiet (fail)
          go_wp2_with fail
          go_quiet ((go_at_call 57; exact (hl.out _).mono fun _ _ h => ⟨h.1, _, h.2.symm⟩))
          go_wp2
          go_ret
          first | exact ⟨rfl, _, rfl⟩ | exact ⟨rfl, _, drewN_two _ _ _⟩
      · have hw : wayOf win tmo n A now = none := by rw [wayOf, ha0, if_neg (fun h => h1 h.2), if_neg (fun h => h2 h.1)]
        have d2 : decide ((A.length : Int) < (n : Int)) = false := by simpa using h2
        rw [hw, wayVal]
        clear h hS hb hr ho hal haw hlw ha0 hw h1 hn
        go_enter Try.func59, Try.ntmps59
        go_wp2_with (go_at_call 55; refine ht.out.mono ?_; rintro e w1 ⟨rfl, rfl⟩)
        go_quiet (fail)
        go_wp2_with fail
        go_quiet ((go_at_call 57; exact (hl.out _).mono fun _ _ h => ⟨h.1, _, h.2.symm⟩))
        go_wp2
        go_ret
        first | exact ⟨rfl, _, rfl⟩ | exact ⟨rfl, _, drewN_two _ _ _⟩
  · obtain ⟨p, cap, hav, hc⟩ : ∃ p cap, atv = .slice p 0 cap ∧ A.length ≤ cap := by
      obtain ⟨p, cap, hh, hcap, -⟩ := Rd.of_own ho
      rw [u32s_len] at hh
      exact ⟨p, cap, by rw [hh, show A.length = 0 by omega], by rw [u32s_len] at hcap; exact hcap⟩
    rw [hav] at c4
    have hA0 : A = [] := List.length_eq_zero_iff.1 (by omega)
    subst hA0
    by_cases h2 : 0 < n
    · have d2 : decide ((0 : Int) < (n : Int)) = true := by simpa using h2
      have d3 : decide ((0 : Int) < (win : Int)) = true := by simp; omega
      have i3 : 0 < win := by omega
      have hw : wayOf win tmo n [] now = some true := by rw [wayOf, if_neg (fun h => h0 h.1), if_pos ⟨h2, by simp; omega⟩]
      rw [hw, wayVal]
      clear h hS hb hr ho hal haw hlw hw hn hav hc
      go_enter Try.func59, Try.ntmps59
      go_wp2_with (go_at_call 55; refine ht.out.mono ?_; rintro e w1 ⟨rfl, rfl⟩)
      go_quiet (fail)
      go_wp2_with fail
      go_quiet ((go_at_call 57; exact (hl.out _).mono fun _ _ h => ⟨h.1, _, h.2.symm⟩))
      go_wp2
      go_ret
      first | exact ⟨rfl, _, rfl⟩ | exact ⟨rfl, _, drewN_two _ _ _⟩
    · obtain rfl : n = 0 := by omega
      have hw : wayOf win tmo 0 [] now = none := by rw [wayOf, if_neg (fun h => h0 h.1), if_neg (fun h => by simp at h)]
      rw [hw, wayVal]
      clear h hS hb hr ho hal haw hlw hw hn hav hc
      go_enter Try.func59, Try.ntmps59
      go_wp2_with (go_at_call 55; refine ht.out.mono ?_; rintro e w1 ⟨rfl, rfl⟩)
      go_quiet (fail)
      go_wp2_with fail
      go_quiet ((go_at_call 57; exact (hl.out _).mono fun _ _ h => ⟨h.1, _, h.2.symm⟩))
      go_wp2
      go_ret
      first | exact ⟨rfl, _, rfl⟩ | exact ⟨rfl, _, drewN_two _ _ _⟩
theorem neq103f (w : World) (k : Nat) (xs : Array Value) : (binOp .neq 103 (.func (Fn.func k) xs #[]) .nilFunc).run Try.prog w = .ok (.bool true) w := by kernel_rfl
theorem eql103f (w : World) (k : Nat) (xs : Array Value) : (binOp .eql 103 (.func (Fn.func k) xs #[]) .nilFunc).run Try.prog w = .ok (.bool false) w := by kernel_rfl
theorem neq103n (w : World) : (binOp .neq 103 .nilFunc .nilFunc).run Try.prog w = .ok (.bool false) w := by kernel_rfl
theorem eql103n (w : World) : (binOp .eql 103 .nilFunc .nilFunc).run Try.prog w = .ok (.bool true) w := by kernel_rfl
theorem neq103w (w : World) (o : Option Bool) : (binOp .neq 103 (wayVal sb o) .nilFunc).run Try.prog w = .ok (.bool o.isSome) w := by
  rcases o with _ | _ | _
  · exact neq103n w
  · exact neq103f w _ _
  · exact neq103f w _ _
theorem eql103w (w : World) (o : Option Bool) : (binOp .eql 103 (wayVal sb o) .nilFunc).run Try.prog w = .ok (.bool o.isNone) w := by
  rcases o with _ | _ | _
  · exact eql103n w
  · exact eql103f w _ _
  · exact eql103f w _ _
theorem neqg103 (w : World) (o : Option Bool) : (eqGuard .neq 103 (.tmp 7) (.const .nilFunc) (wayVal sb o) .nilFunc).run Try.prog w = .ok () w := by
  rcases o with _ | _ | _ <;> kernel_rfl
theorem eqlg103 (w : World) (o : Option Bool) : (eqGuard .eql 103 (.tmp 14) (.const .nilFunc) (wayVal sb o) .nilFunc).run Try.prog w = .ok () w := by
  rcases o with _ | _ | _ <;> kernel_rfl
theorem snd_has (now : Int) (h : Snd w S sb win tmo most acked L A) : Calls Try.prog 19 #[.pointer (some ⟨sb, 0, none⟩), .int .u32 now] w fun e w' => e = .returned (.bool (wayOf win tmo L.length A now).isSome) ∧ ∃ m, w' = w.drewN m := by
  have H0 := Lib.hid (snd_way w S sb win tmo most acked L A now h)
  have hq := neq103w sb
  have hg := neqg103 sb
  clear h
  generalize wayOf win tmo L.length A now = o at *
  go_enter Try.func19, Try.ntmps19
  go_wp2_with (go_at_call 59; refine H0.out.mono ?_; rintro e w1 ⟨rfl, m, rfl⟩)
  go_ret
  exact ⟨rfl, _, rfl⟩
end

end Go.Proofs.Ytehdhdocalbfpaa
