/-
  A sender: Offer, Ack, by contracts.
-/
import Derived.Test.YtehdhdocalbfpaaSendC
namespace Go.Proofs.Ytehdhdocalbfpaa
open Go.RowKit ring
set_option linter.unusedVariables false
attribute [local go_sem ↓] Go.wp_at_zero Go.wp_at_succ

theorem beq_false {a b : Int} (h : a ≠ b) : (a == b) = false := by rw [beq_eq_false_iff_ne]; exact h
theorem beq_true' {a b : Int} (h : a = b) : (a == b) = true := by simp [h]
section
variable (w : World) (S : List Nat) (sb win tmo most acked : Nat) (L : List Ev) (A : List Int)
set_option maxRecDepth 100000 in
theorem offer_full (x : Ev) (h : Snd w S sb win tmo most acked L A) (hl : L.length = most) : Calls Try.prog 17 #[.pointer (some ⟨sb, 0, none⟩), x.val] w fun e w' => e = .returned (.tuple #[.int .u64 0, .int .i64 5]) ∧ SndTo w S w' sb win tmo most acked L A := by
  have f0 := (Fr.refl [] w).alloc (.cells x.cells.toArray 56)
  have h0 := h.fr0 f0
  have HH := Lib.hid (And.intro h f0)
  go_enter Try.func17, Try.ntmps17
  go_wp2_with fail
  rename_i cs heq
  obtain rfl : cs = x.cells.toArray := Ev.val_agg heq
  clear heq
  generalize (w.alloc _) = w0 at *
  obtain ⟨rb, g, Cs, f, atv, hS, hb, hr, ho⟩ := h0.ex
  have c3 := hb.at 3 (v := .pointer (some ⟨rb, 0, none⟩)) rfl
  have ht := Lib.hid (sthere_ok w0 sb rb c3)
  have hf := efree w0 rb g Cs f L most hr
  rw [show most - L.length = 0 by omega] at hf
  have hf : Calls Try.prog 56 #[.pointer (some ⟨rb, 0, none⟩)] w0 fun e w' => e = .returned (.int .i64 0) ∧ w0 = w' := hf
  have HF := Lib.hid hf
  clear h f0 h0 hS hb hr ho hf hl
  (with_reducible refine ht.out.mono ?_)
  rintro e w1 ⟨rfl, rfl⟩
  go_wp2_with (go_at_call 56; refine HF.out.mono ?_; rintro e w1 ⟨rfl, rfl⟩)
  go_ret2
  exact ⟨rfl, SndTo.same HH.out.1 HH.out.2⟩
set_option maxRecDepth 100000 in
theorem offer_ok (x : Ev) (h : Snd w S sb win tmo most acked L A) (hl : L.length < most) (hm : acked + L.length + 1 < 18446744073709551616) : Calls Try.prog 17 #[.pointer (some ⟨sb, 0, none⟩), x.val] w fun e w' => e = .returned (.tuple #[.int .u64 ((acked : Int) + ((L.length : Int) + 1)), .int .i64 0]) ∧ SndTo w S w' sb win tmo most acked (L ++ [x]) A := by
  have f0 := (Fr.refl [] w).alloc (.cells x.cells.toArray 56)
  have h0 := h.fr0 f0
  have hZ0 := Blk.new w x.cells.toArray 56
  obtain ⟨z, hz⟩ : ∃ z, z = w.heap.size := ⟨_, rfl⟩
  have HH := Lib.hid (And.intro h (And.intro f0 hz))
  rw [← hz] at hZ0
  have hlm := h.lm
  go_enter Try.func17, Try.ntmps17
  go_wp2_with fail
  rename_i cs heq
  obtain rfl : cs = x.cells.toArray := Ev.val_agg heq
  clear heq
  simp only [← hz]
  generalize (w.alloc _) = w0 at *
  obtain ⟨rb, g, Cs, f, atv, hS, hb, hr, ho⟩ := h0.ex
  have c2 := hb.at 2 (v := .int .u64 acked) rfl
  have c3 := hb.at 3 (v := .pointer (some ⟨rb, 0, none⟩)) rfl
  have ht := Lib.hid (sthere_ok w0 sb rb c3)
  have hf := Lib.hid (efree w0 rb g Cs f L most hr)
  have hlen := Lib.hid (fun m => elen (w0.drewN m) rb g Cs f L most (hr.fr ((Fr.refl [] w0).drewN m) (by simp) (by simp)))
  have j1 : (((most - L.length : Nat) : Int) == 0) = false := beq_false (by omega)
  have k1 : IntKind.u64.wrap (L.length : Int) = L.length := by rw [IntKind.wrap_u64]; omega
  have k2 : IntKind.u64.wrap ((acked : Int) + (L.length : Int)) = (acked : Int) + L.length := by rw [IntKind.wrap_u64]; omega
  have j2 : ((acked : Int) + (L.length : Int) == 18446744073709551615) = false := beq_false (by omega)
  have ez := hZ0.one
  have H0 := Lib.hid (And.intro h0 (And.intro hb (And.intro hr (And.intro ho (And.intro hS hZ0)))))
  have hpu := Lib.hid (fun m => epush (w0.drewN m) rb g Cs f L most x (hr.fr ((Fr.refl [] w0).drewN m) (by simp) (by simp)) hl)
  clear h f0 h0 hS hb hr ho hz hZ0
  (with_reducible refine ht.out.mono ?_)
  rintro e w1 ⟨rfl, rfl⟩
  go_wp2_with (go_at_call 56; refine hf.out.mono ?_; rintro e w1 ⟨rfl, rfl⟩)
  go_quiet ((go_at_call 57; exact (hlen.out _).mono fun _ _ h => ⟨h.1, _, h.2.symm⟩))
  go_wp2_with fail
  refine eregion_tail 5 (by kernel_rfl) (by kernel_rfl) ?_
  simp only [List.take_succ_cons, List.take_zero, List.drop_succ_cons, List.drop_zero]
  iterate 5 still_step
  refine wpStill_nil ?_
  go_wp2_with fail
  (with_reducible refine (hpu.out _).mono ?_)
  rintro e w2 ⟨rfl, g', Cs', f', hr2, hg', fr2⟩
  obtain ⟨h0, hb, hr, ho, hS, hZ0⟩ := H0.out
  have fr3 : Fr [rb, g] w0 w2 := ((Fr.refl [rb, g] w0).drewN (nq + 1)).trans fr2 (fun b hb => .inl hb)
  obtain ⟨pp, rr, hrb⟩ := hr.hd
  have n1 : sb ≠ rb := hb.ne hrb (by decide)
  have n2 : sb ≠ g := hb.ne hr.pl (by decide)
  have hb2 := fr3.blk hb (by simp [n1, n2])
  have no1 : ∀ k, atv.ownBlock = some k → k ∉ [rb, g] := fun k hk hm => by
    have e1 := own_ne ho hk hrb (by decide)
    have e2 := own_ne ho hk hr.pl (by decide)
    simp at hm
    rcases hm with hm | hm
    · exact e1 hm.symm
    · exact e2 hm.symm
  have ho2 := own_fr ho fr3 no1
  have s2 : SndTo w0 S w2 sb win tmo most acked (L ++ [x]) A := by
    refine ⟨[sb, rb, g'] ++ atv.ownBlock.toList, ⟨⟨rb, g', Cs', f', atv, rfl, hb2, hr2, ho2⟩, by rw [List.length_append]; have := h0.al; omega, h0.aw, h0.lw, h0.lt, h0.lm, by rw [List.length_append]; simp; omega⟩, fun k hk => ?_, fr3.mono (fun k hk => .inl (by rw [hS]; simp at hk; rcases hk with rfl | rfl <;> simp))⟩
    rw [List.mem_append] at hk
    rcases hk with hk | hk
    · simp at hk
      rcases hk with rfl | rfl | rfl
      · left; rw [hS]; simp
      · left; rw [hS]; simp
      · rcases hg' with rfl | hg'
        · left; rw [hS]; simp
        · right; exact hg'
    · left; rw [hS, List.mem_append]; exact .inr hk
  have d2 := hb2.at 2 (v := .int .u64 acked) rfl
  have d3 := hb2.at 3 (v := .pointer (some ⟨rb, 0, none⟩)) rfl
  have hlen2 := Lib.hid (fun m => show Calls Try.prog 57 #[.pointer (some ⟨rb, 0, none⟩)] (w2.drewN m) fun e w' => e = .returned (.int .i64 ((L.length : Int) + 1)) ∧ w2.drewN m = w' by
    have := elen (w2.drewN m) rb g' Cs' f' (L ++ [x]) most (hr2.fr ((Fr.refl [] w2).drewN m) (by simp) (by simp))
    rw [List.length_append] at this
    exact this)
  have k3 : IntKind.u64.wrap ((L.length : Int) + 1) = (L.length : Int) + 1 := by rw [IntKind.wrap_u64]; omega
  have k4 : IntKind.u64.wrap ((acked : Int) + ((L.length : Int) + 1)) = (acked : Int) + ((L.length : Int) + 1) := by rw [IntKind.wrap_u64]; omega
  have H2 := Lib.hid s2
  clear h0 hb hr ho hS hZ0 fr3 hrb n1 n2 hb2 no1 ho2 s2 hr2 hg' fr2 c2 c3 k1 k2 j1 j2 ez hlen hf ht hpu H0
  go_wp2_with fail
  go_quiet ((go_at_call 57; exact (hlen2.out _).mono fun _ _ h => ⟨h.1, _, h.2.symm⟩))
  go_wp2
  go_ret2
  exact ⟨rfl, (SndTo.pre HH.out.2.1 (H2.out.then0 ((Fr.refl [] _).drewN _)))⟩
set_option maxRecDepth 100000 in
theorem offer_out (x : Ev) (h : Snd w S sb win tmo most acked L A) (hl : L.length < most) (hm : acked + L.length + 1 = 18446744073709551616) : Calls Try.prog 17 #[.pointer (some ⟨sb, 0, none⟩), x.val] w fun e w' => e = .returned (.tuple #[.int .u64 0, .int .i64 3]) ∧ SndTo w S w' sb win tmo most acked L A := by
  have f0 := (Fr.refl [] w).alloc (.cells x.cells.toArray 56)
  have h0 := h.fr0 f0
  have HH := Lib.hid (And.intro h f0)
  have hlm := h.lm
  go_enter Try.func17, Try.ntmps17
  go_wp2_with fail
  rename_i cs heq
  obtain rfl : cs = x.cells.toArray := Ev.val_agg heq
  clear heq
  generalize (w.alloc _) = w0 at *
  obtain ⟨rb, g, Cs, f, atv, hS, hb, hr, ho⟩ := h0.ex
  have c2 := hb.at 2 (v := .int .u64 acked) rfl
  have c3 := hb.at 3 (v := .pointer (some ⟨rb, 0, none⟩)) rfl
  have ht := Lib.hid (sthere_ok w0 sb rb c3)
  have hf := Lib.hid (efree w0 rb g Cs f L most hr)
  have hlen := Lib.hid (fun m => elen (w0.drewN m) rb g Cs f L most (hr.fr ((Fr.refl [] w0).drewN m) (by simp) (by simp)))
  have j1 : (((most - L.length : Nat) : Int) == 0) = false := beq_false (by omega)
  have k1 : IntKind.u64.wrap (L.length : Int) = L.length := by rw [IntKind.wrap_u64]; omega
  have k2 : IntKind.u64.wrap ((acked : Int) + (L.length : Int)) = (acked : Int) + L.length := by rw [IntKind.wrap_u64]; omega
  have j2 : ((acked : Int) + (L.length : Int) == 18446744073709551615) = true := beq_true' (by omega)
  clear h f0 h0 hS hb hr ho
  (with_reducible refine ht.out.mono ?_)
  rintro e w1 ⟨rfl, rfl⟩
  go_wp2_with (go_at_call 56; refine hf.out.mono ?_; rintro e w1 ⟨rfl, rfl⟩)
  go_quiet ((go_at_call 57; exact (hlen.out _).mono fun _ _ h => ⟨h.1, _, h.2.symm⟩))
  go_wp2
  go_ret2
  exact ⟨rfl, SndTo.same HH.out.1 (HH.out.2.drewN _)⟩
set_option maxRecDepth 100000 in
theorem ack_no (k : Int) (h : Snd w S sb win tmo most acked L A) (hk : k ≤ acked ∨ (acked : Int) + A.length < k) : Calls Try.prog 24 #[.pointer (some ⟨sb, 0, none⟩), .int .u64 k] w fun e w' => e = .returned (.bool false) ∧ SndTo w S w' sb win tmo most acked L A := by
  have HH := Lib.hid h
  have hs := Lib.hid (snd_sent w S sb win tmo most acked L A h)
  obtain ⟨rb, g, Cs, f, atv, hS, hb, hr, ho⟩ := h.ex
  have c2 := hb.at 2 (v := .int .u64 acked) rfl
  have c3 := hb.at 3 (v := .pointer (some ⟨rb, 0, none⟩)) rfl
  have ht := Lib.hid (sthere_ok w sb rb c3)
  by_cases h1 : k ≤ acked
  · clear h hS hb hr ho hk
    go_enter Try.func24, Try.ntmps24
    go_wp2_with (first | (go_at_call 55; refine ht.out.mono ?_; rintro e w1 ⟨rfl, rfl⟩) | (go_at_call 23; refine hs.out.mono ?_; rintro e w1 ⟨rfl, m, rfl⟩))
    go_ret
    exact ⟨rfl, SndTo.same HH.out (Fr.refl _ _)⟩
  · have h2 : (acked : Int) + A.length < k := hk.resolve_left h1
    clear h hS hb hr ho hk
    go_enter Try.func24, Try.ntmps24
    go_wp2_with (first | (go_at_call 55; refine ht.out.mono ?_; rintro e w1 ⟨rfl, rfl⟩) | (go_at_call 23; refine hs.out.mono ?_; rintro e w1 ⟨rfl, m, rfl⟩))
    go_ret
    exact ⟨rfl, SndTo.same HH.out ((Fr.refl _ _).drewN _)⟩
end

end Go.Proofs.Ytehdhdocalbfpaa
