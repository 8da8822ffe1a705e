/-
  A sender: Ack that is taken, by contract.
-/
import Derived.Test.YtehdhdocalbfpaaSendD
namespace Go.Proofs.Ytehdhdocalbfpaa
open Go.RowKit ring
set_option linter.unusedVariables false
attribute [local go_sem ↓] Go.wp_at_zero Go.wp_at_succ

theorem own_slice {w : World} {base e size k : Nat} {v : Value} {xs : List Value} (h : w.ownsRow base e size v k xs) : ∃ p l c, v = .slice p l c := by
  rcases h.2 with ⟨rfl, _⟩ | ⟨g, cap, cur, rfl, _⟩
  · exact ⟨_, _, _, rfl⟩
  · exact ⟨_, _, _, rfl⟩
section
variable (w : World) (S : List Nat) (sb win tmo most acked : Nat) (L : List Ev) (A : List Int)
set_option maxRecDepth 100000 in
theorem ack_yes (n : Nat) (h : Snd w S sb win tmo most acked L A) (h1 : 1 ≤ n) (hn : n ≤ A.length) : Calls Try.prog 24 #[.pointer (some ⟨sb, 0, none⟩), .int .u64 ((acked : Int) + n)] w fun e w' => e = .returned (.bool true) ∧ SndTo w S w' sb win tmo most (acked + n) (L.drop n) (A.drop n) := by
  have HH := Lib.hid h
  have hal := h.al
  have haw := h.aw
  have hlw := h.lw
  have hla := h.la
  have hs := Lib.hid (snd_sent w S sb win tmo most acked L A h)
  obtain ⟨rb, g, Cs, f, atv, hS, hb, hr, ho⟩ := h.ex
  obtain ⟨o, cap, rfl⟩ : ∃ o cap, atv = .slice (some ⟨o, 0, none⟩) A.length cap := by
    obtain ⟨o, cap, hh⟩ := own_succ (k := A.length - 1) (by rw [show A.length - 1 + 1 = A.length by omega]; exact ho)
    exact ⟨o, cap, by rw [hh, show A.length - 1 + 1 = A.length by omega]⟩
  have c2 := hb.at 2 (v := .int .u64 acked) rfl
  have c3 := hb.at 3 (v := .pointer (some ⟨rb, 0, none⟩)) rfl
  have ht := Lib.hid (sthere_ok w sb rb c3)
  have H0 := Lib.hid (And.intro hb (And.intro hr (And.intro ho hS)))
  have hdr := Lib.hid (fun m => edrop (w.drewN m) rb g Cs f L most n (hr.fr ((Fr.refl [] w).drewN m) (by simp) (by simp)) h1 (by omega))
  have i1 : ¬ (acked : Int) + n ≤ acked := by omega
  have i2 : ¬ (acked : Int) + A.length < (acked : Int) + n := by omega
  have k1 : IntKind.u64.wrap ((acked : Int) + n - acked) = n := by rw [IntKind.wrap_u64]; omega
  have k2 : IntKind.i64.wrap (n : Int) = n := by rw [IntKind.wrap_i64]; omega
  clear h hS hb hr ho
  go_enter Try.func24, Try.ntmps24
  go_wp2_with (first | (go_at_call 55; refine ht.out.mono ?_; rintro e w1 ⟨rfl, rfl⟩) | (go_at_call 23; refine hs.out.mono ?_; rintro e w1 ⟨rfl, m, rfl⟩))
  (with_reducible refine (hdr.out _).mono ?_)
  rintro e w2 ⟨rfl, Cs', f', hr2, fr2⟩
  obtain ⟨hb, hr, ho, hS⟩ := H0.out
  have fr3 : Fr [rb, g] w w2 := ((Fr.refl [rb, g] w).drewN m).trans fr2 (fun b hb => .inl hb)
  obtain ⟨pp, rr, hrb⟩ := hr.hd
  have n1 : sb ≠ rb := hb.ne hrb (by decide)
  have n2 : sb ≠ g := hb.ne hr.pl (by decide)
  have n3 : rb ≠ o := own_ne ho rfl hrb (by decide)
  have n4 : g ≠ o := own_ne ho rfl hr.pl (by decide)
  have n5 : sb ≠ o := own_ne ho rfl hb (by decide)
  have hb2 := fr3.blk hb (by simp [n1, n2])
  have ho2 := own_fr ho fr3 (fun k hk hm => by
    have hk' : o = k := by simpa [Value.ownBlock] using hk
    subst hk'
    simp at hm
    rcases hm with hm | hm
    · exact n3 hm.symm
    · exact n4 hm.symm)
  have HN := Lib.hid (fun (v1 : Value) (w3 : World) (m : Nat) (hm : m = A.length - n) (happ : Appended (w2.alloc (.cells #[] 51)) 51 1 (.slice (some ⟨w2.heap.size, 0, none⟩) 0 0) (0 + m) ([] ++ u32s (A.drop n)) v1 w3) => show (w3.cell? ⟨sb, 4, none⟩ = some (.slice (some ⟨o, 0, none⟩) A.length cap) ∧ w3.frozen? ⟨sb, 4, none⟩ = false ∧ w3.cell? ⟨sb, 2, none⟩ = some (.int .u64 acked) ∧ w3.frozen? ⟨sb, 2, none⟩ = false) ∧ SndTo w S ((w3.setCell ⟨sb, 4, none⟩ v1).setCell ⟨sb, 2, none⟩ (.int .u64 ((acked : Int) + n))) sb win tmo most (acked + n) (L.drop n) (A.drop n) by
    have h := HH.out
    have fa := (Fr.refl [] w2).alloc (.cells #[] 51)
    have hb3 := fa.blk hb2 (by simp)
    have hr3 := hr2.fr fa (by simp) (by simp)
    have f1 := happ.fr
    have hob : (Value.slice (some ⟨w2.heap.size, 0, none⟩) 0 0).ownBlock = some w2.heap.size := rfl
    rw [hob] at f1
    have q1 : sb ≠ w2.heap.size := by have := hb2.lt; omega
    have q2 : rb ≠ w2.heap.size := by obtain ⟨p3, r3, h3⟩ := hr2.hd; have := h3.lt; omega
    have q3 : g ≠ w2.heap.size := by have := hr2.pl.lt; omega
    have hb4 := f1.blk hb3 (by simpa using q1)
    have hr4 := hr3.fr f1 (by simpa using q2) (by simpa using q3)
    refine ⟨⟨hb4.at 4 rfl, hb4.free 4, hb4.at 2 rfl, hb4.free 2⟩, ?_⟩
    have hv : ∀ k ∈ v1.ownBlock.toList, w2.heap.size ≤ k := by
      intro k hk
      rcases happ.place with hp | hp
      · rw [hp, hob] at hk; simp at hk; omega
      · rw [hp] at hk; simp at hk; omega
    have n1' : sb ∉ v1.ownBlock.toList := own_notin happ.own hb4 (by decide)
    have f2 : Fr [sb] w3 ((w3.setCell ⟨sb, 4, none⟩ v1).setCell ⟨sb, 2, none⟩ (.int .u64 ((acked : Int) + n))) := ((Fr.refl _ w3).setCell _ _ (.inl (by simp))).setCell _ _ (.inl (by simp))
    have ho4 := own_fr happ.own f2 (fun k hk hm => n1' (by simp at hm; subst hm; simp [hk]))
    have hl : (A.drop n).length = 0 + m := by rw [List.length_drop]; omega
    refine ⟨[sb, rb, g] ++ v1.ownBlock.toList, ⟨⟨rb, g, Cs', f', v1, rfl, (hb4.set 4 v1).set 2 _, hr4.fr f2 (by simp [Ne.symm n1]) (by simp [Ne.symm n2]), by rw [hl]; exact ho4⟩, by rw [List.length_drop, List.length_drop]; omega, by rw [List.length_drop]; omega, h.lw, h.lt, h.lm, by rw [List.length_drop]; omega⟩, ?_, ?_⟩
    · intro k hk
      rw [List.mem_append] at hk
      rcases hk with hk | hk
      · left; rw [hS, List.mem_append]; exact .inl hk
      · right; exact Nat.le_trans fr3.size (hv k hk)
    · have fS : Fr S w w2 := fr3.mono (fun k hk => .inl (by rw [hS]; simp at hk; rcases hk with rfl | rfl <;> simp))
      refine ((fS.trans fa (by simp)).trans f1 (fun k hk => .inr ?_)).trans f2 (fun k hk => .inl ?_)
      · simp at hk; subst hk; exact fr3.size
      · rw [hS]; simp at hk; subst hk; simp)
  have hE0 : World.ownsRow (w2.alloc (.cells #[] 51)) 0 51 1 (.slice (some ⟨w2.heap.size, 0, none⟩) 0 0) 0 [] := by
    refine ⟨by simp, .inr ⟨w2.heap.size, 0, #[], rfl, Nat.zero_le _, heap_alloc_new w2 _, Nat.le_refl _, by unfold maxLen; omega, by simp, by simp⟩⟩
  have ho3 := own_fr ho2 ((Fr.refl [] w2).alloc (.cells #[] 51)) (by simp)
  have hnews : ∀ j u, (u32s (A.drop n))[j]? = some u → (w2.alloc (.cells #[] 51)).cell? ((⟨o, n, none⟩ : Addr).add j) = some u := by
    intro j u hj
    have h3 : (u32s A)[n + j]? = some u := by
      simp only [u32s, List.getElem?_map, List.getElem?_drop] at hj ⊢
      exact hj
    have := ho3.cells (g := o) rfl (n + j) u h3
    rw [Addr.add_mid] at this ⊢
    simpa using this
  have hHE := Lib.hid (And.intro hE0 hnews)
  have hld : (u32s (A.drop n)).length = (A.length - n) * 1 := by rw [u32s_len, List.length_drop, Nat.mul_one]
  have hcap : n ≤ cap := by
    rcases ho2.2 with ⟨h5, _⟩ | ⟨g5, cap5, cur5, h5, _, _, h6, _⟩
    · simp at h5
    · simp at h5; omega
  have d2 := hb2.at 2 (v := .int .u64 acked) rfl
  have d4 := hb2.at 4 (v := .slice (some ⟨o, 0, none⟩) A.length cap) rfl
  have d4' := (hb2.alloc (.cells #[] 51)).at 4 (v := .slice (some ⟨o, 0, none⟩) A.length cap) rfl
  have j1 : (0 : Int) ≤ (n : Int) := by omega
  have j2 : (n : Int) ≤ (A.length : Int) := by omega
  have H2 := Lib.hid (And.intro hr2 (And.intro fr3 (And.intro hb2 (And.intro ho2 (And.intro n1 (And.intro n2 hS))))))
  clear hr2 fr2 hb hr ho hS fr3 hrb hb2 ho2 c2 c3 hE0 hnews ho3 n1 n2 n3 n4 n5
  by_cases hc : n < cap
  · have j4 : (n : Int) < (cap : Int) := by omega
    have j5 : n ≠ cap := by omega
    have j6 : cap - n ≠ 0 := by omega
    go_wp2_with (at_builtin; go_must (refine wpList_app _ rfl _ _ 43 rfl 51 (.int .u32 0) 1 4 Try.underlying43 info51 rfl (by decide) _ 0 [] rfl hHE.out.1 ⟨o, n, none⟩ (A.length - n) (cap - n) (u32s (A.drop n)) rfl hld hHE.out.2 (u32s_one _) (by unfold maxLen; omega) (by omega) ?_); intro v1 w3 happ; obtain ⟨p1, l1, cp1, rfl⟩ := own_slice happ.own; obtain ⟨⟨e1, e2, e3, e4⟩, e5⟩ := HN.out _ _ _ rfl happ; have E5 := Lib.hid e5; clear e5 happ)
    go_ret
    exact ⟨rfl, E5.out⟩
  · obtain rfl : n = cap := by omega
    have hAn : n = A.length := by
      rcases H2.out.2.2.2.1.2 with ⟨h5, _⟩ | ⟨g5, cap5, cur5, h5, _, _, h6, _⟩
      · simp at h5
      · simp at h5; omega
    have hA0 : u32s (A.drop n) = [] := by rw [List.drop_of_length_le (by omega)]; rfl
    have hH := Lib.hid hAn
    clear hAn
    go_wp2_with (at_builtin; go_must (refine wpList_app _ rfl _ _ 43 rfl 51 (.int .u32 0) 1 4 Try.underlying43 info51 rfl (by decide) _ 0 [] rfl hHE.out.1 ⟨o, 0, none⟩ (A.length - n) 0 [] rfl (by have := hH.out; simp; omega) (by simp) (by simp) (by unfold maxLen; omega) (by omega) ?_); intro v1 w3 happ; obtain ⟨p1, l1, cp1, rfl⟩ := own_slice happ.own; obtain ⟨⟨e1, e2, e3, e4⟩, e5⟩ := HN.out _ _ _ rfl (by rw [hA0]; exact happ); have E5 := Lib.hid e5; clear e5 happ)
    go_ret
    exact ⟨rfl, E5.out⟩
end

end Go.Proofs.Ytehdhdocalbfpaa
