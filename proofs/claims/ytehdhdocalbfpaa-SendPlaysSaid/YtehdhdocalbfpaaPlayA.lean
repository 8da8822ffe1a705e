/-
  The document's sender in memory; Free, Sent, way, Has, Offer, by contracts.
-/
import Derived.Test.YtehdhdocalbfpaaSendF
namespace Go.Proofs.Ytehdhdocalbfpaa
open Go.RowKit ring
set_option linter.unusedVariables false
attribute [local go_sem ↓] Go.wp_at_zero Go.wp_at_succ newVar56
attribute [local go_sem] ev_layEv_same can_new run_storeEv0 run_newEv run_newEv'

/-- The document's sender at rb, over the blocks T. -/
structure Ref (W : World) (T : List Nat) (rb win tmo most acked : Nat) (L : List Ev) (A : List Int) : Prop where
  ex : ∃ bv av, T = [rb] ++ bv.ownBlock.toList ++ av.ownBlock.toList ∧ Blk W rb #[.int .i64 win, .int .i64 tmo, .int .i64 most, .int .u64 acked, bv, av] 81 ∧ W.ownsRow 0 56 8 bv L.length (evs L) ∧ W.ownsRow 0 51 1 av A.length (u32s A)
  al : A.length ≤ L.length
  aw : A.length ≤ win
  ll : L.length ≤ most
  lw : 1 ≤ win ∧ win ≤ 32
  lt : 1 ≤ tmo ∧ tmo ≤ 1000
  lm : 1 ≤ most ∧ most ≤ 256
  la : acked + L.length < 18446744073709551616
section
variable {W W' : World} {S T : List Nat} {rb win tmo most acked : Nat} {L : List Ev} {A : List Int}
theorem Ref.fr (h : Ref W T rb win tmo most acked L A) (fr : Fr S W W') (hs : ∀ b ∈ T, b ∉ S) : Ref W' T rb win tmo most acked L A := by
  obtain ⟨bv, av, hT, hb, h1, h2⟩ := h.ex
  exact ⟨⟨bv, av, hT, fr.blk hb (hs _ (by simp [hT])), own_fr h1 fr (fun k hk => hs k (by simp [hT, hk])), own_fr h2 fr (fun k hk => hs k (by simp [hT, hk]))⟩, h.al, h.aw, h.ll, h.lw, h.lt, h.lm, h.la⟩
theorem Ref.fr0 (h : Ref W T rb win tmo most acked L A) (fr : Fr [] W W') : Ref W' T rb win tmo most acked L A := h.fr fr (by simp)
theorem Ref.lt_size (h : Ref W T rb win tmo most acked L A) : ∀ b ∈ T, b < W.heap.size := by
  obtain ⟨bv, av, hT, hb, h1, h2⟩ := h.ex
  intro b hbT
  rw [hT] at hbT
  simp only [List.cons_append, List.nil_append, List.mem_cons, List.mem_append, Option.mem_toList] at hbT
  rcases hbT with rfl | h3 | h3
  · exact hb.lt
  · exact own_lt h1 h3
  · exact own_lt h2 h3
theorem own_form {w : World} {base e size k : Nat} {v : Value} {xs : List Value} (h : w.ownsRow base e size v k xs) : ∃ p c, v = .slice p k c := by
  rcases h.2 with ⟨rfl, rfl⟩ | ⟨g, cap, cur, rfl, _⟩
  · exact ⟨_, _, rfl⟩
  · exact ⟨_, _, rfl⟩
end
/-- The document's sender that was over T stands so now. -/
def RefTo (w : World) (T : List Nat) (w' : World) (rb win tmo most acked : Nat) (L : List Ev) (A : List Int) : Prop :=
  ∃ T', Ref w' T' rb win tmo most acked L A ∧ (∀ b ∈ T', b ∈ T ∨ w.heap.size ≤ b) ∧ Fr T w w'
theorem RefTo.same {w w' : World} {T : List Nat} {rb win tmo most acked : Nat} {L : List Ev} {A : List Int} (h : Ref w T rb win tmo most acked L A) (f : Fr [] w w') : RefTo w T w' rb win tmo most acked L A :=
  ⟨T, h.fr0 f, fun b hb => .inl hb, f.mono (by simp)⟩
section
variable (w : World) (T : List Nat) (rb win tmo most acked : Nat) (L : List Ev) (A : List Int)
set_option maxRecDepth 100000 in
theorem ref_free (h : Ref w T rb win tmo most acked L A) : Calls Try.prog 68 #[.pointer (some ⟨rb, 0, none⟩)] w fun e w' => e = .returned (.int .i64 (most - L.length : Nat)) ∧ ∃ m, w' = w.drewN m := by
  obtain ⟨bv, av, hT, hb, h1, h2⟩ := h.ex
  obtain ⟨p, c, rfl⟩ := own_form h1
  have c2 := hb.at 2 (v := .int .i64 most) rfl
  have c4 := hb.at 4 (v := .slice p L.length c) rfl
  have hll := h.ll
  have hlm := h.lm
  have k1 : IntKind.i64.wrap ((most : Int) - (L.length : Int)) = ((most - L.length : Nat) : Int) := by rw [IntKind.wrap_i64]; omega
  clear h hT hb h1 h2
  go_enter Try.func68, Try.ntmps68
  go_wp2
  go_quiet (fail)
  go_wp2
  go_ret
  exact ⟨rfl, _, rfl⟩
set_option maxRecDepth 100000 in
theorem ref_sent (h : Ref w T rb win tmo most acked L A) : Calls Try.prog 67 #[.pointer (some ⟨rb, 0, none⟩)] w fun e w' => e = .returned (.int .u64 ((acked : Int) + (A.length : Int))) ∧ ∃ m, w' = w.drewN m := by
  obtain ⟨bv, av, hT, hb, h1, h2⟩ := h.ex
  obtain ⟨p, c, rfl⟩ := own_form h2
  have c3 := hb.at 3 (v := .int .u64 acked) rfl
  have c5 := hb.at 5 (v := .slice p A.length c) rfl
  have hla := h.la
  have hal := h.al
  have k1 : IntKind.u64.wrap (A.length : Int) = A.length := by rw [IntKind.wrap_u64]; omega
  have k2 : IntKind.u64.wrap ((acked : Int) + (A.length : Int)) = (acked : Int) + A.length := by rw [IntKind.wrap_u64]; omega
  clear h hT hb h1 h2
  go_enter Try.func67, Try.ntmps67
  go_wp2
  go_quiet (fail)
  go_wp2
  go_ret
  exact ⟨rfl, _, rfl⟩
/-- The document's way, as a number. -/
def wayNo (n : Nat) : Option Bool → Int
  | none => -1
  | some false => 0
  | some true => n
/-- The clocks are clocks. -/
def U32s (A : List Int) : Prop := ∀ a ∈ A, 0 ≤ a ∧ a < 4294967296
set_option maxRecDepth 100000 in
theorem ref_way (now : Int) (h : Ref w T rb win tmo most acked L A) (hn : 0 ≤ now ∧ now < 4294967296) (hA : U32s A) : Calls Try.prog 66 #[.pointer (some ⟨rb, 0, none⟩), .int .u32 now] w fun e w' => e = .returned (.int .i64 (wayNo A.length (wayOf win tmo L.length A now))) ∧ ∃ m, w' = w.drewN m := by
  obtain ⟨bv, av, hT, hb, h1', h2'⟩ := h.ex
  obtain ⟨pb, cb, rfl⟩ := own_form h1'
  have c0 := hb.at 0 (v := .int .i64 win) rfl
  have c1 := hb.at 1 (v := .int .i64 tmo) rfl
  have c4 := hb.at 4 (v := .slice pb L.length cb) rfl
  have c5 := hb.at 5 (v := av) rfl
  have hal := h.al
  have haw := h.aw
  have hlw := h.lw
  have hlt := h.lt
  obtain ⟨n, hn'⟩ : ∃ n, L.length = n := ⟨_, rfl⟩
  rw [hn'] at hal c4 ⊢
  by_cases h0 : 0 < A.length
  · obtain ⟨o, cap, rfl⟩ : ∃ o cap, av = .slice (some ⟨o, 0, none⟩) A.length cap := by
      obtain ⟨o, cap, hh⟩ := own_succ (k := A.length - 1) (by rw [show A.length - 1 + 1 = A.length by omega]; exact h2')
      exact ⟨o, cap, by rw [hh, show A.length - 1 + 1 = A.length by omega]⟩
    obtain ⟨a0, ha0⟩ : ∃ a0, A.getD 0 0 = a0 := ⟨_, rfl⟩
    have hab : 0 ≤ a0 ∧ a0 < 4294967296 := by
      rw [← ha0]
      match A, h0, hA with
      | a :: B, _, hA => exact hA a (by simp)
    have ca : w.cell? ⟨o, 0, none⟩ = some (.int .u32 a0) := by
      have := h2'.cells (g := o) rfl 0 (.int .u32 a0) (by simp [u32s, ← ha0, List.getD_eq_getElem?_getD, h0])
      rw [Addr.add_lit] at this
      exact this
    have i0 : (0 : Int) < (A.length : Int) := by omega
    have hwr : wrap64 (wrap64 now - wrap64 a0) = now - a0 := by rw [IntWalk.wrap64_in now (by omega), IntWalk.wrap64_in a0 (by omega), IntWalk.wrap64_in _ (by omega)]
    have w1 : IntKind.u64.wrap now = now := by rw [IntKind.wrap_u64]; omega
    have w2 : IntKind.u64.wrap a0 = a0 := by rw [IntKind.wrap_u64]; omega
    have w3 : IntKind.u64.wrap (tmo : Int) = tmo := by rw [IntKind.wrap_u64]; omega
    have w4 : IntKind.u64.wrap (a0 + (tmo : Int)) = a0 + tmo := by rw [IntKind.wrap_u64]; omega
    by_cases h1 : (tmo : Int) ≤ now - a0
    · have hw : wayOf win tmo n A now = some false := by rw [wayOf, ha0, hwr, if_pos ⟨h0, h1⟩]
      rw [hw, wayNo]
      have hd : decide (a0 + (tmo : Int) ≤ now) = true := by simp; omega
      clear h hT hb h1' h2' hal haw hlw ha0 hw h1 hn' hwr hA
      go_enter Try.func66, Try.ntmps66
      go_wp2_with fail
      go_quiet (fail)
      go_wp2
      go_ret
      first | exact ⟨rfl, _, rfl⟩ | exact ⟨rfl, _, drewN_two _ _ _⟩
    · have hd : decide (a0 + (tmo : Int) ≤ now) = false := by simp; omega
      by_cases h2 : A.length < n
      · have d2 : decide ((A.length : Int) < (n : Int)) = true := by simpa using h2
        by_cases h3 : A.length < win
        · have hw : wayOf win tmo n A now = some true := by rw [wayOf, ha0, hwr, if_neg (fun h => h1 h.2), if_pos ⟨h2, h3⟩]
          have d3 : decide ((A.length : Int) < (win : Int)) = true := by simpa using h3
          rw [hw, wayNo]
          clear h hT hb h1' h2' hal haw hlw ha0 hw h1 hn' hwr hA
          go_enter Try.func66, Try.ntmps66
          go_wp2_with fail
          go_quiet (fail)
          go_wp2_with fail
          go_quiet (fail)
          go_wp2
          go_ret
          first | exact ⟨rfl, _, rfl⟩ | exact ⟨rfl, _, drewN_two _ _ _⟩
        · have hw : wayOf win tmo n A now = none := by rw [wayOf, ha0, hwr, if_neg (fun h => h1 h.2), if_neg (fun h => h3 h.2)]
          have d3 : decide ((A.length : Int) < (win : Int)) = false := by simpa using h3
          rw [hw, wayNo]
          clear h hT hb h1' h2' hal haw hlw ha0 hw h1 hn' hwr hA
          go_enter Try.func66, Try.ntmps66
          go_wp2_with fail
          go_quiet (fail)
          go_wp2_with fail
          go_quiet (fail)
          go_wp2
          go_ret
          first | exact ⟨rfl, _, rfl⟩ | exact ⟨rfl, _, drewN_two _ _ _⟩
      · have hw : wayOf win tmo n A now = none := by rw [wayOf, ha0, hwr, if_neg (fun h => h1 h.2), if_neg (fun h => h2 h.1)]
        have d2 : decide ((A.length : Int) < (n : Int)) = false := by simpa using h2
        rw [hw, wayNo]
        clear h hT hb h1' h2' hal haw hlw ha0 hw h1 hn' hwr hA
        go_enter Try.func66, Try.ntmps66
        go_wp2_with fail
        go_quiet (fail)
        go_wp2_with fail
        go_quiet (fail)
        go_wp2
        go_ret
        first | exact ⟨rfl, _, rfl⟩ | exact ⟨rfl, _, drewN_two _ _ _⟩
  · have hA0 : A = [] := List.length_eq_zero_iff.1 (by omega)
    subst hA0
    obtain ⟨p, cap, rfl⟩ := own_form h2'
    by_cases h2 : 0 < n
    · have d2 : decide ((0 : Int) < (n : Int)) = true := by simpa using h2
      have d3 : decide ((0 : Int) < (win : Int)) = true := by simp; omega
      have i3 : 0 < win := by omega
      have hw : wayOf win tmo n [] now = some true := by rw [wayOf, if_neg (fun h => h0 h.1), if_pos ⟨h2, by simp; omega⟩]
      rw [hw, wayNo]
      clear h hT hb h1' h2' hal haw hlw hw hn' hA
      go_enter Try.func66, Try.ntmps66
      go_wp2_with fail
      go_quiet (fail)
      go_wp2_with fail
      go_quiet (fail)
      go_wp2
      go_ret
      first | exact ⟨rfl, _, rfl⟩ | exact ⟨rfl, _, drewN_two _ _ _⟩
    · obtain rfl : n = 0 := by omega
      have hw : wayOf win tmo 0 [] now = none := by rw [wayOf, if_neg (fun h => h0 h.1), if_neg (fun h => by simp at h)]
      rw [hw, wayNo]
      clear h hT hb h1' h2' hal haw hlw hw hn' hA
      go_enter Try.func66, Try.ntmps66
      go_wp2_with fail
      go_quiet (fail)
      go_wp2_with fail
      go_quiet (fail)
      go_wp2
      go_ret
      first | exact ⟨rfl, _, rfl⟩ | exact ⟨rfl, _, drewN_two _ _ _⟩
theorem ref_has (now : Int) (h : Ref w T rb win tmo most acked L A) (hn : 0 ≤ now ∧ now < 4294967296) (hA : U32s A) : Calls Try.prog 29 #[.pointer (some ⟨rb, 0, none⟩), .int .u32 now] w fun e w' => e = .returned (.bool (wayOf win tmo L.length A now).isSome) ∧ ∃ m, w' = w.drewN m := by
  have H0 := Lib.hid (ref_way w T rb win tmo most acked L A now h hn hA)
  have hd : decide (0 ≤ wayNo A.length (wayOf win tmo L.length A now)) = (wayOf win tmo L.length A now).isSome := by
    rcases wayOf win tmo L.length A now with _ | _ | _ <;> simp [wayNo]
  clear h hA
  generalize wayOf win tmo L.length A now = o at *
  generalize wayNo A.length o = q at *
  go_enter Try.func29, Try.ntmps29
  go_wp2_with (go_at_call 66; refine H0.out.mono ?_; rintro e w1 ⟨rfl, m, rfl⟩)
  go_ret
  exact ⟨by rw [← hd]; rfl, _, rfl⟩
end

end Go.Proofs.Ytehdhdocalbfpaa
