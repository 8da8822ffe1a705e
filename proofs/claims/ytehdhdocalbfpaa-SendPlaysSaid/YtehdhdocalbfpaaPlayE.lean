/-
  sameClocks, sameEvents of two slices that read alike; SentAt, by contracts.
-/
import Derived.Test.YtehdhdocalbfpaaPlayD
namespace Go.Proofs.Ytehdhdocalbfpaa
open Go.RowKit ring
set_option linter.unusedVariables false
attribute [local go_sem ↓] Go.wp_at_zero Go.wp_at_succ newVar56
attribute [local go_sem] ev_layEv_same can_new run_storeEv0 run_newEv run_newEv'

/-- A slice that reads as these clocks; as these events. -/
def RdU (w : World) (v : Value) (A : List Int) : Prop :=
  ∃ p cap, v = .slice p A.length cap ∧ (A.length = 0 ∨ ∃ g o, p = some ⟨g, o, none⟩ ∧ ∀ k a, A[k]? = some a → w.cell? ⟨g, o + k, none⟩ = some (.int .u32 a))
def RdE (w : World) (v : Value) (L : List Ev) : Prop :=
  ∃ p cap, v = .slice p L.length cap ∧ (L.length = 0 ∨ ∃ g o, p = some ⟨g, o, none⟩ ∧ ∀ k e, L[k]? = some e → ev? w g (o + k * 8) = some e.val)
theorem RdU.fr0 {w w' : World} {v : Value} {A : List Int} (h : RdU w v A) (f : Fr [] w w') : RdU w' v A := by
  obtain ⟨p, cap, rfl, h⟩ := h
  refine ⟨p, cap, rfl, h.imp id ?_⟩
  rintro ⟨g, o, rfl, h3⟩
  exact ⟨g, o, rfl, fun k a hk => (f.cell (World.block_lt_of_cell? w _ (h3 k a hk)) (by simp)).trans (h3 k a hk)⟩
theorem RdE.fr0 {w w' : World} {v : Value} {L : List Ev} (h : RdE w v L) (f : Fr [] w w') : RdE w' v L := by
  obtain ⟨p, cap, rfl, h⟩ := h
  refine ⟨p, cap, rfl, h.imp id ?_⟩
  rintro ⟨g, o, rfl, h3⟩
  exact ⟨g, o, rfl, fun k e hk => ev_fr f (h3 k e hk)⟩
theorem RdU.of_own {w : World} {v : Value} {A : List Int} (h : w.ownsRow 0 51 1 v A.length (u32s A)) : RdU w v A := by
  rcases h.2 with ⟨rfl, h0⟩ | ⟨g, cap, cur, rfl, _⟩
  · exact ⟨none, 0, by rw [h0], .inl h0⟩
  · refine ⟨_, cap, rfl, .inr ⟨g, 0, rfl, fun k a hk => ?_⟩⟩
    have := h.cells (g := g) rfl k (.int .u32 a) (by simp [u32s, hk])
    rw [Addr.add_lit] at this
    exact this
theorem RdE.of_own {w : World} {v : Value} {L : List Ev} (h : w.ownsRow 0 56 8 v L.length (evs L)) : RdE w v L := by
  rcases h.2 with ⟨hv, h0⟩ | ⟨g, cap, cur, hv, _⟩
  · exact ⟨none, 0, by rw [h0]; exact hv, .inl h0⟩
  · refine ⟨_, cap, hv, .inr ⟨g, 0, rfl, fun k e hk => ?_⟩⟩
    rw [Nat.zero_add]
    exact own_ev h hv hk
set_option maxRecDepth 100000 in
theorem clocks_same (w : World) (a b : Value) (A : List Int) (hA : A.length ≤ 70368744177664) (ha : RdU w a A) (hb : RdU w b A) : Calls Try.prog 65 #[a, b] w fun e w' => e = .returned (.bool true) ∧ Fr [] w w' := by
  obtain ⟨p, ca, rfl, h1⟩ := ha
  obtain ⟨q, cb, rfl, h2⟩ := hb
  obtain ⟨n, hn⟩ : ∃ n, n = A.length := ⟨_, rfl⟩
  have HN := Lib.hid hn
  rw [← hn] at h1 h2 hA ⊢
  have H1 := Lib.hid (And.intro h1 h2)
  clear hn h1 h2
  go_enter Try.func65, Try.ntmps65
  go_wp2_with fail
  go_loopw [5] (fun i wr => ∃ k : Nat, i = .int .i64 k ∧ k ≤ n ∧ Fr [] w wr) (fun i _ => n - (intOf i).toNat)
  case atStart => exact ⟨0, rfl, Nat.zero_le _, Fr.refl _ _⟩
  case round =>
    obtain ⟨k, rfl, hk, hf⟩ := hrel
    obtain ⟨wi, rfl⟩ : ∃ wi : World, wi = wr := ⟨_, rfl⟩
    by_cases hlt : k < n
    · obtain ⟨h1, h2⟩ := H1.out
      obtain ⟨g, o, rfl, h3⟩ := h1.resolve_left (by omega)
      obtain ⟨g2, o2, rfl, h4⟩ := h2.resolve_left (by omega)
      obtain ⟨x, hx⟩ : ∃ x, A[k]? = some x := ⟨_, List.getElem?_eq_getElem (by have := HN.out; omega)⟩
      have c1 := (hf.cell (World.block_lt_of_cell? w _ (h3 k x hx)) (by simp)).trans (h3 k x hx)
      have c2 := (hf.cell (World.block_lt_of_cell? w _ (h4 k x hx)) (by simp)).trans (h4 k x hx)
      have j1 : (0 : Int) ≤ (k : Int) := by omega
      have j2 : (k : Int) < (n : Int) := by omega
      have HF := Lib.hid hf
      clear h1 h2 h3 h4 hx hf
      go_wp2_with fail
      go_quiet (fail)
      go_wp2_with fail
      first
        | (refine ⟨⟨k + 1, by go_num, by omega, HF.out.drewN _⟩, ?_⟩
           simp [intOf]; omega)
        | (go_roundw
           case rel => exact ⟨k + 1, by go_num, by omega, HF.out.drewN _⟩
           case measure => simp [intOf]; omega)
    · have HF := Lib.hid hf
      clear hf
      go_wp2
      go_ret
      exact ⟨rfl, HF.out⟩
set_option maxRecDepth 100000 in
theorem events_same (w : World) (a b : Value) (L : List Ev) (hA : L.length ≤ 70368744177664) (ha : RdE w a L) (hb : RdE w b L) : Calls Try.prog 64 #[a, b] w fun e w' => e = .returned (.bool true) ∧ Fr [] w w' := by
  obtain ⟨p, ca, rfl, h1⟩ := ha
  obtain ⟨q, cb, rfl, h2⟩ := hb
  obtain ⟨n, hn⟩ : ∃ n, n = L.length := ⟨_, rfl⟩
  have HN := Lib.hid hn
  rw [← hn] at h1 h2 hA ⊢
  have H1 := Lib.hid (And.intro h1 h2)
  clear hn h1 h2
  go_enter Try.func64, Try.ntmps64
  go_wp2_with fail
  go_loopw [5] (fun i wr => ∃ k : Nat, i = .int .i64 k ∧ k ≤ n ∧ Fr [] w wr) (fun i _ => n - (intOf i).toNat)
  case atStart => exact ⟨0, rfl, Nat.zero_le _, Fr.refl _ _⟩
  case round =>
    obtain ⟨k, rfl, hk, hf⟩ := hrel
    obtain ⟨wi, rfl⟩ : ∃ wi : World, wi = wr := ⟨_, rfl⟩
    by_cases hlt : k < n
    · obtain ⟨h1, h2⟩ := H1.out
      obtain ⟨g, o, rfl, h3⟩ := h1.resolve_left (by omega)
      obtain ⟨g2, o2, rfl, h4⟩ := h2.resolve_left (by omega)
      obtain ⟨x, hx⟩ : ∃ x, L[k]? = some x := ⟨_, List.getElem?_eq_getElem (by have := HN.out; omega)⟩
      have c1 := ev_fr hf (h3 k x hx)
      have c2 := ev_fr hf (h4 k x hx)
      have j1 : (0 : Int) ≤ (k : Int) := by omega
      have j2 : (k : Int) < (n : Int) := by omega
      have HF := Lib.hid hf
      clear h1 h2 h3 h4 hx hf
      have HK := Lib.hid (fun W (f : Fr [] wi W) => show ev? W g (o + k * 8) = some x.val ∧ ev? W g2 (o2 + k * 8) = some x.val from ⟨ev_fr f c1, ev_fr f c2⟩)
      go_wp2_with fail
      go_region_held3 (fun w' => ev? w' g (o + k * 8) = some x.val ∧ ev? w' g2 (o2 + k * 8) = some x.val) (first | exact HK.out _ ((Fr.refl [] wi).drew) | exact HK.out _ ((Fr.refl [] wi).drewN _) | exact HK.out _ f9 | exact HK.out _ (f9.drewN _))
        ((go_at_call 22; refine (like_same _ x).mono ?_; rintro e w9 ⟨rfl, f8⟩; have f9 : Fr [] wi w9 := (by first | exact ((Fr.refl [] wi).drewN _).trans f8 (by simp) | exact ((Fr.refl [] wi).drew).trans f8 (by simp))))
      simp only [Exit.then]
      go_wp2_with fail
      first
        | (refine ⟨⟨k + 1, by go_num, by omega, HF.out.trans f9 (by simp)⟩, ?_⟩
           simp [intOf]; omega)
        | (go_roundw
           case rel => exact ⟨k + 1, by go_num, by omega, HF.out.trans f9 (by simp)⟩
           case measure => simp [intOf]; omega)
    · have HF := Lib.hid hf
      clear hf
      go_wp2
      go_ret
      exact ⟨rfl, HF.out⟩
set_option maxRecDepth 100000 in
/-- SentAt tells a copy. -/
theorem snd_sentat (w : World) (S : List Nat) (sb win tmo most acked : Nat) (L : List Ev) (A : List Int) (h : Snd w S sb win tmo most acked L A) : Calls Try.prog 34 #[.pointer (some ⟨sb, 0, none⟩)] w fun e w' => ∃ v, e = .returned v ∧ w'.ownsRow 0 51 1 v A.length (u32s A) ∧ (∀ g, v.ownBlock = some g → w.heap.size ≤ g) ∧ Fr [] w w' := by
  obtain ⟨rb, g, Cs, f, atv, hS, hb, hr, ho⟩ := h.ex
  have haw := h.aw
  have hlw := h.lw
  have c3 := hb.at 3 (v := .pointer (some ⟨rb, 0, none⟩)) rfl
  have c4 := (hb.alloc (.cells #[] 51)).at 4 (v := atv) rfl
  have ht := Lib.hid (sthere_ok w sb rb c3)
  have hE0 : World.ownsRow (w.alloc (.cells #[] 51)) 0 51 1 (.slice (some ⟨w.heap.size, 0, none⟩) 0 0) 0 [] := by
    refine ⟨by simp, .inr ⟨w.heap.size, 0, #[], rfl, Nat.zero_le _, heap_alloc_new w _, Nat.le_refl _, by unfold maxLen; omega, by simp, by simp⟩⟩
  have fa := (Fr.refl [] w).alloc (.cells #[] 51)
  have ho1 := own_fr ho fa (by simp)
  have HE := Lib.hid (And.intro hE0 (And.intro fa ho1))
  rcases ho.2 with ⟨h9, h90⟩ | ⟨o, cap, cur, h9, _⟩
  · subst h9
    have hA0 : A = [] := List.length_eq_zero_iff.1 h90
    subst hA0
    clear h hS hb hr ho hE0 fa ho1
    go_enter Try.func34, Try.ntmps34
    go_wp2_with (go_at_call 55; refine ht.out.mono ?_; rintro e w1 ⟨rfl, rfl⟩)
    go_ret
    exact ⟨_, rfl, HE.out.1, fun g hg => by have : w.heap.size = g := (by simpa [Value.ownBlock] using hg); omega, HE.out.2.1⟩
  · subst h9
    have hc : ∀ j u, (u32s A)[j]? = some u → (w.alloc (.cells #[] 51)).cell? ((⟨o, 0, none⟩ : Addr).add j) = some u := fun j u hj => ho1.cells (g := o) rfl j u hj
    have HC := Lib.hid hc
    clear h hS hb hr ho hE0 fa ho1 hc
    go_enter Try.func34, Try.ntmps34
    go_wp2_with (first
      | (go_at_call 55; refine ht.out.mono ?_; rintro e w1 ⟨rfl, rfl⟩)
      | (at_builtin; go_must (refine wpList_app _ rfl _ _ 43 rfl 51 (.int .u32 0) 1 4 Try.underlying43 info51 rfl (by decide) (.slice (some ⟨w.heap.size, 0, none⟩) 0 0) 0 [] rfl HE.out.1 ⟨o, 0, none⟩ A.length cap (u32s A) rfl (by rw [u32s_len]; omega) HC.out (u32s_one _) (by unfold maxLen; omega) (by omega) ?_); intro v1 w3 happ))
    go_ret
    have h1 := happ.own
    rw [Nat.zero_add, List.nil_append] at h1
    refine ⟨v1, rfl, h1, fun g hg => ?_, HE.out.2.1.trans (happ.fr) (fun g hg => .inr ?_)⟩
    · rcases happ.place with hp | hp
      · rw [hp] at hg; have : w.heap.size = g := (by simpa [Value.ownBlock] using hg); omega
      · rw [hp] at hg; simp at hg; omega
    · have : g = w.heap.size := (by simpa [Value.ownBlock] using hg)
      omega

end Go.Proofs.Ytehdhdocalbfpaa
