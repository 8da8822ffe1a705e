/-
  The document's table: a list of pairs; at, Get, Next, Copy, Fits.
-/
import Derived.Test.YtgoolkgjcmdilaaDoorTabN
import Derived.Test.YtgoolkgjcmdilaaDoorRead
import Derived.BigRegion
import Derived.Deep.CutBlock
import Derived.Deep.DeepCutAuto
namespace Go.Proofs.YtgoolkgjcmdilaaDoor
open Go.RowKit
set_option linter.unusedVariables false
set_option linter.unusedSimpArgs false
attribute [local go_sem] Oper.semAt_some

abbrev IPs := List (Int × Int)
structure RefT (W : World) (b : Nat) (v : Value) (R : IPs) (room : Int) : Prop where
  hd : Blk W b #[.int .i64 room, v] 52
  own : W.ownsRow 0 154 2 v R.length (flat payN R)
  up : Up R
  ids : ∀ p ∈ R, U32 p.1
  lim : R.length ≤ 65536
/-- A slice of pairs reads. -/
def RdP (W : World) (v : Value) (R : IPs) : Prop :=
  ∃ p cap, v = .slice p R.length cap ∧ R.length ≤ cap ∧ ∀ (i : Nat) q, R[i]? = some q → ∃ g o, p = some ⟨g, o, none⟩ ∧ W.cell? ⟨g, o + i * 2, none⟩ = some (.int .u32 q.1) ∧ W.cell? ⟨g, o + i * 2 + 1, none⟩ = some (.int .i64 q.2)
theorem RdP.fr {W W' : World} {v : Value} {R : IPs} (h : RdP W v R) (f : Fr [] W W') : RdP W' v R := by
  obtain ⟨p, cap, rfl, hc, h0⟩ := h
  refine ⟨p, cap, rfl, hc, fun i q hq => ?_⟩
  obtain ⟨g, o, rfl, h1, h2⟩ := h0 i q hq
  exact ⟨g, o, rfl, (f.cell (World.block_lt_of_cell? W _ h1) (by simp)).trans h1, (f.cell (World.block_lt_of_cell? W _ h2) (by simp)).trans h2⟩
theorem RdP.of_own {W : World} {v : Value} {R : IPs} {n : Nat} (h : W.ownsRow 0 154 2 v n (flat payN R)) : RdP W v R := by
  have hn : R.length = n := by
    have h1 := h.1
    rw [flat_len wideN] at h1
    omega
  rcases h.2 with ⟨rfl, rfl⟩ | ⟨g, cap, cur, rfl, _, hg, hnc, _⟩
  · refine ⟨none, 0, by rw [hn], by omega, fun i q hq => ?_⟩
    have := (List.getElem?_eq_some_iff.1 hq).1
    omega
  · refine ⟨some ⟨g, 0, none⟩, cap, by rw [hn], by omega, fun i q hq => ⟨g, 0, rfl, ?_, ?_⟩⟩
    · have := h.cells (g := g) rfl (i * 2) _ (flat_id wideN hq)
      rw [Addr.add_lit] at this
      simpa using this
    · have := h.cells (g := g) rfl (i * 2 + 1) _ (flat_pay wideN hq (j := 0) rfl)
      rw [Addr.add_lit] at this
      simpa using this
theorem RefT.rd {W : World} {b : Nat} {v : Value} {R : IPs} {room : Int} (h : RefT W b v R room) : RdP W v R := RdP.of_own h.own
theorem RefT.fr {S : List Nat} {W W' : World} {b : Nat} {v : Value} {R : IPs} {room : Int} (h : RefT W b v R room) (hf : Fr S W W') (h1 : b ∉ S) (h2 : ∀ g, v.ownBlock = some g → g ∉ S) : RefT W' b v R room :=
  ⟨hf.blk h.hd h1, own_fr h.own hf h2, h.up, h.ids, h.lim⟩
theorem RefT.grow {W W' : World} {b : Nat} {v : Value} {R : IPs} {room : Int} (h : RefT W b v R room) (hf : Fr [] W W') : RefT W' b v R room := h.fr hf (by simp) (by simp)
theorem RefT.notin {W : World} {b : Nat} {v : Value} {R : IPs} {room : Int} (h : RefT W b v R room) : b ∉ v.ownBlock.toList := own_notin h.own h.hd (by decide)

theorem fits_any (w : World) (n : Int) : Calls Tryd.prog 18 #[.int .i64 n] w fun e w' => e = .returned (.bool (decide (0 ≤ n ∧ n ≤ 65536))) ∧ w = w' := by
  by_cases h1 : 0 ≤ n
  · by_cases h2 : n ≤ 65536
    · go_enter Tryd.func18, Tryd.ntmps18
      go_wp2
      go_ret
      exact ⟨ret_bool (by simp [h1, h2]), rfl⟩
    · go_enter Tryd.func18, Tryd.ntmps18
      go_wp2
      go_ret
      exact ⟨ret_bool (by simp; omega), rfl⟩
  · go_enter Tryd.func18, Tryd.ntmps18
    go_wp2
    go_ret
    exact ⟨ret_bool (by simp; omega), rfl⟩

set_option maxRecDepth 100000 in
set_option maxHeartbeats 1000000 in
theorem at_any (w : World) (b : Nat) (v : Value) (R : IPs) (room id : Int) (h : RefT w b v R room) (hi : U32 id) :
    Calls Tryd.prog 131 #[.pointer (some ⟨b, 0, none⟩), .int .u32 id] w fun e w' => e = .returned (.tuple #[.int .i64 (rank R id), .bool (hasId R id)]) ∧ w'= w.drew := by
  obtain ⟨p, cap, rfl, hc, h0⟩ := h.rd
  have c1 := h.hd.at 1 (v := .slice p R.length cap) rfl
  obtain ⟨n, hn⟩ : ∃ n, n = R.length := ⟨_, rfl⟩
  obtain ⟨r, hr'⟩ : ∃ r, r = rank R id := ⟨_, rfl⟩
  obtain ⟨hs, hhs⟩ : ∃ b, b = hasId R id := ⟨_, rfl⟩
  have hrn : r ≤ n := by rw [hn, hr']; exact rank_le _ _
  have hn6 : n ≤ 65536 := by rw [hn]; exact h.lim
  have HU := Lib.hid h.up
  have H0 := Lib.hid h0
  rw [← hn] at c1
  rw [← hr', ← hhs]
  have HN := Lib.hid (And.intro hn (And.intro hr' hhs))
  clear h h0 hn hr' hhs hc
  go_enter Tryd.func131, Tryd.ntmps131
  go_wp2_with fail
  go_loopw [6] (fun iw wr => ∃ i : Nat, iw = .int .i64 i ∧ i ≤ r ∧ w = wr) (fun iw _ => n - (intOf iw).toNat)
  case atStart => exact ⟨0, rfl, Nat.zero_le _, rfl⟩
  case round =>
    obtain ⟨i, rfl, hir, rfl⟩ := hrel
    by_cases hin : i < n
    · have hlt : i < R.length := by rw [← HN.out.1]; exact hin
      obtain ⟨⟨y, z⟩, hy⟩ : ∃ q, q = R[i] := ⟨_, rfl⟩
      have hyi : R[i]? = some (y, z) := by rw [hy]; exact List.getElem?_eq_getElem hlt
      obtain ⟨g, o, rfl, c2, c3⟩ := H0.out i _ hyi
      dsimp only at c2 c3
      have hrk := rank_lt HU.out id hyi
      rw [← HN.out.2.1] at hrk
      dsimp only at hrk
      have g0 : (0 : Int) ≤ (i : Int) := by omega
      have g1 : (i : Int) < (n : Int) := by omega
      have HY := Lib.hid hyi
      clear hy hyi hlt
      by_cases hyx : y < id
      · have hir' : i < r := hrk.1 hyx
        clear hrk
        go_wp2_with fail
        refine ⟨⟨i + 1, by go_num, by omega, by first | rfl | trivial⟩, by simp [intOf]; omega⟩
      · obtain rfl : i = r := by
          have : ¬ i < r := fun q => hyx (hrk.2 q)
          omega
        clear hrk
        have hh : hs = (y == id) := by
          rw [HN.out.2.2, Bool.eq_iff_iff, has_at HU.out]
          rw [← HN.out.2.1, HY.out]
          constructor
          · rintro ⟨x, hx⟩; cases hx; simp
          · intro q
            have q' : y = id := by simpa using q
            exact ⟨z, by rw [q']⟩
        have HH := Lib.hid hh
        clear hh
        go_wp2_with fail
        go_region
        simp only [Exit.then]
        go_wp2_with fail
        refine bodyPost_ret (v := .tuple #[.int .i64 i, .bool hs]) (by simp [results, Tryd.results131, go_sem, HH.out]) rfl ⟨rfl, rfl⟩
    · obtain rfl : i = n := by omega
      obtain rfl : i = r := by omega
      have hh : hs = false := by
        rw [HN.out.2.2]
        cases hq : hasId R id with
        | false => rfl
        | true =>
          obtain ⟨x, hx⟩ := (has_at HU.out id).1 hq
          have := (List.getElem?_eq_some_iff.1 hx).1
          rw [← HN.out.2.1, ← HN.out.1] at this
          omega
      subst hh
      go_wp2_with fail
      go_region
      simp only [Exit.then]
      go_wp2_with fail
      refine bodyPost_ret (v := .tuple #[.int .i64 i, .bool false]) (by simp [results, Tryd.results131, go_sem]) rfl ⟨rfl, rfl⟩
end Go.Proofs.YtgoolkgjcmdilaaDoor
