/-
  The document's sets: With.
-/
import Derived.Test.YtgoolkgjcmdilaaDoorBiE
namespace Go.Proofs.YtgoolkgjcmdilaaDoor
open Go.RowKit
set_option linter.unusedVariables false
set_option linter.unusedSimpArgs false
attribute [local go_sem] Oper.semAt_some

/-- The members when the first i are changed. -/
def mixB (f : Bool → Bool → Bool) (B C : List Bool) (i : Nat) : List Bool := (List.range B.length).map fun j => if j < i then f (B.getD j false) (C.getD j false) else B.getD j false
theorem mixB_len (f : Bool → Bool → Bool) (B C : List Bool) (i : Nat) : (mixB f B C i).length = B.length := by simp [mixB]
theorem mixB_zero (f : Bool → Bool → Bool) (B C : List Bool) : mixB f B C 0 = B := by
  refine List.ext_getElem? fun j => ?_
  rcases Nat.lt_or_ge j B.length with hj | hj
  · simp [mixB, List.getElem?_range hj, List.getD_eq_getElem?_getD, hj]
  · rw [List.getElem?_eq_none (by rw [mixB_len]; exact hj), List.getElem?_eq_none hj]
theorem mixB_succ (f : Bool → Bool → Bool) (B C : List Bool) (i : Nat) (hi : i < B.length) : mixB f B C (i + 1) = (mixB f B C i).set i (f (B.getD i false) (C.getD i false)) := by
  refine List.ext_getElem? fun j => ?_
  rcases Nat.lt_or_ge j B.length with hj | hj
  · rw [List.getElem?_set]
    by_cases hij : i = j
    · subst hij
      rw [if_pos rfl, mixB_len, if_pos hi]
      simp [mixB, List.getElem?_range hi]
    · rw [if_neg hij]
      simp only [mixB, List.getElem?_map, List.getElem?_range hj, Option.map_some]
      by_cases h1 : j < i
      · rw [if_pos (by omega), if_pos h1]
      · rw [if_neg (by omega), if_neg h1]
  · rw [List.getElem?_eq_none (by rw [mixB_len]; exact hj), List.getElem?_eq_none (by rw [List.length_set, mixB_len]; exact hj)]
theorem mixB_get (f : Bool → Bool → Bool) (B C : List Bool) (i j : Nat) (hj : j < B.length) : (mixB f B C i).getD j false = if j < i then f (B.getD j false) (C.getD j false) else B.getD j false := by
  rw [List.getD_eq_getElem?_getD]
  simp [mixB, List.getElem?_range hj]
theorem mixB_all (f : Bool → Bool → Bool) (B C : List Bool) : mixB f B C B.length = zipB f B C := by
  unfold mixB zipB
  refine List.map_congr_left fun j hj => ?_
  rw [if_pos (List.mem_range.1 hj)]
structure MixR (f : Bool → Bool → Bool) (w : World) (b g c g2 : Nat) (v u : Value) (B C : List Bool) (i : Nat) (W : World) : Prop where
  hb : Blk W b #[v] 157
  hc : Blk W c #[u] 157
  own : W.ownsRow 0 4 1 v B.length (bools (mixB f B C i))
  rest : ∀ j, i ≤ j → j < C.length → W.cell? ⟨g2, j, none⟩ = some (.bool (C.getD j false))
  fr : Fr [g] w W
theorem MixR.drew {f : Bool → Bool → Bool} {w W : World} {b g c g2 : Nat} {v u : Value} {B C : List Bool} {i : Nat} (h : MixR f w b g c g2 v u B C i W) : MixR f w b g c g2 v u B C i W.drew := ⟨h.hb, h.hc, h.own, h.rest, h.fr.drew⟩
theorem own_cellb {W : World} {g cap n : Nat} {xs : List Bool} (h : W.ownsRow 0 4 1 (.slice (some ⟨g, 0, none⟩) n cap) n (bools xs)) {i : Nat} (hi : i < xs.length) : W.cell? ⟨g, i, none⟩ = some (.bool (xs.getD i false)) := by
  have := h.cells (g := g) rfl i _ (bools_get xs hi)
  rw [Addr.add_lit] at this
  simpa using this
theorem MixR.step {f : Bool → Bool → Bool} {w W : World} {b g c g2 cap : Nat} {u : Value} {B C : List Bool} {i : Nat} (h : MixR f w b g c g2 (.slice (some ⟨g, 0, none⟩) B.length cap) u B C i W) (hi : i < B.length) :
    MixR f w b g c g2 (.slice (some ⟨g, 0, none⟩) B.length cap) u B C (i + 1) (W.setCell ⟨g, i, none⟩ (.bool (f (B.getD i false) (C.getD i false)))) := by
  have hbg : b ≠ g := fun e => by subst e; exact own_notin h.own h.hb (by decide) (by simp [Value.ownBlock])
  have hcg : c ≠ g := fun e => by subst e; exact own_notin h.own h.hc (by decide) (by simp [Value.ownBlock])
  refine ⟨h.hb.other _ _ hbg, h.hc.other _ _ hcg, ?_, fun j hj hjl => ?_, h.fr.setCell _ _ (.inl (by simp))⟩
  · rw [mixB_succ f B C i hi, ← bools_set]
    exact own_set h.own rfl _ _ (by rw [bools_len, mixB_len]; exact hi)
  · refine (World.cell?_setCell_other _ _ _ _ (fun e => ?_)).trans (h.rest j (by omega) hjl)
    have e2 := congrArg Addr.off e
    dsimp only at e2
    omega
def RWithP (f : Bool → Bool → Bool) (w : World) (b : Nat) (v : Value) (B C : List Bool) (e : Ending) (w' : World) : Prop :=
  e = .returned (.int .i64 0) ∧ RefB w' b v (zipB f B C) ∧ Fr v.ownBlock.toList w w'
theorem rwith_ne (w : World) (b c : Nat) (v u : Value) (B C : List Bool) (k : Int) (hB : RefB w b v B) (hC : RefB w c u C) (hl : B.length ≠ C.length) :
    Calls Tryd.prog 85 #[.pointer (some ⟨b, 0, none⟩), .pointer (some ⟨c, 0, none⟩), .int .i64 k] w fun e w' => e = .returned (.int .i64 2) ∧ Fr [] w w' := by
  obtain ⟨g, cap, rfl, _, _⟩ := hB.row
  obtain ⟨g2, cap2, rfl, _, _⟩ := hC.row
  have b0 := hB.hd.at 0 (v := .slice (some ⟨g, 0, none⟩) B.length cap) rfl
  have c0 := hC.hd.at 0 (v := .slice (some ⟨g2, 0, none⟩) C.length cap2) rfl
  obtain ⟨n, hn⟩ : ∃ n, n = B.length := ⟨_, rfl⟩
  obtain ⟨m, hm⟩ : ∃ m, m = C.length := ⟨_, rfl⟩
  rw [← hn] at b0 hl
  rw [← hm] at c0 hl
  have hne : ¬ (n : Int) = (m : Int) := by omega
  clear hB hC hn hm hl
  go_enter Tryd.func85, Tryd.ntmps85
  go_wp2_with fail
  go_region
  simp only [Exit.then]
  go_wp2_with fail
  refine bodyPost_ret (v := .int .i64 2) (by simp [results, Tryd.results85, go_sem]) rfl ⟨rfl, ?_⟩
  exact (Fr.refl [] w).drew

set_option maxRecDepth 100000 in
set_option maxHeartbeats 2000000 in
theorem rjoin_any (w : World) (b c : Nat) (v u : Value) (B C : List Bool) (hB : RefB w b v B) (hC : RefB w c u C) (hl : B.length = C.length) :
    Calls Tryd.prog 85 #[.pointer (some ⟨b, 0, none⟩), .pointer (some ⟨c, 0, none⟩), .int .i64 0] w (RWithP joinF w b v B C) := by
  have HB := Lib.hid hB
  obtain ⟨g, cap, rfl, _, _⟩ := hB.row
  obtain ⟨g2, cap2, rfl, _, h5⟩ := hC.row
  have b0 := hB.hd.at 0 (v := .slice (some ⟨g, 0, none⟩) B.length cap) rfl
  have c0 := hC.hd.at 0 (v := .slice (some ⟨g2, 0, none⟩) C.length cap2) rfl
  have hM : MixR joinF w b g c g2 (.slice (some ⟨g, 0, none⟩) B.length cap) (.slice (some ⟨g2, 0, none⟩) C.length cap2) B C 0 w := ⟨hB.hd, hC.hd, by rw [mixB_zero]; exact hB.own, fun j _ hj => h5 j hj, Fr.refl _ _⟩
  have HM := Lib.hid hM
  have hn6 := hB.lim
  obtain ⟨n, hn⟩ : ∃ n, n = B.length := ⟨_, rfl⟩
  have HN := Lib.hid (And.intro hn hl)
  rw [← hl, ← hn] at c0
  rw [← hn] at b0 hn6
  clear hB hC hM hn hl h5
  go_enter Tryd.func85, Tryd.ntmps85
  go_wp2_with fail
  go_region
  simp only [Exit.then]
  go_wp2_with fail
  clear b0 c0
  go_loopw [7] (fun iv wr => ∃ i : Nat, iv = .int .i64 i ∧ i ≤ n ∧ MixR joinF w b g c g2 (.slice (some ⟨g, 0, none⟩) B.length cap) (.slice (some ⟨g2, 0, none⟩) C.length cap2) B C i wr) (fun iv _ => n - (intOf iv).toNat)
  case atStart => exact ⟨0, rfl, Nat.zero_le _, HM.out.drew⟩
  case round =>
    obtain ⟨i, rfl, hi, hMi⟩ := hrel
    obtain ⟨wi, hwi⟩ : ∃ wi : World, wi = wr := ⟨_, rfl⟩
    rw [← hwi] at hMi ⊢
    clear hwi wr
    have b0 := hMi.hb.at 0 (v := .slice (some ⟨g, 0, none⟩) B.length cap) rfl
    have c0 := hMi.hc.at 0 (v := .slice (some ⟨g2, 0, none⟩) C.length cap2) rfl
    rw [← HN.out.1] at b0
    rw [← HN.out.2, ← HN.out.1] at c0
    by_cases hin : i < n
    · have hib : i < B.length := by rw [← HN.out.1]; exact hin
      have k0 := hMi.rest i (Nat.le_refl _) (by rw [← HN.out.2]; exact hib)
      have k1 := own_cellb hMi.own (i := i) (by rw [mixB_len]; exact hib)
      rw [mixB_get _ _ _ _ _ hib, if_neg (by omega)] at k1
      have fz := hMi.own.frozenAt i
      have hst := (hMi.drew.step hib)
      have hst2 := (hMi.step hib).drew
      obtain ⟨x, hx⟩ : ∃ x, x = B.getD i false := ⟨_, rfl⟩
      obtain ⟨y, hy⟩ : ∃ y, y = C.getD i false := ⟨_, rfl⟩
      rw [← hx] at k1 hst hst2
      rw [← hy] at k0 hst hst2
      have g0 : (0 : Int) ≤ (i : Int) := by omega
      have g1 : (i : Int) < (n : Int) := by omega
      clear hx hy hMi hib
      cases x <;> cases y
      all_goals
        have HS := Lib.hid hst
        have HS2 := Lib.hid hst2
        clear hst hst2
        go_wp2_with fail
        go_region
        try simp only [Exit.then]
        go_wp2_with fail
        refine ⟨⟨i + 1, by go_num, by omega, by first | exact HS.out | exact HS2.out⟩, by simp [intOf]; omega⟩
    · obtain rfl : i = n := by omega
      have HMi := Lib.hid hMi
      clear hMi
      go_wp2_with fail
      have hd := HMi.out
      refine bodyPost_ret (v := .int .i64 0) (by simp [results, Tryd.results85, go_sem]) rfl ⟨rfl, ⟨hd.hb, ?_, HB.out.nn, by rw [zipB_len]; exact HB.out.lim⟩, hd.fr⟩
      have ho := hd.own
      rw [HN.out.1, mixB_all] at ho
      rw [zipB_len]
      exact ho

set_option maxRecDepth 100000 in
set_option maxHeartbeats 2000000 in
theorem rcut_any (w : World) (b c : Nat) (v u : Value) (B C : List Bool) (hB : RefB w b v B) (hC : RefB w c u C) (hl : B.length = C.length) :
    Calls Tryd.prog 85 #[.pointer (some ⟨b, 0, none⟩), .pointer (some ⟨c, 0, none⟩), .int .i64 1] w (RWithP cutF w b v B C) := by
  have HB := Lib.hid hB
  obtain ⟨g, cap, rfl, _, _⟩ := hB.row
  obtain ⟨g2, cap2, rfl, _, h5⟩ := hC.row
  have b0 := hB.hd.at 0 (v := .slice (some ⟨g, 0, none⟩) B.length cap) rfl
  have c0 := hC.hd.at 0 (v := .slice (some ⟨g2, 0, none⟩) C.length cap2) rfl
  have hM : MixR cutF w b g c g2 (.slice (some ⟨g, 0, none⟩) B.length cap) (.slice (some ⟨g2, 0, none⟩) C.length cap2) B C 0 w := ⟨hB.hd, hC.hd, by rw [mixB_zero]; exact hB.own, fun j _ hj => h5 j hj, Fr.refl _ _⟩
  have HM := Lib.hid hM
  have hn6 := hB.lim
  obtain ⟨n, hn⟩ : ∃ n, n = B.length := ⟨_, rfl⟩
  have HN := Lib.hid (And.intro hn hl)
  rw [← hl, ← hn] at c0
  rw [← hn] at b0 hn6
  clear hB hC hM hn hl h5
  go_enter Tryd.func85, Tryd.ntmps85
  go_wp2_with fail
  go_region
  simp only [Exit.then]
  go_wp2_with fail
  clear b0 c0
  go_loopw [7] (fun iv wr => ∃ i : Nat, iv = .int .i64 i ∧ i ≤ n ∧ MixR cutF w b g c g2 (.slice (some ⟨g, 0, none⟩) B.length cap) (.slice (some ⟨g2, 0, none⟩) C.length cap2) B C i wr) (fun iv _ => n - (intOf iv).toNat)
  case atStart => exact ⟨0, rfl, Nat.zero_le _, HM.out.drew⟩
  case round =>
    obtain ⟨i, rfl, hi, hMi⟩ := hrel
    obtain ⟨wi, hwi⟩ : ∃ wi : World, wi = wr := ⟨_, rfl⟩
    rw [← hwi] at hMi ⊢
    clear hwi wr
    have b0 := hMi.hb.at 0 (v := .slice (some ⟨g, 0, none⟩) B.length cap) rfl
    have c0 := hMi.hc.at 0 (v := .slice (some ⟨g2, 0, none⟩) C.length cap2) rfl
    rw [← HN.out.1] at b0
    rw [← HN.out.2, ← HN.out.1] at c0
    by_cases hin : i < n
    · have hib : i < B.length := by rw [← HN.out.1]; exact hin
      have k0 := hMi.rest i (Nat.le_refl _) (by rw [← HN.out.2]; exact hib)
      have k1 := own_cellb hMi.own (i := i) (by rw [mixB_len]; exact hib)
      rw [mixB_get _ _ _ _ _ hib, if_neg (by omega)] at k1
      have fz := hMi.own.frozenAt i
      have hst := (hMi.drew.step hib)
      have hst2 := (hMi.step hib).drew
      obtain ⟨x, hx⟩ : ∃ x, x = B.getD i false := ⟨_, rfl⟩
      obtain ⟨y, hy⟩ : ∃ y, y = C.getD i false := ⟨_, rfl⟩
      rw [← hx] at k1 hst hst2
      rw [← hy] at k0 hst hst2
      have g0 : (0 : Int) ≤ (i : Int) := by omega
      have g1 : (i : Int) < (n : Int) := by omega
      clear hx hy hMi hib
      cases x <;> cases y
      all_goals
        have HS := Lib.hid hst
        have HS2 := Lib.hid hst2
        clear hst hst2
        go_wp2_with fail
        go_region
        try simp only [Exit.then]
        go_wp2_with fail
        refine ⟨⟨i + 1, by go_num, by omega, by first | exact HS.out | exact HS2.out⟩, by simp [intOf]; omega⟩
    · obtain rfl : i = n := by omega
      have HMi := Lib.hid hMi
      clear hMi
      go_wp2_with fail
      have hd := HMi.out
      refine bodyPost_ret (v := .int .i64 0) (by simp [results, Tryd.results85, go_sem]) rfl ⟨rfl, ⟨hd.hb, ?_, HB.out.nn, by rw [zipB_len]; exact HB.out.lim⟩, hd.fr⟩
      have ho := hd.own
      rw [HN.out.1, mixB_all] at ho
      rw [zipB_len]
      exact ho

set_option maxRecDepth 100000 in
set_option maxHeartbeats 2000000 in
theorem rmeet_any (w : World) (b c : Nat) (v u : Value) (B C : List Bool) (hB : RefB w b v B) (hC : RefB w c u C) (hl : B.length = C.length) :
    Calls Tryd.prog 85 #[.pointer (some ⟨b, 0, none⟩), .pointer (some ⟨c, 0, none⟩), .int .i64 2] w (RWithP meetF w b v B C) := by
  have HB := Lib.hid hB
  obtain ⟨g, cap, rfl, _, _⟩ := hB.row
  obtain ⟨g2, cap2, rfl, _, h5⟩ := hC.row
  have b0 := hB.hd.at 0 (v := .slice (some ⟨g, 0, none⟩) B.length cap) rfl
  have c0 := hC.hd.at 0 (v := .slice (some ⟨g2, 0, none⟩) C.length cap2) rfl
  have hM : MixR meetF w b g c g2 (.slice (some ⟨g, 0, none⟩) B.length cap) (.slice (some ⟨g2, 0, none⟩) C.length cap2) B C 0 w := ⟨hB.hd, hC.hd, by rw [mixB_zero]; exact hB.own, fun j _ hj => h5 j hj, Fr.refl _ _⟩
  have HM := Lib.hid hM
  have hn6 := hB.lim
  obtain ⟨n, hn⟩ : ∃ n, n = B.length := ⟨_, rfl⟩
  have HN := Lib.hid (And.intro hn hl)
  rw [← hl, ← hn] at c0
  rw [← hn] at b0 hn6
  clear hB hC hM hn hl h5
  go_enter Tryd.func85, Tryd.ntmps85
  go_wp2_with fail
  go_region
  simp only [Exit.then]
  go_wp2_with fail
  clear b0 c0
  go_loopw [7] (fun iv wr => ∃ i : Nat, iv = .int .i64 i ∧ i ≤ n ∧ MixR meetF w b g c g2 (.slice (some ⟨g, 0, none⟩) B.length cap) (.slice (some ⟨g2, 0, none⟩) C.length cap2) B C i wr) (fun iv _ => n - (intOf iv).toNat)
  case atStart => exact ⟨0, rfl, Nat.zero_le _, HM.out.drew⟩
  case round =>
    obtain ⟨i, rfl, hi, hMi⟩ := hrel
    obtain ⟨wi, hwi⟩ : ∃ wi : World, wi = wr := ⟨_, rfl⟩
    rw [← hwi] at hMi ⊢
    clear hwi wr
    have b0 := hMi.hb.at 0 (v := .slice (some ⟨g, 0, none⟩) B.length cap) rfl
    have c0 := hMi.hc.at 0 (v := .slice (some ⟨g2, 0, none⟩) C.length cap2) rfl
    rw [← HN.out.1] at b0
    rw [← HN.out.2, ← HN.out.1] at c0
    by_cases hin : i < n
    · have hib : i < B.length := by rw [← HN.out.1]; exact hin
      have k0 := hMi.rest i (Nat.le_refl _) (by rw [← HN.out.2]; exact hib)
      have k1 := own_cellb hMi.own (i := i) (by rw [mixB_len]; exact hib)
      rw [mixB_get _ _ _ _ _ hib, if_neg (by omega)] at k1
      have fz := hMi.own.frozenAt i
      have hst := (hMi.drew.step hib)
      have hst2 := (hMi.step hib).drew
      obtain ⟨x, hx⟩ : ∃ x, x = B.getD i false := ⟨_, rfl⟩
      obtain ⟨y, hy⟩ : ∃ y, y = C.getD i false := ⟨_, rfl⟩
      rw [← hx] at k1 hst hst2
      rw [← hy] at k0 hst hst2
      have g0 : (0 : Int) ≤ (i : Int) := by omega
      have g1 : (i : Int) < (n : Int) := by omega
      clear hx hy hMi hib
      cases x <;> cases y
      all_goals
        have HS := Lib.hid hst
        have HS2 := Lib.hid hst2
        clear hst hst2
        go_wp2_with fail
        go_region
        try simp only [Exit.then]
        go_wp2_with fail
        refine ⟨⟨i + 1, by go_num, by omega, by first | exact HS.out | exact HS2.out⟩, by simp [intOf]; omega⟩
    · obtain rfl : i = n := by omega
      have HMi := Lib.hid hMi
      clear hMi
      go_wp2_with fail
      have hd := HMi.out
      refine bodyPost_ret (v := .int .i64 0) (by simp [results, Tryd.results85, go_sem]) rfl ⟨rfl, ⟨hd.hb, ?_, HB.out.nn, by rw [zipB_len]; exact HB.out.lim⟩, hd.fr⟩
      have ho := hd.own
      rw [HN.out.1, mixB_all] at ho
      rw [zipB_len]
      exact ho
end Go.Proofs.YtgoolkgjcmdilaaDoor
