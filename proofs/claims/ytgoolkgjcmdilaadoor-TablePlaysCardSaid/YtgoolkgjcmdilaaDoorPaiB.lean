/-
  same, first; what pairs gathers of a walk.
-/
import Derived.Test.YtgoolkgjcmdilaaDoorPlyA
import Derived.Test.YtgoolkgjcmdilaaDoorReg
namespace Go.Proofs.YtgoolkgjcmdilaaDoor
open Go.RowKit
set_option linter.unusedVariables false
set_option linter.unusedSimpArgs false
attribute [local go_sem] Oper.semAt_some

def CellsP (W : World) (p : Option Addr) (A : IPs) : Prop := ∀ (i : Nat) q, A[i]? = some q → ∃ g o, p = some ⟨g, o, none⟩ ∧ W.cell? ⟨g, o + i * 2, none⟩ = some (.int .u32 q.1) ∧ W.cell? ⟨g, o + i * 2 + 1, none⟩ = some (.int .i64 q.2)
theorem CellsP.fr {W W' : World} {p : Option Addr} {A : IPs} (h : CellsP W p A) (f : Fr [] W W') : CellsP W' p A := by
  intro i q hq
  obtain ⟨g, o, rfl, h1, h2⟩ := h i q hq
  exact ⟨g, o, rfl, (f.cell (World.block_lt_of_cell? W _ h1) (by simp)).trans h1, (f.cell (World.block_lt_of_cell? W _ h2) (by simp)).trans h2⟩
set_option maxRecDepth 100000 in
set_option maxHeartbeats 1000000 in
theorem same_any (w : World) (va vb : Value) (A : IPs) (ha : RdP w va A) (hb : RdP w vb A) (hl : A.length ≤ 65536) : Calls Tryd.prog 22 #[va, vb] w fun e w' => e = .returned (.bool true) ∧ Fr [] w w' := by
  obtain ⟨p1, k1, rfl, _, h1⟩ := ha
  obtain ⟨p2, k2, rfl, _, h2⟩ := hb
  have H1 := Lib.hid (show CellsP w p1 A from h1)
  have H2 := Lib.hid (show CellsP w p2 A from h2)
  obtain ⟨n, hn⟩ : ∃ n, n = A.length := ⟨_, rfl⟩
  rw [← hn] at hl
  simp only [← hn]
  have HN := Lib.hid hn
  clear h1 h2 hn
  go_enter Tryd.func22, Tryd.ntmps22
  go_wp2_with fail
  go_loopw [5] (fun iw wr => ∃ i : Nat, iw = .int .i64 i ∧ i ≤ n ∧ Fr [] w wr) (fun iw _ => n - (intOf iw).toNat)
  case atStart => exact ⟨0, rfl, Nat.zero_le _, Fr.refl _ _⟩
  case round =>
    obtain ⟨i, rfl, hi, hf⟩ := hrel
    obtain ⟨wi, hwi⟩ : ∃ wi : World, wi = wr := ⟨_, rfl⟩
    rw [← hwi] at hf ⊢
    clear hwi
    by_cases hin : i < n
    · have hlt : i < A.length := by rw [← HN.out]; exact hin
      obtain ⟨⟨y, z⟩, hy⟩ : ∃ q, q = A[i] := ⟨_, rfl⟩
      have hyi : A[i]? = some (y, z) := by rw [hy]; exact List.getElem?_eq_getElem hlt
      obtain ⟨g1, o1, rfl, c1, c2⟩ := (H1.out.fr hf) i _ hyi
      obtain ⟨g2, o2, rfl, c3, c4⟩ := (H2.out.fr hf) i _ hyi
      dsimp only at c1 c2 c3 c4
      have g0 : (0 : Int) ≤ (i : Int) := by omega
      have g1' : (i : Int) < (n : Int) := by omega
      have HF := Lib.hid hf
      clear hy hyi hlt hf
      go_wp2_with fail
      go_region
      simp only [Exit.then]
      go_wp2_with fail
      refine ⟨⟨i + 1, by go_num, by omega, HF.out.drew⟩, by simp [intOf]; omega⟩
    · obtain rfl : i = n := by omega
      have HF := Lib.hid hf
      clear hf
      go_wp2_with fail
      go_ret
      exact ⟨rfl, HF.out⟩
/-- The first ones, if so many are asked for. -/
def stopR (R : IPs) (n : Int) : IPs := if 0 < n ∧ n < (R.length : Int) then R.take n.toNat else R
theorem stopR_len (R : IPs) (n : Int) : (stopR R n).length ≤ R.length := by
  unfold stopR
  split
  · simp; omega
  · exact Nat.le_refl _
theorem first_any (w : World) (v : Value) (R : IPs) (n : Int) (h : RdP w v R) (hl : R.length ≤ 65536) : Calls Tryd.prog 72 #[v, .int .i64 n] w fun e w' => (∃ v', e = .returned v' ∧ RdP w' v' (stopR R n)) ∧ w = w' := by
  obtain ⟨p, cap, rfl, hc, h0⟩ := h
  have H0 := Lib.hid h0
  clear h0
  unfold stopR
  by_cases h1 : 0 < n
  · by_cases h2 : n < (R.length : Int)
    · have e1 : (R.take n.toNat).length = n.toNat := by rw [List.length_take]; omega
      rw [if_pos ⟨h1, h2⟩]
      obtain ⟨m, rfl⟩ : ∃ m : Nat, n = m := ⟨n.toNat, by omega⟩
      have H3 := Lib.hid e1
      have g1 : (m : Int) ≤ (cap : Int) := by omega
      have g2 : (0 : Int) ≤ (m : Int) := by omega
      clear e1
      go_enter Tryd.func72, Tryd.ntmps72
      go_wp2_with fail
      go_ret
      refine ⟨⟨_, rfl, p, cap, ?_, ?_, ?_⟩, rfl⟩
      · rw [H3.out]; simp
      · rw [H3.out]; simp; omega
      · intro i q hq
        rw [List.getElem?_take] at hq
        split at hq
        · exact H0.out i q hq
        · cases hq
    · rw [if_neg (fun h => h2 h.2)]
      go_enter Tryd.func72, Tryd.ntmps72
      go_wp2_with fail
      go_ret
      exact ⟨⟨_, rfl, p, cap, rfl, hc, H0.out⟩, rfl⟩
  · rw [if_neg (fun h => h1 h.1)]
    go_enter Tryd.func72, Tryd.ntmps72
    go_wp2_with fail
    go_ret
    exact ⟨⟨_, rfl, p, cap, rfl, hc, H0.out⟩, rfl⟩
end Go.Proofs.YtgoolkgjcmdilaaDoor
