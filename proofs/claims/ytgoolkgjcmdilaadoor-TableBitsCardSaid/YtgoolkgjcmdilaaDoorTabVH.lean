/-
  Tables of V: slices.Clone, All.
-/
import Derived.Test.YtgoolkgjcmdilaaDoorTabVG
namespace Go.Proofs.YtgoolkgjcmdilaaDoor
open Go.RowKit
set_option linter.unusedVariables false
set_option linter.unusedSimpArgs false
attribute [local go_sem] Oper.semAt_some

theorem eqlNilV (a : Addr) (n c : Nat) (w : World) : (binOp .eql 66 (.slice (some a) n c) (.slice none 0 0)).run Tryd.prog w = .ok (.bool false) w := by
  exact Lib.run_eql_slice_nil _ _ _ _ _ _ _ _ Tryd.underlying66
attribute [local go_sem] eqlNilV
/-- A row of one's own with the pairs. -/
def CopyV (w : World) (Ps : List (Int × (Int × ByteArray))) (v : Value) (W : World) : Prop := W.ownsRow 0 143 3 v Ps.length (flat payV Ps) ∧ ∃ g, v.ownBlock = some g ∧ w.heap.size ≤ g
set_option maxRecDepth 100000 in
theorem cloneV_any (w : World) (b : Nat) (v : Value) (Ps : List (Int × (Int × ByteArray))) (room : Int) (h : TabV w b v Ps room) : Calls Tryd.prog 66 #[v] w fun e w' => (∃ v', e = .returned v' ∧ CopyV w Ps v' w') ∧ Fr [] w w' := by
  have hl : Ps.length ≤ 65536 := by have := h.lim; omega
  obtain ⟨g, cap, rfl, h1, h2, h3, h4⟩ := h.row
  have F0 : Fr [] w (w.alloc (.cells #[] 143)) := (Fr.refl _ _).alloc _
  have hO := World.ownsRow_made (base := 0) (e := 143) (size := 3) w #[] 0 (Nat.zero_le _) (Nat.zero_le _) rfl
  have hsrc : ∀ j u, (flat payV Ps)[j]? = some u → (w.alloc (.cells #[] 143)).cell? ((⟨g, 0, none⟩ : Addr).add j) = some u := fun j u hj => by
    rw [Addr.add_lit]
    have := h4.fr F0 j u hj
    simpa using this
  obtain ⟨xs, hxs⟩ : ∃ xs, xs = flat payV Ps := ⟨_, rfl⟩
  obtain ⟨n, hn⟩ : ∃ n, n = Ps.length := ⟨_, rfl⟩
  have hxl : xs.length = n * 3 := by rw [hxs, hn]; exact flat_len wideV Ps
  have hxo : ∀ u ∈ xs, u.oneCell' = true := by rw [hxs]; exact flat_one wideV Ps
  have HP := Lib.hid (show ∀ v' w', Appended (w.alloc (.cells #[] 143)) 143 3 (.slice (some ⟨w.heap.size, 0, none⟩) 0 0) (0 + n) ([] ++ xs) v' w' → (∃ v2, Ending.returned v' = .returned v2 ∧ CopyV w Ps v2 w') ∧ Fr [] w w' from fun v' w' ha => by
    refine ⟨⟨v', rfl, ?_, ?_⟩, F0.trans ha.fr (fun x hx => .inr ?_)⟩
    · have := ha.own
      rw [Nat.zero_add, List.nil_append, hxs, hn] at this
      exact this
    · rcases ha.place with q | q
      · exact ⟨_, q, Nat.le_refl _⟩
      · exact ⟨_, q, by simp⟩
    · simp [Value.ownBlock] at hx; omega)
  rw [← hxs] at hsrc
  rw [← hn] at hl
  simp only [← hn]
  have HS := Lib.hid (And.intro hO (And.intro hsrc (And.intro hxl hxo)))
  clear h h1 h2 h3 h4 F0 hO hsrc hxs hn hxl hxo
  go_enter Tryd.func66, Tryd.ntmps66
  go_wp2_with (at_builtin; go_must (refine wpList_app _ rfl _ _ 66 rfl 143 (.agg #[.int .u32 0, .int .i64 0, .string ⟨#[]⟩]) 3 32 Tryd.underlying66 infoV rfl (by decide) (.slice (some ⟨w.heap.size, 0, none⟩) 0 0) 0 [] rfl HS.out.1 ⟨g, 0, none⟩ n cap xs rfl HS.out.2.2.1 HS.out.2.1 HS.out.2.2.2 (by unfold maxLen; omega) (by omega) ?_); intro v1 w3 happ; have HAP := Lib.hid happ; clear happ)
  all_goals (go_ret; exact HP.out _ _ HAP.out)
def AllVPost (w : World) (Ps : List (Int × (Int × ByteArray))) (e : Ending) (w' : World) : Prop :=
  ∃ bx v, e = .returned (.func (.func 67) #[] #[.pointer (some ⟨bx, 0, none⟩)]) ∧ Blk w' bx #[v] 66 ∧ CopyV w Ps v w' ∧ w.heap.size ≤ bx ∧ Fr [] w w'
set_option maxRecDepth 100000 in
theorem allV_any (w : World) (b : Nat) (v : Value) (Ps : List (Int × (Int × ByteArray))) (room : Int) (h : TabV w b v Ps room) : Calls Tryd.prog 19 #[.pointer (some ⟨b, 0, none⟩)] w (AllVPost w Ps) := by
  have F0 : Fr [] w (w.alloc (.cells #[.slice none 0 0] 66)) := (Fr.refl _ _).alloc _
  have h2 := h.grow F0
  have hz := Blk.new w #[.slice none 0 0] 66
  have HH := Lib.hid (And.intro h2 (And.intro F0 hz))
  have HC := Lib.hid (cloneV_any _ b v Ps room h2)
  obtain ⟨g, cap, rfl, _⟩ := h2.row
  have c1 := h2.hd.at 1 (v := .slice (some ⟨g, 0, none⟩) Ps.length cap) rfl
  obtain ⟨n, hn⟩ : ∃ n, n = Ps.length := ⟨_, rfl⟩
  rw [← hn] at c1 HC
  have HN := Lib.hid hn
  clear h h2 F0 hz hn
  go_enter Tryd.func19, Tryd.ntmps19
  go_wp2_with fail
  (with_reducible refine (liveV_any _ b _ Ps room HH.out.1).mono ?_)
  rintro e w1 ⟨rfl, rfl⟩
  go_wp2_with fail
  (with_reducible refine (HC.out).mono ?_)
  rintro e w1 ⟨⟨v', rfl, hcp⟩, f1⟩
  have zb := f1.blk HH.out.2.2 (by simp)
  have y0 := zb.at 0 (v := .slice none 0 0) rfl
  have e0 := zb.free 0
  obtain ⟨gq, hgq, hge⟩ := hcp.2
  have hsl : ∃ cp, v' = .slice (some ⟨gq, 0, none⟩) Ps.length cp := by
    rcases hcp.1.2 with ⟨rfl, _⟩ | ⟨g', cp, _, rfl, _⟩
    · simp [Value.ownBlock] at hgq
    · simp [Value.ownBlock] at hgq; subst hgq; exact ⟨cp, rfl⟩
  obtain ⟨cp, rfl⟩ := hsl
  have HQ := Lib.hid (And.intro zb (And.intro hcp (And.intro f1 hge)))
  clear zb hcp f1 hgq hge
  go_wp2
  go_ret
  obtain ⟨zb, hcp, f1, hge⟩ := HQ.out
  refine ⟨w.heap.size, _, rfl, zb.set 0 _, ⟨own_fr hcp.1 ((Fr.refl [w.heap.size] w1).setCell _ _ (.inl (by simp))) (fun g2 hg2 => ?_), gq, rfl, ?_⟩, Nat.le_refl _, ?_⟩
  · simp [Value.ownBlock] at hg2; subst hg2; simp at hge ⊢; omega
  · simp at hge; omega
  · exact (HH.out.2.1.trans f1 (by simp)).setCell _ _ (.inr (Nat.le_refl _))
end Go.Proofs.YtgoolkgjcmdilaaDoor
