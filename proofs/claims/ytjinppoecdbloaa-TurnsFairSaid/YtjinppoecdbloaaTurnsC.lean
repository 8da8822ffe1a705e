/-
  The closure by which next asks, and Next, next, order over it.
-/
import Derived.Test.YtjinppoecdbloaaTurnsB
namespace Go.Proofs.Ytjinppoecdbloaa
open Go.RowKit Go.Shelf
set_option linter.unusedVariables false
attribute [local go_sem] Oper.semAt_some

/-- Whether it is ready. -/
def isReady (bs : List Bool) (i : Nat) : Bool := bs.getD i false

/-- What a call of the closure leaves. -/
def AskPost (w : World) (pa : Nat) (v : Value) (xs : List Int) (i : Nat) (b : Bool) (e : Ending) (w' : World) : Prop :=
  e = .returned (.bool b) ∧ ∃ v', Blk w' pa #[v'] 25 ∧ w'.ownsRow 0 3 1 v' (xs.length + 1) (ints (xs ++ [(i : Int)])) ∧ (v'.ownBlock = v.ownBlock ∨ ∃ g, v'.ownBlock = some g ∧ w.heap.size ≤ g) ∧ Fr (pa :: v.ownBlock.toList) w w'

set_option maxHeartbeats 1000000 in
theorem ask_any (w : World) (pa pr i : Nat) (v rv : Value) (xs : List Int) (bs : List Bool) (hpa : Blk w pa #[v] 25) (hown : w.ownsRow 0 3 1 v xs.length (ints xs)) (hpr : Blk w pr #[rv] 36) (hrv : Rd w rv (bools bs))
    (hsep : ∀ g o n c, rv = .slice (some ⟨g, o, none⟩) n c → 0 < bs.length → g < w.heap.size ∧ g ≠ pa ∧ some g ≠ v.ownBlock) (hx : xs.length ≤ 1000) (hi : i ≤ 1000) (hb : bs.length ≤ 9223372036854775807) :
    Calls Try.prog 25 #[.int .i64 i, .pointer (some ⟨pa, 0, none⟩), .pointer (some ⟨pr, 0, none⟩)] w (AskPost w pa v xs i (isReady bs i)) := by
  have ca := hpa.at 0 (v := v) rfl
  have la := hpa.lt
  have lr := hpr.lt
  have hpn : pr ≠ pa := hpr.ne hpa (by decide)
  have hna := own_notin hown hpa (by decide)
  have hnr := own_notin hown hpr (by decide)
  obtain ⟨p, cap, rfl, hc, h0⟩ := hrv
  rw [bools_len] at *
  have hA : ∀ g1 cp1 w1, Appended (w.alloc (.cells #[.int .i64 i] 3)) 3 1 v (xs.length + 1) (ints xs ++ [.int .i64 i]) (.slice (some ⟨g1, 0, none⟩) (xs.length + 1) cp1) w1 →
      (w1.cell? ⟨pa, 0, none⟩ = some v ∧ w1.frozen? ⟨pa, 0, none⟩ = false ∧ (w1.setCell ⟨pa, 0, none⟩ (.slice (some ⟨g1, 0, none⟩) (xs.length + 1) cp1)).cell? ⟨pr, 0, none⟩ = some (.slice p bs.length cap)) ∧
      (∀ a, p = some a → 0 < bs.length → ∃ g o, a = ⟨g, o, none⟩ ∧ ∀ k, k < bs.length → (w1.setCell ⟨pa, 0, none⟩ (.slice (some ⟨g1, 0, none⟩) (xs.length + 1) cp1)).cell? ⟨g, o + k, none⟩ = some (.bool (bs.getD k false))) ∧
      AskPost w pa v xs i (isReady bs i) (.returned (.bool (isReady bs i))) (w1.setCell ⟨pa, 0, none⟩ (.slice (some ⟨g1, 0, none⟩) (xs.length + 1) cp1)) := by
    intro g1 cp1 w1 h
    have F := h.fr
    have ka := F.blk (hpa.alloc _) hna
    have kr := (F.blk (hpr.alloc _) hnr).other ⟨pa, 0, none⟩ (.slice (some ⟨g1, 0, none⟩) (xs.length + 1) cp1) hpn
    have hne : pa ∉ (Value.slice (some ⟨g1, 0, none⟩) (xs.length + 1) cp1).ownBlock.toList := own_notin h.own ka (by decide)
    have F2 : Fr (pa :: v.ownBlock.toList) w (w1.setCell ⟨pa, 0, none⟩ (.slice (some ⟨g1, 0, none⟩) (xs.length + 1) cp1)) :=
      ((((Fr.refl _ w).alloc _).trans F (fun x hx => .inl (List.mem_cons_of_mem _ hx)))).setCell _ _ (.inl (by simp))
    refine ⟨⟨ka.at 0 rfl, ka.free 0, kr.at 0 rfl⟩, fun a ha hlen => ?_, rfl, .slice (some ⟨g1, 0, none⟩) (xs.length + 1) cp1, ?_, ?_, ?_, F2⟩
    · rcases h0 with h0 | ⟨g, o, rfl, h0⟩
      · omega
      · cases ha
        obtain ⟨s1, s2, s3⟩ := hsep g o _ _ rfl hlen
        exact ⟨g, o, rfl, fun k hk => (F2.cell s1 (by simp [s2]; intro hv; exact s3 hv.symm)).trans (h0 k _ (bools_get bs hk))⟩
    · exact ka.set 0 _
    · have := own_fr h.own ((Fr.refl [pa] w1).setCell ⟨pa, 0, none⟩ (.slice (some ⟨g1, 0, none⟩) (xs.length + 1) cp1) (.inl (by simp))) (fun g hg => by
        intro hm; simp at hm; subst hm; exact hne (by simp [hg]))
      simpa [ints] using this
    · rcases h.place with h | h
      · exact .inl h
      · exact .inr ⟨_, h, by simp⟩
  have HA := Lib.hid hA
  have H0 := Lib.hid h0
  have HS := Lib.hid hsep
  clear hA h0 hsep hpa hpr
  by_cases hlt : i < bs.length
  · obtain ⟨g, o, rfl, _⟩ := H0.out.resolve_left (by omega)
    go_enter Try.func25, Try.ntmps25
    go_wp2_with (at_builtin; go_must (refine wpList_app _ rfl _ _ 25 rfl 3 (.int .i64 0) 1 8 Try.underlying25 info3 rfl (by decide) v xs.length (ints xs) rfl (hown.alloc _) ⟨w.heap.size, 0, none⟩ 1 1 [.int .i64 i] rfl rfl (new_one _ _ _ _ rfl) (by simp [Value.oneCell']) (by unfold maxLen; omega) (by omega) ?_); intro v1 w1 happ; obtain ⟨g1, cp1, rfl⟩ := own_succ happ.own; obtain ⟨⟨e1, e2, e3⟩, e4, e5⟩ := HA.out _ _ _ happ; have E4 := Lib.hid e4; have E5 := Lib.hid e5; clear e4 e5; obtain ⟨g', o', hgo, e6⟩ := E4.out _ rfl (by omega); cases hgo; have e7 := e6 i hlt; have e8 : bs.getD i false = isReady bs i := rfl; rw [e8] at e7; clear e6 e8)
    go_ret
    exact E5.out
  · have hz : isReady bs i = false := by simp [isReady, List.getD_eq_getElem?_getD, Nat.le_of_not_lt hlt]
    rw [hz]
    have HZ := Lib.hid hz
    clear hz
    go_enter Try.func25, Try.ntmps25
    go_wp2_with (at_builtin; go_must (refine wpList_app _ rfl _ _ 25 rfl 3 (.int .i64 0) 1 8 Try.underlying25 info3 rfl (by decide) v xs.length (ints xs) rfl (hown.alloc _) ⟨w.heap.size, 0, none⟩ 1 1 [.int .i64 i] rfl rfl (new_one _ _ _ _ rfl) (by simp [Value.oneCell']) (by unfold maxLen; omega) (by omega) ?_); intro v1 w1 happ; obtain ⟨g1, cp1, rfl⟩ := own_succ happ.own; obtain ⟨⟨e1, e2, e3⟩, e4, e5⟩ := HA.out _ _ _ happ; have E4 := Lib.hid e4; have E5 := Lib.hid e5; clear e4 e5)
    go_ret
    have := E5.out
    rwa [HZ.out] at this

end Go.Proofs.Ytjinppoecdbloaa
