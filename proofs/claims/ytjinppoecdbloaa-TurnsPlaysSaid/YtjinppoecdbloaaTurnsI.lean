/-
  What the reference's functions do, each by a contract.
-/
import Derived.Test.YtjinppoecdbloaaTurnsG
import Derived.Deep.RegionLaw
import Derived.Deep.AppendLies
namespace Go.Proofs.Ytjinppoecdbloaa
open Go.RowKit Go.Shelf
set_option linter.unusedVariables false

/-- What a reference's Turns lies as. -/
structure RefAt (w : World) (br n : Nat) (had : List Int) (v : Value) : Prop where
  t : Blk w br #[.int .i64 n, v] 53
  s : w.ownsRow 0 3 1 v had.length (ints had)
theorem RefAt.fr {S : List Nat} {w w' : World} {br n : Nat} {had : List Int} {v : Value} (h : RefAt w br n had v) (hf : Fr S w w') (h1 : br ∉ S) (h2 : ∀ g, v.ownBlock = some g → g ∉ S) : RefAt w' br n had v :=
  ⟨hf.blk h.t h1, own_fr h.s hf h2⟩
theorem own_form {w : World} {e : TypeId} {size k : Nat} {v : Value} {xs : List Value} (h : w.ownsRow 0 e size v k xs) : ∃ p cap, v = .slice p k cap ∧ k ≤ cap ∧ (p = none → k = 0) ∧ ∀ a, p = some a → ∃ g, a = ⟨g, 0, none⟩ := by
  rcases h.2 with ⟨rfl, rfl⟩ | ⟨g, cap, cur, rfl, _, _, hc, _⟩
  · exact ⟨none, 0, rfl, Nat.le_refl _, fun _ => rfl, fun a ha => (by cases ha)⟩
  · exact ⟨_, cap, rfl, hc, fun h => (by cases h), fun a ha => (by cases ha; exact ⟨g, rfl⟩)⟩

/-- Who had the last turn. -/
def lastOf (had : List Int) : Int := had.getLast?.getD (-1)
theorem lastOf_snoc (had : List Int) (x : Int) : lastOf (had ++ [x]) = x := by simp [lastOf]

theorem rlast (w : World) (br n : Nat) (had : List Int) (v : Value) (h : RefAt w br n had v) (hl : had.length ≤ 1000000) :
    Calls Try.prog 28 #[.pointer (some ⟨br, 0, none⟩)] w fun e w' => e = .returned (.int .i64 (lastOf had)) ∧ ∃ j, w' = w.drewN j := by
  have c1 := h.t.at 1 (v := v) rfl
  obtain ⟨p, cap, rfl, hc, hp, hp2⟩ := own_form h.s
  by_cases h0 : had.length = 0
  · have he : had = [] := List.length_eq_zero_iff.1 h0
    subst he
    go_enter Try.func28, Try.ntmps28
    go_wp2
    go_ret
    exact ⟨rfl, 0, rfl⟩
  · cases p with
    | none => exact absurd (hp rfl) h0
    | some a =>
      obtain ⟨g, rfl⟩ := hp2 a rfl
      have hz : ((had.length : Int) == 0) = false := by rw [beq_eq_false_iff_ne]; omega
      obtain ⟨m, hm⟩ : ∃ m, had.length = m + 1 := ⟨had.length - 1, (Nat.succ_pred h0).symm⟩
      have hml : m < had.length := by rw [hm]; exact Nat.lt_succ_self m
      have hcell : w.cell? ⟨g, m, none⟩ = some (.int .i64 (lastOf had)) := by
        have := h.s.cells (g := g) rfl m (.int .i64 (lastOf had)) (by
          simp only [ints, List.getElem?_map, lastOf, List.getLast?_eq_getElem?, hm, Nat.add_sub_cancel]
          rw [List.getElem?_eq_getElem hml]
          rfl)
        rw [Addr.add_lit] at this
        simpa using this
      rw [hm] at hz hc c1 hl
      generalize lastOf had = x at *
      clear h hp hp2 h0 hm hml
      have e1 : ((m + 1 : Nat) : Int) - 1 = (m : Int) := by omega
      go_enter Try.func28, Try.ntmps28
      go_wp2
      go_quiet (fail)
      go_wp2
      go_ret
      exact ⟨rfl, _, rfl⟩

/-- The slice's cells. -/
theorem own_at {w : World} {e : TypeId} {k g n cap : Nat} {xs : List Int} (h : w.ownsRow 0 e 1 (.slice (some ⟨g, 0, none⟩) n cap) k (ints xs)) {j : Nat} (hj : j < xs.length) : w.cell? ⟨g, j, none⟩ = some (.int .i64 (xs.getD j 0)) := by
  have := h.cells (g := g) rfl j (.int .i64 (xs.getD j 0)) (by simp [ints, List.getD_eq_getElem?_getD, hj])
  rw [Addr.add_lit] at this
  simpa using this

/-- (*Turns).Order of the reference. -/
def Fresh (w : World) (xs : List Int) (v : Value) (w' : World) : Prop := w'.ownsRow 0 3 1 v xs.length (ints xs) ∧ (∀ g, v.ownBlock = some g → w.heap.size ≤ g) ∧ Fr [] w w'
theorem asks_succ (n s k : Nat) : asks n s (k + 1) = asks n s k ++ [(pos n s k : Int)] := by simp [asks, List.range_succ]

set_option maxHeartbeats 1000000 in
theorem rorder (w : World) (br n s : Nat) (had : List Int) (v : Value) (h : RefAt w br n had v) (hl : had.length ≤ 1000000) (hn0 : 0 < n) (hn : n ≤ 16) (hs : (s : Int) = lastOf had + 1) (hs2 : s ≤ n) :
    Calls Try.prog 27 #[.pointer (some ⟨br, 0, none⟩)] w fun e w' => ∃ v', e = .returned v' ∧ Fresh w (asks n s n) v' w' := by
  have hlast : lastOf had = (s : Int) - 1 := by omega
  have h28 := fun w h => rlast w br n had v h hl
  rw [hlast] at h28
  have H28 := Lib.hid h28
  have HR := Lib.hid h
  clear h28 h hlast hs hl
  go_enter Try.func27, Try.ntmps27
  go_wp2_with (go_at_call 28; refine (H28.out _ HR.out).mono ?_; rintro e w' ⟨rfl, j, rfl⟩)
  go_loopw [4, 3] (fun i v wr => ∃ k : Nat, i = .int .i64 ((s : Int) + (k : Int)) ∧ s + k ≤ n ∧ Fresh w (asks n s k) v wr) (fun i _ _ => n - (intOf i).toNat)
  case atStart => exact ⟨0, by go_num, hs2, World.ownsRow_nil _ _ _ _, by simp [Value.ownBlock], (Fr.refl _ _).drewN _⟩
  case round =>
    obtain ⟨k, rfl, hk, hown, hnew, hfr⟩ := hrel
    have hb := hfr.blk HR.out.t (by simp)
    have c0 := hb.at 0 (v := .int .i64 n) rfl
    have hl := asks_len n s k
    rw [hl] at hown
    obtain ⟨p, cap, rfl, hc, hp1, hp2⟩ := own_form hown
    clear hp1 hp2
    by_cases hlt : s + k < n
    · have hpos : (pos n s k : Nat) = s + k := Nat.mod_eq_of_lt hlt
      have HF := Lib.hid (And.intro hpos (And.intro hnew hfr))
      clear hpos hnew hfr hl
      go_wp2_with (at_builtin; go_must (refine wpList_app _ rfl _ _ 25 rfl 3 (.int .i64 0) 1 8 Try.underlying25 info3 rfl (by decide) (.slice p k cap) k (ints (asks n s k)) rfl (hown.alloc _) ⟨wr.heap.size, 0, none⟩ 1 1 [.int .i64 ((s : Int) + (k : Int))] rfl rfl (new_one _ _ _ _ rfl) (by simp [Value.oneCell']) (by unfold maxLen; omega) (by omega) ?_); intro v1 w1 happ; obtain ⟨g1, cp1, rfl⟩ := own_succ happ.own)
      refine ⟨⟨k + 1, by go_num, by omega, ?_, ?_, ?_⟩, by simp [intOf]; omega⟩
      · obtain ⟨hpos, hnew, hfr⟩ := HF.out
        have := happ.own
        rw [asks_succ, hpos]
        simpa [ints, asks_len] using this
      · obtain ⟨hpos, hnew, hfr⟩ := HF.out
        intro g hg
        rcases happ.place with h | h
        · exact hnew g (by rw [← h]; exact hg)
        · rw [h] at hg; cases hg; have := hfr.size; simp; omega
      · obtain ⟨hpos, hnew, hfr⟩ := HF.out
        exact (hfr.alloc _).trans happ.fr (fun x hx => .inr (hnew x (by simpa using hx)))
    · have hnk : s + k = n := by omega
      have HNK := Lib.hid hnk
      have hkn : k ≤ n := by omega
      have hge : n ≤ s + k := by omega
      clear hnk hlt hk
      have HF := Lib.hid (And.intro hnew hfr)
      clear hnew hfr hl
      go_wp2_with fail
      go_loopw [5, 3] (fun i v wx => ∃ m : Nat, i = .int .i64 m ∧ m ≤ s ∧ Fresh w (asks n s (k + m)) v wx) (fun i _ _ => s - (intOf i).toNat)
      case atStart => exact ⟨0, rfl, Nat.zero_le _, by rw [asks_len, Nat.add_zero]; exact hown, HF.out.1, HF.out.2⟩
      case round =>
        obtain ⟨m, rfl, hm, hown2, hnew, hfr⟩ := hrel
        have hb := hfr.blk HR.out.t (by simp)
        have c0 := hb.at 0 (v := .int .i64 n) rfl
        rw [asks_len] at hown2
        obtain ⟨p, cap, rfl, hc, hp1, hp2⟩ := own_form hown2
        clear hp1 hp2
        by_cases hlt : m < s
        · have hpos : (pos n s (k + m) : Nat) = m := by
            unfold pos
            rw [show s + (k + m) = m + n by have := HNK.out; omega, Nat.add_mod_right, Nat.mod_eq_of_lt (by omega)]
          have HF2 := Lib.hid (And.intro hpos (And.intro hnew hfr))
          have hkm : k + m < n := by have := HNK.out; omega
          clear hpos hnew hfr
          go_wp2_with (at_builtin; go_must (refine wpList_app _ rfl _ _ 25 rfl 3 (.int .i64 0) 1 8 Try.underlying25 info3 rfl (by decide) (.slice p (k + m) cap) (k + m) (ints (asks n s (k + m))) rfl (hown2.alloc _) ⟨wr.heap.size, 0, none⟩ 1 1 [.int .i64 m] rfl rfl (new_one _ _ _ _ rfl) (by simp [Value.oneCell']) (by unfold maxLen; omega) (by omega) ?_); intro v1 w1 happ; obtain ⟨g1, cp1, rfl⟩ := own_succ happ.own)
          go_roundw
          case measure => simp [intOf]; omega
          refine ⟨m + 1, by go_num, by omega, ?_, ?_, ?_⟩
          · obtain ⟨hpos, hnew, hfr⟩ := HF2.out
            have := happ.own
            rw [← Nat.add_assoc, asks_succ, hpos]
            simpa [ints, asks_len] using this
          · obtain ⟨hpos, hnew, hfr⟩ := HF2.out
            intro g hg
            rcases happ.place with h | h
            · exact hnew g (by rw [← h]; exact hg)
            · rw [h] at hg; cases hg; have := hfr.size; simp; omega
          · obtain ⟨hpos, hnew, hfr⟩ := HF2.out
            exact (hfr.alloc _).trans happ.fr (fun x hx => .inr (hnew x (by simpa using hx)))
        · obtain rfl : m = s := by omega
          have HF2 := Lib.hid (And.intro hnew hfr)
          clear hnew hfr
          have hkm : k + m = n := by have := HNK.out; omega
          have HKM := Lib.hid hkm
          have hkm2 : n ≤ k + m := by omega
          clear hkm
          have e1 : (asks n m n).length = k + m := by rw [asks_len]; exact HKM.out.symm
          have e2 : asks n m n = asks n m (k + m) := by rw [HKM.out]
          have E1 := Lib.hid e1
          have E2 := Lib.hid e2
          clear e1 e2
          by_cases hms : m < n
          · go_wp2
            go_ret
            exact ⟨_, rfl, by rw [E1.out, E2.out]; exact hown2, HF2.out.1, HF2.out.2⟩
          · go_wp2
            go_ret
            exact ⟨_, rfl, by rw [E1.out, E2.out]; exact hown2, HF2.out.1, HF2.out.2⟩

end Go.Proofs.Ytjinppoecdbloaa
