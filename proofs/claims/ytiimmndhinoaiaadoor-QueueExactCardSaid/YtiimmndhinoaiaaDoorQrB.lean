/-
  The document's ring: what it holds; New, look, now. Printed by genQr.py.
-/
import Derived.Test.YtiimmndhinoaiaaDoorQrA
namespace Go.Proofs.YtiimmndhinoaiaaDoor
open Go.RowKit Go.Shelf ring
set_option linter.unusedVariables false
set_option linter.unusedSimpArgs false
attribute [local go_sem] Oper.semAt_some
namespace Qu

/-- The document's ring at r. -/
def rcells (v : Value) (M : RM) : Array Value := #[v, .int .i64 M.most, .bool M.on, .int .i64 M.lo, .int .i64 M.hi, .bool M.pr, .int .i64 M.pk, .int .i64 M.rf]
structure RqAt (W : World) (r : Nat) (v : Value) (L : List Int) (M : RM) : Prop where
  hd : Blk W r (rcells v M) 74
  own : W.ownsRow 0 3 1 v L.length (ints L)
section
variable {W W' : World} {r : Nat} {v : Value} {L : List Int} {M : RM}
theorem RqAt.form (h : RqAt W r v L M) : ∃ p c, v = .slice p L.length c ∧ L.length ≤ c ∧ c ≤ maxLen ∧ (p = none → L.length = 0) := by
  rcases h.own.2 with ⟨h1, h2⟩ | ⟨g, cap, cur, h1, _, _, h4, h5, _⟩
  · exact ⟨none, 0, by rw [h1, h2], by omega, by unfold maxLen; omega, fun _ => h2⟩
  · exact ⟨_, cap, h1, h4, h5, fun h => by cases h⟩
theorem RqAt.fr {S : List Nat} (h : RqAt W r v L M) (f : Fr S W W') (hb : r ∉ S) (hv : ∀ g, v.ownBlock = some g → g ∉ S) : RqAt W' r v L M := ⟨f.blk h.hd hb, own_fr h.own f hv⟩
theorem RqAt.fr0 (h : RqAt W r v L M) (f : Fr [] W W') : RqAt W' r v L M := h.fr f (by simp) (by simp)
theorem RqAt.lt (h : RqAt W r v L M) : r < W.heap.size := h.hd.lt
theorem RqAt.notin (h : RqAt W r v L M) : r ∉ v.ownBlock.toList := own_notin h.own h.hd (by decide)
theorem rcells_at (h : Blk W r (rcells v M) 74) : W.cell? ⟨r, 0, none⟩ = some v ∧ W.cell? ⟨r, 1, none⟩ = some (.int .i64 M.most) ∧ W.cell? ⟨r, 2, none⟩ = some (.bool M.on) ∧ W.cell? ⟨r, 3, none⟩ = some (.int .i64 M.lo) ∧ W.cell? ⟨r, 4, none⟩ = some (.int .i64 M.hi) ∧ W.cell? ⟨r, 5, none⟩ = some (.bool M.pr) ∧ W.cell? ⟨r, 6, none⟩ = some (.int .i64 M.pk) ∧ W.cell? ⟨r, 7, none⟩ = some (.int .i64 M.rf) ∧ ∀ i, W.frozen? ⟨r, i, none⟩ = false :=
  ⟨h.at 0 rfl, h.at 1 rfl, h.at 2 rfl, h.at 3 rfl, h.at 4 rfl, h.at 5 rfl, h.at 6 rfl, h.at 7 rfl, fun i => h.free i⟩
theorem RqAt.rd (h : RqAt W r v L M) (hl : L.length ≤ 1048576) : RdF W v L.length 1 (ints L) := RdF.of_own (by decide) h.own (by unfold maxLen; omega)
end
theorem qnew_ok (w : World) (most : Nat) (h1 : 1 ≤ most) (h2 : most ≤ 65536) : Calls Tryd.prog 20 #[.int .i64 most] w fun e w' =>
    e = .returned (.pointer (some ⟨w.heap.size, 0, none⟩)) ∧ RqAt w' w.heap.size (.slice none 0 0) [] (RM.new most) ∧ Fr [] w w' := by
  go_enter Tryd.func20, Tryd.ntmps20
  go_wp2
  go_ret
  exact ⟨rfl, ⟨Blk.new _ _ _, World.ownsRow_nil _ _ _ _⟩, (Fr.refl _ _).alloc _⟩
theorem qnew_no (w : World) (most : Int) (h : most < 1 ∨ 65536 < most) : Calls Tryd.prog 20 #[.int .i64 most] w fun e w' => e = .returned (.pointer none) ∧ w = w' := by
  rcases h with h | h
  · go_enter Tryd.func20, Tryd.ntmps20
    go_wp2
    go_ret
    exact ⟨rfl, rfl⟩
  · have : ¬ most < 1 := by omega
    go_enter Tryd.func20, Tryd.ntmps20
    go_wp2
    go_ret
    exact ⟨rfl, rfl⟩
set_option maxHeartbeats 1000000 in
theorem look_any (w : World) (r : Nat) (p : Option Addr) (n c : Nat) (M : RM) (h : Blk w r (rcells (.slice p n c) M) 74) (ho : M.on = true) : Calls Tryd.prog 102 #[.pointer (some ⟨r, 0, none⟩)] w fun e w' =>
    (∃ v, e = .returned v) ∧ Blk w' r (rcells (.slice p n c) { M with pr := prs M n }) 74 ∧ Fr [r] w w' := by
  obtain ⟨c0, c1, c2, c3, c4, c5, c6, c7, cf⟩ := rcells_at h
  have f5 := cf 5
  have HH := Lib.hid (show (∀ m b, prs M n = b → Blk ((w.drewN m).setCell ⟨r, 5, none⟩ (.bool b)) r (rcells (.slice p n c) { M with pr := prs M n }) 74) ∧ (∀ m, prs M n = M.pr → Blk (w.drewN m) r (rcells (.slice p n c) { M with pr := prs M n }) 74) ∧ (∀ m b, Fr [r] w ((w.drewN m).setCell ⟨r, 5, none⟩ (.bool b))) ∧ ∀ m, Fr [r] w (w.drewN m) from
    ⟨fun m b hb => by rw [← hb]; exact (h.drewN m).set 5 (.bool (prs M n)), fun m hb => by rw [show ({ M with pr := prs M n } : RM) = M by rw [hb]]; exact h.drewN m, fun m b => ((Fr.refl _ _).drewN m).setCell _ _ (.inl (by simp)), fun m => (Fr.refl _ _).drewN m⟩)
  have HP := Lib.hid (show prs M n = if M.hi ≤ n then true else if (n : Int) ≤ M.lo then false else M.pr by unfold prs; rw [if_pos ho])
  generalize prs M n = P at *
  generalize rcells (.slice p n c) { M with pr := P } = HD at *
  obtain ⟨most, on, lo, hi, pr, pk, rf⟩ := M
  simp only at *
  clear h c1 c2 c6 c7 cf ho
  by_cases h1 : hi ≤ (n : Int)
  · have e : P = true := by rw [HP.out]; simp [h1]
    have HE := Lib.hid (fun m => And.intro (HH.out.1 m true e) (HH.out.2.2.1 m true))
    clear HH HP e
    go_enter Tryd.func102, Tryd.ntmps102
    go_wp2_with fail
    go_quiet (fail)
    go_wp2
    go_end0
    exact ⟨⟨_, rfl⟩, HE.out _⟩
  · by_cases h2 : (n : Int) ≤ lo
    · have e : P = false := by rw [HP.out]; simp [h1, h2]
      have HE := Lib.hid (fun m => And.intro (HH.out.1 m false e) (HH.out.2.2.1 m false))
      clear HH HP e
      go_enter Tryd.func102, Tryd.ntmps102
      go_wp2_with fail
      go_quiet (fail)
      go_wp2_with fail
      go_quiet (fail)
      go_wp2
      go_end0
      first
        | exact ⟨⟨_, rfl⟩, HE.out _⟩
        | exact ⟨⟨_, rfl⟩, by rw [drewN_two]; exact HE.out _⟩
    · have e : P = pr := by rw [HP.out]; simp [h1, h2]
      have HE := Lib.hid (fun m => And.intro (HH.out.2.1 m e) (HH.out.2.2.2 m))
      clear HH HP e
      go_enter Tryd.func102, Tryd.ntmps102
      go_wp2_with fail
      go_quiet (fail)
      go_wp2_with fail
      go_quiet (fail)
      go_wp2
      go_end0
      first
        | exact ⟨⟨_, rfl⟩, HE.out _⟩
        | exact ⟨⟨_, rfl⟩, by rw [drewN_two]; exact HE.out _⟩
/-- Another list is laid in. -/
def nowM (M : RM) (n n' : Nat) : RM := if n' = n then { M with pk := max M.pk n' } else M.sized n'
set_option maxHeartbeats 1000000 in
theorem now_any (w : World) (r : Nat) (p p' : Option Addr) (n n' c c' : Nat) (M : RM) (h : Blk w r (rcells (.slice p n c) M) 74) : Calls Tryd.prog 94 #[.pointer (some ⟨r, 0, none⟩), .slice p' n' c'] w fun e w' =>
    (∃ v, e = .returned v) ∧ Blk w' r (rcells (.slice p' n' c') (nowM M n n')) 74 ∧ Fr [r] w w' := by
  obtain ⟨c0, c1, c2, c3, c4, c5, c6, c7, cf⟩ := rcells_at h
  have f0 := cf 0
  have f6 := cf 6
  have hb2 : Blk ((w.setCell ⟨r, 0, none⟩ (.slice p' n' c')).setCell ⟨r, 6, none⟩ (.int .i64 (max M.pk n' : Nat))) r (rcells (.slice p' n' c') { M with pk := max M.pk n' }) 74 := (h.set 0 (.slice p' n' c')).set 6 (.int .i64 (max M.pk n' : Nat))
  have F2 : Fr [r] w ((w.setCell ⟨r, 0, none⟩ (.slice p' n' c')).setCell ⟨r, 6, none⟩ (.int .i64 (max M.pk n' : Nat))) := ((Fr.refl _ _).setCell _ _ (.inl (by simp))).setCell _ _ (.inl (by simp))
  by_cases hq : n' = n
  · subst hq
    have HE := Lib.hid (show Blk ((w.setCell ⟨r, 0, none⟩ (.slice p' n' c')).setCell ⟨r, 6, none⟩ (.int .i64 (max M.pk n' : Nat))) r (rcells (.slice p' n' c') (nowM M n' n')) 74 ∧ Fr [r] w ((w.setCell ⟨r, 0, none⟩ (.slice p' n' c')).setCell ⟨r, 6, none⟩ (.int .i64 (max M.pk n' : Nat))) from ⟨by unfold nowM; rw [if_pos rfl]; exact hb2, F2⟩)
    have hmx : ((max M.pk n' : Nat) : Int) = max (M.pk : Int) (n' : Int) := by omega
    rw [hmx] at HE
    generalize rcells (.slice p' n' c') (nowM M n' n') = HD at *
    clear h hb2 F2 hmx c1 c3 c4 c5 c7 cf
    obtain ⟨most, on, lo, hi, pr, pk, rf⟩ := M
    simp only at *
    cases on
    all_goals
      go_enter Tryd.func94, Tryd.ntmps94
      go_wp2
      all_goals
        go_end0
        refine ⟨⟨_, rfl⟩, ?_⟩
        first
          | (rw [show max (pk : Int) (n' : Int) = (n' : Int) from by omega] at HE; exact HE.out)
          | (rw [show max (pk : Int) (n' : Int) = (pk : Int) from by omega] at HE; exact HE.out)
          | exact HE.out
  · have hqb : ((n' : Int) != (n : Int)) = true := by simp; omega
    have hqn : ¬ ((n' : Int) = (n : Int)) := by omega
    obtain ⟨on, hon⟩ : ∃ on, M.on = on := ⟨_, rfl⟩
    rw [hon] at c2
    cases on
    · have HE := Lib.hid (show Blk ((w.setCell ⟨r, 0, none⟩ (.slice p' n' c')).setCell ⟨r, 6, none⟩ (.int .i64 (max M.pk n' : Nat))) r (rcells (.slice p' n' c') (nowM M n n')) 74 ∧ Fr [r] w ((w.setCell ⟨r, 0, none⟩ (.slice p' n' c')).setCell ⟨r, 6, none⟩ (.int .i64 (max M.pk n' : Nat))) from ⟨by
        unfold nowM; rw [if_neg hq, show M.sized n' = { M with pk := max M.pk n' } by unfold RM.sized prs; rw [hon]; simp]; exact hb2, F2⟩)
      have hmx : ((max M.pk n' : Nat) : Int) = max (M.pk : Int) (n' : Int) := by omega
      rw [hmx] at HE
      generalize rcells (.slice p' n' c') (nowM M n n') = HD at *
      generalize M.pk = pk at *
      clear h hb2 F2 hmx c1 c3 c4 c5 c7 cf hon hq
      go_enter Tryd.func94, Tryd.ntmps94
      go_wp2
      all_goals
        go_end0
        refine ⟨⟨_, rfl⟩, ?_⟩
        first
          | (rw [show max (pk : Int) (n' : Int) = (n' : Int) from by omega] at HE; exact HE.out)
          | (rw [show max (pk : Int) (n' : Int) = (pk : Int) from by omega] at HE; exact HE.out)
          | exact HE.out
    · have HL := Lib.hid (look_any _ r p' n' c' { M with pk := max M.pk n' } hb2 hon)
      have HB := Lib.hid (show ∀ w', Blk w' r (rcells (.slice p' n' c') { ({ M with pk := max M.pk n' } : RM) with pr := prs { M with pk := max M.pk n' } n' }) 74 → Fr [r] ((w.setCell ⟨r, 0, none⟩ (.slice p' n' c')).setCell ⟨r, 6, none⟩ (.int .i64 (max M.pk n' : Nat))) w' → Blk w' r (rcells (.slice p' n' c') (nowM M n n')) 74 ∧ Fr [r] w w' from fun w' hb f => ⟨by
        unfold nowM; rw [if_neg hq]; exact hb, F2.trans f (by simp)⟩)
      have hmx : ((max M.pk n' : Nat) : Int) = max (M.pk : Int) (n' : Int) := by omega
      generalize rcells (.slice p' n' c') (nowM M n n') = HD at *
      generalize rcells (.slice p' n' c') { ({ M with pk := max M.pk n' } : RM) with pr := prs { M with pk := max M.pk n' } n' } = HD2 at *
      rw [hmx] at HL HB
      generalize M.pk = pk at *
      have hpt : ∀ W : World, Calls Tryd.prog 102 #[.pointer (some ⟨r, 0, none⟩)] W (fun e w' => (∃ v, e = .returned v) ∧ Blk w' r HD2 74 ∧ Fr [r] W w') → True := fun _ _ => trivial
      clear h hb2 F2 hmx c1 c3 c4 c5 c7 cf hon hq hpt
      go_enter Tryd.func94, Tryd.ntmps94
      go_wp2_with fail
      all_goals
        first
          | (rw [show max (pk : Int) (n' : Int) = (n' : Int) from by omega] at HL HB)
          | (rw [show max (pk : Int) (n' : Int) = (pk : Int) from by omega] at HL HB)
          | skip
        (with_reducible refine HL.out.mono ?_)
        rintro e w5 ⟨⟨v, rfl⟩, hb5, f5⟩
        have HF5 := Lib.hid (HB.out _ hb5 f5)
        clear hb5 f5
        go_wp2
        go_end0
        exact ⟨⟨_, rfl⟩, HF5.out⟩
end Qu
end Go.Proofs.YtiimmndhinoaiaaDoor
