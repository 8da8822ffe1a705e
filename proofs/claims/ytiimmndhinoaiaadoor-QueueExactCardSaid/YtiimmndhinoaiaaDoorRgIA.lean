/-
  A ring: what it holds; its questions by contracts. Printed by genRg.py.
-/
import Derived.Test.YtiimmndhinoaiaaDoorBks
import Derived.Test.YtiimmndhinoaiaaDoorRgP
import Derived.Test.YtiimmndhinoaiaaDoorRange
import Derived.Test.YtiimmndhinoaiaaDoorRows
import Derived.StillTailTactics
import Derived.Deep.RegionHeld3
import Derived.Deep.QuietTactic
import Derived.Deep.DrawnRows
import Derived.BigQuiet
namespace Go.Proofs.YtiimmndhinoaiaaDoor.RgI
open Go.RowKit ring
set_option linter.unusedVariables false
set_option linter.unusedSimpArgs false
attribute [local go_sem] Oper.semAt_some

def hdr (g N f n : Nat) (M : RM) : Array Value := #[.slice (some ⟨g, 0, none⟩) N N, .int .i64 M.most, .int .i64 f, .int .i64 n, .bool M.on, .int .i64 M.lo, .int .i64 M.hi, .bool M.pr, .int .i64 M.pk, .int .i64 M.rf]
/-- The ring at b: the places Cs in block g. -/
structure RingAt (W : World) (b g : Nat) (Cs : List Int) (f : Nat) (L : List Int) (M : RM) : Prop where
  hd : Blk W b (hdr g Cs.length f L.length M) 118
  pl : Blk W g (ints Cs).toArray 3
  ho : Holds Cs f L
  le : Cs.length ≤ M.most
  m64 : M.most ≤ 65536
section
variable {W W' : World} {b g : Nat} {Cs : List Int} {f : Nat} {L : List Int} {M : RM}
theorem RingAt.ne (h : RingAt W b g Cs f L M) : b ≠ g := h.hd.ne h.pl (by decide)
theorem RingAt.fr {S : List Nat} (h : RingAt W b g Cs f L M) (fr : Fr S W W') (hb : b ∉ S) (hg : g ∉ S) : RingAt W' b g Cs f L M := ⟨fr.blk h.hd hb, fr.blk h.pl hg, h.ho, h.le, h.m64⟩
theorem RingAt.pos (h : RingAt W b g Cs f L M) : 1 ≤ M.most := by have := h.le; have := h.ho.lt; omega
theorem RingAt.len (h : RingAt W b g Cs f L M) : L.length ≤ M.most := by have := h.le; have := h.ho.le; omega
theorem RingAt.drewN (h : RingAt W b g Cs f L M) (n : Nat) : RingAt (W.drewN n) b g Cs f L M := ⟨h.hd.drewN n, h.pl.drewN n, h.ho, h.le, h.m64⟩
theorem RingAt.lts (h : RingAt W b g Cs f L M) : b < W.heap.size ∧ g < W.heap.size := ⟨h.hd.lt, h.pl.lt⟩
theorem hdr_cells {n N : Nat} (h : Blk W b (hdr g N f n M) 118) : W.cell? ⟨b, 0, none⟩ = some (.slice (some ⟨g, 0, none⟩) N N) ∧ W.cell? ⟨b, 1, none⟩ = some (.int .i64 M.most) ∧ W.cell? ⟨b, 2, none⟩ = some (.int .i64 f) ∧ W.cell? ⟨b, 3, none⟩ = some (.int .i64 n) ∧ W.cell? ⟨b, 4, none⟩ = some (.bool M.on) ∧ W.cell? ⟨b, 5, none⟩ = some (.int .i64 M.lo) ∧ W.cell? ⟨b, 6, none⟩ = some (.int .i64 M.hi) ∧ W.cell? ⟨b, 7, none⟩ = some (.bool M.pr) ∧ W.cell? ⟨b, 8, none⟩ = some (.int .i64 M.pk) ∧ W.cell? ⟨b, 9, none⟩ = some (.int .i64 M.rf) ∧ ∀ i, W.frozen? ⟨b, i, none⟩ = false :=
  ⟨h.at 0 rfl, h.at 1 rfl, h.at 2 rfl, h.at 3 rfl, h.at 4 rfl, h.at 5 rfl, h.at 6 rfl, h.at 7 rfl, h.at 8 rfl, h.at 9 rfl, fun i => h.free i⟩
/-- A value that lies at a place. -/
theorem els_at {k : Nat} {x : Int} (h : Blk W g (ints Cs).toArray 3) (hk : Cs[k]? = some x) : W.cell? ⟨g, k, none⟩ = some (.int .i64 x) := h.at k (by simp [ints, hk])
theorem els_some {k : Nat} (h : Blk W g (ints Cs).toArray 3) (hk : k < Cs.length) : ∃ y : Int, W.cell? ⟨g, k, none⟩ = some (.int .i64 y) := ⟨Cs[k], els_at h (List.getElem?_eq_getElem hk)⟩
theorem els_set (Cs : List Int) (k : Nat) (x : Int) : (ints Cs).toArray.setIfInBounds k (.int .i64 x) = (ints (Cs.set k x)).toArray := by
  simp [ints, List.map_set]
theorem Blk.els_put {k : Nat} (h : Blk W g (ints Cs).toArray 3) (x : Int) : Blk (W.setCell ⟨g, k, none⟩ (.int .i64 x)) g (ints (Cs.set k x)).toArray 3 := by
  rw [← els_set]; exact h.set k _
end

theorem there_any (w : World) (b : Nat) (most : Nat) (hm : 1 ≤ most) (c1 : w.cell? ⟨b, 1, none⟩ = some (.int .i64 most)) : Calls Tryd.prog 87 #[.pointer (some ⟨b, 0, none⟩)] w fun e w' => e = .returned (.bool true) ∧ w = w' := by
  have : 0 < most := by omega
  go_enter Tryd.func87, Tryd.ntmps87
  go_wp2
  go_ret
  exact ⟨rfl, rfl⟩
theorem place_any (w : World) (b g N f : Nat) (i : Nat) (c0 : w.cell? ⟨b, 0, none⟩ = some (.slice (some ⟨g, 0, none⟩) N N)) (c2 : w.cell? ⟨b, 2, none⟩ = some (.int .i64 f)) (h1 : 1 ≤ N) (h2 : N ≤ 65536) (hf : f < N) (hi : i ≤ N) :
    Calls Tryd.prog 88 #[.pointer (some ⟨b, 0, none⟩), .int .i64 i] w fun e w' => e = .returned (.int .i64 ((f + i) % N : Nat)) ∧ ∃ m, w' = w.drewN m := by
  have k1 : (N : Int) ≤ 65536 := by omega
  have k2 : (f : Int) ≤ 65536 := by omega
  have k3 : (i : Int) ≤ 65536 := by omega
  have k4 : ((N : Int) == 0) = false := by rw [beq_eq_false_iff_ne]; omega
  have k5 : IntKind.i64.wrap ((f : Int) + (i : Int)) = (f : Int) + (i : Int) := by rw [IntKind.wrap_i64]; omega
  go_enter Tryd.func88, Tryd.ntmps88
  go_wp2
  go_quiet (fail)
  go_wp2
  go_ret
  exact ⟨ret_int (by simp), _, rfl⟩
theorem place_int (w : World) (b g N f : Nat) (ii : Int) (i : Nat) (hii : ii = (i : Int)) (c0 : w.cell? ⟨b, 0, none⟩ = some (.slice (some ⟨g, 0, none⟩) N N)) (c2 : w.cell? ⟨b, 2, none⟩ = some (.int .i64 f)) (h1 : 1 ≤ N) (h2 : N ≤ 65536) (hf : f < N) (hi : i ≤ N) :
    Calls Tryd.prog 88 #[.pointer (some ⟨b, 0, none⟩), .int .i64 ii] w fun e w' => e = .returned (.int .i64 ((f + i) % N : Nat)) ∧ ∃ m, w' = w.drewN m := by
  subst hii; exact place_any w b g N f i c0 c2 h1 h2 hf hi
theorem len_hdr (w : World) (b g N f n : Nat) (M : RM) (h : Blk w b (hdr g N f n M) 118) (hm : 1 ≤ M.most) : Calls Tryd.prog 46 #[.pointer (some ⟨b, 0, none⟩)] w fun e w' => e = .returned (.int .i64 n) ∧ w = w' := by
  obtain ⟨c0, c1, c2, c3, c4, c5, c6, c7, c8, c9, cf⟩ := hdr_cells h
  have ht := Lib.hid (there_any w b M.most hm c1)
  clear h c0 c1 c2 c4 c5 c6 c7 c8 c9 cf
  go_enter Tryd.func46, Tryd.ntmps46
  go_wp2_with (go_at_call 87; refine ht.out.mono ?_; rintro e w1 ⟨rfl, rfl⟩)
  go_ret
  exact ⟨rfl, rfl⟩
theorem len_any (w : World) (b g : Nat) (Cs : List Int) (f : Nat) (L : List Int) (M : RM) (h : RingAt w b g Cs f L M) : Calls Tryd.prog 46 #[.pointer (some ⟨b, 0, none⟩)] w fun e w' => e = .returned (.int .i64 L.length) ∧ w = w' := len_hdr w b g _ f _ M h.hd h.pos
set_option maxHeartbeats 1000000 in
theorem sized_any (w : World) (b g N f n : Nat) (M : RM) (ni : Int) (n' : Nat) (hni : ni = (n' : Int)) (h : Blk w b (hdr g N f n M) 118) (hn : n' ≠ n) :
    Calls Tryd.prog 89 #[.pointer (some ⟨b, 0, none⟩), .int .i64 ni] w fun e w' => (∃ v, e = .returned v) ∧ Blk w' b (hdr g N f n' (M.sized n')) 118 ∧ Fr [b] w w' := by
  subst hni
  obtain ⟨c0, c1, c2, c3, c4, c5, c6, c7, c8, c9, cf⟩ := hdr_cells h
  have hq : ((n' : Int) == (n : Int)) = false := by rw [beq_eq_false_iff_ne]; omega
  have f3 := cf 3
  have f7 := cf 7
  have f8 := cf 8
  have h1 := (h.set 3 (.int .i64 n')).set 8 (.int .i64 (max M.pk n' : Nat))
  have F1 : Fr [b] w ((w.setCell ⟨b, 3, none⟩ (.int .i64 n')).setCell ⟨b, 8, none⟩ (.int .i64 (max M.pk n' : Nat))) := ((Fr.refl _ _).setCell _ _ (.inl (by simp))).setCell _ _ (.inl (by simp))
  have H1 : ∀ p, prs M n' = p → Blk (((w.setCell ⟨b, 3, none⟩ (.int .i64 n')).setCell ⟨b, 8, none⟩ (.int .i64 (max M.pk n' : Nat))).setCell ⟨b, 7, none⟩ (.bool p)) b (hdr g N f n' (M.sized n')) 118 := fun p hp => by
    have := h1.set 7 (.bool p)
    rw [← hp] at this ⊢
    exact this
  have H0 : prs M n' = M.pr → Blk ((w.setCell ⟨b, 3, none⟩ (.int .i64 n')).setCell ⟨b, 8, none⟩ (.int .i64 (max M.pk n' : Nat))) b (hdr g N f n' (M.sized n')) 118 := fun hp => by
    have e : hdr g N f n' (M.sized n') = hdr g N f n' { M with pk := max M.pk n' } := by simp only [hdr, RM.sized, hp]
    rw [e]; exact h1
  have F7 : ∀ p, Fr [b] w (((w.setCell ⟨b, 3, none⟩ (.int .i64 n')).setCell ⟨b, 8, none⟩ (.int .i64 (max M.pk n' : Nat))).setCell ⟨b, 7, none⟩ (.bool p)) := fun p => F1.setCell _ _ (.inl (by simp))
  have HH := Lib.hid (And.intro H0 (And.intro H1 (And.intro F1 F7)))
  clear h h1 H0 H1 F1 F7 c0 c1 c2 c9 cf
  have hmx : ((max M.pk n' : Nat) : Int) = max (M.pk : Int) (n' : Int) := by omega
  rw [hmx] at HH
  clear hmx
  have HP := Lib.hid (show prs M n' = if M.on = true then (if M.hi ≤ n' then true else if (n' : Int) ≤ M.lo then false else M.pr) else M.pr from rfl)
  generalize prs M n' = P at *
  generalize hdr g N f n' (M.sized n') = HD at *
  obtain ⟨most, on, lo, hi, pr, pk, rf⟩ := M
  simp only at *
  cases on
  · have e : P = pr := HP.out
    obtain ⟨H0, H1, F1, F7⟩ := HH.out
    have HE := Lib.hid (And.intro (H0 e) F1)
    clear HH H0 H1 F1 F7 HP e
    go_enter Tryd.func89, Tryd.ntmps89
    go_wp2
    all_goals
      go_end0
      refine ⟨⟨_, rfl⟩, ?_⟩
      first
        | (rw [show max (pk : Int) (n' : Int) = (n' : Int) from by omega] at HE; exact HE.out)
        | (rw [show max (pk : Int) (n' : Int) = (pk : Int) from by omega] at HE; exact HE.out)
        | exact HE.out
  · by_cases h1 : hi ≤ (n' : Int)
    · have e : P = true := by rw [HP.out]; simp [h1]
      obtain ⟨H0, H1, F1, F7⟩ := HH.out
      have HE := Lib.hid (And.intro (H1 true e) (F7 true))
      clear HH H0 H1 F1 F7 HP e
      go_enter Tryd.func89, Tryd.ntmps89
      go_wp2
      all_goals
        go_end0
        refine ⟨⟨_, rfl⟩, ?_⟩
        first
          | (rw [show max (pk : Int) (n' : Int) = (n' : Int) from by omega] at HE; exact HE.out)
          | (rw [show max (pk : Int) (n' : Int) = (pk : Int) from by omega] at HE; exact HE.out)
          | exact HE.out
    · by_cases h2 : (n' : Int) ≤ lo
      · have e : P = false := by rw [HP.out]; simp [h1, h2]
        obtain ⟨H0, H1, F1, F7⟩ := HH.out
        have HE := Lib.hid (And.intro (H1 false e) (F7 false))
        clear HH H0 H1 F1 F7 HP e
        go_enter Tryd.func89, Tryd.ntmps89
        go_wp2
        all_goals
          go_end0
          refine ⟨⟨_, rfl⟩, ?_⟩
          first
            | (rw [show max (pk : Int) (n' : Int) = (n' : Int) from by omega] at HE; exact HE.out)
            | (rw [show max (pk : Int) (n' : Int) = (pk : Int) from by omega] at HE; exact HE.out)
            | exact HE.out
      · have e : P = pr := by rw [HP.out]; simp [h1, h2]
        obtain ⟨H0, H1, F1, F7⟩ := HH.out
        have HE := Lib.hid (And.intro (H0 e) F1)
        clear HH H0 H1 F1 F7 HP e
        go_enter Tryd.func89, Tryd.ntmps89
        go_wp2
        all_goals
          go_end0
          refine ⟨⟨_, rfl⟩, ?_⟩
          first
            | (rw [show max (pk : Int) (n' : Int) = (n' : Int) from by omega] at HE; exact HE.out)
            | (rw [show max (pk : Int) (n' : Int) = (pk : Int) from by omega] at HE; exact HE.out)
            | exact HE.out
/-- What At answers. -/
def atRes (L : List Int) (i : Int) : Value := if 0 ≤ i ∧ i < L.length then .tuple #[.int .i64 (L.getD i.toNat 0), .bool true] else .tuple #[.int .i64 0, .bool false]
theorem at_any (w : World) (b g : Nat) (Cs : List Int) (f : Nat) (L : List Int) (M : RM) (i : Int) (h : RingAt w b g Cs f L M) : Calls Tryd.prog 90 #[.pointer (some ⟨b, 0, none⟩), .int .i64 i] w fun e w' => e = .returned (atRes L i) ∧ ∃ m, w' = w.drewN m := by
  have hl := Lib.hid (len_any w b g Cs f L M h)
  by_cases h0 : i < 0
  · have hr : atRes L i = .tuple #[.int .i64 0, .bool false] := by unfold atRes; rw [if_neg (by omega)]
    rw [hr]
    clear h hr
    go_enter Tryd.func90, Tryd.ntmps90
    go_wp2
    go_ret2
    exact ⟨rfl, 0, rfl⟩
  · obtain ⟨j, rfl⟩ : ∃ j : Nat, i = j := ⟨i.toNat, by omega⟩
    clear h0
    by_cases hj : j < L.length
    · have hle := h.ho.le
      have hN := h.le
      have hm := h.m64
      have hf := h.ho.lt
      obtain ⟨c0, c1, c2, c3, c4, c5, c6, c7, c8, c9, cf⟩ := hdr_cells h.hd
      obtain ⟨k, hk⟩ : ∃ k, (f + j) % Cs.length = k := ⟨_, rfl⟩
      have hkl : k < Cs.length := by rw [← hk]; exact Nat.mod_lt _ (by omega)
      obtain ⟨x, hx⟩ : ∃ x, L.getD j 0 = x := ⟨_, rfl⟩
      have hck : Cs[k]? = some x := by
        have := h.ho.at_ j hj
        rw [hk, List.getElem?_eq_getElem hj] at this
        rw [this, ← hx]
        simp [List.getD_eq_getElem?_getD, hj]
      have cx : w.cell? ⟨g, k, none⟩ = some (.int .i64 x) := els_at h.pl hck
      have hp := Lib.hid (fun m => place_any (w.drewN m) b g Cs.length f j c0 c2 (by omega) (by omega) hf (by omega))
      rw [hk] at hp
      have hr : atRes L j = .tuple #[.int .i64 x, .bool true] := by unfold atRes; rw [if_pos (by omega), Int.toNat_natCast, hx]
      rw [hr]
      have i1 : (j : Int) < (L.length : Int) := by omega
      have k1 : (0 : Int) ≤ (k : Int) := by omega
      have k2 : (k : Int) < (Cs.length : Int) := by omega
      clear h c1 c2 c3 c4 c5 c6 c7 c8 c9 cf hk hx hck hr
      go_enter Tryd.func90, Tryd.ntmps90
      go_wp2_with (go_at_call 46; refine hl.out.mono ?_; rintro e w1 ⟨rfl, rfl⟩)
      go_quiet ((go_at_call 88; exact Calls.quiet_of (hp.out _)))
      go_wp2
      go_ret2
      exact ⟨rfl, _, rfl⟩
    · have hr : atRes L j = .tuple #[.int .i64 0, .bool false] := by unfold atRes; rw [if_neg (by omega)]
      rw [hr]
      clear h hr
      go_enter Tryd.func90, Tryd.ntmps90
      go_wp2_with (go_at_call 46; refine hl.out.mono ?_; rintro e w1 ⟨rfl, rfl⟩)
      go_ret2
      exact ⟨rfl, 0, rfl⟩

end Go.Proofs.YtiimmndhinoaiaaDoor.RgI
