/-
  A ring: what it holds; its questions by contracts. Printed by genRp.py.
-/
import Derived.Test.YtiimmndhinoaiaaDoorBks
import Derived.Test.YtiimmndhinoaiaaDoorRgP
import Derived.Test.YtiimmndhinoaiaaDoorRange
import Derived.Test.YtiimmndhinoaiaaDoorRows
import Derived.Test.YtiimmndhinoaiaaDoorPrK
import Derived.Deep.CutBlock
import Derived.StillTailTactics
import Derived.Deep.RegionHeld3
import Derived.Deep.QuietTactic
import Derived.Deep.DrawnRows
import Derived.BigQuiet
namespace Go.Proofs.YtiimmndhinoaiaaDoor.RgP
open Go.RowKit ring
set_option linter.unusedVariables false
set_option linter.unusedSimpArgs false
attribute [local go_sem] Oper.semAt_some

def hdr (g N f n : Nat) (M : RM) : Array Value := #[.slice (some ⟨g, 0, none⟩) N N, .int .i64 M.most, .int .i64 f, .int .i64 n, .bool M.on, .int .i64 M.lo, .int .i64 M.hi, .bool M.pr, .int .i64 M.pk, .int .i64 M.rf]
/-- The ring at b: the places Cs in block g. -/
structure RingAt (W : World) (b g : Nat) (Cs : List Int) (f : Nat) (L : List Int) (M : RM) : Prop where
  hd : Blk W b (hdr g Cs.length f L.length M) 103
  pl : Blk W g (pls Cs).toArray 65
  ho : Holds Cs f L
  le : Cs.length ≤ M.most
  m64 : M.most ≤ 65536
section
variable {W W' : World} {b g : Nat} {Cs : List Int} {f : Nat} {L : List Int} {M : RM}
theorem RingAt.ne (h : RingAt W b g Cs f L M) : b ≠ g := h.hd.ne h.pl (by decide)
theorem RingAt.fr {S : List Nat} (h : RingAt W b g Cs f L M) (fr : Fr S W W') (hb : b ∉ S) (hg : g ∉ S) : RingAt W' b g Cs f L M := ⟨fr.blk h.hd hb, fr.blk h.pl hg, h.ho, h.le, h.m64⟩
theorem RingAt.pos (h : RingAt W b g Cs f L M) : 1 ≤ M.most := by have := h.le; have := h.ho.lt; omega
theorem RingAt.len (h : RingAt W b g Cs f L M) : L.length ≤ M.most := by have := h.le; have := h.ho.le; omega
theorem RingAt.drewN (h : RingAt W b g Cs f L M) (n : Nat) : RingAt (W.drewN n) b g Cs f L M := ⟨h.hd.drewN n, h.pl.drewN n, h.ho, h.le, h.m64⟩
theorem RingAt.lts (h : RingAt W b g Cs f L M) : b < W.heap.size ∧ g < W.heap.size := ⟨h.hd.lt, h.pl.lt⟩
theorem hdr_cells {n N : Nat} (h : Blk W b (hdr g N f n M) 103) : W.cell? ⟨b, 0, none⟩ = some (.slice (some ⟨g, 0, none⟩) N N) ∧ W.cell? ⟨b, 1, none⟩ = some (.int .i64 M.most) ∧ W.cell? ⟨b, 2, none⟩ = some (.int .i64 f) ∧ W.cell? ⟨b, 3, none⟩ = some (.int .i64 n) ∧ W.cell? ⟨b, 4, none⟩ = some (.bool M.on) ∧ W.cell? ⟨b, 5, none⟩ = some (.int .i64 M.lo) ∧ W.cell? ⟨b, 6, none⟩ = some (.int .i64 M.hi) ∧ W.cell? ⟨b, 7, none⟩ = some (.bool M.pr) ∧ W.cell? ⟨b, 8, none⟩ = some (.int .i64 M.pk) ∧ W.cell? ⟨b, 9, none⟩ = some (.int .i64 M.rf) ∧ ∀ i, W.frozen? ⟨b, i, none⟩ = false :=
  ⟨h.at 0 rfl, h.at 1 rfl, h.at 2 rfl, h.at 3 rfl, h.at 4 rfl, h.at 5 rfl, h.at 6 rfl, h.at 7 rfl, h.at 8 rfl, h.at 9 rfl, fun i => h.free i⟩
end

theorem there_any (w : World) (b : Nat) (most : Nat) (hm : 1 ≤ most) (c1 : w.cell? ⟨b, 1, none⟩ = some (.int .i64 most)) : Calls Tryd.prog 96 #[.pointer (some ⟨b, 0, none⟩)] w fun e w' => e = .returned (.bool true) ∧ w = w' := by
  have : 0 < most := by omega
  go_enter Tryd.func96, Tryd.ntmps96
  go_wp2
  go_ret
  exact ⟨rfl, rfl⟩
theorem place_any (w : World) (b g N f : Nat) (i : Nat) (c0 : w.cell? ⟨b, 0, none⟩ = some (.slice (some ⟨g, 0, none⟩) N N)) (c2 : w.cell? ⟨b, 2, none⟩ = some (.int .i64 f)) (h1 : 1 ≤ N) (h2 : N ≤ 65536) (hf : f < N) (hi : i ≤ N) :
    Calls Tryd.prog 97 #[.pointer (some ⟨b, 0, none⟩), .int .i64 i] w fun e w' => e = .returned (.int .i64 ((f + i) % N : Nat)) ∧ ∃ m, w' = w.drewN m := by
  have k1 : (N : Int) ≤ 65536 := by omega
  have k2 : (f : Int) ≤ 65536 := by omega
  have k3 : (i : Int) ≤ 65536 := by omega
  have k4 : ((N : Int) == 0) = false := by rw [beq_eq_false_iff_ne]; omega
  have k5 : IntKind.i64.wrap ((f : Int) + (i : Int)) = (f : Int) + (i : Int) := by rw [IntKind.wrap_i64]; omega
  go_enter Tryd.func97, Tryd.ntmps97
  go_wp2
  go_quiet (fail)
  go_wp2
  go_ret
  exact ⟨ret_int (by simp), _, rfl⟩
theorem place_int (w : World) (b g N f : Nat) (ii : Int) (i : Nat) (hii : ii = (i : Int)) (c0 : w.cell? ⟨b, 0, none⟩ = some (.slice (some ⟨g, 0, none⟩) N N)) (c2 : w.cell? ⟨b, 2, none⟩ = some (.int .i64 f)) (h1 : 1 ≤ N) (h2 : N ≤ 65536) (hf : f < N) (hi : i ≤ N) :
    Calls Tryd.prog 97 #[.pointer (some ⟨b, 0, none⟩), .int .i64 ii] w fun e w' => e = .returned (.int .i64 ((f + i) % N : Nat)) ∧ ∃ m, w' = w.drewN m := by
  subst hii; exact place_any w b g N f i c0 c2 h1 h2 hf hi
theorem len_hdr (w : World) (b g N f n : Nat) (M : RM) (h : Blk w b (hdr g N f n M) 103) (hm : 1 ≤ M.most) : Calls Tryd.prog 75 #[.pointer (some ⟨b, 0, none⟩)] w fun e w' => e = .returned (.int .i64 n) ∧ w = w' := by
  obtain ⟨c0, c1, c2, c3, c4, c5, c6, c7, c8, c9, cf⟩ := hdr_cells h
  have ht := Lib.hid (there_any w b M.most hm c1)
  clear h c0 c1 c2 c4 c5 c6 c7 c8 c9 cf
  go_enter Tryd.func75, Tryd.ntmps75
  go_wp2_with (go_at_call 96; refine ht.out.mono ?_; rintro e w1 ⟨rfl, rfl⟩)
  go_ret
  exact ⟨rfl, rfl⟩
theorem len_any (w : World) (b g : Nat) (Cs : List Int) (f : Nat) (L : List Int) (M : RM) (h : RingAt w b g Cs f L M) : Calls Tryd.prog 75 #[.pointer (some ⟨b, 0, none⟩)] w fun e w' => e = .returned (.int .i64 L.length) ∧ w = w' := len_hdr w b g _ f _ M h.hd h.pos
set_option maxHeartbeats 1000000 in
theorem sized_any (w : World) (b g N f n : Nat) (M : RM) (ni : Int) (n' : Nat) (hni : ni = (n' : Int)) (h : Blk w b (hdr g N f n M) 103) (hn : n' ≠ n) :
    Calls Tryd.prog 98 #[.pointer (some ⟨b, 0, none⟩), .int .i64 ni] w fun e w' => (∃ v, e = .returned v) ∧ Blk w' b (hdr g N f n' (M.sized n')) 103 ∧ Fr [b] w w' := by
  subst hni
  obtain ⟨c0, c1, c2, c3, c4, c5, c6, c7, c8, c9, cf⟩ := hdr_cells h
  have hq : ((n' : Int) == (n : Int)) = false := by rw [beq_eq_false_iff_ne]; omega
  have f3 := cf 3
  have f7 := cf 7
  have f8 := cf 8
  have h1 := (h.set 3 (.int .i64 n')).set 8 (.int .i64 (max M.pk n' : Nat))
  have F1 : Fr [b] w ((w.setCell ⟨b, 3, none⟩ (.int .i64 n')).setCell ⟨b, 8, none⟩ (.int .i64 (max M.pk n' : Nat))) := ((Fr.refl _ _).setCell _ _ (.inl (by simp))).setCell _ _ (.inl (by simp))
  have H1 : ∀ p, prs M n' = p → Blk (((w.setCell ⟨b, 3, none⟩ (.int .i64 n')).setCell ⟨b, 8, none⟩ (.int .i64 (max M.pk n' : Nat))).setCell ⟨b, 7, none⟩ (.bool p)) b (hdr g N f n' (M.sized n')) 103 := fun p hp => by
    have := h1.set 7 (.bool p)
    rw [← hp] at this ⊢
    exact this
  have H0 : prs M n' = M.pr → Blk ((w.setCell ⟨b, 3, none⟩ (.int .i64 n')).setCell ⟨b, 8, none⟩ (.int .i64 (max M.pk n' : Nat))) b (hdr g N f n' (M.sized n')) 103 := fun hp => by
    have e : hdr g N f n' (M.sized n') = hdr g N f n' { M with pk := max M.pk n' } := by simp only [hdr, RM.sized, hp]
    rw [e]; exact h1
  have F7 : ∀ p, Fr [b] w (((w.setCell ⟨b, 3, none⟩ (.int .i64 n')).setCell ⟨b, 8, none⟩ (.int .i64 (max M.pk n' : Nat))).setCell ⟨b, 7, none⟩ (.bool p)) := fun p => F1.setCell _ _ (.inl (by simp))
  have HH := Lib.hid (And.intro H0 (And.intro H1 (And.intro F1 F7)))
  clear h h1 H0 H1 F1 F7 c0 c1 c2 c9 cf
  have hmx : ((max M.pk n' : Nat) : Int) = max (M.pk : Int) (n' : Int) := by omega
  rw [hmx] at HH
  clear hmx
  have HP := Lib.hid (show prs M n' = if M.on = true then (if M.hi ≤ n' then true else if (n' : Int) ≤ M.lo then false else M.pr) else M.pr from rfl)
  generalize prs M n' = P at *
  generalize hdr g N f n' (M.sized n') = HD at *
  obtain ⟨most, on, lo, hi, pr, pk, rf⟩ := M
  simp only at *
  cases on
  · have e : P = pr := HP.out
    obtain ⟨H0, H1, F1, F7⟩ := HH.out
    have HE := Lib.hid (And.intro (H0 e) F1)
    clear HH H0 H1 F1 F7 HP e
    go_enter Tryd.func98, Tryd.ntmps98
    go_wp2
    all_goals
      go_end0
      refine ⟨⟨_, rfl⟩, ?_⟩
      first
        | (rw [show max (pk : Int) (n' : Int) = (n' : Int) from by omega] at HE; exact HE.out)
        | (rw [show max (pk : Int) (n' : Int) = (pk : Int) from by omega] at HE; exact HE.out)
        | exact HE.out
  · by_cases h1 : hi ≤ (n' : Int)
    · have e : P = true := by rw [HP.out]; simp [h1]
      obtain ⟨H0, H1, F1, F7⟩ := HH.out
      have HE := Lib.hid (And.intro (H1 true e) (F7 true))
      clear HH H0 H1 F1 F7 HP e
      go_enter Tryd.func98, Tryd.ntmps98
      go_wp2
      all_goals
        go_end0
        refine ⟨⟨_, rfl⟩, ?_⟩
        first
          | (rw [show max (pk : Int) (n' : Int) = (n' : Int) from by omega] at HE; exact HE.out)
          | (rw [show max (pk : Int) (n' : Int) = (pk : Int) from by omega] at HE; exact HE.out)
          | exact HE.out
    · by_cases h2 : (n' : Int) ≤ lo
      · have e : P = false := by rw [HP.out]; simp [h1, h2]
        obtain ⟨H0, H1, F1, F7⟩ := HH.out
        have HE := Lib.hid (And.intro (H1 false e) (F7 false))
        clear HH H0 H1 F1 F7 HP e
        go_enter Tryd.func98, Tryd.ntmps98
        go_wp2
        all_goals
          go_end0
          refine ⟨⟨_, rfl⟩, ?_⟩
          first
            | (rw [show max (pk : Int) (n' : Int) = (n' : Int) from by omega] at HE; exact HE.out)
            | (rw [show max (pk : Int) (n' : Int) = (pk : Int) from by omega] at HE; exact HE.out)
            | exact HE.out
      · have e : P = pr := by rw [HP.out]; simp [h1, h2]
        obtain ⟨H0, H1, F1, F7⟩ := HH.out
        have HE := Lib.hid (And.intro (H0 e) F1)
        clear HH H0 H1 F1 F7 HP e
        go_enter Tryd.func98, Tryd.ntmps98
        go_wp2
        all_goals
          go_end0
          refine ⟨⟨_, rfl⟩, ?_⟩
          first
            | (rw [show max (pk : Int) (n' : Int) = (n' : Int) from by omega] at HE; exact HE.out)
            | (rw [show max (pk : Int) (n' : Int) = (pk : Int) from by omega] at HE; exact HE.out)
            | exact HE.out
/-- What At answers. -/
def atRes (L : List Int) (i : Int) : Value := if 0 ≤ i ∧ i < L.length then .tuple #[pval (L.getD i.toNat 0), .bool true] else .tuple #[pval 0, .bool false]
set_option maxRecDepth 100000 in
set_option maxHeartbeats 1000000 in
theorem at_no (w : World) (b g : Nat) (Cs : List Int) (f : Nat) (L : List Int) (M : RM) (i : Int) (h : RingAt w b g Cs f L M) (hi : ¬ (0 ≤ i ∧ i < L.length)) : Calls Tryd.prog 58 #[.pointer (some ⟨b, 0, none⟩), .int .i64 i] w fun e w' => e = .returned (.tuple #[pval 0, .bool false]) ∧ Fr [] w w' := by
  have hb := Lib.hid (fun (o1 o2 : Obj) => h.fr (((Fr.refl [] w).alloc o1).alloc o2) (by simp) (by simp))
  obtain ⟨z, hz⟩ : ∃ z, z = w.heap.size := ⟨_, rfl⟩
  obtain ⟨w1, hw1⟩ : ∃ w1, w1 = ((w.alloc (.cells (pcells 0).toArray 65)).alloc (.cells (pcells 0).toArray 65)) := ⟨_, rfl⟩
  have hZ1 : Blk w1 z (pcells 0).toArray 65 := by rw [hw1, hz]; exact (Blk.new w (pcells 0).toArray 65).alloc (.cells (pcells 0).toArray 65)
  have hY1 : Blk w1 (z + 1) (pcells 0).toArray 65 := by rw [hw1, hz]; exact Blk.new_at (by simp) _ _
  have f1 : Fr [] w w1 := by rw [hw1]; exact ((Fr.refl [] w).alloc _).alloc _
  have HE := Lib.hid (show Fr [] w (layPr w1 z 0 0) from f1.setPr 0 0 (.inr (by omega)))
  have HZ := Lib.hid (show pr? (layPr w1 z 0 0) z 0 = some (pval 0) from hZ1.setPrOne.prOne)
  have y1 := hY1.prOne
  have z1 := hZ1.prOneCan
  have hl := Lib.hid (len_any w1 b g Cs f L M (h.fr f1 (by simp) (by simp)))
  clear h hZ1 hY1 f1
  by_cases h0 : i < 0
  · clear hi
    go_enter Tryd.func58, Tryd.ntmps58
    go_upto_region 2 with fail
    simp only [zero_pcells]
    rw [← hw1]
    simp only [← hz]
    clear hw1 hz
    go_wp2
    refine bodyPost_ret (v := .tuple #[pval 0, .bool false]) (results_pt rfl _ _ z 0 _ _ rfl rfl HZ.out) rfl ⟨rfl, HE.out⟩
  · have i1 : (L.length : Int) ≤ i := by omega
    clear hi
    go_enter Tryd.func58, Tryd.ntmps58
    go_wp2_with fail
    simp only [zero_pcells]
    rw [← hw1]
    simp only [← hz]
    clear hw1 hz
    (with_reducible refine hl.out.mono ?_)
    rintro e w2 ⟨rfl, rfl⟩
    go_wp2
    refine bodyPost_ret (v := .tuple #[pval 0, .bool false]) (results_pt rfl _ _ z 0 _ _ rfl rfl HZ.out) rfl ⟨rfl, HE.out⟩
set_option maxRecDepth 100000 in
set_option maxHeartbeats 1000000 in
theorem at_ok (w : World) (b g : Nat) (Cs : List Int) (f : Nat) (L : List Int) (M : RM) (i : Nat) (x : Int) (h : RingAt w b g Cs f L M) (hi : L[i]? = some x) : Calls Tryd.prog 58 #[.pointer (some ⟨b, 0, none⟩), .int .i64 i] w fun e w' => e = .returned (.tuple #[pval x, .bool true]) ∧ Fr [] w w' := by
  have hil : i < L.length := (List.getElem?_eq_some_iff.1 hi).1
  have hle := h.ho.le
  have hN := h.le
  have hm := h.m64
  have hf := h.ho.lt
  obtain ⟨k, hk⟩ : ∃ k, (f + i) % Cs.length = k := ⟨_, rfl⟩
  have hkl : k < Cs.length := by rw [← hk]; exact Nat.mod_lt _ (by omega)
  have hck : Cs[k]? = some x := by
    have := h.ho.at_ i hil
    rw [hk, hi] at this
    exact this
  have H := Lib.hid h
  have hb := Lib.hid (fun (o1 o2 : Obj) => H.out.fr (((Fr.refl [] w).alloc o1).alloc o2) (by simp) (by simp))
  have i1 : (i : Int) < (L.length : Int) := by omega
  have k1 : (0 : Int) ≤ (k : Int) := by omega
  have k2 : (k : Int) < (Cs.length : Int) := by omega
  obtain ⟨N, hNe⟩ : ∃ N, N = Cs.length := ⟨_, rfl⟩
  obtain ⟨n, hne⟩ : ∃ n, n = L.length := ⟨_, rfl⟩
  clear h hi
  go_enter Tryd.func58, Tryd.ntmps58
  go_wp2_with fail
  (with_reducible refine (len_any _ b g Cs f L M (hb.out _ _)).mono ?_)
  rintro e w1 ⟨rfl, rfl⟩
  go_wp2_with fail
  simp only [zero_pcells]
  obtain ⟨z, hz⟩ : ∃ z, z = w.heap.size := ⟨_, rfl⟩
  have hR1 := hb.out (.cells (pcells 0).toArray 65) (.cells (pcells 0).toArray 65)
  have hZ1 := (Blk.new w (pcells 0).toArray 65).alloc (.cells (pcells 0).toArray 65)
  have f1 := ((Fr.refl [] w).alloc (.cells (pcells 0).toArray 65)).alloc (.cells (pcells 0).toArray 65)
  rw [← hz] at hZ1
  simp only [← hz]
  generalize ((w.alloc _).alloc _) = w1 at *
  obtain ⟨c0, c1, c2, c3, c4, c5, c6, c7, c8, c9, cf⟩ := hdr_cells hR1.hd
  have hx := hR1.pl.prAt hck
  have z1 := hZ1.prOneCan
  have hne2 : b ≠ z := by have := H.out.hd.lt; omega
  have hne3 : g ≠ z := by have := H.out.pl.lt; omega
  have hp := Lib.hid (fun (W : World) (d0 : W.cell? ⟨b, 0, none⟩ = some (.slice (some ⟨g, 0, none⟩) Cs.length Cs.length)) (d2 : W.cell? ⟨b, 2, none⟩ = some (.int .i64 f)) => place_any W b g Cs.length f i d0 d2 (by omega) (by omega) hf (by omega))
  rw [hk] at hp
  have hfin : ∀ m, pr? (layPr (w1.drewN m) z 0 x) z 0 = some (pval x) := fun m => (hZ1.drewN m).setPrOne.prOne
  have hend : ∀ m, Fr [] w (layPr (w1.drewN m) z 0 x) := fun m => f1.trans (((Fr.refl [z] w1).drewN m).setPr 0 x (.inl (by simp))) (by simp [hz])
  have HK := Lib.hid (And.intro hk (And.intro hR1 (And.intro f1 (And.intro hNe (And.intro hne (And.intro hz (And.intro hck hend)))))))
  clear hk hR1 f1 hNe hne hz hck hb c1 c3 c4 c5 c6 c7 c8 c9 cf hZ1 hend
  go_region_held3 (fun w' => w'.cell? ⟨b, 0, none⟩ = some (.slice (some ⟨g, 0, none⟩) Cs.length Cs.length) ∧ w'.cell? ⟨b, 2, none⟩ = some (.int .i64 f) ∧ pr? w' g (k * 2) = some (pval x)) ((try simp only [World.cell?_drew, World.cell?_drewN, pr_drew, pr_drewN, cell_layPr' _ _ _ _ _ _ hne2, pr_layPr _ _ _ _ _ _ hne3]; exact ⟨c0, c2, hx⟩))
    ((go_at_call 97; refine (hp.out _ (by exact c0) (by exact c2)).mono ?_; rintro e w4 ⟨rfl, mm, rfl⟩))
  simp only [Exit.then]
  go_wp2
  refine bodyPost_ret (v := .tuple #[pval x, .bool true]) (results_pt rfl _ _ z 0 _ _ rfl rfl (hfin _)) rfl ⟨rfl, HK.out.2.2.2.2.2.2.2 _⟩
theorem at_any (w : World) (b g : Nat) (Cs : List Int) (f : Nat) (L : List Int) (M : RM) (i : Int) (h : RingAt w b g Cs f L M) : Calls Tryd.prog 58 #[.pointer (some ⟨b, 0, none⟩), .int .i64 i] w fun e w' => e = .returned (atRes L i) ∧ Fr [] w w' := by
  by_cases hi : 0 ≤ i ∧ i < L.length
  · obtain ⟨j, rfl⟩ : ∃ j : Nat, i = j := ⟨i.toNat, by omega⟩
    unfold atRes
    rw [if_pos hi, Int.toNat_natCast]
    have hj : j < L.length := by omega
    exact at_ok w b g Cs f L M j _ h (by simp [List.getD_eq_getElem?_getD, hj])
  · unfold atRes
    rw [if_neg hi]
    exact at_no w b g Cs f L M i h hi
theorem most_any (w : World) (b g : Nat) (Cs : List Int) (f : Nat) (L : List Int) (M : RM) (h : RingAt w b g Cs f L M) : Calls Tryd.prog 99 #[.pointer (some ⟨b, 0, none⟩)] w fun e w' => e = .returned (.int .i64 M.most) ∧ w = w' := by
  obtain ⟨c0, c1, c2, c3, c4, c5, c6, c7, c8, c9, cf⟩ := hdr_cells h.hd
  have ht := Lib.hid (there_any w b M.most h.pos c1)
  clear h c0 c2 c3 c4 c5 c6 c7 c8 c9 cf
  go_enter Tryd.func99, Tryd.ntmps99
  go_wp2_with (go_at_call 96; refine ht.out.mono ?_; rintro e w1 ⟨rfl, rfl⟩)
  go_ret
  exact ⟨rfl, rfl⟩
theorem free_any (w : World) (b g : Nat) (Cs : List Int) (f : Nat) (L : List Int) (M : RM) (h : RingAt w b g Cs f L M) : Calls Tryd.prog 76 #[.pointer (some ⟨b, 0, none⟩)] w fun e w' => e = .returned (.int .i64 ((M.most : Int) - L.length)) ∧ w = w' := by
  have h1 := Lib.hid (len_any w b g Cs f L M h)
  have h2 := Lib.hid (most_any w b g Cs f L M h)
  have h4 : L.length ≤ M.most := h.len
  have h5 := h.m64
  generalize L.length = n at *
  generalize M.most = mo at *
  clear h
  go_enter Tryd.func76, Tryd.ntmps76
  go_wp2_with (first | (go_at_call 99; refine h2.out.mono ?_; rintro e w1 ⟨rfl, rfl⟩) | (go_at_call 75; refine h1.out.mono ?_; rintro e w1 ⟨rfl, rfl⟩))
  go_ret
  exact ⟨rfl, rfl⟩
theorem pressed_any (w : World) (b g : Nat) (Cs : List Int) (f : Nat) (L : List Int) (M : RM) (h : RingAt w b g Cs f L M) : Calls Tryd.prog 77 #[.pointer (some ⟨b, 0, none⟩)] w fun e w' => e = .returned (.bool M.pr) ∧ w = w' := by
  obtain ⟨c0, c1, c2, c3, c4, c5, c6, c7, c8, c9, cf⟩ := hdr_cells h.hd
  have ht := Lib.hid (there_any w b M.most h.pos c1)
  clear h c0 c1 c2 c3 c4 c5 c6 c8 c9 cf
  go_enter Tryd.func77, Tryd.ntmps77
  go_wp2_with (go_at_call 96; refine ht.out.mono ?_; rintro e w1 ⟨rfl, rfl⟩)
  go_ret
  exact ⟨rfl, rfl⟩
theorem peak_any (w : World) (b g : Nat) (Cs : List Int) (f : Nat) (L : List Int) (M : RM) (h : RingAt w b g Cs f L M) : Calls Tryd.prog 78 #[.pointer (some ⟨b, 0, none⟩)] w fun e w' => e = .returned (.int .i64 M.pk) ∧ w = w' := by
  obtain ⟨c0, c1, c2, c3, c4, c5, c6, c7, c8, c9, cf⟩ := hdr_cells h.hd
  have ht := Lib.hid (there_any w b M.most h.pos c1)
  clear h c0 c1 c2 c3 c4 c5 c6 c7 c9 cf
  go_enter Tryd.func78, Tryd.ntmps78
  go_wp2_with (go_at_call 96; refine ht.out.mono ?_; rintro e w1 ⟨rfl, rfl⟩)
  go_ret
  exact ⟨rfl, rfl⟩

end Go.Proofs.YtiimmndhinoaiaaDoor.RgP
