/-
  A ring of events: what it holds; place, Len, Most, Free, At, by contracts.
-/
import Derived.Test.YtehdhdocalbfpaaEvK
import Derived.Test.YtehdhdocalbfpaaRange
import Derived.Test.YtehdhdocalbfpaaRows
import Derived.Test.YtehdhdocalbfpaaRingP
import Derived.StillTailTactics
import Derived.Deep.RegionHeld3
import Derived.Deep.QuietTactic
import Derived.Deep.DrawnRows
import Derived.BigQuiet
namespace Go.Proofs.Ytehdhdocalbfpaa
open Go.RowKit ring
set_option linter.unusedVariables false

/-- The ring at b: the places Cs in block g; room for most; never marked. -/
structure ERing (W : World) (b g : Nat) (Cs : List Ev) (f : Nat) (L : List Ev) (most : Nat) : Prop where
  hd : ∃ (p : Nat) (r : Int), Blk W b #[.slice (some ⟨g, 0, none⟩) Cs.length Cs.length, .int .i64 most, .int .i64 f, .int .i64 L.length, .bool false, .int .i64 0, .int .i64 0, .bool false, .int .i64 p, .int .i64 r] 115
  pl : Blk W g (evs Cs).toArray 56
  ho : Holds Cs f L
  le : Cs.length ≤ most
  m64 : most ≤ 65536
theorem ERing.ne {W : World} {b g : Nat} {Cs : List Ev} {f : Nat} {L : List Ev} {most : Nat} (h : ERing W b g Cs f L most) : b ≠ g := by
  obtain ⟨p, r, hb⟩ := h.hd
  exact hb.ne h.pl (by decide)
theorem ERing.fr {S : List Nat} {W W' : World} {b g : Nat} {Cs : List Ev} {f : Nat} {L : List Ev} {most : Nat} (h : ERing W b g Cs f L most) (fr : Fr S W W') (hb : b ∉ S) (hg : g ∉ S) : ERing W' b g Cs f L most := by
  obtain ⟨p, r, h1⟩ := h.hd
  exact ⟨⟨p, r, fr.blk h1 hb⟩, fr.blk h.pl hg, h.ho, h.le, h.m64⟩
theorem ERing.pos {W : World} {b g : Nat} {Cs : List Ev} {f : Nat} {L : List Ev} {most : Nat} (h : ERing W b g Cs f L most) : 1 ≤ most := by
  have := h.le; have := h.ho.lt; omega
theorem ERing.len {W : World} {b g : Nat} {Cs : List Ev} {f : Nat} {L : List Ev} {most : Nat} (h : ERing W b g Cs f L most) : L.length ≤ most := by
  have := h.le; have := h.ho.le; omega
theorem ERing.cells {W : World} {b g : Nat} {Cs : List Ev} {f : Nat} {L : List Ev} {most : Nat} (h : ERing W b g Cs f L most) :
    ∃ (p : Nat) (r : Int), W.cell? ⟨b, 0, none⟩ = some (.slice (some ⟨g, 0, none⟩) Cs.length Cs.length) ∧ W.cell? ⟨b, 1, none⟩ = some (.int .i64 most) ∧ W.cell? ⟨b, 2, none⟩ = some (.int .i64 f) ∧ W.cell? ⟨b, 3, none⟩ = some (.int .i64 L.length) ∧ W.cell? ⟨b, 4, none⟩ = some (.bool false) ∧
      W.cell? ⟨b, 8, none⟩ = some (.int .i64 p) ∧ W.cell? ⟨b, 9, none⟩ = some (.int .i64 r) ∧ ∀ i, W.frozen? ⟨b, i, none⟩ = false := by
  obtain ⟨p, r, h1⟩ := h.hd
  exact ⟨p, r, h1.at 0 rfl, h1.at 1 rfl, h1.at 2 rfl, h1.at 3 rfl, h1.at 4 rfl, h1.at 8 rfl, h1.at 9 rfl, fun i => h1.free i⟩

theorem ethere (w : World) (b : Nat) (most : Nat) (hm : 1 ≤ most) (c1 : w.cell? ⟨b, 1, none⟩ = some (.int .i64 most)) : Calls Try.prog 74 #[.pointer (some ⟨b, 0, none⟩)] w fun e w' => e = .returned (.bool true) ∧ w = w' := by
  have : 0 < most := by omega
  go_enter Try.func74, Try.ntmps74
  go_wp2
  go_ret
  exact ⟨rfl, rfl⟩
theorem eplace (w : World) (b g N f : Nat) (i : Nat) (c0 : w.cell? ⟨b, 0, none⟩ = some (.slice (some ⟨g, 0, none⟩) N N)) (c2 : w.cell? ⟨b, 2, none⟩ = some (.int .i64 f)) (h1 : 1 ≤ N) (h2 : N ≤ 65536) (hf : f < N) (hi : i ≤ N) :
    Calls Try.prog 75 #[.pointer (some ⟨b, 0, none⟩), .int .i64 i] w fun e w' => e = .returned (.int .i64 ((f + i) % N : Nat)) ∧ ∃ m, w' = w.drewN m := by
  have k1 : (N : Int) ≤ 65536 := by omega
  have k2 : (f : Int) ≤ 65536 := by omega
  have k3 : (i : Int) ≤ 65536 := by omega
  have k4 : ((N : Int) == 0) = false := by rw [beq_eq_false_iff_ne]; omega
  have k5 : IntKind.i64.wrap ((f : Int) + (i : Int)) = (f : Int) + (i : Int) := by rw [IntKind.wrap_i64]; omega
  go_enter Try.func75, Try.ntmps75
  go_wp2
  go_quiet (fail)
  go_wp2
  go_ret
  exact ⟨ret_int (by simp), _, rfl⟩
theorem elen (w : World) (b g : Nat) (Cs : List Ev) (f : Nat) (L : List Ev) (most : Nat) (h : ERing w b g Cs f L most) : Calls Try.prog 57 #[.pointer (some ⟨b, 0, none⟩)] w fun e w' => e = .returned (.int .i64 L.length) ∧ w = w' := by
  obtain ⟨p, r, c0, c1, c2, c3, c4, c8, c9, cf⟩ := h.cells
  have ht := Lib.hid (ethere w b most h.pos c1)
  clear h c0 c1 c2 c4 c8 c9 cf
  go_enter Try.func57, Try.ntmps57
  go_wp2_with (go_at_call 74; refine ht.out.mono ?_; rintro e w1 ⟨rfl, rfl⟩)
  go_ret
  exact ⟨rfl, rfl⟩
theorem emost (w : World) (b g : Nat) (Cs : List Ev) (f : Nat) (L : List Ev) (most : Nat) (h : ERing w b g Cs f L most) : Calls Try.prog 73 #[.pointer (some ⟨b, 0, none⟩)] w fun e w' => e = .returned (.int .i64 most) ∧ w = w' := by
  obtain ⟨p, r, c0, c1, c2, c3, c4, c8, c9, cf⟩ := h.cells
  have ht := Lib.hid (ethere w b most h.pos c1)
  clear h c0 c2 c3 c4 c8 c9 cf
  go_enter Try.func73, Try.ntmps73
  go_wp2_with (go_at_call 74; refine ht.out.mono ?_; rintro e w1 ⟨rfl, rfl⟩)
  go_ret
  exact ⟨rfl, rfl⟩
theorem efree (w : World) (b g : Nat) (Cs : List Ev) (f : Nat) (L : List Ev) (most : Nat) (h : ERing w b g Cs f L most) : Calls Try.prog 56 #[.pointer (some ⟨b, 0, none⟩)] w fun e w' => e = .returned (.int .i64 (most - L.length : Nat)) ∧ w = w' := by
  have h1 := Lib.hid (elen w b g Cs f L most h)
  have h2 := Lib.hid (emost w b g Cs f L most h)
  have h3 : ((most - L.length : Nat) : Int) = (most : Int) - L.length := by have := h.len; omega
  have h4 : L.length ≤ most := h.len
  have h5 := h.m64
  rw [h3]
  generalize L.length = n at *
  clear h h3
  go_enter Try.func56, Try.ntmps56
  go_wp2_with (first | (go_at_call 73; refine h2.out.mono ?_; rintro e w1 ⟨rfl, rfl⟩) | (go_at_call 57; refine h1.out.mono ?_; rintro e w1 ⟨rfl, rfl⟩))
  go_ret
  exact ⟨rfl, rfl⟩
theorem esized (w : World) (b n size peak : Nat) (c3 : w.cell? ⟨b, 3, none⟩ = some (.int .i64 size)) (c4 : w.cell? ⟨b, 4, none⟩ = some (.bool false)) (c8 : w.cell? ⟨b, 8, none⟩ = some (.int .i64 peak)) (f3 : w.frozen? ⟨b, 3, none⟩ = false) (f8 : w.frozen? ⟨b, 8, none⟩ = false) (hn : n ≠ size) :
    Calls Try.prog 76 #[.pointer (some ⟨b, 0, none⟩), .int .i64 n] w fun e w' => (∃ v, e = .returned v) ∧ w' = (w.setCell ⟨b, 3, none⟩ (.int .i64 n)).setCell ⟨b, 8, none⟩ (.int .i64 (max peak n : Nat)) := by
  have hq : ((n : Int) == (size : Int)) = false := by rw [beq_eq_false_iff_ne]; omega
  go_enter Try.func76, Try.ntmps76
  go_wp2
  all_goals
    go_end0
    refine ⟨⟨_, rfl⟩, ?_⟩
    first
      | rw [show max peak n = n from by omega]
      | rw [show max peak n = peak from by omega]
theorem esized_int (w : World) (b : Nat) (ni : Int) (n size peak : Nat) (hni : ni = (n : Int)) (c3 : w.cell? ⟨b, 3, none⟩ = some (.int .i64 size)) (c4 : w.cell? ⟨b, 4, none⟩ = some (.bool false)) (c8 : w.cell? ⟨b, 8, none⟩ = some (.int .i64 peak)) (f3 : w.frozen? ⟨b, 3, none⟩ = false) (f8 : w.frozen? ⟨b, 8, none⟩ = false) (hn : n ≠ size) :
    Calls Try.prog 76 #[.pointer (some ⟨b, 0, none⟩), .int .i64 ni] w fun e w' => (∃ v, e = .returned v) ∧ w' = (w.setCell ⟨b, 3, none⟩ (.int .i64 n)).setCell ⟨b, 8, none⟩ (.int .i64 (max peak n : Nat)) := by
  subst hni; exact esized w b n size peak c3 c4 c8 f3 f8 hn
set_option maxRecDepth 100000 in
theorem eat (w : World) (b g : Nat) (Cs : List Ev) (f : Nat) (L : List Ev) (most : Nat) (i : Nat) (x : Ev) (h : ERing w b g Cs f L most) (hi : L[i]? = some x) : Calls Try.prog 60 #[.pointer (some ⟨b, 0, none⟩), .int .i64 i] w fun e w' => e = .returned (.tuple #[x.val, .bool true]) ∧ Fr [] w w' ∧ ERing w' b g Cs f L most := by
  have hil : i < L.length := (List.getElem?_eq_some_iff.1 hi).1
  have hle := h.ho.le
  have hN := h.le
  have hm := h.m64
  have hf := h.ho.lt
  obtain ⟨k, hk⟩ : ∃ k, (f + i) % Cs.length = k := ⟨_, rfl⟩
  have hkl : k < Cs.length := by rw [← hk]; exact Nat.mod_lt _ (by omega)
  have hck : Cs[k]? = some x := by
    have := h.ho.at_ i hil
    rw [hk, hi] at this
    exact this
  have H := Lib.hid h
  obtain ⟨p, r, c0, c1, c2, c3, c4, c8, c9, cf⟩ := h.cells
  have hb := Lib.hid (fun (o1 o2 : Obj) => H.out.fr (((Fr.refl [] w).alloc o1).alloc o2) (by simp) (by simp))
  have i1 : (i : Int) < (L.length : Int) := by omega
  have k1 : (0 : Int) ≤ (k : Int) := by omega
  have k2 : (k : Int) < (Cs.length : Int) := by omega
  obtain ⟨N, hNe⟩ : ∃ N, N = Cs.length := ⟨_, rfl⟩
  obtain ⟨n, hne⟩ : ∃ n, n = L.length := ⟨_, rfl⟩
  clear h c0 c1 c2 c3 c4 c8 c9 cf hi
  go_enter Try.func60, Try.ntmps60
  go_wp2_with fail
  (with_reducible refine (elen _ b g Cs f L most (hb.out _ _)).mono ?_)
  rintro e w1 ⟨rfl, rfl⟩
  go_wp2_with fail
  simp only [zero_cells]
  obtain ⟨z, hz⟩ : ∃ z, z = w.heap.size := ⟨_, rfl⟩
  have hR1 := hb.out (.cells Ev.zero.cells.toArray 56) (.cells Ev.zero.cells.toArray 56)
  have hZ1 := (Blk.new w Ev.zero.cells.toArray 56).alloc (.cells Ev.zero.cells.toArray 56)
  have f1 := ((Fr.refl [] w).alloc (.cells Ev.zero.cells.toArray 56)).alloc (.cells Ev.zero.cells.toArray 56)
  rw [← hz] at hZ1
  simp only [← hz]
  generalize ((w.alloc _).alloc _) = w1 at *
  obtain ⟨p1, r1, c0, c1, c2, c3, c4, c8, c9, cf⟩ := hR1.cells
  have hx := hR1.pl.evAt hck
  have z1 := hZ1.oneCan
  have hne2 : b ≠ z := by obtain ⟨p, r, hb⟩ := H.out.hd; have := hb.lt; omega
  have hne3 : g ≠ z := by have := H.out.pl.lt; omega
  have hp := Lib.hid (fun (W : World) (d0 : W.cell? ⟨b, 0, none⟩ = some (.slice (some ⟨g, 0, none⟩) Cs.length Cs.length)) (d2 : W.cell? ⟨b, 2, none⟩ = some (.int .i64 f)) => eplace W b g Cs.length f i d0 d2 (by omega) (by omega) hf (by omega))
  rw [hk] at hp
  have hfin : ∀ m, ev? (layEv (w1.drewN m) z 0 x) z 0 = some x.val := fun m => (hZ1.drewN m).setOne.one
  have hend : ∀ m, Fr [] w (layEv (w1.drewN m) z 0 x) ∧ ERing (layEv (w1.drewN m) z 0 x) b g Cs f L most := fun m => by
    have h1 : Fr [z] w1 (layEv (w1.drewN m) z 0 x) := ((Fr.refl [z] w1).drewN m).setEv 0 x (.inl (by simp))
    exact ⟨f1.trans h1 (by simp [hz]), hR1.fr h1 (by simpa using hne2) (by simpa using hne3)⟩
  have HK := Lib.hid (And.intro hk (And.intro hR1 (And.intro f1 (And.intro hNe (And.intro hne (And.intro hz (And.intro hck hend)))))))
  clear hk hR1 f1 hNe hne hz hck hb c1 c3 c4 c8 c9 cf hZ1 hend
  go_region_held3 (fun w' => w'.cell? ⟨b, 0, none⟩ = some (.slice (some ⟨g, 0, none⟩) Cs.length Cs.length) ∧ w'.cell? ⟨b, 2, none⟩ = some (.int .i64 f) ∧ ev? w' g (k * 8) = some x.val) ((try simp only [World.cell?_drew, World.cell?_drewN, ev_drew, ev_drewN, cell_layEv' _ _ _ _ _ _ hne2, ev_layEv _ _ _ _ _ _ hne3]; exact ⟨c0, c2, hx⟩))
    ((go_at_call 75; refine (hp.out _ (by exact c0) (by exact c2)).mono ?_; rintro e w4 ⟨rfl, mm, rfl⟩))
  simp only [Exit.then]
  go_wp2
  refine bodyPost_ret (v := .tuple #[x.val, .bool true]) (results_ct rfl _ _ z 0 _ _ rfl rfl (hfin _)) rfl ⟨rfl, (HK.out.2.2.2.2.2.2.2 _).1, (HK.out.2.2.2.2.2.2.2 _).2⟩

end Go.Proofs.Ytehdhdocalbfpaa
