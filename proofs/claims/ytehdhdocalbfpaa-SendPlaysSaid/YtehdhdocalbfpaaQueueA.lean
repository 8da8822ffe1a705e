/-
  A ring of numbers: what it holds; New, place, Len, Peak, sized, At, by contracts.
-/
import Derived.Test.YtehdhdocalbfpaaRange
import Derived.Test.YtehdhdocalbfpaaRows
import Derived.Test.YtehdhdocalbfpaaRingP
import Derived.StillTailTactics
import Derived.Deep.RegionHeld3
import Derived.Deep.QuietTactic
import Derived.Deep.DrawnRows
import Derived.BigQuiet
namespace Go.Proofs.Ytehdhdocalbfpaa
open Go.RowKit ring
set_option linter.unusedVariables false

/-- The ring at b: the places Cs in block g; room for most; never marked. -/
structure RingAt (W : World) (b g : Nat) (Cs : List Int) (f : Nat) (L : List Int) (most peak : Nat) : Prop where
  hd : ∃ r : Int, Blk W b #[.slice (some ⟨g, 0, none⟩) Cs.length Cs.length, .int .i64 most, .int .i64 f, .int .i64 L.length, .bool false, .int .i64 0, .int .i64 0, .bool false, .int .i64 peak, .int .i64 r] 87
  pl : Blk W g (ints Cs).toArray 3
  ho : Holds Cs f L
  le : Cs.length ≤ most
  m64 : most ≤ 65536
  pk : L.length ≤ peak ∧ peak ≤ most
theorem RingAt.ne {W : World} {b g : Nat} {Cs : List Int} {f : Nat} {L : List Int} {most peak : Nat} (h : RingAt W b g Cs f L most peak) : b ≠ g := by
  obtain ⟨r, hb⟩ := h.hd
  exact hb.ne h.pl (by decide)
theorem RingAt.fr {S : List Nat} {W W' : World} {b g : Nat} {Cs : List Int} {f : Nat} {L : List Int} {most peak : Nat} (h : RingAt W b g Cs f L most peak) (fr : Fr S W W') (hb : b ∉ S) (hg : g ∉ S) : RingAt W' b g Cs f L most peak := by
  obtain ⟨r, h1⟩ := h.hd
  exact ⟨⟨r, fr.blk h1 hb⟩, fr.blk h.pl hg, h.ho, h.le, h.m64, h.pk⟩
theorem RingAt.cells {W : World} {b g : Nat} {Cs : List Int} {f : Nat} {L : List Int} {most peak : Nat} (h : RingAt W b g Cs f L most peak) :
    ∃ r : Int, W.cell? ⟨b, 0, none⟩ = some (.slice (some ⟨g, 0, none⟩) Cs.length Cs.length) ∧ W.cell? ⟨b, 1, none⟩ = some (.int .i64 most) ∧ W.cell? ⟨b, 2, none⟩ = some (.int .i64 f) ∧ W.cell? ⟨b, 3, none⟩ = some (.int .i64 L.length) ∧ W.cell? ⟨b, 4, none⟩ = some (.bool false) ∧
      W.cell? ⟨b, 8, none⟩ = some (.int .i64 peak) ∧ W.cell? ⟨b, 9, none⟩ = some (.int .i64 r) ∧ ∀ i, W.frozen? ⟨b, i, none⟩ = false := by
  obtain ⟨r, h1⟩ := h.hd
  exact ⟨r, h1.at 0 rfl, h1.at 1 rfl, h1.at 2 rfl, h1.at 3 rfl, h1.at 4 rfl, h1.at 8 rfl, h1.at 9 rfl, fun i => h1.free i⟩

theorem there_any (w : World) (b : Nat) (most : Nat) (hm : 1 ≤ most) (c1 : w.cell? ⟨b, 1, none⟩ = some (.int .i64 most)) : Calls Try.prog 35 #[.pointer (some ⟨b, 0, none⟩)] w fun e w' => e = .returned (.bool true) ∧ w = w' := by
  have : 0 < most := by omega
  go_enter Try.func35, Try.ntmps35
  go_wp2
  go_ret
  exact ⟨rfl, rfl⟩
theorem place_any (w : World) (b g N f : Nat) (i : Nat) (c0 : w.cell? ⟨b, 0, none⟩ = some (.slice (some ⟨g, 0, none⟩) N N)) (c2 : w.cell? ⟨b, 2, none⟩ = some (.int .i64 f)) (h1 : 1 ≤ N) (h2 : N ≤ 65536) (hf : f < N) (hi : i ≤ N) :
    Calls Try.prog 36 #[.pointer (some ⟨b, 0, none⟩), .int .i64 i] w fun e w' => e = .returned (.int .i64 ((f + i) % N : Nat)) ∧ ∃ m, w' = w.drewN m := by
  have k1 : (N : Int) ≤ 65536 := by omega
  have k2 : (f : Int) ≤ 65536 := by omega
  have k3 : (i : Int) ≤ 65536 := by omega
  have k4 : ((N : Int) == 0) = false := by rw [beq_eq_false_iff_ne]; omega
  have k5 : IntKind.i64.wrap ((f : Int) + (i : Int)) = (f : Int) + (i : Int) := by rw [IntKind.wrap_i64]; omega
  go_enter Try.func36, Try.ntmps36
  go_wp2
  go_quiet (fail)
  go_wp2
  go_ret
  exact ⟨ret_int (by simp), _, rfl⟩

theorem len_any (w : World) (b g : Nat) (Cs : List Int) (f : Nat) (L : List Int) (most peak : Nat) (h : RingAt w b g Cs f L most peak) : Calls Try.prog 13 #[.pointer (some ⟨b, 0, none⟩)] w fun e w' => e = .returned (.int .i64 L.length) ∧ w = w' := by
  obtain ⟨r, c0, c1, c2, c3, c4, c8, c9, cf⟩ := h.cells
  have ht := Lib.hid (there_any w b most (by have := h.le; have := h.ho.lt; omega) c1)
  clear h c0 c1 c2 c4 c8 c9 cf
  go_enter Try.func13, Try.ntmps13
  go_wp2_with (go_at_call 35; refine ht.out.mono ?_; rintro e w1 ⟨rfl, rfl⟩)
  go_ret
  exact ⟨rfl, rfl⟩
theorem peak_any (w : World) (b g : Nat) (Cs : List Int) (f : Nat) (L : List Int) (most peak : Nat) (h : RingAt w b g Cs f L most peak) : Calls Try.prog 14 #[.pointer (some ⟨b, 0, none⟩)] w fun e w' => e = .returned (.int .i64 peak) ∧ w = w' := by
  obtain ⟨r, c0, c1, c2, c3, c4, c8, c9, cf⟩ := h.cells
  have ht := Lib.hid (there_any w b most (by have := h.le; have := h.ho.lt; omega) c1)
  clear h c0 c1 c2 c3 c4 c9 cf
  go_enter Try.func14, Try.ntmps14
  go_wp2_with (go_at_call 35; refine ht.out.mono ?_; rintro e w1 ⟨rfl, rfl⟩)
  go_ret
  exact ⟨rfl, rfl⟩
theorem sized_any (w : World) (b n size peak : Nat) (c3 : w.cell? ⟨b, 3, none⟩ = some (.int .i64 size)) (c4 : w.cell? ⟨b, 4, none⟩ = some (.bool false)) (c8 : w.cell? ⟨b, 8, none⟩ = some (.int .i64 peak)) (f3 : w.frozen? ⟨b, 3, none⟩ = false) (f8 : w.frozen? ⟨b, 8, none⟩ = false) (hn : n ≠ size) :
    Calls Try.prog 37 #[.pointer (some ⟨b, 0, none⟩), .int .i64 n] w fun e w' => (∃ v, e = .returned v) ∧ w' = (w.setCell ⟨b, 3, none⟩ (.int .i64 n)).setCell ⟨b, 8, none⟩ (.int .i64 (max peak n : Nat)) := by
  have hq : ((n : Int) == (size : Int)) = false := by rw [beq_eq_false_iff_ne]; omega
  go_enter Try.func37, Try.ntmps37
  go_wp2
  all_goals
    go_end0
    refine ⟨⟨_, rfl⟩, ?_⟩
    first
      | rw [show max peak n = n from by omega]
      | rw [show max peak n = peak from by omega]
theorem at_ok (w : World) (b g : Nat) (Cs : List Int) (f : Nat) (L : List Int) (most peak : Nat) (i : Nat) (h : RingAt w b g Cs f L most peak) (hi : i < L.length) : Calls Try.prog 38 #[.pointer (some ⟨b, 0, none⟩), .int .i64 i] w fun e w' => e = .returned (.tuple #[.int .i64 (L.getD i 0), .bool true]) ∧ Fr [] w w' ∧ RingAt w' b g Cs f L most peak := by
  obtain ⟨r, c0, c1, c2, c3, c4, c8, c9, cf⟩ := h.cells
  have hl := Lib.hid (len_any w b g Cs f L most peak h)
  have hle := h.ho.le
  have hN := h.le
  have hm := h.m64
  have hf := h.ho.lt
  obtain ⟨k, hk⟩ : ∃ k, (f + i) % Cs.length = k := ⟨_, rfl⟩
  have hkl : k < Cs.length := by rw [← hk]; exact Nat.mod_lt _ (by omega)
  obtain ⟨x, hx⟩ : ∃ x, L.getD i 0 = x := ⟨_, rfl⟩
  have hck : Cs[k]? = some x := by
    have := h.ho.at_ i hi
    rw [hk, List.getElem?_eq_getElem hi] at this
    rw [this, ← hx]
    simp [List.getD_eq_getElem?_getD, hi]
  have cx : w.cell? ⟨g, k, none⟩ = some (.int .i64 x) := h.pl.at k (by simp [ints, hck])
  have hp := Lib.hid (fun m => place_any (w.drewN m) b g Cs.length f i c0 c2 (by omega) (by omega) hf (by omega))
  rw [hk] at hp
  have H := Lib.hid h
  have i1 : (i : Int) < (L.length : Int) := by omega
  have k1 : (0 : Int) ≤ (k : Int) := by omega
  have k2 : (k : Int) < (Cs.length : Int) := by omega
  rw [hx]
  clear h c1 c2 c3 c4 c8 c9 cf hk hx hck
  go_enter Try.func38, Try.ntmps38
  go_wp2_with (go_at_call 13; refine hl.out.mono ?_; rintro e w1 ⟨rfl, rfl⟩)
  go_quiet ((go_at_call 36; exact Calls.quiet_of (hp.out _)))
  go_wp2
  go_ret2
  exact ⟨rfl, (Fr.refl _ _).drewN _, H.out.fr ((Fr.refl [] _).drewN _) (by simp) (by simp)⟩
theorem at_no (w : World) (b g : Nat) (Cs : List Int) (f : Nat) (most peak : Nat) (h : RingAt w b g Cs f [] most peak) : Calls Try.prog 38 #[.pointer (some ⟨b, 0, none⟩), .int .i64 0] w fun e w' => e = .returned (.tuple #[.int .i64 0, .bool false]) ∧ w = w' := by
  have hl : Calls Try.prog 13 #[.pointer (some ⟨b, 0, none⟩)] w fun e w' => e = .returned (.int .i64 0) ∧ w = w' := len_any w b g Cs f [] most peak h
  have HL := Lib.hid hl
  clear h hl
  go_enter Try.func38, Try.ntmps38
  go_wp2_with (go_at_call 13; refine HL.out.mono ?_; rintro e w1 ⟨rfl, rfl⟩)
  go_ret2
  exact ⟨rfl, rfl⟩

end Go.Proofs.Ytehdhdocalbfpaa
