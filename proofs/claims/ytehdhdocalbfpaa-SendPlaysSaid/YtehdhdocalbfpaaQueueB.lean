/-
  New and Push of a ring of numbers.
-/
import Derived.Test.YtehdhdocalbfpaaQueueA
namespace Go.Proofs.Ytehdhdocalbfpaa
open Go.RowKit ring
set_option linter.unusedVariables false
attribute [local go_sem ↓] Go.wp_at_zero Go.wp_at_succ

theorem info3 : (Try.prog.info? 3).map (fun i => (i.zero, i.size, i.bytes)) = some (some (.int .i64 0), 1, 8) := by kernel_rfl
/-- Noughts. -/
def zeros (n : Nat) : Array Value := (ints (List.replicate n 0)).toArray
theorem madeCells_zeros (n : Nat) : madeCells (Value.int .i64 0).cells (n * 1) = zeros n := by
  apply Array.ext
  · simp [madeCells, zeros, ints]
  · intro i h1 h2
    simp [madeCells, zeros, ints, Value.cells, Nat.mod_one]
theorem make_ints (n : Nat) (hn : n ≤ 1000000) (w : World) : (Instr.makeSlice 85 (.int .i64 (n : Int)) (.int .i64 (n : Int))).run Try.prog w =
    .ok (.slice (some ⟨w.heap.size, 0, none⟩) n n) (w.alloc (.cells (zeros n) 3)) := by
  obtain ⟨i, hi, hz, hs, hb⟩ := info_parts info3
  have hr := run_make (P := Try.prog) w 85 3 i (.int .i64 0) Try.underlying85 hi hz .i64 .i64 n n (by omega) (by omega) (by rw [hb]; omega) (by omega)
  rw [hs, Int.toNat_natCast, madeCells_zeros] at hr
  exact hr

theorem new_no (w : World) (most : Int) (h : most < 1 ∨ 65536 < most) : Calls Try.prog 9 #[.int .i64 most] w fun e w' => e = .returned (.tuple #[.pointer none, .int .i64 2]) ∧ w = w' := by
  rcases h with h | h
  · go_enter Try.func9, Try.ntmps9
    go_wp2
    go_ret2
    exact ⟨rfl, rfl⟩
  · have : ¬ most < 1 := by omega
    go_enter Try.func9, Try.ntmps9
    go_wp2
    go_ret2
    exact ⟨rfl, rfl⟩
def NewPost (w : World) (most : Nat) (e : Ending) (w' : World) : Prop :=
  ∃ b g Cs, e = .returned (.tuple #[.pointer (some ⟨b, 0, none⟩), .int .i64 0]) ∧ RingAt w' b g Cs 0 [] most 0 ∧ w.heap.size ≤ b ∧ w.heap.size ≤ g ∧ Fr [] w w'
theorem new_ring (w : World) (most n : Nat) (h1 : 1 ≤ n) (h2 : n ≤ most) (h3 : most ≤ 65536) :
    NewPost w most (.returned (.tuple #[.pointer (some ⟨w.heap.size + 1, 0, none⟩), .int .i64 0])) ((w.alloc (.cells (zeros n) 3)).alloc (.cells #[.slice (some ⟨w.heap.size, 0, none⟩) n n, .int .i64 most, .int .i64 0, .int .i64 0, .bool false, .int .i64 0, .int .i64 0, .bool false, .int .i64 0, .int .i64 0] 87)) := by
  refine ⟨w.heap.size + 1, w.heap.size, List.replicate n 0, rfl, ⟨⟨0, by simpa using Blk.new_at (by simp) _ _⟩, (Blk.new w (zeros n) 3).alloc _, Holds.empty _ (by simp; omega), by simpa using h2, h3, by simp, by omega⟩, by omega, Nat.le_refl _, ((Fr.refl _ _).alloc _).alloc _⟩
set_option maxRecDepth 100000 in
theorem new_ok (w : World) (most : Nat) (h1 : 1 ≤ most) (h2 : most ≤ 65536) : Calls Try.prog 9 #[.int .i64 most] w (NewPost w most) := by
  by_cases h : most ≤ 16
  · have hmk := make_ints most (by omega)
    have HR := Lib.hid (new_ring w most most h1 (Nat.le_refl _) h2)
    go_enter Try.func9, Try.ntmps9
    go_wp2
    all_goals
      go_ret2
      exact HR.out
  · have hmk := make_ints 16 (by omega)
    have hmk2 : ∀ w : World, (Instr.makeSlice 85 (.int .i64 16) (.int .i64 16)).run Try.prog w = .ok (.slice (some ⟨w.heap.size, 0, none⟩) 16 16) (w.alloc (.cells (zeros 16) 3)) := hmk
    clear hmk
    have HR := Lib.hid (new_ring w most 16 (by omega) (by omega) h2)
    go_enter Try.func9, Try.ntmps9
    go_wp2
    all_goals
      go_ret2
      exact HR.out

/-- What Push leaves. -/
def PushPost (w : World) (b g : Nat) (L : List Int) (most peak : Nat) (x : Int) (e : Ending) (w' : World) : Prop :=
  e = .returned (.int .i64 0) ∧ ∃ g' Cs' f', RingAt w' b g' Cs' f' (L ++ [x]) most (max peak (L.length + 1)) ∧ (g' = g ∨ w.heap.size ≤ g') ∧ Fr [b, g] w w'
def FullPost (w : World) (b g : Nat) (Cs : List Int) (f : Nat) (L : List Int) (most peak : Nat) (e : Ending) (w' : World) : Prop :=
  e = .returned (.int .i64 5) ∧ RingAt w' b g Cs f L most peak ∧ Fr [b, g] w w'
theorem sized_int (w : World) (b : Nat) (ni : Int) (n size peak : Nat) (hni : ni = (n : Int)) (c3 : w.cell? ⟨b, 3, none⟩ = some (.int .i64 size)) (c4 : w.cell? ⟨b, 4, none⟩ = some (.bool false)) (c8 : w.cell? ⟨b, 8, none⟩ = some (.int .i64 peak)) (f3 : w.frozen? ⟨b, 3, none⟩ = false) (f8 : w.frozen? ⟨b, 8, none⟩ = false) (hn : n ≠ size) :
    Calls Try.prog 37 #[.pointer (some ⟨b, 0, none⟩), .int .i64 ni] w fun e w' => (∃ v, e = .returned v) ∧ w' = (w.setCell ⟨b, 3, none⟩ (.int .i64 n)).setCell ⟨b, 8, none⟩ (.int .i64 (max peak n : Nat)) := by
  subst hni; exact sized_any w b n size peak c3 c4 c8 f3 f8 hn

theorem push_full (w : World) (b g : Nat) (Cs : List Int) (f : Nat) (L : List Int) (most peak : Nat) (x : Int) (h : RingAt w b g Cs f L most peak) (hl : L.length = most) :
    Calls Try.prog 11 #[.pointer (some ⟨b, 0, none⟩), .int .i64 x] w (FullPost w b g Cs f L most peak) := by
  obtain ⟨r, c0, c1, c2, c3, c4, c8, c9, cf⟩ := h.cells
  have ht := Lib.hid (there_any w b most (by have := h.le; have := h.ho.lt; omega) c1)
  have f9 := cf 9
  have hq : ((L.length : Int) == (most : Int)) = true := by simp [hl]
  have hend : ∀ m y, FullPost w b g Cs f L most peak (.returned (.int .i64 5)) ((w.drewN m).setCell ⟨b, 9, none⟩ (.int .i64 y)) := by
    intro m y
    obtain ⟨r, hb⟩ := h.hd
    exact ⟨rfl, ⟨⟨y, (hb.drewN m).set 9 (.int .i64 y)⟩, (h.pl.drewN m).other _ _ (Ne.symm h.ne), h.ho, h.le, h.m64, h.pk⟩, ((Fr.refl _ w).drewN m).setCell _ _ (.inl (by simp))⟩
  have HE := Lib.hid hend
  clear hend h hl cf c0 c2 c4 c8
  go_enter Try.func11, Try.ntmps11
  go_wp2_with (go_at_call 35; refine ht.out.mono ?_; rintro e w1 ⟨rfl, rfl⟩)
  go_quiet (fail)
  go_wp2
  go_ret
  exact HE.out _ _

theorem getD_int {L : List Int} {i : Nat} (h : i < L.length) : L[i]? = some (L.getD i 0) := by simp [List.getD_eq_getElem?_getD, h]

set_option maxRecDepth 100000 in
set_option maxHeartbeats 2000000 in
theorem push_room (w : World) (b g : Nat) (Cs : List Int) (f : Nat) (L : List Int) (most peak : Nat) (x : Int) (h : RingAt w b g Cs f L most peak) (hlen : L.length < Cs.length) :
    Calls Try.prog 11 #[.pointer (some ⟨b, 0, none⟩), .int .i64 x] w (PushPost w b g L most peak x) := by
  have hne : ((L.length : Int) == (most : Int)) = false := by have := h.le; rw [beq_eq_false_iff_ne]; omega
  have hnn : ((L.length : Int) == (Cs.length : Int)) = false := by rw [beq_eq_false_iff_ne]; omega
  obtain ⟨r0, c0, c1, c2, c3, c4, c8, c9, cf⟩ := h.cells
  have ht := Lib.hid (there_any w b most (by have := h.le; have := h.ho.lt; omega) c1)
  have H := Lib.hid h
  clear h c2 c4 c8 c9 cf
  go_enter Try.func11, Try.ntmps11
  go_wp2_with (go_at_call 35; refine ht.out.mono ?_; rintro e w1 ⟨rfl, rfl⟩)
  go_quiet (fail)
  go_wp2_with fail
  go_quiet (fail)
  go_wp2_with fail
  generalize hwa : World.drewN w _ = wa
  have hR : RingAt wa b g Cs f L most peak := by rw [← hwa]; exact H.out.fr ((Fr.refl [] w).drewN _) (by simp) (by simp)
  have fr0 : Fr [b, g] w wa := by rw [← hwa]; exact (Fr.refl _ w).drewN _
  clear hwa c0 c1 c3
  obtain ⟨r, c0, c1, c2, c3, c4, c8, c9, cf⟩ := hR.cells
  obtain ⟨k, hk⟩ : ∃ k, (f + L.length) % Cs.length = k := ⟨_, rfl⟩
  have hm := hR.m64
  have hN := hR.le
  have hf := hR.ho.lt
  have hkl : k < Cs.length := by rw [← hk]; exact Nat.mod_lt _ (by omega)
  obtain ⟨y, hy⟩ : ∃ y, wa.cell? ⟨g, k, none⟩ = some (.int .i64 y) := ⟨_, hR.pl.int hkl⟩
  have fy := hR.pl.free k
  have hbg := hR.ne
  have hgb : g ≠ b := Ne.symm hbg
  have hp := Lib.hid (fun (W : World) (d0 : W.cell? ⟨b, 0, none⟩ = some (.slice (some ⟨g, 0, none⟩) Cs.length Cs.length)) (d2 : W.cell? ⟨b, 2, none⟩ = some (.int .i64 f)) => place_any W b g Cs.length f L.length d0 d2 (by omega) (by omega) hf (by omega))
  rw [hk] at hp
  have k1 : (0 : Int) ≤ (k : Int) := by omega
  have k2 : (k : Int) < (Cs.length : Int) := by omega
  have HK := Lib.hid (And.intro hk hR)
  clear hk c1 c4 c8 c9 cf
  go_region_held3 (fun w' => w'.cell? ⟨b, 0, none⟩ = some (.slice (some ⟨g, 0, none⟩) Cs.length Cs.length) ∧ w'.cell? ⟨b, 2, none⟩ = some (.int .i64 f) ∧ w'.cell? ⟨b, 3, none⟩ = some (.int .i64 L.length)) (first | exact ⟨c0, c2, c3⟩ | go_keep)
    ((go_at_call 36; refine (hp.out _ (by exact c0) (by exact c2)).mono ?_; rintro e w4 ⟨rfl, mm, rfl⟩))
  simp only [Exit.then]
  generalize hwb : World.setCell _ ⟨g, k, none⟩ (.int .i64 x) = wb
  obtain ⟨hk, hRR⟩ := HK.out
  obtain ⟨r2, hb0⟩ := hRR.hd
  have hbB : Blk wb b #[.slice (some ⟨g, 0, none⟩) Cs.length Cs.length, .int .i64 most, .int .i64 f, .int .i64 L.length, .bool false, .int .i64 0, .int .i64 0, .bool false, .int .i64 peak, .int .i64 r2] 87 := by rw [← hwb]; exact Blk.other (w := _) hb0 ⟨g, k, none⟩ _ hbg
  have hgB : Blk wb g (ints (Cs.set k x)).toArray 3 := by rw [← hwb, ← ints_set]; exact Blk.set (w := _) hRR.pl k _
  have frB : Fr [g] wa wb := by rw [← hwb]; exact ((Fr.refl [g] wa).drewN _).setCell ⟨g, k, none⟩ _ (.inl (by simp))
  have d3 := hbB.at 3 (v := .int .i64 L.length) rfl
  have d4 := hbB.at 4 (v := .bool false) rfl
  have d8 := hbB.at 8 (v := .int .i64 peak) rfl
  have e3 := hbB.free 3
  have e8 := hbB.free 8
  have hse := Lib.hid (sized_int wb b ((L.length : Int) + 1) (L.length + 1) L.length peak (by omega) d3 d4 d8 e3 e8 (by omega))
  have hbC := (hbB.set 3 (.int .i64 (L.length + 1 : Nat))).set 8 (.int .i64 (max peak (L.length + 1) : Nat))
  have hfin : PushPost w b g L most peak x (.returned (.int .i64 0)) ((wb.setCell ⟨b, 3, none⟩ (.int .i64 (L.length + 1 : Nat))).setCell ⟨b, 8, none⟩ (.int .i64 (max peak (L.length + 1) : Nat))) := by
    have hpu := hRR.ho.push hlen x
    rw [hk] at hpu
    have hlk := hRR.ho.le
    have hpk := hRR.pk
    refine ⟨rfl, g, Cs.set k x, f, ⟨⟨r2, ?_⟩, (hgB.other _ _ hgb).other _ _ hgb, hpu, by rw [List.length_set]; exact hN, hm, by rw [List.length_append]; simp; omega⟩, .inl rfl, ?_⟩
    · rw [List.length_set, List.length_append]; exact hbC
    · exact ((fr0.trans (frB.mono (T := [b, g]) (by simp)) (by simp)).setCell _ _ (.inl (by simp))).setCell _ _ (.inl (by simp))
  have HF := Lib.hid hfin
  clear hwb hk hRR hb0 hbB hgB frB d4 d8 e3 e8 hbC hfin c0 c2 c3 hy fy hbg hgb k1 k2 hp
  go_wp2_with fail
  (with_reducible refine hse.out.mono ?_)
  rintro e w5 ⟨⟨v, rfl⟩, rfl⟩
  go_wp2
  go_ret
  exact HF.out

end Go.Proofs.Ytehdhdocalbfpaa
