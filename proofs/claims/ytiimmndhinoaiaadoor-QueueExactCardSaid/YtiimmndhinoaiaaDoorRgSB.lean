/-
  A ring: New and Push. Printed by genRg.py.
-/
import Derived.Test.YtiimmndhinoaiaaDoorRgSA
import Derived.LoopIn
namespace Go.Proofs.YtiimmndhinoaiaaDoor.RgS
open Go.RowKit ring
set_option linter.unusedVariables false
set_option linter.unusedSimpArgs false
attribute [local go_sem] Oper.semAt_some
attribute [local go_sem ↓] Go.wp_at_zero Go.wp_at_succ

theorem infoE : (Tryd.prog.info? 9).map (fun i => (i.zero, i.size, i.bytes)) = some (some (.string (⟨#[]⟩ : ByteArray)), 1, 16) := by kernel_rfl
def zeros (n : Nat) : Array Value := (strs (List.replicate n (⟨#[]⟩ : ByteArray))).toArray
theorem madeCells_zeros (n : Nat) : madeCells (Value.string (⟨#[]⟩ : ByteArray)).cells (n * 1) = zeros n := by
  apply Array.ext
  · simp [madeCells, zeros, strs]
  · intro i h1 h2
    simp [madeCells, zeros, strs, Value.cells, Nat.mod_one]
theorem make_els (n : Nat) (hn : n ≤ 1000000) (w : World) : (Instr.makeSlice 24 (.int .i64 (n : Int)) (.int .i64 (n : Int))).run Tryd.prog w =
    .ok (.slice (some ⟨w.heap.size, 0, none⟩) n n) (w.alloc (.cells (zeros n) 9)) := by
  obtain ⟨i, hi, hz, hs, hb⟩ := info_parts infoE
  have hr := run_make (P := Tryd.prog) w 24 9 i (.string (⟨#[]⟩ : ByteArray)) Tryd.underlying24 hi hz .i64 .i64 n n (by omega) (by omega) (by rw [hb]; omega) (by omega)
  rw [hs, Int.toNat_natCast, madeCells_zeros] at hr
  exact hr

theorem new_no (w : World) (most : Int) (h : most < 1 ∨ 65536 < most) : Calls Tryd.prog 18 #[.int .i64 most] w fun e w' => e = .returned (.tuple #[.pointer none, .int .i64 2]) ∧ w = w' := by
  rcases h with h | h
  · go_enter Tryd.func18, Tryd.ntmps18
    go_wp2
    go_ret2
    exact ⟨rfl, rfl⟩
  · have : ¬ most < 1 := by omega
    go_enter Tryd.func18, Tryd.ntmps18
    go_wp2
    go_ret2
    exact ⟨rfl, rfl⟩
def NewPost (w : World) (most : Nat) (e : Ending) (w' : World) : Prop :=
  ∃ b g Cs, e = .returned (.tuple #[.pointer (some ⟨b, 0, none⟩), .int .i64 0]) ∧ RingAt w' b g Cs 0 [] (RM.new most) ∧ w.heap.size ≤ b ∧ w.heap.size ≤ g ∧ Fr [] w w'
theorem new_ring (w : World) (most n : Nat) (h1 : 1 ≤ n) (h2 : n ≤ most) (h3 : most ≤ 65536) :
    NewPost w most (.returned (.tuple #[.pointer (some ⟨w.heap.size + 1, 0, none⟩), .int .i64 0])) ((w.alloc (.cells (zeros n) 9)).alloc (.cells #[.slice (some ⟨w.heap.size, 0, none⟩) n n, .int .i64 most, .int .i64 0, .int .i64 0, .bool false, .int .i64 0, .int .i64 0, .bool false, .int .i64 0, .int .i64 0] 100)) := by
  refine ⟨w.heap.size + 1, w.heap.size, List.replicate n (⟨#[]⟩ : ByteArray), rfl, ⟨by simpa [hdr, RM.new] using Blk.new_at (by simp) _ _, (Blk.new w (zeros n) 9).alloc _, Holds.empty _ (by simp; omega), by simpa [RM.new] using h2, h3⟩, by omega, Nat.le_refl _, ((Fr.refl _ _).alloc _).alloc _⟩
set_option maxRecDepth 100000 in
theorem new_ok (w : World) (most : Nat) (h1 : 1 ≤ most) (h2 : most ≤ 65536) : Calls Tryd.prog 18 #[.int .i64 most] w (NewPost w most) := by
  by_cases h : most ≤ 16
  · have hmk := make_els most (by omega)
    have HR := Lib.hid (new_ring w most most h1 (Nat.le_refl _) h2)
    go_enter Tryd.func18, Tryd.ntmps18
    go_wp2
    all_goals
      go_ret2
      exact HR.out
  · have hmk := make_els 16 (by omega)
    have hmk2 : ∀ w : World, (Instr.makeSlice 24 (.int .i64 16) (.int .i64 16)).run Tryd.prog w = .ok (.slice (some ⟨w.heap.size, 0, none⟩) 16 16) (w.alloc (.cells (zeros 16) 9)) := hmk
    clear hmk
    have HR := Lib.hid (new_ring w most 16 (by omega) (by omega) h2)
    go_enter Tryd.func18, Tryd.ntmps18
    go_wp2
    all_goals
      go_ret2
      exact HR.out
/-- What a change leaves. -/
def PPost (w : World) (b g : Nat) (L' : List ByteArray) (M' : RM) (v : Value) (e : Ending) (w' : World) : Prop :=
  e = .returned v ∧ ∃ g' Cs' f', RingAt w' b g' Cs' f' L' M' ∧ (g' = g ∨ w.heap.size ≤ g') ∧ Fr [b, g] w w'
theorem push_full (w : World) (b g : Nat) (Cs : List ByteArray) (f : Nat) (L : List ByteArray) (M : RM) (x : ByteArray) (h : RingAt w b g Cs f L M) (hl : L.length = M.most) (hr : 0 ≤ M.rf ∧ M.rf < 4611686018427387904) :
    Calls Tryd.prog 52 #[.pointer (some ⟨b, 0, none⟩), .string x] w (PPost w b g L M.ref (.int .i64 5)) := by
  obtain ⟨c0, c1, c2, c3, c4, c5, c6, c7, c8, c9, cf⟩ := hdr_cells h.hd
  have ht := Lib.hid (there_any w b M.most h.pos c1)
  have f9 := cf 9
  have hq : ((L.length : Int) == (M.most : Int)) = true := by simp [hl]
  have hend : ∀ m, PPost w b g L M.ref (.int .i64 5) (.returned (.int .i64 5)) ((w.drewN m).setCell ⟨b, 9, none⟩ (.int .i64 (M.rf + 1))) := by
    intro m
    exact ⟨rfl, g, Cs, f, ⟨(h.hd.drewN m).set 9 (.int .i64 (M.rf + 1)), (h.pl.drewN m).other _ _ (Ne.symm h.ne), h.ho, h.le, h.m64⟩, .inl rfl, ((Fr.refl _ w).drewN m).setCell _ _ (.inl (by simp))⟩
  have HE := Lib.hid hend
  obtain ⟨hr1, hr2⟩ := hr
  generalize M.rf = rf at *
  clear hend h hl cf c0 c2 c4 c5 c6 c7 c8
  go_enter Tryd.func52, Tryd.ntmps52
  go_wp2_with (go_at_call 47; refine ht.out.mono ?_; rintro e w1 ⟨rfl, rfl⟩)
  go_quiet (fail)
  go_wp2
  go_ret
  exact HE.out _
theorem getD_el {L : List ByteArray} {i : Nat} (h : i < L.length) : L[i]? = some (L.getD i (⟨#[]⟩ : ByteArray)) := by simp [List.getD_eq_getElem?_getD, h]

set_option maxRecDepth 100000 in
set_option maxHeartbeats 2000000 in
theorem push_room (w : World) (b g : Nat) (Cs : List ByteArray) (f : Nat) (L : List ByteArray) (M : RM) (x : ByteArray) (h : RingAt w b g Cs f L M) (hlen : L.length < Cs.length) :
    Calls Tryd.prog 52 #[.pointer (some ⟨b, 0, none⟩), .string x] w (PPost w b g (L ++ [x]) (M.sized (L.length + 1)) (.int .i64 0)) := by
  have hne : ((L.length : Int) == (M.most : Int)) = false := by have := h.le; rw [beq_eq_false_iff_ne]; omega
  have hnn : ((L.length : Int) == (Cs.length : Int)) = false := by rw [beq_eq_false_iff_ne]; omega
  obtain ⟨c0, c1, c2, c3, c4, c5, c6, c7, c8, c9, cf⟩ := hdr_cells h.hd
  have ht := Lib.hid (there_any w b M.most h.pos c1)
  have H := Lib.hid h
  clear h c2 c4 c5 c6 c7 c8 c9 cf
  go_enter Tryd.func52, Tryd.ntmps52
  go_wp2_with (go_at_call 47; refine ht.out.mono ?_; rintro e w1 ⟨rfl, rfl⟩)
  go_quiet (fail)
  go_wp2_with fail
  go_quiet (fail)
  go_wp2_with fail
  generalize hwa : World.drewN w _ = wa
  have hR : RingAt wa b g Cs f L M := by rw [← hwa]; exact H.out.drewN _
  have fr0 : Fr [b, g] w wa := by rw [← hwa]; exact (Fr.refl _ w).drewN _
  clear hwa c0 c1 c3
  obtain ⟨c0, c1, c2, c3, c4, c5, c6, c7, c8, c9, cf⟩ := hdr_cells hR.hd
  obtain ⟨k, hk⟩ : ∃ k, (f + L.length) % Cs.length = k := ⟨_, rfl⟩
  have hm := hR.m64
  have hN := hR.le
  have hf := hR.ho.lt
  have hkl : k < Cs.length := by rw [← hk]; exact Nat.mod_lt _ (by omega)
  obtain ⟨y, hy⟩ := els_some hR.pl hkl
  have fy := hR.pl.free k
  have hbg := hR.ne
  have hgb : g ≠ b := Ne.symm hbg
  have hp := Lib.hid (fun (W : World) (d0 : W.cell? ⟨b, 0, none⟩ = some (.slice (some ⟨g, 0, none⟩) Cs.length Cs.length)) (d2 : W.cell? ⟨b, 2, none⟩ = some (.int .i64 f)) => place_any W b g Cs.length f L.length d0 d2 (by omega) (by omega) hf (by omega))
  rw [hk] at hp
  have k1 : (0 : Int) ≤ (k : Int) := by omega
  have k2 : (k : Int) < (Cs.length : Int) := by omega
  have HK := Lib.hid (And.intro hk hR)
  clear hk c1 c4 c5 c6 c7 c8 c9 cf
  go_region_held3 (fun w' => w'.cell? ⟨b, 0, none⟩ = some (.slice (some ⟨g, 0, none⟩) Cs.length Cs.length) ∧ w'.cell? ⟨b, 2, none⟩ = some (.int .i64 f) ∧ w'.cell? ⟨b, 3, none⟩ = some (.int .i64 L.length)) (first | exact ⟨c0, c2, c3⟩ | go_keep)
    ((go_at_call 92; refine (hp.out _ (by exact c0) (by exact c2)).mono ?_; rintro e w4 ⟨rfl, mm, rfl⟩))
  simp only [Exit.then]
  generalize hwb : World.setCell _ ⟨g, k, none⟩ (.string x) = wb
  obtain ⟨hk, hRR⟩ := HK.out
  have hbB : Blk wb b (hdr g Cs.length f L.length M) 100 := by rw [← hwb]; exact Blk.other (w := _) hRR.hd ⟨g, k, none⟩ _ hbg
  have hgB : Blk wb g (strs (Cs.set k x)).toArray 9 := by rw [← hwb]; exact Blk.els_put (W := _) hRR.pl x
  have frB : Fr [g] wa wb := by rw [← hwb]; exact ((Fr.refl [g] wa).drewN _).setCell ⟨g, k, none⟩ _ (.inl (by simp))
  have d3 := hbB.at 3 (v := .int .i64 L.length) rfl
  have hse := Lib.hid (sized_any wb b g Cs.length f L.length M ((L.length : Int) + 1) (L.length + 1) (by omega) hbB (by omega))
  have hfin : ∀ w', Blk w' b (hdr g Cs.length f (L.length + 1) (M.sized (L.length + 1))) 100 → Fr [b] wb w' → PPost w b g (L ++ [x]) (M.sized (L.length + 1)) (.int .i64 0) (.returned (.int .i64 0)) w' := by
    intro w' hb' f'
    have hpu := hRR.ho.push hlen x
    rw [hk] at hpu
    refine ⟨rfl, g, Cs.set k x, f, ⟨?_, f'.blk hgB (by simpa using hgb), hpu, by rw [List.length_set]; exact hN, hm⟩, .inl rfl, (fr0.trans (frB.mono (T := [b, g]) (by simp)) (by simp)).trans f' (by simp)⟩
    rw [List.length_set, List.length_append]; exact hb'
  have HF := Lib.hid hfin
  clear hwb hk hRR hbB hgB frB hfin c0 c2 c3 hy fy hbg hgb k1 k2 hp
  go_wp2_with fail
  (with_reducible refine hse.out.mono ?_)
  rintro e w5 ⟨⟨v, rfl⟩, hb5, f5⟩
  have HF5 := Lib.hid (HF.out _ hb5 f5)
  clear hb5 f5
  go_wp2
  go_ret
  exact HF5.out

end Go.Proofs.YtiimmndhinoaiaaDoor.RgS
