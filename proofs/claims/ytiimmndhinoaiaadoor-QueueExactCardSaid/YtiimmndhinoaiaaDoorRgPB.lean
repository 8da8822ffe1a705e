/-
  A ring of pairs: New and Push. Printed by genRp.py.
-/
import Derived.Test.YtiimmndhinoaiaaDoorRgPA
import Derived.LoopIn
namespace Go.Proofs.YtiimmndhinoaiaaDoor.RgP
open Go.RowKit ring
set_option linter.unusedVariables false
set_option linter.unusedSimpArgs false
attribute [local go_sem] Oper.semAt_some
attribute [local go_sem ↓] Go.wp_at_zero Go.wp_at_succ

theorem info65b : (Tryd.prog.info? 65).map (fun i => (i.zero, i.size, i.bytes)) = some (some (pval 0), 2, 16) := by kernel_rfl
def zeros (n : Nat) : Array Value := (pls (List.replicate n 0)).toArray
theorem madeCells_zeros (n : Nat) : madeCells (pval 0).cells (n * 2) = zeros n := by
  apply Array.ext
  · simp [madeCells, zeros, pls_len]
  · intro i h1 h2
    have hi : i < n * 2 := by simpa [madeCells] using h1
    have h3 := pls_get (List.replicate n 0) (i / 2) (i % 2) 0 (by rw [List.getElem?_replicate]; simp; omega) (by omega)
    rw [show i / 2 * 2 + i % 2 = i by omega] at h3
    have h4 : (zeros n)[i]? = (pcells 0)[i % 2]? := by simpa [zeros] using h3
    have h5 : i % 2 < (pcells 0).length := by simp [pcells]; omega
    rw [Array.getElem?_eq_getElem h2, List.getElem?_eq_getElem h5] at h4
    have h6 := Option.some.inj h4
    rw [h6]
    have h7 : i % (pcells 0).length = i % 2 := rfl
    simp [madeCells, pval_cells, h7, h5]
theorem make_els (n : Nat) (hn : n ≤ 1000000) (w : World) : (Instr.makeSlice 101 (.int .i64 (n : Int)) (.int .i64 (n : Int))).run Tryd.prog w =
    .ok (.slice (some ⟨w.heap.size, 0, none⟩) n n) (w.alloc (.cells (zeros n) 65)) := by
  obtain ⟨i, hi, hz, hs, hb⟩ := info_parts info65b
  have hr := run_make (P := Tryd.prog) w 101 65 i (pval 0) Tryd.underlying101 hi hz .i64 .i64 n n (by omega) (by omega) (by rw [hb]; omega) (by omega)
  rw [hs, Int.toNat_natCast, madeCells_zeros] at hr
  exact hr
theorem new_no (w : World) (most : Int) (h : most < 1 ∨ 65536 < most) : Calls Tryd.prog 19 #[.int .i64 most] w fun e w' => e = .returned (.tuple #[.pointer none, .int .i64 2]) ∧ w = w' := by
  rcases h with h | h
  · go_enter Tryd.func19, Tryd.ntmps19
    go_wp2
    go_ret2
    exact ⟨rfl, rfl⟩
  · have : ¬ most < 1 := by omega
    go_enter Tryd.func19, Tryd.ntmps19
    go_wp2
    go_ret2
    exact ⟨rfl, rfl⟩
def NewPost (w : World) (most : Nat) (e : Ending) (w' : World) : Prop :=
  ∃ b g Cs, e = .returned (.tuple #[.pointer (some ⟨b, 0, none⟩), .int .i64 0]) ∧ RingAt w' b g Cs 0 [] (RM.new most) ∧ w.heap.size ≤ b ∧ w.heap.size ≤ g ∧ Fr [] w w'
theorem new_ring (w : World) (most n : Nat) (h1 : 1 ≤ n) (h2 : n ≤ most) (h3 : most ≤ 65536) :
    NewPost w most (.returned (.tuple #[.pointer (some ⟨w.heap.size + 1, 0, none⟩), .int .i64 0])) ((w.alloc (.cells (zeros n) 65)).alloc (.cells #[.slice (some ⟨w.heap.size, 0, none⟩) n n, .int .i64 most, .int .i64 0, .int .i64 0, .bool false, .int .i64 0, .int .i64 0, .bool false, .int .i64 0, .int .i64 0] 103)) := by
  refine ⟨w.heap.size + 1, w.heap.size, List.replicate n 0, rfl, ⟨by simpa [hdr, RM.new] using Blk.new_at (by simp) _ _, (Blk.new w (zeros n) 65).alloc _, Holds.empty _ (by simp; omega), by simpa [RM.new] using h2, h3⟩, by omega, Nat.le_refl _, ((Fr.refl _ _).alloc _).alloc _⟩
set_option maxRecDepth 100000 in
theorem new_ok (w : World) (most : Nat) (h1 : 1 ≤ most) (h2 : most ≤ 65536) : Calls Tryd.prog 19 #[.int .i64 most] w (NewPost w most) := by
  by_cases h : most ≤ 16
  · have hmk := make_els most (by omega)
    have HR := Lib.hid (new_ring w most most h1 (Nat.le_refl _) h2)
    go_enter Tryd.func19, Tryd.ntmps19
    go_wp2
    all_goals
      go_ret2
      exact HR.out
  · have hmk := make_els 16 (by omega)
    have hmk2 : ∀ w : World, (Instr.makeSlice 101 (.int .i64 16) (.int .i64 16)).run Tryd.prog w = .ok (.slice (some ⟨w.heap.size, 0, none⟩) 16 16) (w.alloc (.cells (zeros 16) 65)) := hmk
    clear hmk
    have HR := Lib.hid (new_ring w most 16 (by omega) (by omega) h2)
    go_enter Tryd.func19, Tryd.ntmps19
    go_wp2
    all_goals
      go_ret2
      exact HR.out
/-- What a change leaves. -/
def PPost (w : World) (b g : Nat) (L' : List Int) (M' : RM) (v : Value) (e : Ending) (w' : World) : Prop :=
  e = .returned v ∧ ∃ g' Cs' f', RingAt w' b g' Cs' f' L' M' ∧ (g' = g ∨ w.heap.size ≤ g') ∧ Fr [b, g] w w'
theorem fill_step {L : List Int} {k N : Nat} {y : Int} (h : L[k]? = some y) (hN : L.length ≤ N) : (L.take k ++ List.replicate (N - k) 0).set k y = L.take (k + 1) ++ List.replicate (N - (k + 1)) 0 := by
  obtain ⟨hkl, hky⟩ := List.getElem?_eq_some_iff.1 h
  have hk : (L.take k).length = k := by rw [List.length_take]; omega
  rw [List.set_append_right _ _ (by omega), hk, Nat.sub_self, List.take_succ_eq_append_getElem hkl, List.append_assoc]
  obtain ⟨c, hc⟩ : ∃ c, N - k = c + 1 := ⟨N - k - 1, by omega⟩
  rw [hc, show N - (k + 1) = c by omega, hky]
  simp [List.replicate_succ]
theorem still_tail {P : Program} {id : Nat} {Q : Exit → Act → World → Prop} {a : Act} {w : World} {l : List Oper} (n : Nat) (hm : P.follows .mixedOrders = true) (hB : Region.lexTailB .any l.toArray n = true)
    (h : wpStill P l.toArray w.drew (fun a' => wpList P l.toArray Q (l.drop n) a' w.drew) (l.take n) a) : (Code.region id l.toArray true).wp P Q a w :=
  wp_region_still_tail n hm hB h
set_option maxRecDepth 100000 in
theorem push_full (w : World) (b g : Nat) (Cs : List Int) (f : Nat) (L : List Int) (M : RM) (x : Int) (h : RingAt w b g Cs f L M) (hl : L.length = M.most) (hr : 0 ≤ M.rf ∧ M.rf < 4611686018427387904) :
    Calls Tryd.prog 54 #[.pointer (some ⟨b, 0, none⟩), pval x] w (PPost w b g L M.ref (.int .i64 5)) := by
  have hq : ((L.length : Int) == (M.most : Int)) = true := by simp [hl]
  go_enter Tryd.func54, Tryd.ntmps54
  go_wp2_with fail
  rename_i cs heq
  obtain rfl : cs = (pcells x).toArray := pval_agg heq
  clear heq
  obtain ⟨z, hz⟩ : ∃ z, z = w.heap.size := ⟨_, rfl⟩
  have hR0 := h.fr ((Fr.refl [] w).alloc (.cells (pcells x).toArray 65)) (by simp) (by simp)
  have hZ0 := Blk.new w (pcells x).toArray 65
  have f0 := (Fr.refl [] w).alloc (.cells (pcells x).toArray 65)
  have hzg : z ≠ g := by have := h.pl.lt; omega
  have hzb : z ≠ b := by have := h.hd.lt; omega
  rw [← hz] at hZ0
  simp only [← hz]
  generalize (w.alloc _) = w0 at *
  obtain ⟨c0, c1, c2, c3, c4, c5, c6, c7, c8, c9, cf⟩ := hdr_cells hR0.hd
  have ht := Lib.hid (there_any w0 b M.most h.pos c1)
  have f9 := cf 9
  have hend : ∀ m, PPost w b g L M.ref (.int .i64 5) (.returned (.int .i64 5)) ((w0.drewN m).setCell ⟨b, 9, none⟩ (.int .i64 (M.rf + 1))) := by
    intro m
    exact ⟨rfl, g, Cs, f, ⟨(hR0.hd.drewN m).set 9 (.int .i64 (M.rf + 1)), (hR0.pl.drewN m).other _ _ (Ne.symm h.ne), h.ho, h.le, h.m64⟩, .inl rfl, ((f0.mono (by simp)).drewN m).setCell _ _ (.inl (by simp))⟩
  have HE := Lib.hid hend
  obtain ⟨hr1, hr2⟩ := hr
  generalize M.rf = rf at *
  clear hend h hl cf c0 c2 c4 c5 c6 c7 c8 hR0 hZ0 f0 hz
  (with_reducible refine ht.out.mono ?_)
  rintro e w1 ⟨rfl, rfl⟩
  go_wp2_with fail
  go_quiet (fail)
  go_wp2
  go_ret
  exact HE.out _
set_option maxRecDepth 100000 in
set_option maxHeartbeats 1000000 in
theorem push_room (w : World) (b g : Nat) (Cs : List Int) (f : Nat) (L : List Int) (M : RM) (x : Int) (h : RingAt w b g Cs f L M) (hlen : L.length < Cs.length) :
    Calls Tryd.prog 54 #[.pointer (some ⟨b, 0, none⟩), pval x] w (PPost w b g (L ++ [x]) (M.sized (L.length + 1)) (.int .i64 0)) := by
  have hne : ((L.length : Int) == (M.most : Int)) = false := by have := h.le; rw [beq_eq_false_iff_ne]; omega
  have hnn : ((L.length : Int) == (Cs.length : Int)) = false := by rw [beq_eq_false_iff_ne]; omega
  go_enter Tryd.func54, Tryd.ntmps54
  go_wp2_with fail
  rename_i cs heq
  obtain rfl : cs = (pcells x).toArray := pval_agg heq
  clear heq
  obtain ⟨z, hz⟩ : ∃ z, z = w.heap.size := ⟨_, rfl⟩
  have hR0 := h.fr ((Fr.refl [] w).alloc (.cells (pcells x).toArray 65)) (by simp) (by simp)
  have hZ0 := Blk.new w (pcells x).toArray 65
  have f0 := (Fr.refl [] w).alloc (.cells (pcells x).toArray 65)
  have hzg : z ≠ g := by have := h.pl.lt; omega
  have hzb : z ≠ b := by have := h.hd.lt; omega
  rw [← hz] at hZ0
  simp only [← hz]
  generalize (w.alloc _) = w0 at *
  obtain ⟨c0, c1, c2, c3, c4, c5, c6, c7, c8, c9, cf⟩ := hdr_cells hR0.hd
  have ht := Lib.hid (there_any w0 b M.most h.pos c1)
  have H := Lib.hid (And.intro hR0 (And.intro hZ0 (And.intro f0 hz)))
  clear h hR0 hZ0 f0 hz c2 c4 c5 c6 c7 c8 c9 cf
  (with_reducible refine ht.out.mono ?_)
  rintro e w1 ⟨rfl, rfl⟩
  go_wp2_with fail
  go_quiet (fail)
  go_wp2_with fail
  go_quiet (fail)
  go_wp2_with fail
  generalize hwa : World.drewN w0 _ = wa
  have hR : RingAt wa b g Cs f L M := by rw [← hwa]; exact H.out.1.drewN _
  have zR : Blk wa z (pcells x).toArray 65 := by rw [← hwa]; exact H.out.2.1.drewN _
  have fr0 : Fr [b, g] w wa := by rw [← hwa]; exact (H.out.2.2.1.mono (T := [b, g]) (by simp)).drewN _
  clear hwa c0 c1 c3
  obtain ⟨c0, c1, c2, c3, c4, c5, c6, c7, c8, c9, cf⟩ := hdr_cells hR.hd
  obtain ⟨k, hk⟩ : ∃ k, (f + L.length) % Cs.length = k := ⟨_, rfl⟩
  have hm := hR.m64
  have hN := hR.le
  have hf := hR.ho.lt
  have hkl : k < Cs.length := by rw [← hk]; exact Nat.mod_lt _ (by omega)
  have hcan := hR.pl.prCan hkl
  have hbx := zR.prOne
  have hbg := hR.ne
  have hgb : g ≠ b := Ne.symm hbg
  have hp := Lib.hid (fun (W : World) (d0 : W.cell? ⟨b, 0, none⟩ = some (.slice (some ⟨g, 0, none⟩) Cs.length Cs.length)) (d2 : W.cell? ⟨b, 2, none⟩ = some (.int .i64 f)) => place_any W b g Cs.length f L.length d0 d2 (by omega) (by omega) hf (by omega))
  rw [hk] at hp
  have k1 : (0 : Int) ≤ (k : Int) := by omega
  have k2 : (k : Int) < (Cs.length : Int) := by omega
  have HK := Lib.hid (And.intro hk hR)
  clear hk c1 c4 c5 c6 c7 c8 c9 cf
  go_region_held3 (fun w' => w'.cell? ⟨b, 0, none⟩ = some (.slice (some ⟨g, 0, none⟩) Cs.length Cs.length) ∧ w'.cell? ⟨b, 2, none⟩ = some (.int .i64 f) ∧ w'.cell? ⟨b, 3, none⟩ = some (.int .i64 L.length) ∧ pr? w' z 0 = some (pval x)) ((try simp only [World.cell?_drew, World.cell?_drewN, pr_drew, pr_drewN, cell_layPr' _ _ _ _ _ _ hbg, pr_layPr _ _ _ _ _ _ hzg]; exact ⟨c0, c2, c3, hbx⟩))
    ((go_at_call 97; refine (hp.out _ (by exact c0) (by exact c2)).mono ?_; rintro e w4 ⟨rfl, mm, rfl⟩))
  simp only [Exit.then]
  generalize hwb : layPr _ g (k * 2) x = wb
  obtain ⟨hk, hRR⟩ := HK.out
  have hbB : Blk wb b (hdr g Cs.length f L.length M) 103 := by rw [← hwb]; exact Blk.otherPr (W := _) hRR.hd (k * 2) x hbg
  have hgB : Blk wb g (pls (Cs.set k x)).toArray 65 := by rw [← hwb]; exact Blk.setPr (W := _) hRR.pl hkl x
  have frB : Fr [g] wa wb := by rw [← hwb]; exact ((Fr.refl [g] wa).drewN _).setPr (k * 2) x (.inl (by simp))
  have d3 := hbB.at 3 (v := .int .i64 L.length) rfl
  have hse := Lib.hid (sized_any wb b g Cs.length f L.length M ((L.length : Int) + 1) (L.length + 1) (by omega) hbB (by omega))
  have hfin : ∀ w', Blk w' b (hdr g Cs.length f (L.length + 1) (M.sized (L.length + 1))) 103 → Fr [b] wb w' → PPost w b g (L ++ [x]) (M.sized (L.length + 1)) (.int .i64 0) (.returned (.int .i64 0)) w' := by
    intro w' hb' f'
    have hpu := hRR.ho.push hlen x
    rw [hk] at hpu
    refine ⟨rfl, g, Cs.set k x, f, ⟨?_, f'.blk hgB (by simpa using hgb), hpu, by rw [List.length_set]; exact hN, hm⟩, .inl rfl, (fr0.trans frB (by intro y hy; simp at hy; subst hy; exact .inl (by simp))).trans f' (by simp)⟩
    rw [List.length_set, List.length_append]; exact hb'
  have HF := Lib.hid hfin
  clear hwb hk hRR hbB hgB frB hfin c0 c2 c3 hbg hgb k1 k2 hp hcan hbx
  go_wp2_with fail
  (with_reducible refine hse.out.mono ?_)
  rintro e w5 ⟨⟨v, rfl⟩, hb5, f5⟩
  have HF5 := Lib.hid (HF.out _ hb5 f5)
  clear hb5 f5
  go_wp2
  go_ret
  exact HF5.out
set_option maxRecDepth 100000 in
set_option maxHeartbeats 2000000 in
theorem push_growA (w : World) (b g : Nat) (Cs : List Int) (f : Nat) (L : List Int) (M : RM) (x : Int) (h : RingAt w b g Cs f L M) (hN0 : L.length = Cs.length) (hlm : L.length < M.most) (hmin : M.most ≤ 2 * L.length) :
    Calls Tryd.prog 54 #[.pointer (some ⟨b, 0, none⟩), pval x] w (PPost w b g (L ++ [x]) (M.sized (L.length + 1)) (.int .i64 0)) := by
  obtain ⟨most, hmost⟩ : ∃ most, M.most = most := ⟨_, rfl⟩
  have hne : ((L.length : Int) == (M.most : Int)) = false := by rw [beq_eq_false_iff_ne]; omega
  go_enter Tryd.func54, Tryd.ntmps54
  go_wp2_with fail
  rename_i cs heq
  obtain rfl : cs = (pcells x).toArray := pval_agg heq
  clear heq
  obtain ⟨z, hz⟩ : ∃ z, z = w.heap.size := ⟨_, rfl⟩
  have hR0 := h.fr ((Fr.refl [] w).alloc (.cells (pcells x).toArray 65)) (by simp) (by simp)
  have hZ0 := Blk.new w (pcells x).toArray 65
  have f0 := (Fr.refl [] w).alloc (.cells (pcells x).toArray 65)
  have hzg : z ≠ g := by have := h.pl.lt; omega
  have hzb : z ≠ b := by have := h.hd.lt; omega
  rw [← hz] at hZ0
  simp only [← hz]
  generalize (w.alloc _) = w0 at *
  obtain ⟨c0, c1, c2, c3, c4, c5, c6, c7, c8, c9, cf⟩ := hdr_cells hR0.hd
  have hm64 := h.m64
  have hlo := h.ho.lt
  have ht := Lib.hid (there_any w0 b M.most h.pos c1)
  have H := Lib.hid (And.intro hR0 (And.intro hZ0 (And.intro f0 hz)))
  obtain ⟨N, hN⟩ : ∃ N, N = L.length := ⟨_, rfl⟩
  rw [← hN0] at c0 hlo
  rw [hmost] at hmin hne c1 hlm hm64
  rw [← hN] at hmin hne c0 c3 hlm hlo
  have HN := Lib.hid (And.intro hN (And.intro hN0 hmost))
  have hnn : ((N : Int) == (N : Int)) = true := by simp
  have hw2 : IntKind.i64.wrap (2 * (N : Int)) = 2 * (N : Int) := by rw [IntKind.wrap_i64]; omega
  have hmk := make_els most (by omega)
  have hblt : b < w0.heap.size := World.block_lt_of_cell? w0 _ c0
  have hA : ∀ m cs i, ((w0.drewN m).alloc (.cells cs 65)).cell? ⟨b, i, none⟩ = w0.cell? ⟨b, i, none⟩ := fun m cs i => Fr.cell (S := []) (w := w0) (((Fr.refl [] w0).drewN m).alloc _) hblt (by simp)
  clear h hR0 hZ0 f0 hz c2 c4 c5 c6 c7 c8 c9 cf hN hN0 hmost
  (with_reducible refine ht.out.mono ?_)
  rintro e w1 ⟨rfl, rfl⟩
  go_wp2_with fail
  go_quiet (fail)
  go_wp2_with fail
  go_quiet (fail)
  go_wp2_with fail
  refine still_tail 10 (by kernel_rfl) (by kernel_rfl) ?_
  simp only [List.take_succ_cons, List.take_zero, List.drop_succ_cons, List.drop_zero]
  iterate 10 still_step
  refine wpStill_nil ?_
  go_wp2_with fail
  generalize hwg : World.alloc (World.drewN w0 _) _ = wg
  obtain ⟨g2, hg2⟩ : ∃ z, z = w0.heap.size := ⟨_, rfl⟩
  rw [← hg2]
  have hG : Blk wg g2 (zeros most) 65 := by rw [← hwg, hg2]; exact Blk.new _ _ _
  have frG : Fr [] w0 wg := by rw [← hwg]; exact ((Fr.refl [] w0).drewN _).alloc _
  have HG := Lib.hid (And.intro hG (And.intro frG hg2))
  have hR := H.out.1.fr frG (by simp) (by simp)
  have hZ := frG.blk H.out.2.1 (by simp)
  have HR := Lib.hid (And.intro hR hZ)
  have hbg2 : b ≠ g2 := by have := H.out.1.hd.lt; omega
  have hgg2 : g ≠ g2 := by have := H.out.1.pl.lt; omega
  have hzg2 : z ≠ g2 := by have := H.out.2.1.lt; omega
  have hbg3 : g2 ≠ b := Ne.symm hbg2
  have hgg3 : g2 ≠ g := Ne.symm hgg2
  clear hwg hg2 hG frG hR hZ c0 c1 c3 hmk hA
  go_loopw [6, 51] (fun _ i wr => ∃ k : Nat, i = .int .i64 k ∧ k ≤ N ∧ Blk wr g2 (pls (L.take k ++ List.replicate (most - k) 0)).toArray 65 ∧ Fr [g2] wg wr) (fun _ i _ => N - (intOf i).toNat)
  case atStart => exact ⟨0, rfl, Nat.zero_le _, by simpa [zeros] using HG.out.1, Fr.refl _ _⟩
  case round =>
    obtain ⟨k, rfl, hk, hbr, hfr⟩ := hrel
    obtain ⟨wi, rfl⟩ : ∃ wi : World, wi = wr := ⟨_, rfl⟩
    have hRi := HR.out.1.fr hfr (by simpa using hbg2) (by simpa using hgg2)
    by_cases hlt : k < N
    · obtain ⟨hN, hN0, hmost⟩ := HN.out
      obtain ⟨c0, c1, c2, c3, c4, c5, c6, c7, c8, c9, cf⟩ := hdr_cells hRi.hd
      rw [← hN0, ← hN] at c0
      obtain ⟨q, hq⟩ : ∃ q, (f + k) % N = q := ⟨_, rfl⟩
      have hqN : q < N := by rw [← hq]; exact Nat.mod_lt _ (by omega)
      obtain ⟨y, hy⟩ : ∃ y, L[k]? = some y := ⟨_, List.getElem?_eq_getElem (by omega)⟩
      have hCq : Cs[q]? = some y := by
        have := hRi.ho.at_ k (by omega)
        rw [← hN0, ← hN, hq] at this
        rw [this, hy]
      have cq := hRi.pl.prAt hCq
      have hlen2 : (L.take k ++ List.replicate (most - k) (0 : Int)).length = most := by rw [List.length_append, List.length_take, List.length_replicate]; omega
      have hkc : k < (L.take k ++ List.replicate (most - k) (0 : Int)).length := by rw [hlen2]; omega
      have hcan := hbr.prCan hkc
      have hfs := fill_step (L := L) (k := k) (N := most) hy (by omega)
      have HI := Lib.hid (And.intro hbr (And.intro hfr (And.intro hfs hkc)))
      have hp := Lib.hid (fun (W : World) (d0 : W.cell? ⟨b, 0, none⟩ = some (.slice (some ⟨g, 0, none⟩) N N)) (d2 : W.cell? ⟨b, 2, none⟩ = some (.int .i64 f)) => place_any W b g N f k d0 d2 (by omega) (by omega) hlo (by omega))
      rw [hq] at hp
      have k1 : (0 : Int) ≤ (k : Int) := by omega
      have k2 : (k : Int) < (most : Int) := by omega
      have q1 : (0 : Int) ≤ (q : Int) := by omega
      have q2 : (q : Int) < (N : Int) := by omega
      clear hbr hfr hfs hRi hq hCq hy hlen2 hkc c1 c3 c4 c5 c6 c7 c8 c9 cf hN hN0 hmost
      go_wp2_with fail
      go_region_held3 (fun w' => w'.cell? ⟨b, 0, none⟩ = some (.slice (some ⟨g, 0, none⟩) N N) ∧ w'.cell? ⟨b, 2, none⟩ = some (.int .i64 f) ∧ pr? w' g (q * 2) = some (pval y)) ((try simp only [World.cell?_drew, World.cell?_drewN, pr_drew, pr_drewN, cell_layPr' _ _ _ _ _ _ hbg2, pr_layPr _ _ _ _ _ _ hgg2]; exact ⟨c0, c2, cq⟩))
        ((go_at_call 97; refine (hp.out _ (by exact c0) (by exact c2)).mono ?_; rintro e w4 ⟨rfl, mm, rfl⟩))
      go_wp2_with fail
      go_roundw
      case rel =>
        refine ⟨k + 1, by go_num, by omega, ?_, ?_⟩
        · rw [← HI.out.2.2.1]
          exact Blk.setPr (W := _) HI.out.1 HI.out.2.2.2 y
        · exact (HI.out.2.1.drewN _).setPr _ _ (.inl (by simp))
      case measure => simp [intOf]; omega
    · obtain rfl : N = k := by omega
      obtain ⟨hN, hN0, hmost⟩ := HN.out
      have hb1 := hRi.hd
      have hzi := hfr.blk HR.out.2 (by simpa using hzg2)
      rw [← hN] at hb1
      obtain ⟨Cs2, hCs2⟩ : ∃ Cs2, Cs2 = L ++ List.replicate (most - L.length) (0 : Int) := ⟨_, rfl⟩
      have hlc : Cs2.length = most := by rw [hCs2, List.length_append, List.length_replicate]; omega
      have hbr2 : Blk wi g2 (pls Cs2).toArray 65 := by rw [hCs2, ← hN]; rw [List.take_of_length_le (by omega)] at hbr; exact hbr
      have ho2 : Holds Cs2 0 L := by rw [hCs2]; exact Holds.fresh L 0 most (by omega) (by omega)
      have c0 := hb1.at 0 rfl
      have c2 := hb1.at 2 (v := .int .i64 f) rfl
      have f0 := hb1.free 0
      have f2 := hb1.free 2
      have hgw : w.heap.size ≤ g2 := by have h1 := HG.out.2.2; have h2 := H.out.2.2.1.size; omega
      have hb2 := (hb1.set 0 (.slice (some ⟨g2, 0, none⟩) most most)).set 2 (.int .i64 0)
      have hbr3 := (hbr2.other ⟨b, 0, none⟩ (.slice (some ⟨g2, 0, none⟩) most most) hbg3).other ⟨b, 2, none⟩ (.int .i64 0) hbg3
      have hz3 := (hzi.other ⟨b, 0, none⟩ (.slice (some ⟨g2, 0, none⟩) most most) hzb).other ⟨b, 2, none⟩ (.int .i64 0) hzb
      have fr3 : Fr [b, g] w ((wi.setCell ⟨b, 0, none⟩ (.slice (some ⟨g2, 0, none⟩) most most)).setCell ⟨b, 2, none⟩ (.int .i64 0)) :=
        (((((H.out.2.2.1.mono (T := [b, g]) (by simp)).trans HG.out.2.1 (by simp)).trans hfr (by intro x hx; simp at hx; subst hx; exact .inr hgw)).setCell _ _ (.inl (by simp))).setCell _ _ (.inl (by simp)))
      obtain ⟨fz, hfz⟩ : ∃ fz : Nat, fz = 0 := ⟨_, rfl⟩
      have hRR : RingAt ((wi.setCell ⟨b, 0, none⟩ (.slice (some ⟨g2, 0, none⟩) most most)).setCell ⟨b, 2, none⟩ (.int .i64 0)) b g2 Cs2 fz L M :=
        ⟨by rw [hlc, ← hN, hfz]; exact hb2, hbr3, by rw [hfz]; exact ho2, by rw [hlc]; omega, by omega⟩
      have hlen : L.length < Cs2.length := by rw [hlc]; omega
      have HX := Lib.hid (And.intro hRR (And.intro fr3 (And.intro hlen (And.intro hz3 hmost))))
      clear hbr hfr hRi hb1 hbr2 ho2 hb2 hbr3 fr3 hRR hlen hCs2 hlc hN hN0 hfz hzi hz3 hmost
      go_wp2_with fail
      generalize hwa : World.setCell (World.setCell wi _ _) _ _ = wa
      have HX2 : Hid (RingAt wa b g2 Cs2 fz L M ∧ Fr [b, g] w wa ∧ L.length < Cs2.length ∧ Blk wa z (pcells x).toArray 65 ∧ M.most = most) := by rw [← hwa]; exact HX
      obtain ⟨hR, fr0, hlen, zR, hmost⟩ := HX2.out
      subst hmost
      clear hwa HX HX2 c0 c2 f0 f2 HG HR H HN hbg2 hbg3 hgg2 hgg3 hne hnn hw2 hmin ht hzg
      have hzg := hzg2
      obtain ⟨c0, c1, c2, c3, c4, c5, c6, c7, c8, c9, cf⟩ := hdr_cells hR.hd
      obtain ⟨k, hk⟩ : ∃ k, (fz + L.length) % Cs2.length = k := ⟨_, rfl⟩
      have hm := hR.m64
      have hN := hR.le
      have hf := hR.ho.lt
      have hkl : k < Cs2.length := by rw [← hk]; exact Nat.mod_lt _ (by omega)
      have hcan := hR.pl.prCan hkl
      have hbx := zR.prOne
      have hbg := hR.ne
      have hgb : g2 ≠ b := Ne.symm hbg
      have hp := Lib.hid (fun (W : World) (d0 : W.cell? ⟨b, 0, none⟩ = some (.slice (some ⟨g2, 0, none⟩) Cs2.length Cs2.length)) (d2 : W.cell? ⟨b, 2, none⟩ = some (.int .i64 fz)) => place_any W b g2 Cs2.length fz L.length d0 d2 (by omega) (by omega) hf (by omega))
      rw [hk] at hp
      have k1 : (0 : Int) ≤ (k : Int) := by omega
      have k2 : (k : Int) < (Cs2.length : Int) := by omega
      have HK := Lib.hid (And.intro hk hR)
      clear hk c1 c4 c5 c6 c7 c8 c9 cf
      go_region_held3 (fun w' => w'.cell? ⟨b, 0, none⟩ = some (.slice (some ⟨g2, 0, none⟩) Cs2.length Cs2.length) ∧ w'.cell? ⟨b, 2, none⟩ = some (.int .i64 fz) ∧ w'.cell? ⟨b, 3, none⟩ = some (.int .i64 L.length) ∧ pr? w' z 0 = some (pval x)) ((try simp only [World.cell?_drew, World.cell?_drewN, pr_drew, pr_drewN, cell_layPr' _ _ _ _ _ _ hbg, pr_layPr _ _ _ _ _ _ hzg]; exact ⟨c0, c2, c3, hbx⟩))
        ((go_at_call 97; refine (hp.out _ (by exact c0) (by exact c2)).mono ?_; rintro e w4 ⟨rfl, mm, rfl⟩))
      simp only [Exit.then]
      generalize hwb : layPr _ g2 (k * 2) x = wb
      obtain ⟨hk, hRR⟩ := HK.out
      have hbB : Blk wb b (hdr g2 Cs2.length fz L.length M) 103 := by rw [← hwb]; exact Blk.otherPr (W := _) hRR.hd (k * 2) x hbg
      have hgB : Blk wb g2 (pls (Cs2.set k x)).toArray 65 := by rw [← hwb]; exact Blk.setPr (W := _) hRR.pl hkl x
      have frB : Fr [g2] wa wb := by rw [← hwb]; exact ((Fr.refl [g2] wa).drewN _).setPr (k * 2) x (.inl (by simp))
      have d3 := hbB.at 3 (v := .int .i64 L.length) rfl
      have hse := Lib.hid (sized_any wb b g2 Cs2.length fz L.length M ((L.length : Int) + 1) (L.length + 1) (by omega) hbB (by omega))
      have hfin : ∀ w', Blk w' b (hdr g2 Cs2.length fz (L.length + 1) (M.sized (L.length + 1))) 103 → Fr [b] wb w' → PPost w b g (L ++ [x]) (M.sized (L.length + 1)) (.int .i64 0) (.returned (.int .i64 0)) w' := by
        intro w' hb' f'
        have hpu := hRR.ho.push hlen x
        rw [hk] at hpu
        refine ⟨rfl, g2, Cs2.set k x, fz, ⟨?_, f'.blk hgB (by simpa using hgb), hpu, by rw [List.length_set]; exact hN, hm⟩, .inr hgw, (fr0.trans frB (by intro y hy; simp at hy; subst hy; exact .inr hgw)).trans f' (by simp)⟩
        rw [List.length_set, List.length_append]; exact hb'
      have HF := Lib.hid hfin
      clear hwb hk hRR hbB hgB frB hfin c0 c2 c3 hbg hgb k1 k2 hp hcan hbx
      go_wp2_with fail
      (with_reducible refine hse.out.mono ?_)
      rintro e w5 ⟨⟨v, rfl⟩, hb5, f5⟩
      have HF5 := Lib.hid (HF.out _ hb5 f5)
      clear hb5 f5
      go_wp2
      go_ret
      exact HF5.out
set_option maxRecDepth 100000 in
set_option maxHeartbeats 2000000 in
theorem push_growB (w : World) (b g : Nat) (Cs : List Int) (f : Nat) (L : List Int) (M : RM) (x : Int) (h : RingAt w b g Cs f L M) (hN0 : L.length = Cs.length) (hlm : L.length < M.most) (hmin : 2 * L.length < M.most) :
    Calls Tryd.prog 54 #[.pointer (some ⟨b, 0, none⟩), pval x] w (PPost w b g (L ++ [x]) (M.sized (L.length + 1)) (.int .i64 0)) := by
  obtain ⟨most, hmost⟩ : ∃ most, M.most = most := ⟨_, rfl⟩
  have hne : ((L.length : Int) == (M.most : Int)) = false := by rw [beq_eq_false_iff_ne]; omega
  go_enter Tryd.func54, Tryd.ntmps54
  go_wp2_with fail
  rename_i cs heq
  obtain rfl : cs = (pcells x).toArray := pval_agg heq
  clear heq
  obtain ⟨z, hz⟩ : ∃ z, z = w.heap.size := ⟨_, rfl⟩
  have hR0 := h.fr ((Fr.refl [] w).alloc (.cells (pcells x).toArray 65)) (by simp) (by simp)
  have hZ0 := Blk.new w (pcells x).toArray 65
  have f0 := (Fr.refl [] w).alloc (.cells (pcells x).toArray 65)
  have hzg : z ≠ g := by have := h.pl.lt; omega
  have hzb : z ≠ b := by have := h.hd.lt; omega
  rw [← hz] at hZ0
  simp only [← hz]
  generalize (w.alloc _) = w0 at *
  obtain ⟨c0, c1, c2, c3, c4, c5, c6, c7, c8, c9, cf⟩ := hdr_cells hR0.hd
  have hm64 := h.m64
  have hlo := h.ho.lt
  have ht := Lib.hid (there_any w0 b M.most h.pos c1)
  have H := Lib.hid (And.intro hR0 (And.intro hZ0 (And.intro f0 hz)))
  obtain ⟨N, hN⟩ : ∃ N, N = L.length := ⟨_, rfl⟩
  rw [← hN0] at c0 hlo
  rw [hmost] at hmin hne c1 hlm hm64
  rw [← hN] at hmin hne c0 c3 hlm hlo
  have HN := Lib.hid (And.intro hN (And.intro hN0 hmost))
  have hnn : ((N : Int) == (N : Int)) = true := by simp
  have hw2 : IntKind.i64.wrap (2 * (N : Int)) = 2 * (N : Int) := by rw [IntKind.wrap_i64]; omega
  have hmk := (show ∀ w : World, (Instr.makeSlice 101 (.int .i64 (2 * (N : Int))) (.int .i64 (2 * (N : Int)))).run Tryd.prog w = .ok (.slice (some ⟨w.heap.size, 0, none⟩) (2 * N) (2 * N)) (w.alloc (.cells (zeros (2 * N)) 65)) from fun w => by exact make_els (2 * N) (by omega) w)
  have hblt : b < w0.heap.size := World.block_lt_of_cell? w0 _ c0
  have hA : ∀ m cs i, ((w0.drewN m).alloc (.cells cs 65)).cell? ⟨b, i, none⟩ = w0.cell? ⟨b, i, none⟩ := fun m cs i => Fr.cell (S := []) (w := w0) (((Fr.refl [] w0).drewN m).alloc _) hblt (by simp)
  clear h hR0 hZ0 f0 hz c2 c4 c5 c6 c7 c8 c9 cf hN hN0 hmost
  (with_reducible refine ht.out.mono ?_)
  rintro e w1 ⟨rfl, rfl⟩
  go_wp2_with fail
  go_quiet (fail)
  go_wp2_with fail
  go_quiet (fail)
  go_wp2_with fail
  refine still_tail 10 (by kernel_rfl) (by kernel_rfl) ?_
  simp only [List.take_succ_cons, List.take_zero, List.drop_succ_cons, List.drop_zero]
  iterate 10 still_step
  refine wpStill_nil ?_
  go_wp2_with fail
  generalize hwg : World.alloc (World.drewN w0 _) _ = wg
  obtain ⟨g2, hg2⟩ : ∃ z, z = w0.heap.size := ⟨_, rfl⟩
  rw [← hg2]
  have hG : Blk wg g2 (zeros (2 * N)) 65 := by rw [← hwg, hg2]; exact Blk.new _ _ _
  have frG : Fr [] w0 wg := by rw [← hwg]; exact ((Fr.refl [] w0).drewN _).alloc _
  have HG := Lib.hid (And.intro hG (And.intro frG hg2))
  have hR := H.out.1.fr frG (by simp) (by simp)
  have hZ := frG.blk H.out.2.1 (by simp)
  have HR := Lib.hid (And.intro hR hZ)
  have hbg2 : b ≠ g2 := by have := H.out.1.hd.lt; omega
  have hgg2 : g ≠ g2 := by have := H.out.1.pl.lt; omega
  have hzg2 : z ≠ g2 := by have := H.out.2.1.lt; omega
  have hbg3 : g2 ≠ b := Ne.symm hbg2
  have hgg3 : g2 ≠ g := Ne.symm hgg2
  clear hwg hg2 hG frG hR hZ c0 c1 c3 hmk hA
  go_loopw [6, 51] (fun _ i wr => ∃ k : Nat, i = .int .i64 k ∧ k ≤ N ∧ Blk wr g2 (pls (L.take k ++ List.replicate ((2 * N) - k) 0)).toArray 65 ∧ Fr [g2] wg wr) (fun _ i _ => N - (intOf i).toNat)
  case atStart => exact ⟨0, rfl, Nat.zero_le _, by simpa [zeros] using HG.out.1, Fr.refl _ _⟩
  case round =>
    obtain ⟨k, rfl, hk, hbr, hfr⟩ := hrel
    obtain ⟨wi, rfl⟩ : ∃ wi : World, wi = wr := ⟨_, rfl⟩
    have hRi := HR.out.1.fr hfr (by simpa using hbg2) (by simpa using hgg2)
    by_cases hlt : k < N
    · obtain ⟨hN, hN0, hmost⟩ := HN.out
      obtain ⟨c0, c1, c2, c3, c4, c5, c6, c7, c8, c9, cf⟩ := hdr_cells hRi.hd
      rw [← hN0, ← hN] at c0
      obtain ⟨q, hq⟩ : ∃ q, (f + k) % N = q := ⟨_, rfl⟩
      have hqN : q < N := by rw [← hq]; exact Nat.mod_lt _ (by omega)
      obtain ⟨y, hy⟩ : ∃ y, L[k]? = some y := ⟨_, List.getElem?_eq_getElem (by omega)⟩
      have hCq : Cs[q]? = some y := by
        have := hRi.ho.at_ k (by omega)
        rw [← hN0, ← hN, hq] at this
        rw [this, hy]
      have cq := hRi.pl.prAt hCq
      have hlen2 : (L.take k ++ List.replicate ((2 * N) - k) (0 : Int)).length = (2 * N) := by rw [List.length_append, List.length_take, List.length_replicate]; omega
      have hkc : k < (L.take k ++ List.replicate ((2 * N) - k) (0 : Int)).length := by rw [hlen2]; omega
      have hcan := hbr.prCan hkc
      have hfs := fill_step (L := L) (k := k) (N := (2 * N)) hy (by omega)
      have HI := Lib.hid (And.intro hbr (And.intro hfr (And.intro hfs hkc)))
      have hp := Lib.hid (fun (W : World) (d0 : W.cell? ⟨b, 0, none⟩ = some (.slice (some ⟨g, 0, none⟩) N N)) (d2 : W.cell? ⟨b, 2, none⟩ = some (.int .i64 f)) => place_any W b g N f k d0 d2 (by omega) (by omega) hlo (by omega))
      rw [hq] at hp
      have k1 : (0 : Int) ≤ (k : Int) := by omega
      have k2 : (k : Int) < (2 * (N : Int) : Int) := by omega
      have q1 : (0 : Int) ≤ (q : Int) := by omega
      have q2 : (q : Int) < (N : Int) := by omega
      clear hbr hfr hfs hRi hq hCq hy hlen2 hkc c1 c3 c4 c5 c6 c7 c8 c9 cf hN hN0 hmost
      go_wp2_with fail
      go_region_held3 (fun w' => w'.cell? ⟨b, 0, none⟩ = some (.slice (some ⟨g, 0, none⟩) N N) ∧ w'.cell? ⟨b, 2, none⟩ = some (.int .i64 f) ∧ pr? w' g (q * 2) = some (pval y)) ((try simp only [World.cell?_drew, World.cell?_drewN, pr_drew, pr_drewN, cell_layPr' _ _ _ _ _ _ hbg2, pr_layPr _ _ _ _ _ _ hgg2]; exact ⟨c0, c2, cq⟩))
        ((go_at_call 97; refine (hp.out _ (by exact c0) (by exact c2)).mono ?_; rintro e w4 ⟨rfl, mm, rfl⟩))
      go_wp2_with fail
      go_roundw
      case rel =>
        refine ⟨k + 1, by go_num, by omega, ?_, ?_⟩
        · rw [← HI.out.2.2.1]
          exact Blk.setPr (W := _) HI.out.1 HI.out.2.2.2 y
        · exact (HI.out.2.1.drewN _).setPr _ _ (.inl (by simp))
      case measure => simp [intOf]; omega
    · obtain rfl : N = k := by omega
      obtain ⟨hN, hN0, hmost⟩ := HN.out
      have hb1 := hRi.hd
      have hzi := hfr.blk HR.out.2 (by simpa using hzg2)
      rw [← hN] at hb1
      obtain ⟨Cs2, hCs2⟩ : ∃ Cs2, Cs2 = L ++ List.replicate ((2 * N) - L.length) (0 : Int) := ⟨_, rfl⟩
      have hlc : Cs2.length = (2 * N) := by rw [hCs2, List.length_append, List.length_replicate]; omega
      have hbr2 : Blk wi g2 (pls Cs2).toArray 65 := by rw [hCs2, ← hN]; rw [List.take_of_length_le (by omega)] at hbr; exact hbr
      have ho2 : Holds Cs2 0 L := by rw [hCs2]; exact Holds.fresh L 0 (2 * N) (by omega) (by omega)
      have c0 := hb1.at 0 rfl
      have c2 := hb1.at 2 (v := .int .i64 f) rfl
      have f0 := hb1.free 0
      have f2 := hb1.free 2
      have hgw : w.heap.size ≤ g2 := by have h1 := HG.out.2.2; have h2 := H.out.2.2.1.size; omega
      have hb2 := (hb1.set 0 (.slice (some ⟨g2, 0, none⟩) (2 * N) (2 * N))).set 2 (.int .i64 0)
      have hbr3 := (hbr2.other ⟨b, 0, none⟩ (.slice (some ⟨g2, 0, none⟩) (2 * N) (2 * N)) hbg3).other ⟨b, 2, none⟩ (.int .i64 0) hbg3
      have hz3 := (hzi.other ⟨b, 0, none⟩ (.slice (some ⟨g2, 0, none⟩) (2 * N) (2 * N)) hzb).other ⟨b, 2, none⟩ (.int .i64 0) hzb
      have fr3 : Fr [b, g] w ((wi.setCell ⟨b, 0, none⟩ (.slice (some ⟨g2, 0, none⟩) (2 * N) (2 * N))).setCell ⟨b, 2, none⟩ (.int .i64 0)) :=
        (((((H.out.2.2.1.mono (T := [b, g]) (by simp)).trans HG.out.2.1 (by simp)).trans hfr (by intro x hx; simp at hx; subst hx; exact .inr hgw)).setCell _ _ (.inl (by simp))).setCell _ _ (.inl (by simp)))
      obtain ⟨fz, hfz⟩ : ∃ fz : Nat, fz = 0 := ⟨_, rfl⟩
      have hRR : RingAt ((wi.setCell ⟨b, 0, none⟩ (.slice (some ⟨g2, 0, none⟩) (2 * N) (2 * N))).setCell ⟨b, 2, none⟩ (.int .i64 0)) b g2 Cs2 fz L M :=
        ⟨by rw [hlc, ← hN, hfz]; exact hb2, hbr3, by rw [hfz]; exact ho2, by rw [hlc]; omega, by omega⟩
      have hlen : L.length < Cs2.length := by rw [hlc]; omega
      have HX := Lib.hid (And.intro hRR (And.intro fr3 (And.intro hlen (And.intro hz3 hmost))))
      clear hbr hfr hRi hb1 hbr2 ho2 hb2 hbr3 fr3 hRR hlen hCs2 hlc hN hN0 hfz hzi hz3 hmost
      go_wp2_with fail
      generalize hwa : World.setCell (World.setCell wi _ _) _ _ = wa
      have HX2 : Hid (RingAt wa b g2 Cs2 fz L M ∧ Fr [b, g] w wa ∧ L.length < Cs2.length ∧ Blk wa z (pcells x).toArray 65 ∧ M.most = most) := by rw [← hwa]; exact HX
      obtain ⟨hR, fr0, hlen, zR, hmost⟩ := HX2.out
      subst hmost
      clear hwa HX HX2 c0 c2 f0 f2 HG HR H HN hbg2 hbg3 hgg2 hgg3 hne hnn hw2 hmin ht hzg
      have hzg := hzg2
      obtain ⟨c0, c1, c2, c3, c4, c5, c6, c7, c8, c9, cf⟩ := hdr_cells hR.hd
      obtain ⟨k, hk⟩ : ∃ k, (fz + L.length) % Cs2.length = k := ⟨_, rfl⟩
      have hm := hR.m64
      have hN := hR.le
      have hf := hR.ho.lt
      have hkl : k < Cs2.length := by rw [← hk]; exact Nat.mod_lt _ (by omega)
      have hcan := hR.pl.prCan hkl
      have hbx := zR.prOne
      have hbg := hR.ne
      have hgb : g2 ≠ b := Ne.symm hbg
      have hp := Lib.hid (fun (W : World) (d0 : W.cell? ⟨b, 0, none⟩ = some (.slice (some ⟨g2, 0, none⟩) Cs2.length Cs2.length)) (d2 : W.cell? ⟨b, 2, none⟩ = some (.int .i64 fz)) => place_any W b g2 Cs2.length fz L.length d0 d2 (by omega) (by omega) hf (by omega))
      rw [hk] at hp
      have k1 : (0 : Int) ≤ (k : Int) := by omega
      have k2 : (k : Int) < (Cs2.length : Int) := by omega
      have HK := Lib.hid (And.intro hk hR)
      clear hk c1 c4 c5 c6 c7 c8 c9 cf
      go_region_held3 (fun w' => w'.cell? ⟨b, 0, none⟩ = some (.slice (some ⟨g2, 0, none⟩) Cs2.length Cs2.length) ∧ w'.cell? ⟨b, 2, none⟩ = some (.int .i64 fz) ∧ w'.cell? ⟨b, 3, none⟩ = some (.int .i64 L.length) ∧ pr? w' z 0 = some (pval x)) ((try simp only [World.cell?_drew, World.cell?_drewN, pr_drew, pr_drewN, cell_layPr' _ _ _ _ _ _ hbg, pr_layPr _ _ _ _ _ _ hzg]; exact ⟨c0, c2, c3, hbx⟩))
        ((go_at_call 97; refine (hp.out _ (by exact c0) (by exact c2)).mono ?_; rintro e w4 ⟨rfl, mm, rfl⟩))
      simp only [Exit.then]
      generalize hwb : layPr _ g2 (k * 2) x = wb
      obtain ⟨hk, hRR⟩ := HK.out
      have hbB : Blk wb b (hdr g2 Cs2.length fz L.length M) 103 := by rw [← hwb]; exact Blk.otherPr (W := _) hRR.hd (k * 2) x hbg
      have hgB : Blk wb g2 (pls (Cs2.set k x)).toArray 65 := by rw [← hwb]; exact Blk.setPr (W := _) hRR.pl hkl x
      have frB : Fr [g2] wa wb := by rw [← hwb]; exact ((Fr.refl [g2] wa).drewN _).setPr (k * 2) x (.inl (by simp))
      have d3 := hbB.at 3 (v := .int .i64 L.length) rfl
      have hse := Lib.hid (sized_any wb b g2 Cs2.length fz L.length M ((L.length : Int) + 1) (L.length + 1) (by omega) hbB (by omega))
      have hfin : ∀ w', Blk w' b (hdr g2 Cs2.length fz (L.length + 1) (M.sized (L.length + 1))) 103 → Fr [b] wb w' → PPost w b g (L ++ [x]) (M.sized (L.length + 1)) (.int .i64 0) (.returned (.int .i64 0)) w' := by
        intro w' hb' f'
        have hpu := hRR.ho.push hlen x
        rw [hk] at hpu
        refine ⟨rfl, g2, Cs2.set k x, fz, ⟨?_, f'.blk hgB (by simpa using hgb), hpu, by rw [List.length_set]; exact hN, hm⟩, .inr hgw, (fr0.trans frB (by intro y hy; simp at hy; subst hy; exact .inr hgw)).trans f' (by simp)⟩
        rw [List.length_set, List.length_append]; exact hb'
      have HF := Lib.hid hfin
      clear hwb hk hRR hbB hgB frB hfin c0 c2 c3 hbg hgb k1 k2 hp hcan hbx
      go_wp2_with fail
      (with_reducible refine hse.out.mono ?_)
      rintro e w5 ⟨⟨v, rfl⟩, hb5, f5⟩
      have HF5 := Lib.hid (HF.out _ hb5 f5)
      clear hb5 f5
      go_wp2
      go_ret
      exact HF5.out
/-- Push, where there is room for one more. -/
theorem push_any (w : World) (b g : Nat) (Cs : List Int) (f : Nat) (L : List Int) (M : RM) (x : Int) (h : RingAt w b g Cs f L M) (hlm : L.length < M.most) :
    Calls Tryd.prog 54 #[.pointer (some ⟨b, 0, none⟩), pval x] w (PPost w b g (L ++ [x]) (M.sized (L.length + 1)) (.int .i64 0)) := by
  have hle := h.ho.le
  by_cases h1 : L.length < Cs.length
  · exact push_room w b g Cs f L M x h h1
  · by_cases h2 : M.most ≤ 2 * L.length
    · exact push_growA w b g Cs f L M x h (by omega) hlm h2
    · exact push_growB w b g Cs f L M x h (by omega) hlm (by omega)

end Go.Proofs.YtiimmndhinoaiaaDoor.RgP
