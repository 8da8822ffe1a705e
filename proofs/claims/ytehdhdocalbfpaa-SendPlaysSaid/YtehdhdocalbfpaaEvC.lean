/-
  New and Push of a ring of events.
-/
import Derived.Test.YtehdhdocalbfpaaEvB
import Derived.LoopIn
namespace Go.Proofs.Ytehdhdocalbfpaa
open Go.RowKit ring
set_option linter.unusedVariables false
attribute [local go_sem ↓] Go.wp_at_zero Go.wp_at_succ

theorem info56b : (Try.prog.info? 56).map (fun i => (i.zero, i.size, i.bytes)) = some (some Ev.zero.val, 8, 40) := by kernel_rfl
/-- Zero events. -/
def ezeros (n : Nat) : Array Value := (evs (List.replicate n Ev.zero)).toArray
theorem madeCells_ezeros (n : Nat) : madeCells Ev.zero.val.cells (n * 8) = ezeros n := by
  apply Array.ext
  · simp [madeCells, ezeros, evs_len]
  · intro i h1 h2
    have hi : i < n * 8 := by simpa [madeCells] using h1
    have h3 := evs_get (List.replicate n Ev.zero) (i / 8) (i % 8) Ev.zero (by rw [List.getElem?_replicate]; simp; omega) (by omega)
    rw [show i / 8 * 8 + i % 8 = i by omega] at h3
    have h4 : (ezeros n)[i]? = Ev.zero.cells[i % 8]? := by simpa [ezeros] using h3
    have h5 : i % 8 < Ev.zero.cells.length := by simp [Ev.cells]; omega
    rw [Array.getElem?_eq_getElem h2, List.getElem?_eq_getElem h5] at h4
    have h6 := Option.some.inj h4
    rw [h6]
    have h7 : i % Ev.zero.cells.length = i % 8 := rfl
    simp [madeCells, Ev.val_cells, h7, h5]
theorem make_evs (n : Nat) (hn : n ≤ 1000000) (w : World) : (Instr.makeSlice 42 (.int .i64 (n : Int)) (.int .i64 (n : Int))).run Try.prog w =
    .ok (.slice (some ⟨w.heap.size, 0, none⟩) n n) (w.alloc (.cells (ezeros n) 56)) := by
  obtain ⟨i, hi, hz, hs, hb⟩ := info_parts info56b
  have hr := run_make (P := Try.prog) w 42 56 i Ev.zero.val Try.underlying42 hi hz .i64 .i64 n n (by omega) (by omega) (by rw [hb]; omega) (by omega)
  rw [hs, Int.toNat_natCast, madeCells_ezeros] at hr
  exact hr
def ENew (w : World) (most : Nat) (e : Ending) (w' : World) : Prop :=
  ∃ b g Cs, e = .returned (.tuple #[.pointer (some ⟨b, 0, none⟩), .int .i64 0]) ∧ ERing w' b g Cs 0 [] most ∧ w.heap.size ≤ b ∧ w.heap.size ≤ g ∧ Fr [] w w'
theorem enew_ring (w : World) (most n : Nat) (h1 : 1 ≤ n) (h2 : n ≤ most) (h3 : most ≤ 65536) :
    ENew w most (.returned (.tuple #[.pointer (some ⟨w.heap.size + 1, 0, none⟩), .int .i64 0])) ((w.alloc (.cells (ezeros n) 56)).alloc (.cells #[.slice (some ⟨w.heap.size, 0, none⟩) n n, .int .i64 most, .int .i64 0, .int .i64 0, .bool false, .int .i64 0, .int .i64 0, .bool false, .int .i64 0, .int .i64 0] 115)) := by
  refine ⟨w.heap.size + 1, w.heap.size, List.replicate n Ev.zero, rfl, ⟨⟨0, 0, by simpa using Blk.new_at (by simp) _ _⟩, (Blk.new w (ezeros n) 56).alloc _, Holds.empty _ (by simp; omega), by simpa using h2, h3⟩, by omega, Nat.le_refl _, ((Fr.refl _ _).alloc _).alloc _⟩
set_option maxRecDepth 100000 in
theorem enew_ok (w : World) (most : Nat) (h1 : 1 ≤ most) (h2 : most ≤ 65536) : Calls Try.prog 54 #[.int .i64 most] w (ENew w most) := by
  by_cases h : most ≤ 16
  · have hmk := make_evs most (by omega)
    have HR := Lib.hid (enew_ring w most most h1 (Nat.le_refl _) h2)
    go_enter Try.func54, Try.ntmps54
    go_wp2
    all_goals
      go_ret2
      exact HR.out
  · have hmk := make_evs 16 (by omega)
    have hmk2 : ∀ w : World, (Instr.makeSlice 42 (.int .i64 16) (.int .i64 16)).run Try.prog w = .ok (.slice (some ⟨w.heap.size, 0, none⟩) 16 16) (w.alloc (.cells (ezeros 16) 56)) := hmk
    clear hmk
    have HR := Lib.hid (enew_ring w most 16 (by omega) (by omega) h2)
    go_enter Try.func54, Try.ntmps54
    go_wp2
    all_goals
      go_ret2
      exact HR.out

/-- What Push leaves. -/
def EPush (w : World) (b g : Nat) (L : List Ev) (most : Nat) (x : Ev) (e : Ending) (w' : World) : Prop :=
  e = .returned (.int .i64 0) ∧ ∃ g' Cs' f', ERing w' b g' Cs' f' (L ++ [x]) most ∧ (g' = g ∨ w.heap.size ≤ g') ∧ Fr [b, g] w w'
theorem efill {L : List Ev} {k N : Nat} {y : Ev} (h : L[k]? = some y) (hN : L.length ≤ N) : (L.take k ++ List.replicate (N - k) Ev.zero).set k y = L.take (k + 1) ++ List.replicate (N - (k + 1)) Ev.zero := by
  obtain ⟨hkl, hky⟩ := List.getElem?_eq_some_iff.1 h
  have hk : (L.take k).length = k := by rw [List.length_take]; omega
  rw [List.set_append_right _ _ (by omega), hk, Nat.sub_self, List.take_succ_eq_append_getElem hkl, List.append_assoc]
  obtain ⟨c, hc⟩ : ∃ c, N - k = c + 1 := ⟨N - k - 1, by omega⟩
  rw [hc, show N - (k + 1) = c by omega, hky]
  simp [List.replicate_succ]
theorem eregion_tail {P : Program} {id : Nat} {Q : Exit → Act → World → Prop} {a : Act} {w : World} {l : List Oper} (n : Nat) (hm : P.follows .mixedOrders = true) (hB : Region.lexTailB .any l.toArray n = true)
    (h : wpStill P l.toArray w.drew (fun a' => wpList P l.toArray Q (l.drop n) a' w.drew) (l.take n) a) : (Code.region id l.toArray true).wp P Q a w :=
  wp_region_still_tail n hm hB h

set_option maxRecDepth 100000 in
theorem epush_room (w : World) (b g : Nat) (Cs : List Ev) (f : Nat) (L : List Ev) (most : Nat) (x : Ev) (h : ERing w b g Cs f L most) (hlen : L.length < Cs.length) :
    Calls Try.prog 58 #[.pointer (some ⟨b, 0, none⟩), x.val] w (EPush w b g L most x) := by
  have hne : ((L.length : Int) == (most : Int)) = false := by have := h.le; rw [beq_eq_false_iff_ne]; omega
  have hnn : ((L.length : Int) == (Cs.length : Int)) = false := by rw [beq_eq_false_iff_ne]; omega
  go_enter Try.func58, Try.ntmps58
  go_wp2_with fail
  rename_i cs heq
  obtain rfl : cs = x.cells.toArray := Ev.val_agg heq
  clear heq
  obtain ⟨z, hz⟩ : ∃ z, z = w.heap.size := ⟨_, rfl⟩
  have hR0 := h.fr ((Fr.refl [] w).alloc (.cells x.cells.toArray 56)) (by simp) (by simp)
  have hZ0 := Blk.new w x.cells.toArray 56
  have f0 := (Fr.refl [] w).alloc (.cells x.cells.toArray 56)
  have hzg : z ≠ g := by have := h.pl.lt; omega
  have hzb : z ≠ b := by obtain ⟨p, r, hb⟩ := h.hd; have := hb.lt; omega
  rw [← hz] at hZ0
  simp only [← hz]
  generalize (w.alloc _) = w0 at *
  obtain ⟨p0, r0, c0, c1, c2, c3, c4, c8, c9, cf⟩ := hR0.cells
  have ht := Lib.hid (ethere w0 b most h.pos c1)
  have H := Lib.hid (And.intro hR0 (And.intro hZ0 (And.intro f0 hz)))
  clear h hR0 hZ0 f0 hz c2 c4 c8 c9 cf
  (with_reducible refine ht.out.mono ?_)
  rintro e w1 ⟨rfl, rfl⟩
  go_wp2_with fail
  go_quiet (fail)
  go_wp2_with fail
  go_quiet (fail)
  go_wp2_with fail
  generalize hwa : World.drewN w0 _ = wa
  have hR : ERing wa b g Cs f L most := by rw [← hwa]; exact H.out.1.fr ((Fr.refl [] w0).drewN _) (by simp) (by simp)
  have zR : Blk wa z x.cells.toArray 56 := by rw [← hwa]; exact H.out.2.1.drewN _
  have fr0 : Fr [b, g] w wa := by rw [← hwa]; exact (H.out.2.2.1.mono (T := [b, g]) (by simp)).drewN _
  clear hwa c0 c1 c3
  obtain ⟨p, r, c0, c1, c2, c3, c4, c8, c9, cf⟩ := hR.cells
  obtain ⟨k, hk⟩ : ∃ k, (f + L.length) % Cs.length = k := ⟨_, rfl⟩
  have hm := hR.m64
  have hN := hR.le
  have hf := hR.ho.lt
  have hkl : k < Cs.length := by rw [← hk]; exact Nat.mod_lt _ (by omega)
  have hcan := hR.pl.can hkl
  have hbx := zR.one
  have hbg := hR.ne
  have hgb : g ≠ b := Ne.symm hbg
  have hp := Lib.hid (fun (W : World) (d0 : W.cell? ⟨b, 0, none⟩ = some (.slice (some ⟨g, 0, none⟩) Cs.length Cs.length)) (d2 : W.cell? ⟨b, 2, none⟩ = some (.int .i64 f)) => eplace W b g Cs.length f L.length d0 d2 (by omega) (by omega) hf (by omega))
  rw [hk] at hp
  have k1 : (0 : Int) ≤ (k : Int) := by omega
  have k2 : (k : Int) < (Cs.length : Int) := by omega
  have HK := Lib.hid (And.intro hk hR)
  clear hk c1 c4 c8 c9 cf
  go_region_held3 (fun w' => w'.cell? ⟨b, 0, none⟩ = some (.slice (some ⟨g, 0, none⟩) Cs.length Cs.length) ∧ w'.cell? ⟨b, 2, none⟩ = some (.int .i64 f) ∧ w'.cell? ⟨b, 3, none⟩ = some (.int .i64 L.length) ∧ ev? w' z 0 = some x.val) ((try simp only [World.cell?_drew, World.cell?_drewN, ev_drew, ev_drewN, cell_layEv' _ _ _ _ _ _ hbg, ev_layEv _ _ _ _ _ _ hzg]; exact ⟨c0, c2, c3, hbx⟩))
    ((go_at_call 75; refine (hp.out _ (by exact c0) (by exact c2)).mono ?_; rintro e w4 ⟨rfl, mm, rfl⟩))
  simp only [Exit.then]
  generalize hwb : layEv _ g (k * 8) x = wb
  obtain ⟨hk, hRR⟩ := HK.out
  obtain ⟨p2, r2, hb0⟩ := hRR.hd
  have hbB : Blk wb b #[.slice (some ⟨g, 0, none⟩) Cs.length Cs.length, .int .i64 most, .int .i64 f, .int .i64 L.length, .bool false, .int .i64 0, .int .i64 0, .bool false, .int .i64 p2, .int .i64 r2] 115 := by rw [← hwb]; exact Blk.otherEv (W := _) hb0 (k * 8) x hbg
  have hgB : Blk wb g (evs (Cs.set k x)).toArray 56 := by rw [← hwb]; exact Blk.setEv (W := _) hRR.pl hkl x
  have frB : Fr [g] wa wb := by rw [← hwb]; exact ((Fr.refl [g] wa).drewN _).setEv (k * 8) x (.inl (by simp))
  have d3 := hbB.at 3 (v := .int .i64 L.length) rfl
  have d4 := hbB.at 4 (v := .bool false) rfl
  have d8 := hbB.at 8 (v := .int .i64 p2) rfl
  have e3 := hbB.free 3
  have e8 := hbB.free 8
  have hse := Lib.hid (esized_int wb b ((L.length : Int) + 1) (L.length + 1) L.length p2 (by omega) d3 d4 d8 e3 e8 (by omega))
  have hbC := (hbB.set 3 (.int .i64 (L.length + 1 : Nat))).set 8 (.int .i64 (max p2 (L.length + 1) : Nat))
  have hfin : EPush w b g L most x (.returned (.int .i64 0)) ((wb.setCell ⟨b, 3, none⟩ (.int .i64 (L.length + 1 : Nat))).setCell ⟨b, 8, none⟩ (.int .i64 (max p2 (L.length + 1) : Nat))) := by
    have hpu := hRR.ho.push hlen x
    rw [hk] at hpu
    refine ⟨rfl, g, Cs.set k x, f, ⟨⟨max p2 (L.length + 1), r2, ?_⟩, (hgB.other _ _ hgb).other _ _ hgb, hpu, by rw [List.length_set]; exact hN, hm⟩, .inl rfl, ?_⟩
    · rw [List.length_set, List.length_append]; exact hbC
    · exact ((fr0.trans frB (by intro y hy; simp at hy; subst hy; exact .inl (by simp))).setCell _ _ (.inl (by simp))).setCell _ _ (.inl (by simp))
  have HF := Lib.hid hfin
  clear hwb hk hRR hb0 hbB hgB frB d4 d8 e3 e8 hbC hfin c0 c2 c3 hbg hgb k1 k2 hp hcan hbx
  go_wp2_with fail
  (with_reducible refine hse.out.mono ?_)
  rintro e w5 ⟨⟨v, rfl⟩, rfl⟩
  go_wp2
  go_ret
  exact HF.out

set_option maxRecDepth 100000 in
set_option maxHeartbeats 1000000 in
theorem epush_growA (w : World) (b g : Nat) (Cs : List Ev) (f : Nat) (L : List Ev) (most : Nat) (x : Ev) (h : ERing w b g Cs f L most) (hN0 : L.length = Cs.length) (hlm : L.length < most) (hmin : most ≤ 2 * L.length) :
    Calls Try.prog 58 #[.pointer (some ⟨b, 0, none⟩), x.val] w (EPush w b g L most x) := by
  have hne : ((L.length : Int) == (most : Int)) = false := by rw [beq_eq_false_iff_ne]; omega
  go_enter Try.func58, Try.ntmps58
  go_wp2_with fail
  rename_i cs heq
  obtain rfl : cs = x.cells.toArray := Ev.val_agg heq
  clear heq
  obtain ⟨z, hz⟩ : ∃ z, z = w.heap.size := ⟨_, rfl⟩
  have hR0 := h.fr ((Fr.refl [] w).alloc (.cells x.cells.toArray 56)) (by simp) (by simp)
  have hZ0 := Blk.new w x.cells.toArray 56
  have f0 := (Fr.refl [] w).alloc (.cells x.cells.toArray 56)
  have hzg : z ≠ g := by have := h.pl.lt; omega
  have hzb : z ≠ b := by obtain ⟨p, r, hb⟩ := h.hd; have := hb.lt; omega
  rw [← hz] at hZ0
  simp only [← hz]
  generalize (w.alloc _) = w0 at *
  obtain ⟨p0, r0, c0, c1, c2, c3, c4, c8, c9, cf⟩ := hR0.cells
  have hm64 := h.m64
  have hlo := h.ho.lt
  have ht := Lib.hid (ethere w0 b most h.pos c1)
  have H := Lib.hid (And.intro hR0 (And.intro hZ0 (And.intro f0 hz)))
  obtain ⟨N, hN⟩ : ∃ N, N = L.length := ⟨_, rfl⟩
  rw [← hN0] at c0 hlo
  rw [← hN] at hmin hne c0 c3 hlm hlo
  have HN := Lib.hid (And.intro hN hN0)
  have hnn : ((N : Int) == (N : Int)) = true := by simp
  have hw2 : IntKind.i64.wrap (2 * (N : Int)) = 2 * (N : Int) := by rw [IntKind.wrap_i64]; omega
  have hmk := make_evs most (by omega)
  have hblt : b < w0.heap.size := World.block_lt_of_cell? w0 _ c0
  have hA : ∀ m cs i, ((w0.drewN m).alloc (.cells cs 56)).cell? ⟨b, i, none⟩ = w0.cell? ⟨b, i, none⟩ := fun m cs i => Fr.cell (S := []) (w := w0) (((Fr.refl [] w0).drewN m).alloc _) hblt (by simp)
  clear h hR0 hZ0 f0 hz c2 c4 c8 c9 cf hN hN0
  (with_reducible refine ht.out.mono ?_)
  rintro e w1 ⟨rfl, rfl⟩
  go_wp2_with fail
  go_quiet (fail)
  go_wp2_with fail
  go_quiet (fail)
  go_wp2_with fail
  refine eregion_tail 10 (by kernel_rfl) (by kernel_rfl) ?_
  simp only [List.take_succ_cons, List.take_zero, List.drop_succ_cons, List.drop_zero]
  iterate 10 still_step
  refine wpStill_nil ?_
  go_wp2_with fail
  generalize hwg : World.alloc (World.drewN w0 _) _ = wg
  obtain ⟨g2, hg2⟩ : ∃ z, z = w0.heap.size := ⟨_, rfl⟩
  rw [← hg2]
  have hG : Blk wg g2 (ezeros most) 56 := by rw [← hwg, hg2]; exact Blk.new _ _ _
  have frG : Fr [] w0 wg := by rw [← hwg]; exact ((Fr.refl [] w0).drewN _).alloc _
  have HG := Lib.hid (And.intro hG (And.intro frG hg2))
  have hR := H.out.1.fr frG (by simp) (by simp)
  have hZ := frG.blk H.out.2.1 (by simp)
  have HR := Lib.hid (And.intro hR hZ)
  have hbg2 : b ≠ g2 := by obtain ⟨p, r, hb⟩ := H.out.1.hd; have := hb.lt; omega
  have hgg2 : g ≠ g2 := by have := H.out.1.pl.lt; omega
  have hzg2 : z ≠ g2 := by have := H.out.2.1.lt; omega
  have hbg3 : g2 ≠ b := Ne.symm hbg2
  have hgg3 : g2 ≠ g := Ne.symm hgg2
  clear hwg hg2 hG frG hR hZ c0 c1 c3 hmk hA
  go_loopw [6, 51] (fun _ i wr => ∃ k : Nat, i = .int .i64 k ∧ k ≤ N ∧ Blk wr g2 (evs (L.take k ++ List.replicate (most - k) Ev.zero)).toArray 56 ∧ Fr [g2] wg wr) (fun _ i _ => N - (intOf i).toNat)
  case atStart => exact ⟨0, rfl, Nat.zero_le _, by simpa [ezeros] using HG.out.1, Fr.refl _ _⟩
  case round =>
    obtain ⟨k, rfl, hk, hbr, hfr⟩ := hrel
    obtain ⟨wi, rfl⟩ : ∃ wi : World, wi = wr := ⟨_, rfl⟩
    have hRi := HR.out.1.fr hfr (by simpa using hbg2) (by simpa using hgg2)
    by_cases hlt : k < N
    · obtain ⟨hN, hN0⟩ := HN.out
      obtain ⟨p1, r1, c0, c1, c2, c3, c4, c8, c9, cf⟩ := hRi.cells
      rw [← hN0, ← hN] at c0
      obtain ⟨q, hq⟩ : ∃ q, (f + k) % N = q := ⟨_, rfl⟩
      have hqN : q < N := by rw [← hq]; exact Nat.mod_lt _ (by omega)
      obtain ⟨y, hy⟩ : ∃ y, L[k]? = some y := ⟨_, List.getElem?_eq_getElem (by omega)⟩
      have hCq : Cs[q]? = some y := by
        have := hRi.ho.at_ k (by omega)
        rw [← hN0, ← hN, hq] at this
        rw [this, hy]
      have cq := hRi.pl.evAt hCq
      have hlen2 : (L.take k ++ List.replicate (most - k) Ev.zero).length = most := by rw [List.length_append, List.length_take, List.length_replicate]; omega
      have hkc : k < (L.take k ++ List.replicate (most - k) Ev.zero).length := by rw [hlen2]; omega
      have hcan := hbr.can hkc
      have hfs := efill (L := L) (k := k) (N := most) hy (by omega)
      have HI := Lib.hid (And.intro hbr (And.intro hfr (And.intro hfs hkc)))
      have hp := Lib.hid (fun (W : World) (d0 : W.cell? ⟨b, 0, none⟩ = some (.slice (some ⟨g, 0, none⟩) N N)) (d2 : W.cell? ⟨b, 2, none⟩ = some (.int .i64 f)) => eplace W b g N f k d0 d2 (by omega) (by omega) hlo (by omega))
      rw [hq] at hp
      have k1 : (0 : Int) ≤ (k : Int) := by omega
      have k2 : (k : Int) < (most : Int) := by omega
      have q1 : (0 : Int) ≤ (q : Int) := by omega
      have q2 : (q : Int) < (N : Int) := by omega
      clear hbr hfr hfs hRi hq hCq hy hlen2 hkc c1 c3 c4 c8 c9 cf hN hN0
      go_wp2_with fail
      go_region_held3 (fun w' => w'.cell? ⟨b, 0, none⟩ = some (.slice (some ⟨g, 0, none⟩) N N) ∧ w'.cell? ⟨b, 2, none⟩ = some (.int .i64 f) ∧ ev? w' g (q * 8) = some y.val) ((try simp only [World.cell?_drew, World.cell?_drewN, ev_drew, ev_drewN, cell_layEv' _ _ _ _ _ _ hbg2, ev_layEv _ _ _ _ _ _ hgg2]; exact ⟨c0, c2, cq⟩))
        ((go_at_call 75; refine (hp.out _ (by exact c0) (by exact c2)).mono ?_; rintro e w4 ⟨rfl, mm, rfl⟩))
      go_wp2_with fail
      go_roundw
      case rel =>
        refine ⟨k + 1, by go_num, by omega, ?_, ?_⟩
        · rw [← HI.out.2.2.1]
          exact Blk.setEv (W := _) HI.out.1 HI.out.2.2.2 y
        · exact (HI.out.2.1.drewN _).setEv _ _ (.inl (by simp))
      case measure => simp [intOf]; omega
    · obtain rfl : N = k := by omega
      obtain ⟨hN, hN0⟩ := HN.out
      obtain ⟨p1, r1, hb1⟩ := hRi.hd
      have hzi := hfr.blk HR.out.2 (by simpa using hzg2)
      rw [← hN] at hb1
      obtain ⟨Cs2, hCs2⟩ : ∃ Cs2, Cs2 = L ++ List.replicate (most - L.length) Ev.zero := ⟨_, rfl⟩
      have hlc : Cs2.length = most := by rw [hCs2, List.length_append, List.length_replicate]; omega
      have hbr2 : Blk wi g2 (evs Cs2).toArray 56 := by rw [hCs2, ← hN]; rw [List.take_of_length_le (by omega)] at hbr; exact hbr
      have ho2 : Holds Cs2 0 L := by rw [hCs2]; exact Holds.fresh L Ev.zero most (by omega) (by omega)
      have c0 := hb1.at 0 rfl
      have c2 := hb1.at 2 (v := .int .i64 f) rfl
      have f0 := hb1.free 0
      have f2 := hb1.free 2
      have hgw : w.heap.size ≤ g2 := by have h1 := HG.out.2.2; have h2 := H.out.2.2.1.size; omega
      have hb2 := (hb1.set 0 (.slice (some ⟨g2, 0, none⟩) most most)).set 2 (.int .i64 0)
      have hbr3 := (hbr2.other ⟨b, 0, none⟩ (.slice (some ⟨g2, 0, none⟩) most most) hbg3).other ⟨b, 2, none⟩ (.int .i64 0) hbg3
      have hz3 := (hzi.other ⟨b, 0, none⟩ (.slice (some ⟨g2, 0, none⟩) most most) hzb).other ⟨b, 2, none⟩ (.int .i64 0) hzb
      have fr3 : Fr [b, g] w ((wi.setCell ⟨b, 0, none⟩ (.slice (some ⟨g2, 0, none⟩) most most)).setCell ⟨b, 2, none⟩ (.int .i64 0)) :=
        (((((H.out.2.2.1.mono (T := [b, g]) (by simp)).trans HG.out.2.1 (by simp)).trans hfr (by intro x hx; simp at hx; subst hx; exact .inr hgw)).setCell _ _ (.inl (by simp))).setCell _ _ (.inl (by simp)))
      obtain ⟨fz, hfz⟩ : ∃ fz : Nat, fz = 0 := ⟨_, rfl⟩
      have hRR : ERing ((wi.setCell ⟨b, 0, none⟩ (.slice (some ⟨g2, 0, none⟩) most most)).setCell ⟨b, 2, none⟩ (.int .i64 0)) b g2 Cs2 fz L most :=
        ⟨⟨p1, r1, by rw [hlc, ← hN, hfz]; exact hb2⟩, hbr3, by rw [hfz]; exact ho2, by rw [hlc]; omega, hm64⟩
      have hlen : L.length < Cs2.length := by rw [hlc]; omega
      have HX := Lib.hid (And.intro hRR (And.intro fr3 (And.intro hlen hz3)))
      clear hbr hfr hRi hb1 hbr2 ho2 hb2 hbr3 fr3 hRR hlen hCs2 hlc hN hN0 hfz hzi hz3
      go_wp2_with fail
      generalize hwa : World.setCell (World.setCell wi _ _) _ _ = wa
      have HX2 : Hid (ERing wa b g2 Cs2 fz L most ∧ Fr [b, g] w wa ∧ L.length < Cs2.length ∧ Blk wa z x.cells.toArray 56) := by rw [← hwa]; exact HX
      obtain ⟨hR, fr0, hlen, zR⟩ := HX2.out
      clear hwa HX HX2 c0 c2 f0 f2 HG HR H HN hbg2 hbg3 hgg2 hgg3 hne hnn hw2 hmin ht hzg
      have hzg := hzg2
      obtain ⟨p, r, c0, c1, c2, c3, c4, c8, c9, cf⟩ := hR.cells
      obtain ⟨k, hk⟩ : ∃ k, (fz + L.length) % Cs2.length = k := ⟨_, rfl⟩
      have hm := hR.m64
      have hN := hR.le
      have hf := hR.ho.lt
      have hkl : k < Cs2.length := by rw [← hk]; exact Nat.mod_lt _ (by omega)
      have hcan := hR.pl.can hkl
      have hbx := zR.one
      have hbg := hR.ne
      have hgb : g2 ≠ b := Ne.symm hbg
      have hp := Lib.hid (fun (W : World) (d0 : W.cell? ⟨b, 0, none⟩ = some (.slice (some ⟨g2, 0, none⟩) Cs2.length Cs2.length)) (d2 : W.cell? ⟨b, 2, none⟩ = some (.int .i64 fz)) => eplace W b g2 Cs2.length fz L.length d0 d2 (by omega) (by omega) hf (by omega))
      rw [hk] at hp
      have k1 : (0 : Int) ≤ (k : Int) := by omega
      have k2 : (k : Int) < (Cs2.length : Int) := by omega
      have HK := Lib.hid (And.intro hk hR)
      clear hk c1 c4 c8 c9 cf
      go_region_held3 (fun w' => w'.cell? ⟨b, 0, none⟩ = some (.slice (some ⟨g2, 0, none⟩) Cs2.length Cs2.length) ∧ w'.cell? ⟨b, 2, none⟩ = some (.int .i64 fz) ∧ w'.cell? ⟨b, 3, none⟩ = some (.int .i64 L.length) ∧ ev? w' z 0 = some x.val) ((try simp only [World.cell?_drew, World.cell?_drewN, ev_drew, ev_drewN, cell_layEv' _ _ _ _ _ _ hbg, ev_layEv _ _ _ _ _ _ hzg]; exact ⟨c0, c2, c3, hbx⟩))
        ((go_at_call 75; refine (hp.out _ (by exact c0) (by exact c2)).mono ?_; rintro e w4 ⟨rfl, mm, rfl⟩))
      simp only [Exit.then]
      generalize hwb : layEv _ g2 (k * 8) x = wb
      obtain ⟨hk, hRR⟩ := HK.out
      obtain ⟨p2, r2, hb0⟩ := hRR.hd
      have hbB : Blk wb b #[.slice (some ⟨g2, 0, none⟩) Cs2.length Cs2.length, .int .i64 most, .int .i64 fz, .int .i64 L.length, .bool false, .int .i64 0, .int .i64 0, .bool false, .int .i64 p2, .int .i64 r2] 115 := by rw [← hwb]; exact Blk.otherEv (W := _) hb0 (k * 8) x hbg
      have hgB : Blk wb g2 (evs (Cs2.set k x)).toArray 56 := by rw [← hwb]; exact Blk.setEv (W := _) hRR.pl hkl x
      have frB : Fr [g2] wa wb := by rw [← hwb]; exact ((Fr.refl [g2] wa).drewN _).setEv (k * 8) x (.inl (by simp))
      have d3 := hbB.at 3 (v := .int .i64 L.length) rfl
      have d4 := hbB.at 4 (v := .bool false) rfl
      have d8 := hbB.at 8 (v := .int .i64 p2) rfl
      have e3 := hbB.free 3
      have e8 := hbB.free 8
      have hse := Lib.hid (esized_int wb b ((L.length : Int) + 1) (L.length + 1) L.length p2 (by omega) d3 d4 d8 e3 e8 (by omega))
      have hbC := (hbB.set 3 (.int .i64 (L.length + 1 : Nat))).set 8 (.int .i64 (max p2 (L.length + 1) : Nat))
      have hfin : EPush w b g L most x (.returned (.int .i64 0)) ((wb.setCell ⟨b, 3, none⟩ (.int .i64 (L.length + 1 : Nat))).setCell ⟨b, 8, none⟩ (.int .i64 (max p2 (L.length + 1) : Nat))) := by
        have hpu := hRR.ho.push hlen x
        rw [hk] at hpu
        refine ⟨rfl, g2, Cs2.set k x, fz, ⟨⟨max p2 (L.length + 1), r2, ?_⟩, (hgB.other _ _ hgb).other _ _ hgb, hpu, by rw [List.length_set]; exact hN, hm⟩, .inr hgw, ?_⟩
        · rw [List.length_set, List.length_append]; exact hbC
        · exact ((fr0.trans frB (by intro y hy; simp at hy; subst hy; exact .inr hgw)).setCell _ _ (.inl (by simp))).setCell _ _ (.inl (by simp))
      have HF := Lib.hid hfin
      clear hwb hk hRR hb0 hbB hgB frB d4 d8 e3 e8 hbC hfin c0 c2 c3 hbg hgb k1 k2 hp hcan hbx
      go_wp2_with fail
      (with_reducible refine hse.out.mono ?_)
      rintro e w5 ⟨⟨v, rfl⟩, rfl⟩
      go_wp2
      go_ret
      exact HF.out

set_option maxRecDepth 100000 in
set_option maxHeartbeats 1000000 in
theorem epush_growB (w : World) (b g : Nat) (Cs : List Ev) (f : Nat) (L : List Ev) (most : Nat) (x : Ev) (h : ERing w b g Cs f L most) (hN0 : L.length = Cs.length) (hlm : L.length < most) (hmin : 2 * L.length < most) :
    Calls Try.prog 58 #[.pointer (some ⟨b, 0, none⟩), x.val] w (EPush w b g L most x) := by
  have hne : ((L.length : Int) == (most : Int)) = false := by rw [beq_eq_false_iff_ne]; omega
  go_enter Try.func58, Try.ntmps58
  go_wp2_with fail
  rename_i cs heq
  obtain rfl : cs = x.cells.toArray := Ev.val_agg heq
  clear heq
  obtain ⟨z, hz⟩ : ∃ z, z = w.heap.size := ⟨_, rfl⟩
  have hR0 := h.fr ((Fr.refl [] w).alloc (.cells x.cells.toArray 56)) (by simp) (by simp)
  have hZ0 := Blk.new w x.cells.toArray 56
  have f0 := (Fr.refl [] w).alloc (.cells x.cells.toArray 56)
  have hzg : z ≠ g := by have := h.pl.lt; omega
  have hzb : z ≠ b := by obtain ⟨p, r, hb⟩ := h.hd; have := hb.lt; omega
  rw [← hz] at hZ0
  simp only [← hz]
  generalize (w.alloc _) = w0 at *
  obtain ⟨p0, r0, c0, c1, c2, c3, c4, c8, c9, cf⟩ := hR0.cells
  have hm64 := h.m64
  have hlo := h.ho.lt
  have ht := Lib.hid (ethere w0 b most h.pos c1)
  have H := Lib.hid (And.intro hR0 (And.intro hZ0 (And.intro f0 hz)))
  obtain ⟨N, hN⟩ : ∃ N, N = L.length := ⟨_, rfl⟩
  rw [← hN0] at c0 hlo
  rw [← hN] at hmin hne c0 c3 hlm hlo
  have HN := Lib.hid (And.intro hN hN0)
  have hnn : ((N : Int) == (N : Int)) = true := by simp
  have hw2 : IntKind.i64.wrap (2 * (N : Int)) = 2 * (N : Int) := by rw [IntKind.wrap_i64]; omega
  have hmk := (show ∀ w : World, (Instr.makeSlice 42 (.int .i64 (2 * (N : Int))) (.int .i64 (2 * (N : Int)))).run Try.prog w = .ok (.slice (some ⟨w.heap.size, 0, none⟩) (2 * N) (2 * N)) (w.alloc (.cells (ezeros (2 * N)) 56)) from fun w => by exact make_evs (2 * N) (by omega) w)
  have hblt : b < w0.heap.size := World.block_lt_of_cell? w0 _ c0
  have hA : ∀ m cs i, ((w0.drewN m).alloc (.cells cs 56)).cell? ⟨b, i, none⟩ = w0.cell? ⟨b, i, none⟩ := fun m cs i => Fr.cell (S := []) (w := w0) (((Fr.refl [] w0).drewN m).alloc _) hblt (by simp)
  clear h hR0 hZ0 f0 hz c2 c4 c8 c9 cf hN hN0
  (with_reducible refine ht.out.mono ?_)
  rintro e w1 ⟨rfl, rfl⟩
  go_wp2_with fail
  go_quiet (fail)
  go_wp2_with fail
  go_quiet (fail)
  go_wp2_with fail
  refine eregion_tail 10 (by kernel_rfl) (by kernel_rfl) ?_
  simp only [List.take_succ_cons, List.take_zero, List.drop_succ_cons, List.drop_zero]
  iterate 10 still_step
  refine wpStill_nil ?_
  go_wp2_with fail
  generalize hwg : World.alloc (World.drewN w0 _) _ = wg
  obtain ⟨g2, hg2⟩ : ∃ z, z = w0.heap.size := ⟨_, rfl⟩
  rw [← hg2]
  have hG : Blk wg g2 (ezeros (2 * N)) 56 := by rw [← hwg, hg2]; exact Blk.new _ _ _
  have frG : Fr [] w0 wg := by rw [← hwg]; exact ((Fr.refl [] w0).drewN _).alloc _
  have HG := Lib.hid (And.intro hG (And.intro frG hg2))
  have hR := H.out.1.fr frG (by simp) (by simp)
  have hZ := frG.blk H.out.2.1 (by simp)
  have HR := Lib.hid (And.intro hR hZ)
  have hbg2 : b ≠ g2 := by obtain ⟨p, r, hb⟩ := H.out.1.hd; have := hb.lt; omega
  have hgg2 : g ≠ g2 := by have := H.out.1.pl.lt; omega
  have hzg2 : z ≠ g2 := by have := H.out.2.1.lt; omega
  have hbg3 : g2 ≠ b := Ne.symm hbg2
  have hgg3 : g2 ≠ g := Ne.symm hgg2
  clear hwg hg2 hG frG hR hZ c0 c1 c3 hmk hA
  go_loopw [6, 51] (fun _ i wr => ∃ k : Nat, i = .int .i64 k ∧ k ≤ N ∧ Blk wr g2 (evs (L.take k ++ List.replicate ((2 * N) - k) Ev.zero)).toArray 56 ∧ Fr [g2] wg wr) (fun _ i _ => N - (intOf i).toNat)
  case atStart => exact ⟨0, rfl, Nat.zero_le _, by simpa [ezeros] using HG.out.1, Fr.refl _ _⟩
  case round =>
    obtain ⟨k, rfl, hk, hbr, hfr⟩ := hrel
    obtain ⟨wi, rfl⟩ : ∃ wi : World, wi = wr := ⟨_, rfl⟩
    have hRi := HR.out.1.fr hfr (by simpa using hbg2) (by simpa using hgg2)
    by_cases hlt : k < N
    · obtain ⟨hN, hN0⟩ := HN.out
      obtain ⟨p1, r1, c0, c1, c2, c3, c4, c8, c9, cf⟩ := hRi.cells
      rw [← hN0, ← hN] at c0
      obtain ⟨q, hq⟩ : ∃ q, (f + k) % N = q := ⟨_, rfl⟩
      have hqN : q < N := by rw [← hq]; exact Nat.mod_lt _ (by omega)
      obtain ⟨y, hy⟩ : ∃ y, L[k]? = some y := ⟨_, List.getElem?_eq_getElem (by omega)⟩
      have hCq : Cs[q]? = some y := by
        have := hRi.ho.at_ k (by omega)
        rw [← hN0, ← hN, hq] at this
        rw [this, hy]
      have cq := hRi.pl.evAt hCq
      have hlen2 : (L.take k ++ List.replicate ((2 * N) - k) Ev.zero).length = (2 * N) := by rw [List.length_append, List.length_take, List.length_replicate]; omega
      have hkc : k < (L.take k ++ List.replicate ((2 * N) - k) Ev.zero).length := by rw [hlen2]; omega
      have hcan := hbr.can hkc
      have hfs := efill (L := L) (k := k) (N := (2 * N)) hy (by omega)
      have HI := Lib.hid (And.intro hbr (And.intro hfr (And.intro hfs hkc)))
      have hp := Lib.hid (fun (W : World) (d0 : W.cell? ⟨b, 0, none⟩ = some (.slice (some ⟨g, 0, none⟩) N N)) (d2 : W.cell? ⟨b, 2, none⟩ = some (.int .i64 f)) => eplace W b g N f k d0 d2 (by omega) (by omega) hlo (by omega))
      rw [hq] at hp
      have k1 : (0 : Int) ≤ (k : Int) := by omega
      have k2 : (k : Int) < (2 * (N : Int) : Int) := by omega
      have q1 : (0 : Int) ≤ (q : Int) := by omega
      have q2 : (q : Int) < (N : Int) := by omega
      clear hbr hfr hfs hRi hq hCq hy hlen2 hkc c1 c3 c4 c8 c9 cf hN hN0
      go_wp2_with fail
      go_region_held3 (fun w' => w'.cell? ⟨b, 0, none⟩ = some (.slice (some ⟨g, 0, none⟩) N N) ∧ w'.cell? ⟨b, 2, none⟩ = some (.int .i64 f) ∧ ev? w' g (q * 8) = some y.val) ((try simp only [World.cell?_drew, World.cell?_drewN, ev_drew, ev_drewN, cell_layEv' _ _ _ _ _ _ hbg2, ev_layEv _ _ _ _ _ _ hgg2]; exact ⟨c0, c2, cq⟩))
        ((go_at_call 75; refine (hp.out _ (by exact c0) (by exact c2)).mono ?_; rintro e w4 ⟨rfl, mm, rfl⟩))
      go_wp2_with fail
      go_roundw
      case rel =>
        refine ⟨k + 1, by go_num, by omega, ?_, ?_⟩
        · rw [← HI.out.2.2.1]
          exact Blk.setEv (W := _) HI.out.1 HI.out.2.2.2 y
        · exact (HI.out.2.1.drewN _).setEv _ _ (.inl (by simp))
      case measure => simp [intOf]; omega
    · obtain rfl : N = k := by omega
      obtain ⟨hN, hN0⟩ := HN.out
      obtain ⟨p1, r1, hb1⟩ := hRi.hd
      have hzi := hfr.blk HR.out.2 (by simpa using hzg2)
      rw [← hN] at hb1
      obtain ⟨Cs2, hCs2⟩ : ∃ Cs2, Cs2 = L ++ List.replicate ((2 * N) - L.length) Ev.zero := ⟨_, rfl⟩
      have hlc : Cs2.length = (2 * N) := by rw [hCs2, List.length_append, List.length_replicate]; omega
      have hbr2 : Blk wi g2 (evs Cs2).toArray 56 := by rw [hCs2, ← hN]; rw [List.take_of_length_le (by omega)] at hbr; exact hbr
      have ho2 : Holds Cs2 0 L := by rw [hCs2]; exact Holds.fresh L Ev.zero (2 * N) (by omega) (by omega)
      have c0 := hb1.at 0 rfl
      have c2 := hb1.at 2 (v := .int .i64 f) rfl
      have f0 := hb1.free 0
      have f2 := hb1.free 2
      have hgw : w.heap.size ≤ g2 := by have h1 := HG.out.2.2; have h2 := H.out.2.2.1.size; omega
      have hb2 := (hb1.set 0 (.slice (some ⟨g2, 0, none⟩) (2 * N) (2 * N))).set 2 (.int .i64 0)
      have hbr3 := (hbr2.other ⟨b, 0, none⟩ (.slice (some ⟨g2, 0, none⟩) (2 * N) (2 * N)) hbg3).other ⟨b, 2, none⟩ (.int .i64 0) hbg3
      have hz3 := (hzi.other ⟨b, 0, none⟩ (.slice (some ⟨g2, 0, none⟩) (2 * N) (2 * N)) hzb).other ⟨b, 2, none⟩ (.int .i64 0) hzb
      have fr3 : Fr [b, g] w ((wi.setCell ⟨b, 0, none⟩ (.slice (some ⟨g2, 0, none⟩) (2 * N) (2 * N))).setCell ⟨b, 2, none⟩ (.int .i64 0)) :=
        (((((H.out.2.2.1.mono (T := [b, g]) (by simp)).trans HG.out.2.1 (by simp)).trans hfr (by intro x hx; simp at hx; subst hx; exact .inr hgw)).setCell _ _ (.inl (by simp))).setCell _ _ (.inl (by simp)))
      obtain ⟨fz, hfz⟩ : ∃ fz : Nat, fz = 0 := ⟨_, rfl⟩
      have hRR : ERing ((wi.setCell ⟨b, 0, none⟩ (.slice (some ⟨g2, 0, none⟩) (2 * N) (2 * N))).setCell ⟨b, 2, none⟩ (.int .i64 0)) b g2 Cs2 fz L most :=
        ⟨⟨p1, r1, by rw [hlc, ← hN, hfz]; exact hb2⟩, hbr3, by rw [hfz]; exact ho2, by rw [hlc]; omega, hm64⟩
      have hlen : L.length < Cs2.length := by rw [hlc]; omega
      have HX := Lib.hid (And.intro hRR (And.intro fr3 (And.intro hlen hz3)))
      clear hbr hfr hRi hb1 hbr2 ho2 hb2 hbr3 fr3 hRR hlen hCs2 hlc hN hN0 hfz hzi hz3
      go_wp2_with fail
      generalize hwa : World.setCell (World.setCell wi _ _) _ _ = wa
      have HX2 : Hid (ERing wa b g2 Cs2 fz L most ∧ Fr [b, g] w wa ∧ L.length < Cs2.length ∧ Blk wa z x.cells.toArray 56) := by rw [← hwa]; exact HX
      obtain ⟨hR, fr0, hlen, zR⟩ := HX2.out
      clear hwa HX HX2 c0 c2 f0 f2 HG HR H HN hbg2 hbg3 hgg2 hgg3 hne hnn hw2 hmin ht hzg
      have hzg := hzg2
      obtain ⟨p, r, c0, c1, c2, c3, c4, c8, c9, cf⟩ := hR.cells
      obtain ⟨k, hk⟩ : ∃ k, (fz + L.length) % Cs2.length = k := ⟨_, rfl⟩
      have hm := hR.m64
      have hN := hR.le
      have hf := hR.ho.lt
      have hkl : k < Cs2.length := by rw [← hk]; exact Nat.mod_lt _ (by omega)
      have hcan := hR.pl.can hkl
      have hbx := zR.one
      have hbg := hR.ne
      have hgb : g2 ≠ b := Ne.symm hbg
      have hp := Lib.hid (fun (W : World) (d0 : W.cell? ⟨b, 0, none⟩ = some (.slice (some ⟨g2, 0, none⟩) Cs2.length Cs2.length)) (d2 : W.cell? ⟨b, 2, none⟩ = some (.int .i64 fz)) => eplace W b g2 Cs2.length fz L.length d0 d2 (by omega) (by omega) hf (by omega))
      rw [hk] at hp
      have k1 : (0 : Int) ≤ (k : Int) := by omega
      have k2 : (k : Int) < (Cs2.length : Int) := by omega
      have HK := Lib.hid (And.intro hk hR)
      clear hk c1 c4 c8 c9 cf
      go_region_held3 (fun w' => w'.cell? ⟨b, 0, none⟩ = some (.slice (some ⟨g2, 0, none⟩) Cs2.length Cs2.length) ∧ w'.cell? ⟨b, 2, none⟩ = some (.int .i64 fz) ∧ w'.cell? ⟨b, 3, none⟩ = some (.int .i64 L.length) ∧ ev? w' z 0 = some x.val) ((try simp only [World.cell?_drew, World.cell?_drewN, ev_drew, ev_drewN, cell_layEv' _ _ _ _ _ _ hbg, ev_layEv _ _ _ _ _ _ hzg]; exact ⟨c0, c2, c3, hbx⟩))
        ((go_at_call 75; refine (hp.out _ (by exact c0) (by exact c2)).mono ?_; rintro e w4 ⟨rfl, mm, rfl⟩))
      simp only [Exit.then]
      generalize hwb : layEv _ g2 (k * 8) x = wb
      obtain ⟨hk, hRR⟩ := HK.out
      obtain ⟨p2, r2, hb0⟩ := hRR.hd
      have hbB : Blk wb b #[.slice (some ⟨g2, 0, none⟩) Cs2.length Cs2.length, .int .i64 most, .int .i64 fz, .int .i64 L.length, .bool false, .int .i64 0, .int .i64 0, .bool false, .int .i64 p2, .int .i64 r2] 115 := by rw [← hwb]; exact Blk.otherEv (W := _) hb0 (k * 8) x hbg
      have hgB : Blk wb g2 (evs (Cs2.set k x)).toArray 56 := by rw [← hwb]; exact Blk.setEv (W := _) hRR.pl hkl x
      have frB : Fr [g2] wa wb := by rw [← hwb]; exact ((Fr.refl [g2] wa).drewN _).setEv (k * 8) x (.inl (by simp))
      have d3 := hbB.at 3 (v := .int .i64 L.length) rfl
      have d4 := hbB.at 4 (v := .bool false) rfl
      have d8 := hbB.at 8 (v := .int .i64 p2) rfl
      have e3 := hbB.free 3
      have e8 := hbB.free 8
      have hse := Lib.hid (esized_int wb b ((L.length : Int) + 1) (L.length + 1) L.length p2 (by omega) d3 d4 d8 e3 e8 (by omega))
      have hbC := (hbB.set 3 (.int .i64 (L.length + 1 : Nat))).set 8 (.int .i64 (max p2 (L.length + 1) : Nat))
      have hfin : EPush w b g L most x (.returned (.int .i64 0)) ((wb.setCell ⟨b, 3, none⟩ (.int .i64 (L.length + 1 : Nat))).setCell ⟨b, 8, none⟩ (.int .i64 (max p2 (L.length + 1) : Nat))) := by
        have hpu := hRR.ho.push hlen x
        rw [hk] at hpu
        refine ⟨rfl, g2, Cs2.set k x, fz, ⟨⟨max p2 (L.length + 1), r2, ?_⟩, (hgB.other _ _ hgb).other _ _ hgb, hpu, by rw [List.length_set]; exact hN, hm⟩, .inr hgw, ?_⟩
        · rw [List.length_set, List.length_append]; exact hbC
        · exact ((fr0.trans frB (by intro y hy; simp at hy; subst hy; exact .inr hgw)).setCell _ _ (.inl (by simp))).setCell _ _ (.inl (by simp))
      have HF := Lib.hid hfin
      clear hwb hk hRR hb0 hbB hgB frB d4 d8 e3 e8 hbC hfin c0 c2 c3 hbg hgb k1 k2 hp hcan hbx
      go_wp2_with fail
      (with_reducible refine hse.out.mono ?_)
      rintro e w5 ⟨⟨v, rfl⟩, rfl⟩
      go_wp2
      go_ret
      exact HF.out

/-- Push, where there is room for one more. -/
theorem epush (w : World) (b g : Nat) (Cs : List Ev) (f : Nat) (L : List Ev) (most : Nat) (x : Ev) (h : ERing w b g Cs f L most) (hlm : L.length < most) :
    Calls Try.prog 58 #[.pointer (some ⟨b, 0, none⟩), x.val] w (EPush w b g L most x) := by
  have hle := h.ho.le
  by_cases h1 : L.length < Cs.length
  · exact epush_room w b g Cs f L most x h h1
  · by_cases h2 : most ≤ 2 * L.length
    · exact epush_growA w b g Cs f L most x h (by omega) hlm h2
    · exact epush_growB w b g Cs f L most x h (by omega) hlm (by omega)

end Go.Proofs.Ytehdhdocalbfpaa
