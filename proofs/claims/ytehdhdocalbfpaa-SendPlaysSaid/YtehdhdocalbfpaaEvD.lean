/-
  Drop of a ring of events.
-/
import Derived.Test.YtehdhdocalbfpaaEvC
namespace Go.Proofs.Ytehdhdocalbfpaa
open Go.RowKit ring
set_option linter.unusedVariables false
attribute [local go_sem ↓] Go.wp_at_zero Go.wp_at_succ

def EDrop (w : World) (b g : Nat) (L : List Ev) (most n : Nat) (e : Ending) (w' : World) : Prop :=
  e = .returned (.int .i64 n) ∧ ∃ Cs' f', ERing w' b g Cs' f' (L.drop n) most ∧ Fr [b, g] w w'
set_option maxRecDepth 100000 in
set_option maxHeartbeats 1000000 in
theorem edrop (w : World) (b g : Nat) (Cs : List Ev) (f : Nat) (L : List Ev) (most n : Nat) (h : ERing w b g Cs f L most) (h1 : 0 < n) (hn : n ≤ L.length) :
    Calls Try.prog 61 #[.pointer (some ⟨b, 0, none⟩), .int .i64 n] w (EDrop w b g L most n) := by
  obtain ⟨N, hN⟩ : ∃ N, N = Cs.length := ⟨_, rfl⟩
  have hle := h.ho.le
  have hlo := h.ho.lt
  have hNm := h.le
  have hm64 := h.m64
  have hbg := h.ne
  have hgb := Ne.symm hbg
  obtain ⟨s, hs⟩ : ∃ s, s = L.length := ⟨_, rfl⟩
  rw [← hs] at hn hle
  rw [← hN] at hlo hNm hle
  go_enter Try.func61, Try.ntmps61
  go_wp2_with fail
  simp only [zero_cells]
  obtain ⟨z, hz⟩ : ∃ z, z = w.heap.size := ⟨_, rfl⟩
  have hR0 := h.fr ((Fr.refl [] w).alloc (.cells Ev.zero.cells.toArray 56)) (by simp) (by simp)
  have hZ0 := Blk.new w Ev.zero.cells.toArray 56
  have f0 := (Fr.refl [] w).alloc (.cells Ev.zero.cells.toArray 56)
  have hzg : z ≠ g := by have := h.pl.lt; omega
  have hzb : z ≠ b := by obtain ⟨p, r, hb⟩ := h.hd; have := hb.lt; omega
  rw [← hz] at hZ0
  simp only [← hz]
  generalize (w.alloc _) = w0 at *
  have hl := elen w0 b g Cs f L most hR0
  rw [← hs] at hl
  have HL := Lib.hid hl
  have H := Lib.hid (And.intro hR0 (And.intro hZ0 (And.intro f0 (And.intro hz (And.intro hN hs)))))
  clear h hR0 hZ0 f0 hz hl hN hs
  (with_reducible refine HL.out.mono ?_)
  rintro e w1 ⟨rfl, rfl⟩
  go_wp2_with fail
  go_loopw [6, 13] (fun _ i wr => ∃ k : Nat, i = .int .i64 k ∧ k ≤ n ∧ Blk wr g (evs (wipe Cs f Ev.zero k)).toArray 56 ∧ Fr [g] w0 wr) (fun _ i _ => n - (intOf i).toNat)
  case atStart => exact ⟨0, rfl, Nat.zero_le _, H.out.1.pl, Fr.refl _ _⟩
  case round =>
    obtain ⟨k, rfl, hk, hbr, hfr⟩ := hrel
    obtain ⟨wi, rfl⟩ : ∃ wi : World, wi = wr := ⟨_, rfl⟩
    obtain ⟨p1, r1, hb0⟩ := H.out.1.hd
    obtain ⟨hR0, hZ0, f0, hz, hN, hs⟩ := H.out
    have hbi := hfr.blk hb0 (by simpa using hbg)
    by_cases hlt : k < n
    · have c0 := hbi.at 0 (v := .slice (some ⟨g, 0, none⟩) Cs.length Cs.length) rfl
      have c2 := hbi.at 2 (v := .int .i64 f) rfl
      rw [← hN] at c0
      obtain ⟨q, hq⟩ : ∃ q, (f + k) % N = q := ⟨_, rfl⟩
      have hqN : q < N := by rw [← hq]; exact Nat.mod_lt _ (by omega)
      have hqw : q < (wipe Cs f Ev.zero k).length := by rw [wipe_len, ← hN]; exact hqN
      have hcan := hbr.can hqw
      have hzv := (hfr.blk hZ0 (by simpa using hzg)).one
      have hstep : (wipe Cs f Ev.zero k).set q Ev.zero = wipe Cs f Ev.zero (k + 1) := by rw [wipe, ← hN, hq]
      have HI := Lib.hid (And.intro hbr (And.intro hfr (And.intro hstep hqw)))
      have hp := Lib.hid (fun (W : World) (d0 : W.cell? ⟨b, 0, none⟩ = some (.slice (some ⟨g, 0, none⟩) N N)) (d2 : W.cell? ⟨b, 2, none⟩ = some (.int .i64 f)) => eplace W b g N f k d0 d2 (by omega) (by omega) hlo (by omega))
      rw [hq] at hp
      have k1 : (0 : Int) ≤ (k : Int) := by omega
      have q1 : (0 : Int) ≤ (q : Int) := by omega
      have q2 : (q : Int) < (N : Int) := by omega
      clear hbr hfr hstep hq hb0 hbi hN hs hR0 hZ0 f0 hz hqw
      go_wp2_with fail
      go_region_held3 (fun w' => w'.cell? ⟨b, 0, none⟩ = some (.slice (some ⟨g, 0, none⟩) N N) ∧ w'.cell? ⟨b, 2, none⟩ = some (.int .i64 f) ∧ ev? w' z 0 = some Ev.zero.val) ((try simp only [World.cell?_drew, World.cell?_drewN, ev_drew, ev_drewN, cell_layEv' _ _ _ _ _ _ hbg, ev_layEv _ _ _ _ _ _ hzg]; exact ⟨c0, c2, hzv⟩))
        ((go_at_call 75; refine (hp.out _ (by exact c0) (by exact c2)).mono ?_; rintro e w4 ⟨rfl, mm, rfl⟩))
      go_wp2_with fail
      go_roundw
      case rel =>
        refine ⟨k + 1, by go_num, by omega, ?_, ?_⟩
        · rw [← HI.out.2.2.1]
          exact Blk.setEv (W := _) HI.out.1 HI.out.2.2.2 Ev.zero
        · exact (HI.out.2.1.drewN _).setEv _ _ (.inl (by simp))
      case measure => simp [intOf]; omega
    · obtain rfl : n = k := by omega
      have hlen2 : (wipe Cs f Ev.zero n).length = N := by rw [wipe_len, hN]
      have hd := hR0.ho.drop Ev.zero n (by omega)
      obtain ⟨q, hq⟩ : ∃ q, (f + n) % N = q := ⟨_, rfl⟩
      rw [← hN, hq] at hd
      have c0 := hbi.at 0 (v := .slice (some ⟨g, 0, none⟩) Cs.length Cs.length) rfl
      have c2 := hbi.at 2 (v := .int .i64 f) rfl
      rw [← hN] at c0
      have f2 := hbi.free 2
      have hp := Lib.hid (fun (W : World) (d0 : W.cell? ⟨b, 0, none⟩ = some (.slice (some ⟨g, 0, none⟩) N N)) (d2 : W.cell? ⟨b, 2, none⟩ = some (.int .i64 f)) => eplace W b g N f n d0 d2 (by omega) (by omega) hlo (by omega))
      rw [hq] at hp
      have HI := Lib.hid (And.intro hbr (And.intro ((f0.mono (T := [b, g]) (by simp)).trans (hfr.mono (T := [b, g]) (by simp)) (fun x hx => .inl hx)) (And.intro hbi (And.intro hd (And.intro hN hs)))))
      clear hq hbr hfr hbi hb0 hd hN hs hR0 hZ0 f0 hz
      go_wp2_with fail
      (with_reducible refine (hp.out _ c0 c2).mono ?_)
      rintro e w4 ⟨rfl, mm, rfl⟩
      generalize hwm : World.drewN wi mm = wm
      obtain ⟨hbr, hfr, hbi, hd, hN, hs⟩ := HI.out
      rw [← hs] at hbi
      have hbM : Blk wm b #[.slice (some ⟨g, 0, none⟩) Cs.length Cs.length, .int .i64 most, .int .i64 f, .int .i64 s, .bool false, .int .i64 0, .int .i64 0, .bool false, .int .i64 p1, .int .i64 r1] 115 := by rw [← hwm]; exact hbi.drewN mm
      have hbB := hbM.set 2 (.int .i64 q)
      have hgB := Blk.other (w := wm) (by rw [← hwm]; exact hbr.drewN mm) ⟨b, 2, none⟩ (.int .i64 q) hgb
      have frB : Fr [b, g] w (wm.setCell ⟨b, 2, none⟩ (.int .i64 q)) := by rw [← hwm]; exact ((hfr.mono (T := [b, g]) (by simp)).drewN _).setCell _ _ (.inl (by simp))
      have m3 := hbM.at 3 (v := .int .i64 s) rfl
      have m2 := hbM.at 2 (v := .int .i64 f) rfl
      have g2 := hbM.free 2
      have d3 := hbB.at 3 (v := .int .i64 s) rfl
      have d4 := hbB.at 4 (v := .bool false) rfl
      have d8 := hbB.at 8 (v := .int .i64 p1) rfl
      have e3 := hbB.free 3
      have e8 := hbB.free 8
      have hse := Lib.hid (esized_int _ b ((s : Int) - (n : Int)) (s - n) s p1 (by omega) d3 d4 d8 e3 e8 (by omega))
      have hbC := (hbB.set 3 (.int .i64 (s - n : Nat))).set 8 (.int .i64 (max p1 (s - n) : Nat))
      have hfin : EDrop w b g L most n (.returned (.int .i64 n)) (((wm.setCell ⟨b, 2, none⟩ (.int .i64 q)).setCell ⟨b, 3, none⟩ (.int .i64 (s - n : Nat))).setCell ⟨b, 8, none⟩ (.int .i64 (max p1 (s - n) : Nat))) := by
        refine ⟨rfl, wipe Cs f Ev.zero n, q, ⟨⟨max p1 (s - n), r1, ?_⟩, (hgB.other _ _ hgb).other _ _ hgb, hd, by rw [hlen2]; exact hNm, hm64⟩, ?_⟩
        · rw [List.length_drop, ← hs, hlen2, hN]
          exact hbC
        · exact ((frB).setCell _ _ (.inl (by simp))).setCell _ _ (.inl (by simp))
      have hsn : IntKind.i64.wrap ((s : Int) - (n : Int)) = (s : Int) - (n : Int) := by rw [IntKind.wrap_i64]; omega
      have HF := Lib.hid hfin
      clear hwm hbM hbB hgB frB d3 d4 d8 e3 e8 hbC hfin c0 c2 f2 hp HI hbr hfr hbi hd H HL hlen2 hN hs
      go_wp2_with fail
      (with_reducible refine hse.out.mono ?_)
      rintro e w5 ⟨⟨v, rfl⟩, rfl⟩
      go_wp2
      go_ret
      exact HF.out

end Go.Proofs.Ytehdhdocalbfpaa
