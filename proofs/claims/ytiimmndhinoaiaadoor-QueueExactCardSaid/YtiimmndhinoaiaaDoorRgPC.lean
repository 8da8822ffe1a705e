/-
  A ring of pairs: Drop, Pop, Set and Mark. Printed by genRp.py.
-/
import Derived.Test.YtiimmndhinoaiaaDoorRgPB
import Derived.Test.YtiimmndhinoaiaaDoorPrL
import Derived.LoopIn
namespace Go.Proofs.YtiimmndhinoaiaaDoor.RgP
open Go.RowKit ring
set_option linter.unusedVariables false
set_option linter.unusedSimpArgs false
attribute [local go_sem] Oper.semAt_some
attribute [local go_sem ↓] Go.wp_at_zero Go.wp_at_succ

def dropM (M : RM) (len n : Nat) : RM := if n = 0 then M else M.sized (len - n)
def dropN (len : Nat) (n : Int) : Nat := (max 0 (min n (len : Int))).toNat
theorem drop_zero (w : World) (b g : Nat) (Cs : List Int) (f : Nat) (L : List Int) (M : RM) (ni : Int) (h : RingAt w b g Cs f L M) (hz : ni ≤ 0 ∨ L.length = 0) :
    Calls Tryd.prog 67 #[.pointer (some ⟨b, 0, none⟩), .int .i64 ni] w fun e w' => e = .returned (.int .i64 0) ∧ Fr [] w w' := by
  obtain ⟨w1, hw1⟩ : ∃ w1, w1 = w.alloc (.cells (pcells 0).toArray 65) := ⟨_, rfl⟩
  have f1 : Fr [] w w1 := by rw [hw1]; exact (Fr.refl [] w).alloc _
  have hl := Lib.hid (len_any w1 b g Cs f L M (h.fr f1 (by simp) (by simp)))
  have HF := Lib.hid f1
  clear h f1
  generalize L.length = s at *
  by_cases h1 : ni < (s : Int)
  · have h2 : ni ≤ 0 := by omega
    go_enter Tryd.func67, Tryd.ntmps67
    go_wp2_with fail
    simp only [zero_pcells]
    rw [← hw1]
    clear hw1
    (with_reducible refine hl.out.mono ?_)
    rintro e w2 ⟨rfl, rfl⟩
    go_wp2_with fail
    all_goals
      go_loopw [6, 13] (fun _ i wr => i = .int .i64 0 ∧ wr = w1) (fun _ i _ => 0)
      case atStart => exact ⟨rfl, rfl⟩
      case round =>
        obtain ⟨rfl, rfl⟩ := hrel
        go_wp2_with fail
        go_ret
        first
          | exact ⟨rfl, HF.out⟩
          | exact ⟨ret_int (by omega), HF.out⟩
  · obtain rfl : s = 0 := by omega
    have h2 : ¬ ni < 0 := by omega
    go_enter Tryd.func67, Tryd.ntmps67
    go_wp2_with fail
    simp only [zero_pcells]
    rw [← hw1]
    clear hw1
    (with_reducible refine hl.out.mono ?_)
    rintro e w2 ⟨rfl, rfl⟩
    go_wp2_with fail
    all_goals
      go_loopw [6, 13] (fun _ i wr => i = .int .i64 0 ∧ wr = w1) (fun _ i _ => 0)
      case atStart => exact ⟨rfl, rfl⟩
      case round =>
        obtain ⟨rfl, rfl⟩ := hrel
        go_wp2_with fail
        go_ret
        first
          | exact ⟨rfl, HF.out⟩
          | exact ⟨ret_int (by omega), HF.out⟩
set_option maxRecDepth 100000 in
set_option maxHeartbeats 2000000 in
theorem drop_in (w : World) (b g : Nat) (Cs : List Int) (f : Nat) (L : List Int) (M : RM) (n : Nat) (h : RingAt w b g Cs f L M) (h1 : 0 < n) (hn : n ≤ L.length) :
    Calls Tryd.prog 67 #[.pointer (some ⟨b, 0, none⟩), .int .i64 n] w (PPost w b g (L.drop n) (M.sized (L.length - n)) (.int .i64 n)) := by
  obtain ⟨N, hN⟩ : ∃ N, N = Cs.length := ⟨_, rfl⟩
  have hle := h.ho.le
  have hlo := h.ho.lt
  have hNm := h.le
  have hm64 := h.m64
  have hbg := h.ne
  have hgb := Ne.symm hbg
  obtain ⟨w0, hw0⟩ : ∃ w0, w0 = w.alloc (.cells (pcells 0).toArray 65) := ⟨_, rfl⟩
  obtain ⟨z, hz⟩ : ∃ z, z = w.heap.size := ⟨_, rfl⟩
  have f0 : Fr [] w w0 := by rw [hw0]; exact (Fr.refl [] w).alloc _
  have hR0 := h.fr f0 (by simp) (by simp)
  have hZ0 : Blk w0 z (pcells 0).toArray 65 := by rw [hw0, hz]; exact Blk.new w _ 65
  have hzg : z ≠ g := by have := h.pl.lt; omega
  have hzb : z ≠ b := by have := h.hd.lt; omega
  have hl := len_any w0 b g Cs f L M hR0
  obtain ⟨s, hs⟩ : ∃ s, s = L.length := ⟨_, rfl⟩
  rw [← hs] at hle hl hn ⊢
  rw [← hN] at hlo hNm hle
  have HL := Lib.hid hl
  have H := Lib.hid (And.intro hR0 (And.intro hZ0 (And.intro f0 (And.intro hz (And.intro hN hs)))))
  clear h hR0 hZ0 f0 hl hN hs
  go_enter Tryd.func67, Tryd.ntmps67
  go_wp2_with fail
  simp only [zero_pcells, ← hz]
  rw [← hw0]
  clear hw0 hz
  (with_reducible refine HL.out.mono ?_)
  rintro e w1 ⟨rfl, rfl⟩
  go_wp2_with fail
  go_loopw [6, 13] (fun _ i wr => ∃ k : Nat, i = .int .i64 k ∧ k ≤ n ∧ Blk wr g (pls (wipe Cs f 0 k)).toArray 65 ∧ Fr [g] w0 wr) (fun _ i _ => n - (intOf i).toNat)
  case atStart => exact ⟨0, rfl, Nat.zero_le _, H.out.1.pl, Fr.refl _ _⟩
  case round =>
    obtain ⟨k, rfl, hk, hbr, hfr⟩ := hrel
    obtain ⟨wi, rfl⟩ : ∃ wi : World, wi = wr := ⟨_, rfl⟩
    obtain ⟨hR0, hZ0, f0, hz, hN, hs⟩ := H.out
    have hb0 := hR0.hd
    have hbi := hfr.blk hb0 (by simpa using hbg)
    by_cases hlt : k < n
    · have c0 := hbi.at 0 (v := .slice (some ⟨g, 0, none⟩) Cs.length Cs.length) rfl
      have c2 := hbi.at 2 (v := .int .i64 f) rfl
      rw [← hN] at c0
      obtain ⟨q, hq⟩ : ∃ q, (f + k) % N = q := ⟨_, rfl⟩
      have hqN : q < N := by rw [← hq]; exact Nat.mod_lt _ (by omega)
      have hqw : q < (wipe Cs f 0 k).length := by rw [wipe_len, ← hN]; exact hqN
      have hcan := hbr.prCan hqw
      have hzv := (hfr.blk hZ0 (by simpa using hzg)).prOne
      have hstep : (wipe Cs f 0 k).set q 0 = wipe Cs f 0 (k + 1) := by rw [wipe, ← hN, hq]
      have HI := Lib.hid (And.intro hbr (And.intro hfr (And.intro hstep hqw)))
      have hp := Lib.hid (fun (W : World) (d0 : W.cell? ⟨b, 0, none⟩ = some (.slice (some ⟨g, 0, none⟩) N N)) (d2 : W.cell? ⟨b, 2, none⟩ = some (.int .i64 f)) => place_any W b g N f k d0 d2 (by omega) (by omega) hlo (by omega))
      rw [hq] at hp
      have k1 : (0 : Int) ≤ (k : Int) := by omega
      have q1 : (0 : Int) ≤ (q : Int) := by omega
      have q2 : (q : Int) < (N : Int) := by omega
      clear hbr hfr hstep hq hb0 hbi hN hs hR0 hZ0 f0 hz hqw
      go_wp2_with fail
      go_region_held3 (fun w' => w'.cell? ⟨b, 0, none⟩ = some (.slice (some ⟨g, 0, none⟩) N N) ∧ w'.cell? ⟨b, 2, none⟩ = some (.int .i64 f) ∧ pr? w' z 0 = some (pval 0)) ((try simp only [World.cell?_drew, World.cell?_drewN, pr_drew, pr_drewN, cell_layPr' _ _ _ _ _ _ hbg, pr_layPr _ _ _ _ _ _ hzg]; exact ⟨c0, c2, hzv⟩))
        ((go_at_call 97; refine (hp.out _ (by exact c0) (by exact c2)).mono ?_; rintro e w4 ⟨rfl, mm, rfl⟩))
      go_wp2_with fail
      go_roundw
      case rel =>
        refine ⟨k + 1, by go_num, by omega, ?_, ?_⟩
        · rw [← HI.out.2.2.1]
          exact Blk.setPr (W := _) HI.out.1 HI.out.2.2.2 0
        · exact (HI.out.2.1.drewN _).setPr _ _ (.inl (by simp))
      case measure => simp [intOf]; omega
    · obtain rfl : n = k := by omega
      have hlen2 : (wipe Cs f 0 n).length = N := by rw [wipe_len, hN]
      have hd := hR0.ho.drop 0 n (by omega)
      obtain ⟨q, hq⟩ : ∃ q, (f + n) % N = q := ⟨_, rfl⟩
      rw [← hN, hq] at hd
      have c0 := hbi.at 0 (v := .slice (some ⟨g, 0, none⟩) Cs.length Cs.length) rfl
      have c2 := hbi.at 2 (v := .int .i64 f) rfl
      rw [← hN] at c0
      have f2 := hbi.free 2
      have hp := Lib.hid (fun (W : World) (d0 : W.cell? ⟨b, 0, none⟩ = some (.slice (some ⟨g, 0, none⟩) N N)) (d2 : W.cell? ⟨b, 2, none⟩ = some (.int .i64 f)) => place_any W b g N f n d0 d2 (by omega) (by omega) hlo (by omega))
      rw [hq] at hp
      have HI := Lib.hid (And.intro hbr (And.intro ((f0.mono (T := [b, g]) (by simp)).trans (hfr.mono (T := [b, g]) (by simp)) (fun x hx => .inl hx)) (And.intro hbi (And.intro hd (And.intro hN hs)))))
      clear hq hbr hfr hbi hb0 hd hN hs hR0 hZ0 f0 hz
      go_wp2_with fail
      (with_reducible refine (hp.out _ c0 c2).mono ?_)
      rintro e w4 ⟨rfl, mm, rfl⟩
      generalize hwm : World.drewN wi mm = wm
      obtain ⟨hbr, hfr, hbi, hd, hN, hs⟩ := HI.out
      rw [← hs] at hbi
      have hbM : Blk wm b (hdr g Cs.length f s M) 103 := by rw [← hwm]; exact hbi.drewN mm
      have hbB : Blk (wm.setCell ⟨b, 2, none⟩ (.int .i64 q)) b (hdr g Cs.length q s M) 103 := hbM.set 2 (.int .i64 q)
      have hgB := Blk.other (w := wm) (by rw [← hwm]; exact hbr.drewN mm) ⟨b, 2, none⟩ (.int .i64 q) hgb
      have frB : Fr [b, g] w (wm.setCell ⟨b, 2, none⟩ (.int .i64 q)) := by rw [← hwm]; exact ((hfr.mono (T := [b, g]) (by simp)).drewN _).setCell _ _ (.inl (by simp))
      have m3 := hbM.at 3 (v := .int .i64 s) rfl
      have m2 := hbM.at 2 (v := .int .i64 f) rfl
      have g2 := hbM.free 2
      have d3 := hbB.at 3 (v := .int .i64 s) rfl
      have hse := Lib.hid (sized_any _ b g Cs.length q s M ((s : Int) - (n : Int)) (s - n) (by omega) hbB (by omega))
      have hfin : ∀ w', Blk w' b (hdr g Cs.length q (s - n) (M.sized (s - n))) 103 → Fr [b] (wm.setCell ⟨b, 2, none⟩ (.int .i64 q)) w' → PPost w b g (L.drop n) (M.sized (s - n)) (.int .i64 n) (.returned (.int .i64 n)) w' := by
        intro w' hb' f'
        refine ⟨rfl, g, wipe Cs f 0 n, q, ⟨?_, f'.blk hgB (by simpa using hgb), hd, by rw [hlen2]; exact hNm, hm64⟩, .inl rfl, frB.trans f' (by simp)⟩
        rw [List.length_drop, ← hs, hlen2, hN]
        exact hb'
      have hsn : IntKind.i64.wrap ((s : Int) - (n : Int)) = (s : Int) - (n : Int) := by rw [IntKind.wrap_i64]; omega
      have HF := Lib.hid hfin
      clear hwm hbM hbB hgB frB hfin c0 c2 f2 hp HI hbr hfr hbi hd H HL hlen2 hN hs
      go_wp2_with fail
      (with_reducible refine hse.out.mono ?_)
      rintro e w5 ⟨⟨v, rfl⟩, hb5, f5⟩
      have HF5 := Lib.hid (HF.out _ hb5 f5)
      clear hb5 f5
      go_wp2
      go_ret
      exact HF5.out
set_option maxRecDepth 100000 in
set_option maxHeartbeats 2000000 in
theorem drop_over (w : World) (b g : Nat) (Cs : List Int) (f : Nat) (L : List Int) (M : RM) (ni : Int) (h : RingAt w b g Cs f L M) (h1 : 0 < L.length) (hni : (L.length : Int) < ni) :
    Calls Tryd.prog 67 #[.pointer (some ⟨b, 0, none⟩), .int .i64 ni] w (PPost w b g (L.drop L.length) (M.sized (0)) (.int .i64 L.length)) := by
  obtain ⟨N, hN⟩ : ∃ N, N = Cs.length := ⟨_, rfl⟩
  have hle := h.ho.le
  have hlo := h.ho.lt
  have hNm := h.le
  have hm64 := h.m64
  have hbg := h.ne
  have hgb := Ne.symm hbg
  obtain ⟨w0, hw0⟩ : ∃ w0, w0 = w.alloc (.cells (pcells 0).toArray 65) := ⟨_, rfl⟩
  obtain ⟨z, hz⟩ : ∃ z, z = w.heap.size := ⟨_, rfl⟩
  have f0 : Fr [] w w0 := by rw [hw0]; exact (Fr.refl [] w).alloc _
  have hR0 := h.fr f0 (by simp) (by simp)
  have hZ0 : Blk w0 z (pcells 0).toArray 65 := by rw [hw0, hz]; exact Blk.new w _ 65
  have hzg : z ≠ g := by have := h.pl.lt; omega
  have hzb : z ≠ b := by have := h.hd.lt; omega
  have hl := len_any w0 b g Cs f L M hR0
  obtain ⟨s, hs⟩ : ∃ s, s = L.length := ⟨_, rfl⟩
  rw [← hs] at hle hl h1 hni ⊢
  rw [← hN] at hlo hNm hle
  have HL := Lib.hid hl
  have H := Lib.hid (And.intro hR0 (And.intro hZ0 (And.intro f0 (And.intro hz (And.intro hN hs)))))
  clear h hR0 hZ0 f0 hl hN hs
  have hni2 : ¬ ni < (s : Int) := by omega
  go_enter Tryd.func67, Tryd.ntmps67
  go_wp2_with fail
  simp only [zero_pcells, ← hz]
  rw [← hw0]
  clear hw0 hz
  (with_reducible refine HL.out.mono ?_)
  rintro e w1 ⟨rfl, rfl⟩
  go_wp2_with fail
  go_loopw [6, 13] (fun _ i wr => ∃ k : Nat, i = .int .i64 k ∧ k ≤ s ∧ Blk wr g (pls (wipe Cs f 0 k)).toArray 65 ∧ Fr [g] w0 wr) (fun _ i _ => s - (intOf i).toNat)
  case atStart => exact ⟨0, rfl, Nat.zero_le _, H.out.1.pl, Fr.refl _ _⟩
  case round =>
    obtain ⟨k, rfl, hk, hbr, hfr⟩ := hrel
    obtain ⟨wi, rfl⟩ : ∃ wi : World, wi = wr := ⟨_, rfl⟩
    obtain ⟨hR0, hZ0, f0, hz, hN, hs⟩ := H.out
    have hb0 := hR0.hd
    have hbi := hfr.blk hb0 (by simpa using hbg)
    by_cases hlt : k < s
    · have c0 := hbi.at 0 (v := .slice (some ⟨g, 0, none⟩) Cs.length Cs.length) rfl
      have c2 := hbi.at 2 (v := .int .i64 f) rfl
      rw [← hN] at c0
      obtain ⟨q, hq⟩ : ∃ q, (f + k) % N = q := ⟨_, rfl⟩
      have hqN : q < N := by rw [← hq]; exact Nat.mod_lt _ (by omega)
      have hqw : q < (wipe Cs f 0 k).length := by rw [wipe_len, ← hN]; exact hqN
      have hcan := hbr.prCan hqw
      have hzv := (hfr.blk hZ0 (by simpa using hzg)).prOne
      have hstep : (wipe Cs f 0 k).set q 0 = wipe Cs f 0 (k + 1) := by rw [wipe, ← hN, hq]
      have HI := Lib.hid (And.intro hbr (And.intro hfr (And.intro hstep hqw)))
      have hp := Lib.hid (fun (W : World) (d0 : W.cell? ⟨b, 0, none⟩ = some (.slice (some ⟨g, 0, none⟩) N N)) (d2 : W.cell? ⟨b, 2, none⟩ = some (.int .i64 f)) => place_any W b g N f k d0 d2 (by omega) (by omega) hlo (by omega))
      rw [hq] at hp
      have k1 : (0 : Int) ≤ (k : Int) := by omega
      have q1 : (0 : Int) ≤ (q : Int) := by omega
      have q2 : (q : Int) < (N : Int) := by omega
      clear hbr hfr hstep hq hb0 hbi hN hs hR0 hZ0 f0 hz hqw
      go_wp2_with fail
      go_region_held3 (fun w' => w'.cell? ⟨b, 0, none⟩ = some (.slice (some ⟨g, 0, none⟩) N N) ∧ w'.cell? ⟨b, 2, none⟩ = some (.int .i64 f) ∧ pr? w' z 0 = some (pval 0)) ((try simp only [World.cell?_drew, World.cell?_drewN, pr_drew, pr_drewN, cell_layPr' _ _ _ _ _ _ hbg, pr_layPr _ _ _ _ _ _ hzg]; exact ⟨c0, c2, hzv⟩))
        ((go_at_call 97; refine (hp.out _ (by exact c0) (by exact c2)).mono ?_; rintro e w4 ⟨rfl, mm, rfl⟩))
      go_wp2_with fail
      go_roundw
      case rel =>
        refine ⟨k + 1, by go_num, by omega, ?_, ?_⟩
        · rw [← HI.out.2.2.1]
          exact Blk.setPr (W := _) HI.out.1 HI.out.2.2.2 0
        · exact (HI.out.2.1.drewN _).setPr _ _ (.inl (by simp))
      case measure => simp [intOf]; omega
    · obtain rfl : s = k := by omega
      have hlen2 : (wipe Cs f 0 s).length = N := by rw [wipe_len, hN]
      have hd := hR0.ho.drop 0 s (by omega)
      obtain ⟨q, hq⟩ : ∃ q, (f + s) % N = q := ⟨_, rfl⟩
      rw [← hN, hq] at hd
      have c0 := hbi.at 0 (v := .slice (some ⟨g, 0, none⟩) Cs.length Cs.length) rfl
      have c2 := hbi.at 2 (v := .int .i64 f) rfl
      rw [← hN] at c0
      have f2 := hbi.free 2
      have hp := Lib.hid (fun (W : World) (d0 : W.cell? ⟨b, 0, none⟩ = some (.slice (some ⟨g, 0, none⟩) N N)) (d2 : W.cell? ⟨b, 2, none⟩ = some (.int .i64 f)) => place_any W b g N f s d0 d2 (by omega) (by omega) hlo (by omega))
      rw [hq] at hp
      have HI := Lib.hid (And.intro hbr (And.intro ((f0.mono (T := [b, g]) (by simp)).trans (hfr.mono (T := [b, g]) (by simp)) (fun x hx => .inl hx)) (And.intro hbi (And.intro hd (And.intro hN hs)))))
      clear hq hbr hfr hbi hb0 hd hN hs hR0 hZ0 f0 hz
      go_wp2_with fail
      (with_reducible refine (hp.out _ c0 c2).mono ?_)
      rintro e w4 ⟨rfl, mm, rfl⟩
      generalize hwm : World.drewN wi mm = wm
      obtain ⟨hbr, hfr, hbi, hd, hN, hs⟩ := HI.out
      rw [← hs] at hbi
      have hbM : Blk wm b (hdr g Cs.length f s M) 103 := by rw [← hwm]; exact hbi.drewN mm
      have hbB : Blk (wm.setCell ⟨b, 2, none⟩ (.int .i64 q)) b (hdr g Cs.length q s M) 103 := hbM.set 2 (.int .i64 q)
      have hgB := Blk.other (w := wm) (by rw [← hwm]; exact hbr.drewN mm) ⟨b, 2, none⟩ (.int .i64 q) hgb
      have frB : Fr [b, g] w (wm.setCell ⟨b, 2, none⟩ (.int .i64 q)) := by rw [← hwm]; exact ((hfr.mono (T := [b, g]) (by simp)).drewN _).setCell _ _ (.inl (by simp))
      have m3 := hbM.at 3 (v := .int .i64 s) rfl
      have m2 := hbM.at 2 (v := .int .i64 f) rfl
      have g2 := hbM.free 2
      have d3 := hbB.at 3 (v := .int .i64 s) rfl
      have hse := Lib.hid (sized_any _ b g Cs.length q s M (0) (0) (by omega) hbB (by omega))
      have hfin : ∀ w', Blk w' b (hdr g Cs.length q (0) (M.sized (0))) 103 → Fr [b] (wm.setCell ⟨b, 2, none⟩ (.int .i64 q)) w' → PPost w b g (L.drop s) (M.sized (0)) (.int .i64 s) (.returned (.int .i64 s)) w' := by
        intro w' hb' f'
        refine ⟨rfl, g, wipe Cs f 0 s, q, ⟨?_, f'.blk hgB (by simpa using hgb), hd, by rw [hlen2]; exact hNm, hm64⟩, .inl rfl, frB.trans f' (by simp)⟩
        rw [List.length_drop, ← hs, hlen2, hN, Nat.sub_self]
        exact hb'
      have hsn : IntKind.i64.wrap ((s : Int) - (s : Int)) = (s : Int) - (s : Int) := by rw [IntKind.wrap_i64]; omega
      have HF := Lib.hid hfin
      clear hwm hbM hbB hgB frB hfin c0 c2 f2 hp HI hbr hfr hbi hd H HL hlen2 hN hs
      go_wp2_with fail
      (with_reducible refine hse.out.mono ?_)
      rintro e w5 ⟨⟨v, rfl⟩, hb5, f5⟩
      have HF5 := Lib.hid (HF.out _ hb5 f5)
      clear hb5 f5
      go_wp2
      go_ret
      exact HF5.out
theorem drop_any (w : World) (b g : Nat) (Cs : List Int) (f : Nat) (L : List Int) (M : RM) (ni : Int) (h : RingAt w b g Cs f L M) :
    Calls Tryd.prog 67 #[.pointer (some ⟨b, 0, none⟩), .int .i64 ni] w (PPost w b g (L.drop (dropN L.length ni)) (dropM M L.length (dropN L.length ni)) (.int .i64 (dropN L.length ni))) := by
  by_cases hz : ni ≤ 0 ∨ L.length = 0
  · have e : dropN L.length ni = 0 := by unfold dropN; omega
    rw [e]
    refine (drop_zero w b g Cs f L M ni h hz).mono ?_
    rintro e w' ⟨rfl, f'⟩
    exact ⟨rfl, g, Cs, f, h.fr f' (by simp) (by simp), .inl rfl, f'.mono (by simp)⟩
  · by_cases h2 : ni ≤ L.length
    · obtain ⟨n, rfl⟩ : ∃ n : Nat, ni = n := ⟨ni.toNat, by omega⟩
      have e : dropN L.length n = n := by unfold dropN; omega
      rw [e, show dropM M L.length n = M.sized (L.length - n) by unfold dropM; rw [if_neg (by omega)]]
      exact drop_in w b g Cs f L M n h (by omega) (by omega)
    · have e : dropN L.length ni = L.length := by unfold dropN; omega
      rw [e, show dropM M L.length L.length = M.sized 0 by unfold dropM; rw [if_neg (by omega), Nat.sub_self]]
      exact drop_over w b g Cs f L M ni h (by omega) (by omega)
attribute [local go_sem] pr_layPr_same can_new run_storePr0
/-- Pop. -/
theorem pop_any (w : World) (b g : Nat) (Cs : List Int) (f : Nat) (L : List Int) (M : RM) (h : RingAt w b g Cs f L M) :
    Calls Tryd.prog 56 #[.pointer (some ⟨b, 0, none⟩)] w (PPost w b g (L.drop 1) (dropM M L.length (min 1 L.length)) (atRes L 0)) := by
  obtain ⟨w1, hw1⟩ : ∃ w1, w1 = w.alloc (.cells (pcells 0).toArray 65) := ⟨_, rfl⟩
  obtain ⟨z, hz⟩ : ∃ z, z = w.heap.size := ⟨_, rfl⟩
  have f1 : Fr [] w w1 := by rw [hw1]; exact (Fr.refl [] w).alloc _
  have hZ1 : Blk w1 z (pcells 0).toArray 65 := by rw [hw1, hz]; exact Blk.new w _ 65
  have hR1 := h.fr f1 (by simp) (by simp)
  have ha := Lib.hid (at_any w1 b g Cs f L M 0 hR1)
  have HR1 := Lib.hid hR1
  have HD := Lib.hid (fun W (f' : Fr [] w1 W) => drop_any W b g Cs f L M 1 (hR1.fr f' (by simp) (by simp)))
  have hdd : dropN L.length 1 = min 1 L.length := by unfold dropN; omega
  have hdl : L.drop (min 1 L.length) = L.drop 1 := by
    cases L with
    | nil => rfl
    | cons a l => simp
  rw [hdd, hdl] at HD
  have HR : ∃ x ok, atRes L 0 = .tuple #[pval x, .bool ok] := by unfold atRes; split <;> exact ⟨_, _, rfl⟩
  obtain ⟨x, ok, hx⟩ := HR
  rw [hx] at ha ⊢
  have hzb : b ≠ z := by have := h.hd.lt; omega
  have hzg : g ≠ z := by have := h.pl.lt; omega
  have HH := Lib.hid (And.intro f1 (And.intro hZ1 (And.intro hzb (And.intro hzg (show w.heap.size ≤ z by omega)))))
  clear h hdd hdl hx f1 hR1 hzb hzg
  go_enter Tryd.func56, Tryd.ntmps56
  go_upto_region 1 with fail
  simp only [zero_pcells, ← hz]
  rw [← hw1]
  clear hw1 hz
  go_wp2_with fail
  (with_reducible refine ha.out.mono ?_)
  rintro e w2 ⟨rfl, f2⟩
  obtain ⟨y, hy⟩ : ∃ y, y = w2.heap.size := ⟨_, rfl⟩
  obtain ⟨w3, hw3⟩ : ∃ w3, w3 = layPr (w2.alloc (.cells (pcells 0).toArray 65)) y 0 x := ⟨_, rfl⟩
  have hY3 : Blk w3 y (pcells x).toArray 65 := by rw [hw3, hy]; exact (Blk.new w2 (pcells 0).toArray 65).setPrOne
  have hcan : can2 (w2.alloc (.cells (pcells 0).toArray 65)) y 0 = true := by rw [hy]; exact (Blk.new w2 (pcells 0).toArray 65).prOneCan
  have f3 : Fr [] w2 w3 := by rw [hw3]; exact ((Fr.refl [] w2).alloc _).setPr 0 x (.inr (by omega))
  have hyz : y ≠ z := by have := (f2.blk hZ1 (by simp)).lt; omega
  have hRb := HR1.out.fr f2 (by simp) (by simp)
  have hbw := hRb.hd.lt
  have hgw := hRb.pl.lt
  have hfs := f2.size
  have HY := Lib.hid (And.intro hY3 (And.intro f3 (And.intro f2 (And.intro hyz (show y ≠ b ∧ y ≠ g by omega)))))
  clear hY3 f2 f3 hZ1 hyz hRb hbw hgw hfs
  go_upto_region 2 with fail
  simp only [zero_pcells, ← hy]
  rw [← hw3]
  clear hw3 hy hcan
  go_wp2_with fail
  (with_reducible refine (HD.out w3 (HY.out.2.2.1.trans HY.out.2.1 (by simp))).mono ?_)
  rintro e w4 ⟨rfl, g', Cs', f', h3, h4, h5⟩
  have hY4 := h5.blk HY.out.1 (by simp; exact HY.out.2.2.2.2)
  have hZ4 := h5.blk (HY.out.2.1.blk (HY.out.2.2.1.blk HH.out.2.1 (by simp)) (by simp)) (by simp; exact ⟨Ne.symm HH.out.2.2.1, Ne.symm HH.out.2.2.2.1⟩)
  have y1 := hY4.prOne
  have z1 := hZ4.prOneCan
  have hgz : g' ≠ z := by
    have hz9 := (HY.out.2.1.blk (HY.out.2.2.1.blk HH.out.2.1 (by simp)) (by simp)).lt
    rcases h4 with h4 | h4
    · rw [h4]; exact HH.out.2.2.2.1
    · omega
  have HZ := Lib.hid (show pr? (layPr w4 z 0 x) z 0 = some (pval x) from hZ4.setPrOne.prOne)
  have f6 : Fr [z] w4 (layPr w4 z 0 x) := (Fr.refl _ _).setPr 0 x (.inl (by simp))
  have hs1 := HH.out.1.size
  have hs2 := HY.out.2.2.1.size
  have hs3 := HY.out.2.1.size
  have f4 : Fr [b, g] w w4 := (((HH.out.1.trans HY.out.2.2.1 (by simp)).trans HY.out.2.1 (by simp)).mono (by simp)).trans h5 (fun u hu => .inl hu)
  have HX := Lib.hid (show PPost w b g (L.drop 1) (dropM M L.length (min 1 L.length)) (.tuple #[pval x, .bool ok]) (.returned (.tuple #[pval x, .bool ok])) (layPr w4 z 0 x) from
    ⟨rfl, g', Cs', f', h3.fr f6 (by simpa using HH.out.2.2.1) (by simpa using hgz), by rcases h4 with h4 | h4; exact .inl h4; exact .inr (by omega), f4.trans f6 (fun u hu => by simp at hu; subst hu; exact .inr HH.out.2.2.2.2)⟩)
  clear h3 h4 h5 hY4 hZ4 f6 hs1 hs2 hs3 f4 hgz
  go_wp2
  refine bodyPost_ret (v := .tuple #[pval x, .bool ok]) (results_pt rfl _ _ z 0 _ _ rfl rfl HZ.out) rfl HX.out

end Go.Proofs.YtiimmndhinoaiaaDoor.RgP
