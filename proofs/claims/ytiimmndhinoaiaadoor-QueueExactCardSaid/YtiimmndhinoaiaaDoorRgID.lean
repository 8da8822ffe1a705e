/-
  A ring: Drop and Pop. Printed by genRg.py.
-/
import Derived.Test.YtiimmndhinoaiaaDoorRgIC
namespace Go.Proofs.YtiimmndhinoaiaaDoor.RgI
open Go.RowKit ring
set_option linter.unusedVariables false
set_option linter.unusedSimpArgs false
attribute [local go_sem] Oper.semAt_some
attribute [local go_sem ↓] Go.wp_at_zero Go.wp_at_succ

/-- What Drop does to the marks. -/
def dropM (M : RM) (len n : Nat) : RM := if n = 0 then M else M.sized (len - n)
theorem drop_zero (w : World) (b g : Nat) (Cs : List Int) (f : Nat) (L : List Int) (M : RM) (ni : Int) (h : RingAt w b g Cs f L M) (hz : ni ≤ 0 ∨ L.length = 0) :
    Calls Tryd.prog 91 #[.pointer (some ⟨b, 0, none⟩), .int .i64 ni] w fun e w' => e = .returned (.int .i64 0) ∧ w = w' := by
  have hl := Lib.hid (len_any w b g Cs f L M h)
  clear h
  generalize L.length = s at *
  have hmm : max (0 : Int) (min ni s) = 0 := by omega
  have hm1 : min ni (s : Int) ≤ 0 := by omega
  by_cases h1 : ni < (s : Int)
  · have h2 : ni ≤ 0 := by omega
    go_enter Tryd.func91, Tryd.ntmps91
    go_wp2_with (go_at_call 46; refine hl.out.mono ?_; rintro e w1 ⟨rfl, rfl⟩)
    all_goals
      go_loopw [6, 13] (fun _ i wr => i = .int .i64 0 ∧ wr = w) (fun _ i _ => 0)
      case atStart => exact ⟨rfl, rfl⟩
      case round =>
        obtain ⟨rfl, rfl⟩ := hrel
        go_wp2_with fail
        go_ret
        first
          | exact ⟨rfl, rfl⟩
          | exact ⟨ret_int (by omega), rfl⟩
  · obtain rfl : s = 0 := by omega
    have h2 : ¬ ni < 0 := by omega
    go_enter Tryd.func91, Tryd.ntmps91
    go_wp2_with (go_at_call 46; refine hl.out.mono ?_; rintro e w1 ⟨rfl, rfl⟩)
    all_goals
      go_loopw [6, 13] (fun _ i wr => i = .int .i64 0 ∧ wr = w) (fun _ i _ => 0)
      case atStart => exact ⟨rfl, rfl⟩
      case round =>
        obtain ⟨rfl, rfl⟩ := hrel
        go_wp2_with fail
        go_ret
        first
          | exact ⟨rfl, rfl⟩
          | exact ⟨ret_int (by omega), rfl⟩

set_option maxRecDepth 100000 in
set_option maxHeartbeats 2000000 in
theorem drop_in (w : World) (b g : Nat) (Cs : List Int) (f : Nat) (L : List Int) (M : RM) (n : Nat) (h : RingAt w b g Cs f L M) (h1 : 0 < n) (hn : n ≤ L.length) :
    Calls Tryd.prog 91 #[.pointer (some ⟨b, 0, none⟩), .int .i64 n] w (PPost w b g (L.drop n) (M.sized (L.length - n)) (.int .i64 n)) := by
  obtain ⟨N, hN⟩ : ∃ N, N = Cs.length := ⟨_, rfl⟩
  have hl := Lib.hid (len_any w b g Cs f L M h)
  have H := Lib.hid h
  have hle := h.ho.le
  have hlo := h.ho.lt
  have hNm := h.le
  have hm64 := h.m64
  have hbg := h.ne
  have hgb := Ne.symm hbg
  obtain ⟨s, hs⟩ : ∃ s, s = L.length := ⟨_, rfl⟩
  rw [← hs] at hl hle hn ⊢
  rw [← hN] at hlo hNm hle
  have HE := Lib.hid (And.intro hN hs)
  clear h hN hs
  go_enter Tryd.func91, Tryd.ntmps91
  go_wp2_with (go_at_call 46; refine hl.out.mono ?_; rintro e w1 ⟨rfl, rfl⟩)
  go_loopw [6, 13] (fun _ i wr => ∃ k : Nat, i = .int .i64 k ∧ k ≤ n ∧ Blk wr g (ints (wipe Cs f 0 k)).toArray 3 ∧ Fr [g] w wr) (fun _ i _ => n - (intOf i).toNat)
  case atStart => exact ⟨0, rfl, Nat.zero_le _, H.out.pl, Fr.refl _ _⟩
  case round =>
    obtain ⟨k, rfl, hk, hbr, hfr⟩ := hrel
    obtain ⟨wi, rfl⟩ : ∃ wi : World, wi = wr := ⟨_, rfl⟩
    have hb0 := H.out.hd
    obtain ⟨hN, hs⟩ := HE.out
    have hbi := hfr.blk hb0 (by simpa using hbg)
    by_cases hlt : k < n
    · have c0 := hbi.at 0 (v := .slice (some ⟨g, 0, none⟩) Cs.length Cs.length) rfl
      have c2 := hbi.at 2 (v := .int .i64 f) rfl
      rw [← hN] at c0
      obtain ⟨q, hq⟩ : ∃ q, (f + k) % N = q := ⟨_, rfl⟩
      have hqN : q < N := by rw [← hq]; exact Nat.mod_lt _ (by omega)
      obtain ⟨y, hy⟩ := els_some hbr (k := q) (by rw [wipe_len, ← hN]; exact hqN)
      have fy := hbr.free q
      have hstep : (wipe Cs f 0 k).set q 0 = wipe Cs f 0 (k + 1) := by rw [wipe, ← hN, hq]
      have HI := Lib.hid (And.intro hbr (And.intro hfr hstep))
      have hp := Lib.hid (fun (W : World) (d0 : W.cell? ⟨b, 0, none⟩ = some (.slice (some ⟨g, 0, none⟩) N N)) (d2 : W.cell? ⟨b, 2, none⟩ = some (.int .i64 f)) => place_any W b g N f k d0 d2 (by omega) (by omega) hlo (by omega))
      rw [hq] at hp
      have k1 : (0 : Int) ≤ (k : Int) := by omega
      have q1 : (0 : Int) ≤ (q : Int) := by omega
      have q2 : (q : Int) < (N : Int) := by omega
      clear hbr hfr hstep hq hb0 hbi hN hs
      go_wp2_with fail
      go_region_held3 (fun w' => w'.cell? ⟨b, 0, none⟩ = some (.slice (some ⟨g, 0, none⟩) N N) ∧ w'.cell? ⟨b, 2, none⟩ = some (.int .i64 f)) (first | exact ⟨c0, c2⟩ | go_keep)
        ((go_at_call 88; refine (hp.out _ (by exact c0) (by exact c2)).mono ?_; rintro e w4 ⟨rfl, mm, rfl⟩))
      go_wp2_with fail
      go_roundw
      case rel =>
        refine ⟨k + 1, by go_num, by omega, ?_, ?_⟩
        · rw [← HI.out.2.2]
          exact Blk.els_put (W := _) HI.out.1 0
        · exact (HI.out.2.1.drewN _).setCell _ _ (.inl (by simp))
      case measure => simp [intOf]; omega
    · obtain rfl : n = k := by omega
      have hlen2 : (wipe Cs f 0 n).length = N := by rw [wipe_len, hN]
      have hd := H.out.ho.drop 0 n (by omega)
      obtain ⟨q, hq⟩ : ∃ q, (f + n) % N = q := ⟨_, rfl⟩
      rw [← hN, hq] at hd
      have c0 := hbi.at 0 (v := .slice (some ⟨g, 0, none⟩) Cs.length Cs.length) rfl
      have c2 := hbi.at 2 (v := .int .i64 f) rfl
      rw [← hN] at c0
      have f2 := hbi.free 2
      have hp := Lib.hid (fun (W : World) (d0 : W.cell? ⟨b, 0, none⟩ = some (.slice (some ⟨g, 0, none⟩) N N)) (d2 : W.cell? ⟨b, 2, none⟩ = some (.int .i64 f)) => place_any W b g N f n d0 d2 (by omega) (by omega) hlo (by omega))
      rw [hq] at hp
      have HI := Lib.hid (And.intro hbr (And.intro hfr (And.intro hbi hd)))
      clear hq hbr hfr hbi hb0 hd hN hs
      go_wp2_with fail
      (with_reducible refine (hp.out _ c0 c2).mono ?_)
      rintro e w4 ⟨rfl, mm, rfl⟩
      generalize hwm : World.drewN wi mm = wm
      obtain ⟨hbr, hfr, hbi, hd⟩ := HI.out
      obtain ⟨hN, hs⟩ := HE.out
      rw [← hs] at hbi
      have hbM : Blk wm b (hdr g Cs.length f s M) 118 := by rw [← hwm]; exact hbi.drewN mm
      have hbB : Blk (wm.setCell ⟨b, 2, none⟩ (.int .i64 q)) b (hdr g Cs.length q s M) 118 := hbM.set 2 (.int .i64 q)
      have hgB := Blk.other (w := wm) (by rw [← hwm]; exact hbr.drewN mm) ⟨b, 2, none⟩ (.int .i64 q) hgb
      have frB : Fr [b, g] w (wm.setCell ⟨b, 2, none⟩ (.int .i64 q)) := by rw [← hwm]; exact ((hfr.mono (T := [b, g]) (by simp)).drewN _).setCell _ _ (.inl (by simp))
      have m3 := hbM.at 3 (v := .int .i64 s) rfl
      have m2 := hbM.at 2 (v := .int .i64 f) rfl
      have g2 := hbM.free 2
      have d3 := hbB.at 3 (v := .int .i64 s) rfl
      have hse := Lib.hid (sized_any _ b g Cs.length q s M ((s : Int) - (n : Int)) (s - n) (by omega) hbB (by omega))
      have hfin : ∀ w', Blk w' b (hdr g Cs.length q (s - n) (M.sized (s - n))) 118 → Fr [b] (wm.setCell ⟨b, 2, none⟩ (.int .i64 q)) w' → PPost w b g (L.drop n) (M.sized (s - n)) (.int .i64 n) (.returned (.int .i64 n)) w' := by
        intro w' hb' f'
        refine ⟨rfl, g, wipe Cs f 0 n, q, ⟨?_, f'.blk hgB (by simpa using hgb), hd, by rw [hlen2]; exact hNm, hm64⟩, .inl rfl, frB.trans f' (by simp)⟩
        rw [List.length_drop, ← hs, hlen2, hN]
        exact hb'
      have hsn : IntKind.i64.wrap ((s : Int) - (n : Int)) = (s : Int) - (n : Int) := by rw [IntKind.wrap_i64]; omega
      have HF := Lib.hid hfin
      clear hwm hbM hbB hgB frB hfin c0 c2 f2 hp HI hbr hfr hbi hd H hl hlen2 hN hs HE
      go_wp2_with fail
      (with_reducible refine hse.out.mono ?_)
      rintro e w5 ⟨⟨v, rfl⟩, hb5, f5⟩
      have HF5 := Lib.hid (HF.out _ hb5 f5)
      clear hb5 f5
      go_wp2
      go_ret
      exact HF5.out

set_option maxRecDepth 100000 in
set_option maxHeartbeats 2000000 in
theorem drop_over (w : World) (b g : Nat) (Cs : List Int) (f : Nat) (L : List Int) (M : RM) (ni : Int) (h : RingAt w b g Cs f L M) (h1 : 0 < L.length) (hni : (L.length : Int) < ni) :
    Calls Tryd.prog 91 #[.pointer (some ⟨b, 0, none⟩), .int .i64 ni] w (PPost w b g (L.drop L.length) (M.sized 0) (.int .i64 L.length)) := by
  obtain ⟨N, hN⟩ : ∃ N, N = Cs.length := ⟨_, rfl⟩
  have hl := Lib.hid (len_any w b g Cs f L M h)
  have H := Lib.hid h
  have hle := h.ho.le
  have hlo := h.ho.lt
  have hNm := h.le
  have hm64 := h.m64
  have hbg := h.ne
  have hgb := Ne.symm hbg
  obtain ⟨s, hs⟩ : ∃ s, s = L.length := ⟨_, rfl⟩
  rw [← hs] at hl hle h1 hni ⊢
  rw [← hN] at hlo hNm hle
  have HE := Lib.hid (And.intro hN hs)
  clear h hN hs
  have hni2 : ¬ ni < (s : Int) := by omega
  go_enter Tryd.func91, Tryd.ntmps91
  go_wp2_with (go_at_call 46; refine hl.out.mono ?_; rintro e w1 ⟨rfl, rfl⟩)
  go_loopw [6, 13] (fun _ i wr => ∃ k : Nat, i = .int .i64 k ∧ k ≤ s ∧ Blk wr g (ints (wipe Cs f 0 k)).toArray 3 ∧ Fr [g] w wr) (fun _ i _ => s - (intOf i).toNat)
  case atStart => exact ⟨0, rfl, Nat.zero_le _, H.out.pl, Fr.refl _ _⟩
  case round =>
    obtain ⟨k, rfl, hk, hbr, hfr⟩ := hrel
    obtain ⟨wi, rfl⟩ : ∃ wi : World, wi = wr := ⟨_, rfl⟩
    have hb0 := H.out.hd
    obtain ⟨hN, hs⟩ := HE.out
    have hbi := hfr.blk hb0 (by simpa using hbg)
    by_cases hlt : k < s
    · have c0 := hbi.at 0 (v := .slice (some ⟨g, 0, none⟩) Cs.length Cs.length) rfl
      have c2 := hbi.at 2 (v := .int .i64 f) rfl
      rw [← hN] at c0
      obtain ⟨q, hq⟩ : ∃ q, (f + k) % N = q := ⟨_, rfl⟩
      have hqN : q < N := by rw [← hq]; exact Nat.mod_lt _ (by omega)
      obtain ⟨y, hy⟩ := els_some hbr (k := q) (by rw [wipe_len, ← hN]; exact hqN)
      have fy := hbr.free q
      have hstep : (wipe Cs f 0 k).set q 0 = wipe Cs f 0 (k + 1) := by rw [wipe, ← hN, hq]
      have HI := Lib.hid (And.intro hbr (And.intro hfr hstep))
      have hp := Lib.hid (fun (W : World) (d0 : W.cell? ⟨b, 0, none⟩ = some (.slice (some ⟨g, 0, none⟩) N N)) (d2 : W.cell? ⟨b, 2, none⟩ = some (.int .i64 f)) => place_any W b g N f k d0 d2 (by omega) (by omega) hlo (by omega))
      rw [hq] at hp
      have k1 : (0 : Int) ≤ (k : Int) := by omega
      have q1 : (0 : Int) ≤ (q : Int) := by omega
      have q2 : (q : Int) < (N : Int) := by omega
      clear hbr hfr hstep hq hb0 hbi hN hs
      go_wp2_with fail
      go_region_held3 (fun w' => w'.cell? ⟨b, 0, none⟩ = some (.slice (some ⟨g, 0, none⟩) N N) ∧ w'.cell? ⟨b, 2, none⟩ = some (.int .i64 f)) (first | exact ⟨c0, c2⟩ | go_keep)
        ((go_at_call 88; refine (hp.out _ (by exact c0) (by exact c2)).mono ?_; rintro e w4 ⟨rfl, mm, rfl⟩))
      go_wp2_with fail
      go_roundw
      case rel =>
        refine ⟨k + 1, by go_num, by omega, ?_, ?_⟩
        · rw [← HI.out.2.2]
          exact Blk.els_put (W := _) HI.out.1 0
        · exact (HI.out.2.1.drewN _).setCell _ _ (.inl (by simp))
      case measure => simp [intOf]; omega
    · obtain rfl : s = k := by omega
      have hlen2 : (wipe Cs f 0 s).length = N := by rw [wipe_len, hN]
      have hd := H.out.ho.drop 0 s (by omega)
      obtain ⟨q, hq⟩ : ∃ q, (f + s) % N = q := ⟨_, rfl⟩
      rw [← hN, hq] at hd
      have c0 := hbi.at 0 (v := .slice (some ⟨g, 0, none⟩) Cs.length Cs.length) rfl
      have c2 := hbi.at 2 (v := .int .i64 f) rfl
      rw [← hN] at c0
      have f2 := hbi.free 2
      have hp := Lib.hid (fun (W : World) (d0 : W.cell? ⟨b, 0, none⟩ = some (.slice (some ⟨g, 0, none⟩) N N)) (d2 : W.cell? ⟨b, 2, none⟩ = some (.int .i64 f)) => place_any W b g N f s d0 d2 (by omega) (by omega) hlo (by omega))
      rw [hq] at hp
      have HI := Lib.hid (And.intro hbr (And.intro hfr (And.intro hbi hd)))
      clear hq hbr hfr hbi hb0 hd hN hs
      go_wp2_with fail
      (with_reducible refine (hp.out _ c0 c2).mono ?_)
      rintro e w4 ⟨rfl, mm, rfl⟩
      generalize hwm : World.drewN wi mm = wm
      obtain ⟨hbr, hfr, hbi, hd⟩ := HI.out
      obtain ⟨hN, hs⟩ := HE.out
      rw [← hs] at hbi
      have hbM : Blk wm b (hdr g Cs.length f s M) 118 := by rw [← hwm]; exact hbi.drewN mm
      have hbB : Blk (wm.setCell ⟨b, 2, none⟩ (.int .i64 q)) b (hdr g Cs.length q s M) 118 := hbM.set 2 (.int .i64 q)
      have hgB := Blk.other (w := wm) (by rw [← hwm]; exact hbr.drewN mm) ⟨b, 2, none⟩ (.int .i64 q) hgb
      have frB : Fr [b, g] w (wm.setCell ⟨b, 2, none⟩ (.int .i64 q)) := by rw [← hwm]; exact ((hfr.mono (T := [b, g]) (by simp)).drewN _).setCell _ _ (.inl (by simp))
      have m3 := hbM.at 3 (v := .int .i64 s) rfl
      have m2 := hbM.at 2 (v := .int .i64 f) rfl
      have g2 := hbM.free 2
      have d3 := hbB.at 3 (v := .int .i64 s) rfl
      have hse := Lib.hid (sized_any _ b g Cs.length q s M (0) (0) (by omega) hbB (by omega))
      have hfin : ∀ w', Blk w' b (hdr g Cs.length q (0) (M.sized (0))) 118 → Fr [b] (wm.setCell ⟨b, 2, none⟩ (.int .i64 q)) w' → PPost w b g (L.drop s) (M.sized (0)) (.int .i64 s) (.returned (.int .i64 s)) w' := by
        intro w' hb' f'
        refine ⟨rfl, g, wipe Cs f 0 s, q, ⟨?_, f'.blk hgB (by simpa using hgb), hd, by rw [hlen2]; exact hNm, hm64⟩, .inl rfl, frB.trans f' (by simp)⟩
        rw [List.length_drop, ← hs, hlen2, hN, Nat.sub_self]
        exact hb'
      have hsn : IntKind.i64.wrap ((s : Int) - (s : Int)) = (s : Int) - (s : Int) := by rw [IntKind.wrap_i64]; omega
      have HF := Lib.hid hfin
      clear hwm hbM hbB hgB frB hfin c0 c2 f2 hp HI hbr hfr hbi hd H hl hlen2 hN hs HE
      go_wp2_with fail
      (with_reducible refine hse.out.mono ?_)
      rintro e w5 ⟨⟨v, rfl⟩, hb5, f5⟩
      have HF5 := Lib.hid (HF.out _ hb5 f5)
      clear hb5 f5
      go_wp2
      go_ret
      exact HF5.out

/-- How many Drop takes off. -/
def dropN (len : Nat) (n : Int) : Nat := (max 0 (min n (len : Int))).toNat
theorem drop_any (w : World) (b g : Nat) (Cs : List Int) (f : Nat) (L : List Int) (M : RM) (ni : Int) (h : RingAt w b g Cs f L M) :
    Calls Tryd.prog 91 #[.pointer (some ⟨b, 0, none⟩), .int .i64 ni] w (PPost w b g (L.drop (dropN L.length ni)) (dropM M L.length (dropN L.length ni)) (.int .i64 (dropN L.length ni))) := by
  by_cases hz : ni ≤ 0 ∨ L.length = 0
  · have e : dropN L.length ni = 0 := by unfold dropN; omega
    rw [e]
    refine (drop_zero w b g Cs f L M ni h hz).mono ?_
    rintro e w' ⟨rfl, rfl⟩
    exact ⟨rfl, g, Cs, f, h, .inl rfl, Fr.refl _ _⟩
  · by_cases h2 : ni ≤ L.length
    · obtain ⟨n, rfl⟩ : ∃ n : Nat, ni = n := ⟨ni.toNat, by omega⟩
      have e : dropN L.length n = n := by unfold dropN; omega
      rw [e, show dropM M L.length n = M.sized (L.length - n) by unfold dropM; rw [if_neg (by omega)]]
      exact drop_in w b g Cs f L M n h (by omega) (by omega)
    · have e : dropN L.length ni = L.length := by unfold dropN; omega
      rw [e, show dropM M L.length L.length = M.sized 0 by unfold dropM; rw [if_neg (by omega), Nat.sub_self]]
      exact drop_over w b g Cs f L M ni h (by omega) (by omega)
/-- Pop. -/
theorem pop_any (w : World) (b g : Nat) (Cs : List Int) (f : Nat) (L : List Int) (M : RM) (h : RingAt w b g Cs f L M) :
    Calls Tryd.prog 45 #[.pointer (some ⟨b, 0, none⟩)] w (PPost w b g (L.drop 1) (dropM M L.length (min 1 L.length)) (atRes L 0)) := by
  have ha := Lib.hid (at_any w b g Cs f L M 0 h)
  have H := Lib.hid (fun m => drop_any (w.drewN m) b g Cs f L M 1 (h.drewN m))
  have hdd : dropN L.length 1 = min 1 L.length := by unfold dropN; omega
  have hdl : L.drop (min 1 L.length) = L.drop 1 := by
    cases L with
    | nil => rfl
    | cons a l => simp
  rw [hdd, hdl] at H
  have HR : ∃ x ok, atRes L 0 = .tuple #[.int .i64 x, .bool ok] := by unfold atRes; split <;> exact ⟨_, _, rfl⟩
  obtain ⟨x, ok, hx⟩ := HR
  rw [hx] at ha ⊢
  clear h hdd hdl hx
  go_enter Tryd.func45, Tryd.ntmps45
  go_wp2_with fail
  (with_reducible refine ha.out.mono ?_)
  rintro e w1 ⟨rfl, m, rfl⟩
  go_wp2_with fail
  (with_reducible refine (H.out m).mono ?_)
  rintro e w2 ⟨rfl, g', Cs', f', h3, h4, h5⟩
  have hX := Lib.hid (And.intro h3 (And.intro h4 h5))
  clear h3 h4 h5
  go_wp2_with fail
  go_ret2
  exact ⟨rfl, g', Cs', f', hX.out.1, hX.out.2.1, ((Fr.refl [b, g] w).drewN m).trans hX.out.2.2 (fun x hx => .inl hx)⟩

end Go.Proofs.YtiimmndhinoaiaaDoor.RgI
