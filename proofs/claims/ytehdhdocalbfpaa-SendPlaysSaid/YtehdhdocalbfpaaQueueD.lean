/-
  Drop, Pop of a ring of numbers.
-/
import Derived.Test.YtehdhdocalbfpaaQueueC
namespace Go.Proofs.Ytehdhdocalbfpaa
open Go.RowKit ring
set_option linter.unusedVariables false
attribute [local go_sem ↓] Go.wp_at_zero Go.wp_at_succ

def DropPost (w : World) (b g : Nat) (L : List Int) (most peak n : Nat) (e : Ending) (w' : World) : Prop :=
  e = .returned (.int .i64 n) ∧ ∃ Cs' f', RingAt w' b g Cs' f' (L.drop n) most peak ∧ Fr [b, g] w w'
theorem drop_none (w : World) (b g : Nat) (Cs : List Int) (f : Nat) (most peak : Nat) (h : RingAt w b g Cs f [] most peak) :
    Calls Try.prog 39 #[.pointer (some ⟨b, 0, none⟩), .int .i64 1] w fun e w' => e = .returned (.int .i64 0) ∧ w = w' := by
  have hl : Calls Try.prog 13 #[.pointer (some ⟨b, 0, none⟩)] w fun e w' => e = .returned (.int .i64 0) ∧ w = w' := len_any w b g Cs f [] most peak h
  have HL := Lib.hid hl
  clear h hl
  go_enter Try.func39, Try.ntmps39
  go_wp2_with (go_at_call 13; refine HL.out.mono ?_; rintro e w1 ⟨rfl, rfl⟩)
  go_loopw [6, 13] (fun _ i wr => i = .int .i64 0 ∧ wr = w) (fun _ i _ => 0)
  case atStart => exact ⟨rfl, rfl⟩
  case round =>
    obtain ⟨rfl, rfl⟩ := hrel
    go_wp2_with fail
    go_ret
    exact ⟨rfl, rfl⟩
set_option maxRecDepth 100000 in
set_option maxHeartbeats 2000000 in
theorem drop_some (w : World) (b g : Nat) (Cs : List Int) (f : Nat) (L : List Int) (most peak n : Nat) (h : RingAt w b g Cs f L most peak) (h1 : 0 < n) (hn : n ≤ L.length) :
    Calls Try.prog 39 #[.pointer (some ⟨b, 0, none⟩), .int .i64 n] w (DropPost w b g L most peak n) := by
  obtain ⟨N, hN⟩ : ∃ N, N = Cs.length := ⟨_, rfl⟩
  have hl := Lib.hid (len_any w b g Cs f L most peak h)
  have H := Lib.hid h
  have hle := h.ho.le
  have hlo := h.ho.lt
  have hNm := h.le
  have hm64 := h.m64
  have hbg := h.ne
  have hgb := Ne.symm hbg
  obtain ⟨s, hs⟩ : ∃ s, s = L.length := ⟨_, rfl⟩
  rw [← hs] at hl hn hle
  rw [← hN] at hlo hNm hle
  have HE := Lib.hid (And.intro hN hs)
  clear h hN hs
  go_enter Try.func39, Try.ntmps39
  go_wp2_with (go_at_call 13; refine hl.out.mono ?_; rintro e w1 ⟨rfl, rfl⟩)
  go_loopw [6, 13] (fun _ i wr => ∃ k : Nat, i = .int .i64 k ∧ k ≤ n ∧ Blk wr g (ints (wipe Cs f 0 k)).toArray 3 ∧ Fr [g] w wr) (fun _ i _ => n - (intOf i).toNat)
  case atStart => exact ⟨0, rfl, Nat.zero_le _, H.out.pl, Fr.refl _ _⟩
  case round =>
    obtain ⟨k, rfl, hk, hbr, hfr⟩ := hrel
    obtain ⟨wi, rfl⟩ : ∃ wi : World, wi = wr := ⟨_, rfl⟩
    obtain ⟨r1, hb0⟩ := H.out.hd
    obtain ⟨hN, hs⟩ := HE.out
    have hbi := hfr.blk hb0 (by simpa using hbg)
    by_cases hlt : k < n
    · have c0 := hbi.at 0 (v := .slice (some ⟨g, 0, none⟩) Cs.length Cs.length) rfl
      have c2 := hbi.at 2 (v := .int .i64 f) rfl
      rw [← hN] at c0
      obtain ⟨q, hq⟩ : ∃ q, (f + k) % N = q := ⟨_, rfl⟩
      have hqN : q < N := by rw [← hq]; exact Nat.mod_lt _ (by omega)
      obtain ⟨y, hy⟩ : ∃ y, wi.cell? ⟨g, q, none⟩ = some (.int .i64 y) := ⟨_, hbr.int (by rw [wipe_len, ← hN]; exact hqN)⟩
      have fy := hbr.free q
      have hstep : (wipe Cs f 0 k).set q 0 = wipe Cs f 0 (k + 1) := by rw [wipe, ← hN, hq]
      have HI := Lib.hid (And.intro hbr (And.intro hfr hstep))
      have hp := Lib.hid (fun (W : World) (d0 : W.cell? ⟨b, 0, none⟩ = some (.slice (some ⟨g, 0, none⟩) N N)) (d2 : W.cell? ⟨b, 2, none⟩ = some (.int .i64 f)) => place_any W b g N f k d0 d2 (by omega) (by omega) hlo (by omega))
      rw [hq] at hp
      have k1 : (0 : Int) ≤ (k : Int) := by omega
      have q1 : (0 : Int) ≤ (q : Int) := by omega
      have q2 : (q : Int) < (N : Int) := by omega
      clear hbr hfr hstep hq hb0 hbi hN hs
      go_wp2_with fail
      go_region_held3 (fun w' => w'.cell? ⟨b, 0, none⟩ = some (.slice (some ⟨g, 0, none⟩) N N) ∧ w'.cell? ⟨b, 2, none⟩ = some (.int .i64 f)) (first | exact ⟨c0, c2⟩ | go_keep)
        ((go_at_call 36; refine (hp.out _ (by exact c0) (by exact c2)).mono ?_; rintro e w4 ⟨rfl, mm, rfl⟩))
      go_wp2_with fail
      go_roundw
      case rel =>
        refine ⟨k + 1, by go_num, by omega, ?_, ?_⟩
        · rw [← HI.out.2.2, ← ints_set]
          exact Blk.set (w := _) HI.out.1 q _
        · exact (HI.out.2.1.drewN _).setCell _ _ (.inl (by simp))
      case measure => simp [intOf]; omega
    · obtain rfl : n = k := by omega
      have hlen2 : (wipe Cs f 0 n).length = N := by rw [wipe_len, hN]
      have hd := H.out.ho.drop 0 n (by omega)
      obtain ⟨q, hq⟩ : ∃ q, (f + n) % N = q := ⟨_, rfl⟩
      rw [← hN, hq] at hd
      have c0 := hbi.at 0 (v := .slice (some ⟨g, 0, none⟩) Cs.length Cs.length) rfl
      have c2 := hbi.at 2 (v := .int .i64 f) rfl
      rw [← hN] at c0
      have f2 := hbi.free 2
      have hpk := H.out.pk
      have hp := Lib.hid (fun (W : World) (d0 : W.cell? ⟨b, 0, none⟩ = some (.slice (some ⟨g, 0, none⟩) N N)) (d2 : W.cell? ⟨b, 2, none⟩ = some (.int .i64 f)) => place_any W b g N f n d0 d2 (by omega) (by omega) hlo (by omega))
      rw [hq] at hp
      rw [← hs] at hpk
      have HI := Lib.hid (And.intro hbr (And.intro hfr (And.intro hbi hd)))
      clear hq hbr hfr hbi hb0 hd hN hs
      go_wp2_with fail
      (with_reducible refine (hp.out _ c0 c2).mono ?_)
      rintro e w4 ⟨rfl, mm, rfl⟩
      generalize hwm : World.drewN wi mm = wm
      obtain ⟨hbr, hfr, hbi, hd⟩ := HI.out
      obtain ⟨hN, hs⟩ := HE.out
      rw [← hs] at hbi
      have hbM : Blk wm b #[.slice (some ⟨g, 0, none⟩) Cs.length Cs.length, .int .i64 most, .int .i64 f, .int .i64 s, .bool false, .int .i64 0, .int .i64 0, .bool false, .int .i64 peak, .int .i64 r1] 87 := by rw [← hwm]; exact hbi.drewN mm
      have hbB := hbM.set 2 (.int .i64 q)
      have hgB := Blk.other (w := wm) (by rw [← hwm]; exact hbr.drewN mm) ⟨b, 2, none⟩ (.int .i64 q) hgb
      have frB : Fr [b, g] w (wm.setCell ⟨b, 2, none⟩ (.int .i64 q)) := by rw [← hwm]; exact ((hfr.mono (T := [b, g]) (by simp)).drewN _).setCell _ _ (.inl (by simp))
      have m3 := hbM.at 3 (v := .int .i64 s) rfl
      have m2 := hbM.at 2 (v := .int .i64 f) rfl
      have g2 := hbM.free 2
      have d3 := hbB.at 3 (v := .int .i64 s) rfl
      have d4 := hbB.at 4 (v := .bool false) rfl
      have d8 := hbB.at 8 (v := .int .i64 peak) rfl
      have e3 := hbB.free 3
      have e8 := hbB.free 8
      have hse := Lib.hid (sized_int _ b ((s : Int) - (n : Int)) (s - n) s peak (by omega) d3 d4 d8 e3 e8 (by omega))
      have hbC := (hbB.set 3 (.int .i64 (s - n : Nat))).set 8 (.int .i64 (max peak (s - n) : Nat))
      have hfin : DropPost w b g L most peak n (.returned (.int .i64 n)) (((wm.setCell ⟨b, 2, none⟩ (.int .i64 q)).setCell ⟨b, 3, none⟩ (.int .i64 (s - n : Nat))).setCell ⟨b, 8, none⟩ (.int .i64 (max peak (s - n) : Nat))) := by
        refine ⟨rfl, wipe Cs f 0 n, q, ⟨⟨r1, ?_⟩, (hgB.other _ _ hgb).other _ _ hgb, hd, by rw [hlen2]; exact hNm, hm64, by rw [List.length_drop]; omega⟩, ?_⟩
        · have : max peak (s - n) = peak := by omega
          rw [this] at hbC
          rw [List.length_drop, ← hs, hlen2, hN, this]
          exact hbC
        · exact ((frB).setCell _ _ (.inl (by simp))).setCell _ _ (.inl (by simp))
      have hsn : IntKind.i64.wrap ((s : Int) - (n : Int)) = (s : Int) - (n : Int) := by rw [IntKind.wrap_i64]; omega
      have HF := Lib.hid hfin
      clear hwm hbM hbB hgB frB d3 d4 d8 e3 e8 hbC hfin c0 c2 f2 hp HI hbr hfr hbi hd H hl hlen2 hN hs HE
      go_wp2_with fail
      (with_reducible refine hse.out.mono ?_)
      rintro e w5 ⟨⟨v, rfl⟩, rfl⟩
      go_wp2
      go_ret
      exact HF.out

/-- Pop. -/
def PopPost (w : World) (b g : Nat) (L : List Int) (most peak : Nat) (e : Ending) (w' : World) : Prop :=
  e = .returned (.tuple #[.int .i64 (L.getD 0 0), .bool true]) ∧ ∃ Cs' f', RingAt w' b g Cs' f' (L.drop 1) most peak ∧ Fr [b, g] w w'
theorem pop_no (w : World) (b g : Nat) (Cs : List Int) (f : Nat) (most peak : Nat) (h : RingAt w b g Cs f [] most peak) :
    Calls Try.prog 12 #[.pointer (some ⟨b, 0, none⟩)] w fun e w' => e = .returned (.tuple #[.int .i64 0, .bool false]) ∧ w = w' := by
  have ha := Lib.hid (at_no w b g Cs f most peak h)
  have hd := Lib.hid (drop_none w b g Cs f most peak h)
  clear h
  go_enter Try.func12, Try.ntmps12
  go_wp2_with (go_at_call 38; refine ha.out.mono ?_; rintro e w1 ⟨rfl, rfl⟩)
  go_wp2_with (go_at_call 39; refine hd.out.mono ?_; rintro e w1 ⟨rfl, rfl⟩)
  go_ret2
  exact ⟨rfl, rfl⟩
theorem pop_ok (w : World) (b g : Nat) (Cs : List Int) (f : Nat) (L : List Int) (most peak : Nat) (h : RingAt w b g Cs f L most peak) (hL : 0 < L.length) :
    Calls Try.prog 12 #[.pointer (some ⟨b, 0, none⟩)] w (PopPost w b g L most peak) := by
  have ha := Lib.hid (at_ok w b g Cs f L most peak 0 h hL)
  unfold PopPost
  revert ha
  generalize L.getD 0 0 = y
  intro ha
  clear h
  go_enter Try.func12, Try.ntmps12
  go_wp2_with (go_at_call 38; refine ha.out.mono ?_; rintro e w1 ⟨rfl, h1, h2⟩)
  have hd := Lib.hid (drop_some w1 b g Cs f L most peak 1 h2 (by omega) (by omega))
  have h1 := Lib.hid h1
  clear h2
  go_wp2_with (go_at_call 39; refine hd.out.mono ?_; rintro e w2 ⟨rfl, Cs2, f2, h3, h4⟩)
  have hX := Lib.hid (And.intro h3 h4)
  clear h3 h4
  go_ret2
  exact ⟨rfl, Cs2, f2, hX.out.1, (h1.out.mono (T := [b, g]) (by simp)).trans hX.out.2 (by simp)⟩

end Go.Proofs.Ytehdhdocalbfpaa
