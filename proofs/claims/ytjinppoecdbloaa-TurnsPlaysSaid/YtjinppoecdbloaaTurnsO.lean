/-
  TurnsPlays: any number, anybody's last turn, any calls: every answer, whom ready was asked of, and at the end all that there is. For every input.
-/
import Derived.Test.YtjinppoecdbloaaTurnsN
namespace Go.Proofs.Ytjinppoecdbloaa
open Go.RowKit Go.Shelf Go.ChangeShapes Go.WideShapes Go.ChangeAt
set_option linter.unusedVariables false

theorem step_any (B : Nat) (w : World) (bt bw br n : Nat) (had ws : List Int) (v rv : Value) (bs : List Bool) (k N : Int) (h : St B w bt bw br n had ws v) (hB : B ≤ w.heap.size) (hl : had.length ≤ 90000)
    (hrv : Rd w rv (bools bs)) (hb : bs.length ≤ 9223372036854775807) (hsep : Sep w bt bw br v rv bs) :
    Calls Try.prog 19 #[.pointer (some ⟨bt, 0, none⟩), .pointer (some ⟨br, 0, none⟩), .agg #[.int .i64 k, rv, .int .i64 N]] w (StepPost B w bt bw br n had) := by
  have hf : ∃ p l c, rv = .slice p l c := by obtain ⟨p, c, h1, _⟩ := hrv; exact ⟨p, _, c, h1⟩
  by_cases h0 : k < 1 ∨ 7 < k
  · exact step_other B w bt bw br n had ws v rv k N h hB hf h0
  · have hk : k = 1 ∨ k = 2 ∨ k = 3 ∨ k = 4 ∨ k = 5 ∨ k = 6 ∨ k = 7 := by omega
    rcases hk with rfl | rfl | rfl | rfl | rfl | rfl | rfl
    · exact step_next B w bt bw br n had ws v rv bs N h hB (by omega) hrv hb hsep
    · exact step_none B w bt bw br n had ws v rv N h hB hf
    · exact step_order B w bt bw br n had ws v rv N h hB (by omega) hf
    · exact step_leave B w bt bw br n had ws v rv N h hB (by omega) hf
    · exact step_tell B w bt bw br n had ws v rv N h hB (by omega) hf
    · exact step_again B w bt bw br n had ws v rv N h hB (by omega) hf
    · exact step_before B w bt bw br n had ws v rv bs N h hB hl hrv hb hsep

/-- The calls of the argument: kind, who is ready, a number. -/
def RdSteps (w : World) (v : Value) (L : List (Int × List Bool × Int)) : Prop :=
  RdS w v 3 (fun cs x => ∃ u, cs = [.int .i64 x.1, u, .int .i64 x.2.2] ∧ RdS w u 1 (fun cs (b : Bool) => cs = [.bool b]) x.2.1) L
theorem RdSteps.get {w : World} {v : Value} {L : List (Int × List Bool × Int)} (h : RdSteps w v L) {k : Nat} (hk : k < L.length) :
    ∃ g o cap u, v = .slice (some ⟨g, o, none⟩) L.length cap ∧ g < w.heap.size ∧ w.cell? ⟨g, o + k * 3, none⟩ = some (.int .i64 L[k].1) ∧ w.cell? ⟨g, o + k * 3 + 1, none⟩ = some u ∧ w.cell? ⟨g, o + k * 3 + 2, none⟩ = some (.int .i64 L[k].2.2) ∧
      Rd w u (bools L[k].2.1) ∧ L[k].2.1.length ≤ maxLen := by
  obtain ⟨g, o, cap, cs, h1, _, _, h2, h3, u, rfl, h4⟩ := RdS.get h hk
  have c0 := h3 0 _ rfl
  exact ⟨g, o, cap, u, h1, World.block_lt_of_cell? w _ c0, c0, h3 1 _ rfl, h3 2 _ rfl, h4.bools.1, h4.bools.2⟩

theorem fill_step {m n : Nat} (h : m < n) : (List.replicate m true ++ List.replicate (n - m) false).set m true = List.replicate (m + 1) true ++ List.replicate (n - (m + 1)) false := by
  rw [List.set_append_right _ _ (by simp), List.length_replicate, Nat.sub_self, List.replicate_succ', List.append_assoc]
  obtain ⟨c, hc⟩ : ∃ c, n - m = c + 1 := ⟨n - m - 1, by omega⟩
  rw [hc, show n - (m + 1) = c by omega]
  rfl

namespace turnsPlays
set_option maxRecDepth 100000 in
theorem long (w : World) (n last : Int) (lv : Value) (p : Option Addr) (m cap : Nat) (hlv : lv = .slice p m cap) (hm : 2048 < m) (hc : m ≤ 9223372036854775807) :
    Calls Try.prog 9 #[.int .i64 n, .int .i64 last, lv] w fun e w' => e = .returned (.bool true) ∧ Fr [] w w' := by
  subst hlv
  go_enter Try.func9, Try.ntmps9
  go_wp2
  go_ret
  exact ⟨rfl, Fr.refl _ _⟩

theorem new_no (w : World) (n : Int) (h : n < 1 ∨ 16 < n) : Calls Try.prog 18 #[.int .i64 n] w fun e w' => e = .returned (.tuple #[.pointer none, .int .i64 2]) ∧ w = w' := by
  have h1 := from_no w n (-1) (by omega)
  have H1 := Lib.hid h1
  clear h1
  go_enter Try.func18, Try.ntmps18
  go_wp2_with (go_at_call 11; refine H1.out.mono ?_; rintro e w1 ⟨rfl, rfl⟩)
  go_ret2
  exact ⟨rfl, rfl⟩
theorem new_ok (w : World) (n : Nat) (h1 : 1 ≤ n) (h2 : n ≤ 16) :
    Calls Try.prog 18 #[.int .i64 n] w fun e w' => e = .returned (.tuple #[.pointer (some ⟨w.heap.size + 1, 0, none⟩), .int .i64 0]) ∧
      TurnsAt w' (w.heap.size + 1) w.heap.size n (-1) (init n (-1)) ∧ Fr [] w w' := by
  have h3 := from_ok w n (-1) h1 h2 (by omega) (by omega)
  have H1 := Lib.hid h3
  clear h3
  go_enter Try.func18, Try.ntmps18
  go_wp2_with (go_at_call 11; refine H1.out.mono ?_; rintro e w1 ⟨rfl, ht, hf⟩)
  go_ret2
  exact ⟨rfl, ht, hf⟩

set_option maxRecDepth 100000 in
theorem refused (w : World) (n last : Int) (lv : Value) (p : Option Addr) (m cap : Nat) (hlv : lv = .slice p m cap) (hm : m ≤ 2048) (h : n < 1 ∨ 16 < n ∨ last < -1 ∨ n ≤ last) (hn : -9223372036854775808 ≤ n) (hn2 : n ≤ 9223372036854775807) :
    Calls Try.prog 9 #[.int .i64 n, .int .i64 last, lv] w fun e w' => e = .returned (.bool true) ∧ Fr [] w w' := by
  subst hlv
  have h1 := fun w => from_no w n last h
  have h2 := fun w => rfrom_no w n last h hn hn2
  have H1 := Lib.hid h1
  have H2 := Lib.hid h2
  by_cases hl : last = -1
  · subst hl
    have h3 := fun w => new_no w n (by omega)
    have H3 := Lib.hid h3
    clear h1 h2 h3 h hn hn2
    go_enter Try.func9, Try.ntmps9
    go_wp2_with (first
      | (go_at_call 11; refine (H1.out _).mono ?_; rintro e w1 ⟨rfl, rfl⟩)
      | (go_at_call 12; refine (H2.out _).mono ?_; rintro e w1 ⟨rfl, rfl⟩)
      | (go_at_call 18; refine (H3.out _).mono ?_; rintro e w1 ⟨rfl, rfl⟩))
    go_ret
    exact ⟨rfl, Fr.refl _ _⟩
  · have hl' : (last == -1) = false := by simpa using hl
    clear h1 h2 h hn hn2 hl
    go_enter Try.func9, Try.ntmps9
    go_wp2_with (first
      | (go_at_call 11; refine (H1.out _).mono ?_; rintro e w1 ⟨rfl, rfl⟩)
      | (go_at_call 12; refine (H2.out _).mono ?_; rintro e w1 ⟨rfl, rfl⟩))
    go_ret
    exact ⟨rfl, Fr.refl _ _⟩

/-- At the loops' heads. -/
def At (w wr : World) (bt br n k : Nat) : Prop := ∃ bw had ws v, St w.heap.size wr bt bw br n had ws v ∧ had.length ≤ k + 1 ∧ Below w.heap.size w wr

theorem made {w w3 : World} {n bt bw br : Nat} {last : Int} {v : Value} (h1 : 1 ≤ n) (h2 : n ≤ 16) (h3 : -1 ≤ last) (h4 : last < n) (f1 : Fr [] w w3) (ht : TurnsAt w3 bt bw n last (init n last)) (hr : RefAt w3 br n (had0 last) v)
    (hbt : w.heap.size ≤ bt) (hbw : w.heap.size ≤ bw) (hbr : w.heap.size ≤ br) (hv : ∀ g, v.ownBlock = some g → w.heap.size ≤ g ∧ g ≠ bw) : At w w3 bt br n 0 := by
  have hlast : lastOf (had0 last) = last := by
    unfold had0
    split
    · simp [lastOf]; omega
    · simp [lastOf]
  refine ⟨bw, had0 last, init n last, v, ⟨by rw [hlast]; exact ht, hr, ?_, by rw [hlast]; exact h3, by rw [hlast]; exact h4, h1, h2, hbt, hbw, hbr, hv⟩, ?_, f1.below⟩
  · unfold had0 init
    split
    · exact WsOf.none n
    · have := (WsOf.none n).given (p := last.toNat) (by omega)
      rw [List.nil_append, show ((last.toNat : Nat) : Int) = last by omega] at this
      exact this
  · unfold had0
    split <;> simp

set_option maxRecDepth 100000 in
set_option maxHeartbeats 4000000 in
theorem played (w : World) (n : Nat) (last : Int) (lv : Value) (p : Option Addr) (cap : Nat) (L : List (Int × List Bool × Int)) (hlv : lv = .slice p L.length cap) (hL : RdSteps w lv L) (hm : L.length ≤ 2048)
    (h1 : 1 ≤ n) (h2 : n ≤ 16) (h3 : -1 ≤ last) (h4 : last < n) :
    Calls Try.prog 9 #[.int .i64 n, .int .i64 last, lv] w fun e w' => e = .returned (.bool true) ∧ Fr [] w w' := by
  have HL := Lib.hid hL
  have HE := Lib.hid hlv
  rw [hlv]
  clear hL hlv
  obtain ⟨N, hN⟩ : ∃ N, L.length = N := ⟨_, rfl⟩
  rw [hN] at hm ⊢
  have HN := Lib.hid hN
  clear hN
  have hdN : decide (2048 < (N : Int)) = false := by simp; omega
  have hmk : ∀ w, (Instr.makeSlice 36 (.int .i64 16) (.int .i64 16)).run Try.prog w = .ok (.slice (some ⟨w.heap.size, 0, none⟩) 16 16) (w.alloc (.cells (noes 16) 4)) := fun w => make_bools 16 (by omega) w
  by_cases hl : last = -1
  rotate_left
  · have hl' : (last == -1) = false := by simpa using hl
    go_enter Try.func9, Try.ntmps9
    go_wp2_with fail
    (with_reducible refine (from_ok _ n last h1 h2 h3 h4).mono ?_)
    rintro e w1 ⟨rfl, t1, f1⟩
    go_wp2_with fail
    (with_reducible refine (rfrom_ok _ n last h1 h2 h3 h4).mono ?_)
    rintro e w2 ⟨v, rfl, r2, hv2, f2⟩
    have hsz1 := f1.size
    have hat : At w w2 (w.heap.size + 1) w1.heap.size n 0 := made h1 h2 h3 h4 (f1.trans f2 (by simp)) ⟨f2.blk t1.t (by simp), f2.blk t1.s (by simp), t1.len⟩ r2 (by omega) (Nat.le_refl _) (by omega) (fun g hg => by have := hv2 g hg; have := t1.s.lt; omega)
    clear t1 f1 r2 hv2 f2 hl h3 h4 hsz1
    generalize w.heap.size + 1 = bt at *
    generalize w1.heap.size = br at *
    go_wp2_with fail
    go_loopw [10] (fun i wr => ∃ k : Nat, i = .int .i64 k ∧ k ≤ N ∧ At w wr bt br n k) (fun i _ => N - (intOf i).toNat)
    case atStart => exact ⟨0, rfl, Nat.zero_le _, hat⟩
    case round =>
      obtain ⟨k, rfl, hk, hA⟩ := hrel
      clear hat
      by_cases hlt : k < N
      · obtain ⟨bw, had, ws, v, S, hhl, BL⟩ := hA
        obtain ⟨g, o, cap', u, he, hgl, c0, c1, c2, hrd, hln⟩ := HL.out.get (k := k) (by rw [HN.out]; exact hlt)
        rw [HE.out, HN.out] at he
        cases he
        generalize L[k]'(by rw [HN.out]; exact hlt) = x at c0 c1 c2 hrd hln
        obtain ⟨kd, bs, Nn⟩ := x
        dsimp only at c0 c1 c2 hrd hln
        have hf0 : Fr [] w wr := Fr.of_below BL []
        have d0 := (hf0.cell (a := ⟨g, o + k * 3, none⟩) hgl (by simp)).trans c0
        have d1 := (hf0.cell (a := ⟨g, o + k * 3 + 1, none⟩) hgl (by simp)).trans c1
        have d2 := (hf0.cell (a := ⟨g, o + k * 3 + 2, none⟩) hgl (by simp)).trans c2
        have hsep : Sep wr bt bw br v u bs := by
          intro g' o' n' c' e hp
          obtain ⟨p', cc, rfl, _, h0⟩ := hrd
          rcases h0 with h0 | ⟨g2, o2, rfl, h0⟩
          · rw [bools_len] at h0; omega
          · cases e
            have hg2 := World.block_lt_of_cell? w _ (h0 0 _ (bools_get bs hp))
            simp only at hg2
            have := S.pt; have := S.pw; have := S.pr; have := BL.size
            exact ⟨by omega, by omega, by omega, by omega, fun x hx => by have := (S.pv x hx).1; omega⟩
        have hstep := step_any w.heap.size wr bt bw br n had ws v u bs kd Nn S BL.size (by omega) (hrd.grow hf0) (by unfold maxLen at hln; omega) hsep
        have HS := Lib.hid (And.intro hstep BL)
        clear hstep hrd hln hsep c0 c1 c2 hf0 S BL
        go_wp2_with (go_at_call 19; refine HS.out.1.mono ?_; rintro e w4 ⟨rfl, had', ws', v', S', hl', BL'⟩; have HR := Lib.hid (And.intro S' BL'); clear S' BL')
        go_roundw
        case rel => exact ⟨k + 1, by go_num, by omega, bw, had', ws', v', HR.out.1, by omega, HS.out.2.trans HR.out.2⟩
        case measure => simp [intOf]; omega
      · obtain rfl : k = N := by omega
        obtain ⟨wo, rfl⟩ : ∃ wo : World, wo = wr := ⟨_, rfl⟩
        have HA := Lib.hid hA
        clear hA
        go_wp2_with fail
        go_loopw [12] (fun i wx => ∃ m : Nat, i = .int .i64 m ∧ m ≤ 16 ∧ Blk wx wo.heap.size (bools (List.replicate m true ++ List.replicate (16 - m) false)).toArray 4 ∧ Fr [] wo wx) (fun i _ => 16 - (intOf i).toNat)
        case atStart => exact ⟨0, rfl, Nat.zero_le _, by simpa [noes] using Blk.new wo (noes 16) 4, (Fr.refl _ _).alloc _⟩
        case round =>
          obtain ⟨m, rfl, hmn, bm, fm⟩ := hrel
          obtain ⟨wx, rfl⟩ : ∃ wx : World, wx = wr := ⟨_, rfl⟩
          by_cases hlm : m < 16
          · have hlen : (List.replicate m true ++ List.replicate (16 - m) false).length = 16 := by simp; omega
            have em := bm.bool (k := m) (by rw [hlen]; exact hlm)
            have emf := bm.free m
            obtain ⟨vb, hvb⟩ : ∃ vb, (List.replicate m true ++ List.replicate (16 - m) false).getD m false = vb := ⟨_, rfl⟩
            rw [hvb] at em
            have HS := Lib.hid (fill_step hlm)
            clear hvb hlen
            go_wp2
            go_roundw
            case rel => exact ⟨m + 1, by go_num, by omega, by rw [← HS.out, ← bools_set]; exact bm.set m _, fm.setCell _ _ (.inr (Nat.le_refl _))⟩
            case measure => simp [intOf]; omega
          · obtain rfl : m = 16 := by omega
            obtain ⟨bw, had, ws, v, S, hhl, BL⟩ := HA.out
            have bm' : Blk wx wo.heap.size (bools (List.replicate 16 true)).toArray 4 := by simpa using bm
            have S1 := S.fr fm
            have hBx : w.heap.size ≤ wx.heap.size := Nat.le_trans BL.size fm.size
            have HX := Lib.hid (And.intro S (And.intro BL (And.intro fm bm')))
            have ht1 := told_any w.heap.size wx bt bw br n had ws v S1 (by omega)
            have HT1 := Lib.hid ht1
            clear S BL S1 bm bm' fm ht1
            go_wp2_with fail
            (with_reducible refine HT1.out.mono ?_)
            rintro e w5 ⟨rfl, f5⟩
            obtain ⟨S, BL, fm, bm'⟩ := HX.out
            have S5 := (S.fr fm).fr f5
            have b5 := f5.blk bm' (by simp)
            have hrd5 : Rd w5 (.slice (some ⟨wo.heap.size, 0, none⟩) 16 16) (bools (List.replicate 16 true)) := by have := b5.rdb; rwa [List.length_replicate] at this
            have hsep5 : Sep w5 bt bw br v (.slice (some ⟨wo.heap.size, 0, none⟩) 16 16) (List.replicate 16 true) := by
              intro g o n' c' e hp
              cases e
              have := S.t.t.lt; have := S.t.s.lt; have := S.r.t.lt
              exact ⟨b5.lt, by omega, by omega, by omega, fun x hx => by have := own_lt S.r.s hx; omega⟩
            have hst := step_any w.heap.size w5 bt bw br n had ws v _ _ 1 0 S5 (Nat.le_trans hBx f5.size) (by omega) hrd5 (by simp) hsep5
            have HS := Lib.hid hst
            have HF5 := Lib.hid f5
            clear S BL fm bm' S5 b5 hrd5 hsep5 hst f5
            go_wp2_with fail
            (with_reducible refine HS.out.mono ?_)
            rintro e w6 ⟨rfl, had', ws', v', S6, hl6, BL6⟩
            have ht2 := told_any w.heap.size w6 bt bw br n had' ws' v' S6 (by omega)
            have HT2 := Lib.hid ht2
            have HB6 := Lib.hid BL6
            clear S6 BL6 ht2
            go_wp2_with fail
            (with_reducible refine HT2.out.mono ?_)
            rintro e w7 ⟨rfl, f7⟩
            have HF7 := Lib.hid f7
            clear f7
            go_wp2
            go_ret
            obtain ⟨S, BL, fm, bm'⟩ := HX.out
            exact ⟨rfl, Fr.of_below (((BL.trans (fm.below' BL.size (by simp))).trans (HF5.out.below' hBx (by simp))).trans (HB6.out.trans (HF7.out.below' (Nat.le_trans hBx (Nat.le_trans HF5.out.size HB6.out.size)) (by simp)))) []⟩
  · subst hl
    go_enter Try.func9, Try.ntmps9
    go_wp2_with fail
    (with_reducible refine (from_ok _ n (-1) h1 h2 h3 h4).mono ?_)
    rintro e w1 ⟨rfl, t1, f1⟩
    go_wp2_with fail
    (with_reducible refine (rfrom_ok _ n (-1) h1 h2 h3 h4).mono ?_)
    rintro e w2 ⟨v, rfl, r2, hv2, f2⟩
    go_wp2_with fail
    (with_reducible refine (new_ok _ n h1 h2).mono ?_)
    rintro e w3 ⟨rfl, t3, f3⟩
    have hsz1 := f1.size
    have hsz2 := f2.size
    have hat : At w w3 (w2.heap.size + 1) w1.heap.size n 0 := made h1 h2 h3 h4 ((f1.trans f2 (by simp)).trans f3 (by simp)) t3 (r2.fr f3 (by simp) (by simp)) (by omega) (by omega) (by omega) (fun g hg => by have := hv2 g hg; have := own_lt r2.s hg; omega)
    clear t1 f1 r2 hv2 f2 h3 h4 t3 f3 hsz1 hsz2
    generalize w2.heap.size + 1 = bt at *
    generalize w1.heap.size = br at *
    go_wp2_with fail
    go_loopw [10] (fun i wr => ∃ k : Nat, i = .int .i64 k ∧ k ≤ N ∧ At w wr bt br n k) (fun i _ => N - (intOf i).toNat)
    case atStart => exact ⟨0, rfl, Nat.zero_le _, hat⟩
    case round =>
      obtain ⟨k, rfl, hk, hA⟩ := hrel
      clear hat
      by_cases hlt : k < N
      · obtain ⟨bw, had, ws, v, S, hhl, BL⟩ := hA
        obtain ⟨g, o, cap', u, he, hgl, c0, c1, c2, hrd, hln⟩ := HL.out.get (k := k) (by rw [HN.out]; exact hlt)
        rw [HE.out, HN.out] at he
        cases he
        generalize L[k]'(by rw [HN.out]; exact hlt) = x at c0 c1 c2 hrd hln
        obtain ⟨kd, bs, Nn⟩ := x
        dsimp only at c0 c1 c2 hrd hln
        have hf0 : Fr [] w wr := Fr.of_below BL []
        have d0 := (hf0.cell (a := ⟨g, o + k * 3, none⟩) hgl (by simp)).trans c0
        have d1 := (hf0.cell (a := ⟨g, o + k * 3 + 1, none⟩) hgl (by simp)).trans c1
        have d2 := (hf0.cell (a := ⟨g, o + k * 3 + 2, none⟩) hgl (by simp)).trans c2
        have hsep : Sep wr bt bw br v u bs := by
          intro g' o' n' c' e hp
          obtain ⟨p', cc, rfl, _, h0⟩ := hrd
          rcases h0 with h0 | ⟨g2, o2, rfl, h0⟩
          · rw [bools_len] at h0; omega
          · cases e
            have hg2 := World.block_lt_of_cell? w _ (h0 0 _ (bools_get bs hp))
            simp only at hg2
            have := S.pt; have := S.pw; have := S.pr; have := BL.size
            exact ⟨by omega, by omega, by omega, by omega, fun x hx => by have := (S.pv x hx).1; omega⟩
        have hstep := step_any w.heap.size wr bt bw br n had ws v u bs kd Nn S BL.size (by omega) (hrd.grow hf0) (by unfold maxLen at hln; omega) hsep
        have HS := Lib.hid (And.intro hstep BL)
        clear hstep hrd hln hsep c0 c1 c2 hf0 S BL
        go_wp2_with (go_at_call 19; refine HS.out.1.mono ?_; rintro e w4 ⟨rfl, had', ws', v', S', hl', BL'⟩; have HR := Lib.hid (And.intro S' BL'); clear S' BL')
        go_roundw
        case rel => exact ⟨k + 1, by go_num, by omega, bw, had', ws', v', HR.out.1, by omega, HS.out.2.trans HR.out.2⟩
        case measure => simp [intOf]; omega
      · obtain rfl : k = N := by omega
        obtain ⟨wo, rfl⟩ : ∃ wo : World, wo = wr := ⟨_, rfl⟩
        have HA := Lib.hid hA
        clear hA
        go_wp2_with fail
        go_loopw [12] (fun i wx => ∃ m : Nat, i = .int .i64 m ∧ m ≤ 16 ∧ Blk wx wo.heap.size (bools (List.replicate m true ++ List.replicate (16 - m) false)).toArray 4 ∧ Fr [] wo wx) (fun i _ => 16 - (intOf i).toNat)
        case atStart => exact ⟨0, rfl, Nat.zero_le _, by simpa [noes] using Blk.new wo (noes 16) 4, (Fr.refl _ _).alloc _⟩
        case round =>
          obtain ⟨m, rfl, hmn, bm, fm⟩ := hrel
          obtain ⟨wx, rfl⟩ : ∃ wx : World, wx = wr := ⟨_, rfl⟩
          by_cases hlm : m < 16
          · have hlen : (List.replicate m true ++ List.replicate (16 - m) false).length = 16 := by simp; omega
            have em := bm.bool (k := m) (by rw [hlen]; exact hlm)
            have emf := bm.free m
            obtain ⟨vb, hvb⟩ : ∃ vb, (List.replicate m true ++ List.replicate (16 - m) false).getD m false = vb := ⟨_, rfl⟩
            rw [hvb] at em
            have HS := Lib.hid (fill_step hlm)
            clear hvb hlen
            go_wp2
            go_roundw
            case rel => exact ⟨m + 1, by go_num, by omega, by rw [← HS.out, ← bools_set]; exact bm.set m _, fm.setCell _ _ (.inr (Nat.le_refl _))⟩
            case measure => simp [intOf]; omega
          · obtain rfl : m = 16 := by omega
            obtain ⟨bw, had, ws, v, S, hhl, BL⟩ := HA.out
            have bm' : Blk wx wo.heap.size (bools (List.replicate 16 true)).toArray 4 := by simpa using bm
            have S1 := S.fr fm
            have hBx : w.heap.size ≤ wx.heap.size := Nat.le_trans BL.size fm.size
            have HX := Lib.hid (And.intro S (And.intro BL (And.intro fm bm')))
            have ht1 := told_any w.heap.size wx bt bw br n had ws v S1 (by omega)
            have HT1 := Lib.hid ht1
            clear S BL S1 bm bm' fm ht1
            go_wp2_with fail
            (with_reducible refine HT1.out.mono ?_)
            rintro e w5 ⟨rfl, f5⟩
            obtain ⟨S, BL, fm, bm'⟩ := HX.out
            have S5 := (S.fr fm).fr f5
            have b5 := f5.blk bm' (by simp)
            have hrd5 : Rd w5 (.slice (some ⟨wo.heap.size, 0, none⟩) 16 16) (bools (List.replicate 16 true)) := by have := b5.rdb; rwa [List.length_replicate] at this
            have hsep5 : Sep w5 bt bw br v (.slice (some ⟨wo.heap.size, 0, none⟩) 16 16) (List.replicate 16 true) := by
              intro g o n' c' e hp
              cases e
              have := S.t.t.lt; have := S.t.s.lt; have := S.r.t.lt
              exact ⟨b5.lt, by omega, by omega, by omega, fun x hx => by have := own_lt S.r.s hx; omega⟩
            have hst := step_any w.heap.size w5 bt bw br n had ws v _ _ 1 0 S5 (Nat.le_trans hBx f5.size) (by omega) hrd5 (by simp) hsep5
            have HS := Lib.hid hst
            have HF5 := Lib.hid f5
            clear S BL fm bm' S5 b5 hrd5 hsep5 hst f5
            go_wp2_with fail
            (with_reducible refine HS.out.mono ?_)
            rintro e w6 ⟨rfl, had', ws', v', S6, hl6, BL6⟩
            have ht2 := told_any w.heap.size w6 bt bw br n had' ws' v' S6 (by omega)
            have HT2 := Lib.hid ht2
            have HB6 := Lib.hid BL6
            clear S6 BL6 ht2
            go_wp2_with fail
            (with_reducible refine HT2.out.mono ?_)
            rintro e w7 ⟨rfl, f7⟩
            have HF7 := Lib.hid f7
            clear f7
            go_wp2
            go_ret
            obtain ⟨S, BL, fm, bm'⟩ := HX.out
            exact ⟨rfl, Fr.of_below (((BL.trans (fm.below' BL.size (by simp))).trans (HF5.out.below' hBx (by simp))).trans (HB6.out.trans (HF7.out.below' (Nat.le_trans hBx (Nat.le_trans HF5.out.size HB6.out.size)) (by simp)))) []⟩

theorem walk (w : World) (n last : Int) (lv : Value) (L : List (Int × List Bool × Int)) (hL : RdSteps w lv L) (b1 : -9223372036854775808 ≤ n) (b2 : n ≤ 9223372036854775807) :
    Calls Try.prog 9 #[.int .i64 n, .int .i64 last, lv] w fun e w' => e = .returned (.bool true) ∧ Fr [] w w' := by
  obtain ⟨p, cap, hlv, hc, hm⟩ := hL.form
  by_cases h1 : 2048 < L.length
  · exact long w n last lv p _ cap hlv h1 (by unfold maxLen at hm; omega)
  · by_cases h2 : n < 1 ∨ 16 < n ∨ last < -1 ∨ n ≤ last
    · exact refused w n last lv p _ cap hlv (by omega) h2 b1 b2
    · obtain ⟨m, rfl⟩ := Int.eq_ofNat_of_zero_le (show 0 ≤ n by omega)
      exact played w m last lv p cap L hlv hL (by omega) (by omega) (by omega) (by omega) (by omega)

theorem three {α : Type} {l : List α} (h : l.length = 3) : ∃ a b c, l = [a, b, c] := by
  match l, h with
  | [a, b, c], _ => exact ⟨a, b, c, rfl⟩
theorem cells47 : Try.prog.cellsOf 47 = 3 := by kernel_rfl
theorem read (w : World) {H : Type} {enc : TypeId × Value → H} {fuel : Nat} {cs : List Value} {x : DataW H × List MemPlace} (h : DataW.trod enc Try.prog w 0 (fun _ => true) true fuel 43 cs = some x) : ∃ v L, cs = [v] ∧ RdSteps w v L := by
  have := read_slice Try.underlying43 (by rw [cells47]; decide) (fun cs (x : Int × List Bool × Int) => ∃ u, cs = [.int .i64 x.1, u, .int .i64 x.2.2] ∧ RdS w u 1 (fun cs (b : Bool) => cs = [.bool b]) x.2.1) (fun n cs x hx => by
    obtain ⟨xs, m, _, _, hl, hlen, hf⟩ := DataW.trod_struct Try.underlying47 hx
    rw [cells47] at hl
    obtain ⟨a, b, c, rfl⟩ := three hl
    obtain ⟨y0, y1, y2, rfl⟩ := three hlen
    have e0 := hf 0 _ rfl
    have e1 := hf 1 _ rfl
    have e2 := hf 2 _ rfl
    obtain ⟨k, h0, _⟩ := read_int Try.underlying3 e0
    obtain ⟨u, bs, h1, h1'⟩ := read_bools Try.underlying36 Try.underlying4 (by kernel_rfl) e1
    obtain ⟨N, h2, _⟩ := read_int Try.underlying3 e2
    have q0 : [a] = [Value.int .i64 k] := h0
    have q1 : [b] = [u] := h1
    have q2 : [c] = [Value.int .i64 N] := h2
    cases q0; cases q1; cases q2
    exact ⟨(k, bs, N), b, rfl, h1'⟩) h
  rwa [cells47] at this

set_option maxRecDepth 100000 in
theorem lifted (os : Os) (started : os.Started) (H : Type) (enc : TypeId × Value → H) :
    ReturnsInHanded {} Try.checked os 9 .any (Rows.turnsPlaysSpec.pre6 enc Try.prog Try.f9 Rows.turnsPlaysRow.domain false) (Rows.turnsPlaysSpec.post enc Try.prog Try.f9 false true false false) := by
  refine returnsInHanded_of_change (C := Try.checked) own started (by kernel_rfl) Try.func9
    (ChangeSpec.witness6 (enc := enc) (C := Try.checked) false ⟨#[], #[.int .i64 0, .int .i64 0, .slice none 0 0], []⟩ 8 (by kernel_rfl) (by kernel_rfl) (by kernel_rfl) (by kernel_rfl)) ?_
  intro W base args ds gs before hval0 hW hcnd _
  have hval : ∀ (j : Nat) t v, Try.f9.params[j]? = some t → args[j]? = some v → Value.okWide Try.prog W .any base t v := hval0
  have hW' := hW
  obtain ⟨p, q, hA, hV, rfl, hfz, hnd⟩ := hW
  rw [Try.params9] at hA hval
  obtain ⟨v0, v1, v2, d0, d1, d2, p0, p1, p2, hargs, rfl, rfl, h0, h1, h2⟩ := trodAll_three hA
  obtain ⟨rfl, rfl⟩ := trodVars_none hV
  have : args = #[v0, v1, v2] := by simpa using hargs
  subst this
  obtain ⟨x0, rfl, _, _, w0⟩ := open_int Try.underlying3 (hval 0 3 v0 rfl rfl) h0
  obtain ⟨x1, rfl, _, _, w1⟩ := open_int Try.underlying3 (hval 1 3 v1 rfl rfl) h1
  obtain ⟨a2, l2, c2, rfl⟩ := okWide_slice Try.underlying43 (hval 2 43 v2 rfl rfl)
  obtain ⟨fuel, hf⟩ := h2
  obtain ⟨u, L, hu, hL⟩ := read W hf
  have hu' : Value.slice a2 l2 c2 = u := by
    have : [Value.slice a2 l2 c2] = [u] := hu
    simpa using this
  subst hu'
  have hb := bounds_i64 w0
  refine (walk W x0 x1 _ L hL (by omega) (by omega)).mono fun e W' ⟨he, hg⟩ => ?_
  exact ⟨_, he, law_post (tb := 4) laidOut (by
    rw [Try.params9]; intro t ht; simp at ht
    rcases ht with rfl | rfl
    · exact ⟨by kernel_rfl, of_decide_eq_true (by kernel_rfl)⟩
    · exact ⟨by kernel_rfl, of_decide_eq_true (by kernel_rfl)⟩) rfl Try.underlying4 rfl hW' rfl hg⟩
theorem over : Rows.turnsPlaysRow.holds Try.pinned (OpenSpec.ofChange Rows.turnsPlaysSpec) :=
  OpenClaim.holds_of_wide 9 Try.f9 rfl rfl rfl rfl rfl rfl rfl ⟨rfl, rfl, rfl, rfl, rfl⟩ rfl rfl rfl rfl rfl (by kernel_rfl) Try.func9 (by kernel_rfl)
    (of_decide_eq_true (by kernel_rfl)) (by unfold Func.isWrapper; first | (rw [if_pos (by decide +kernel)]; kernel_rfl) | (rw [if_neg (by decide +kernel)]; exact ⟨rfl, rfl⟩))
    (fun os started H enc _ => lifted os started H enc)
/-- The statement TurnsPlays. -/
theorem proved : Rows.TurnsPlaysSaid := over
#print axioms proved

end turnsPlays
end Go.Proofs.Ytjinppoecdbloaa
