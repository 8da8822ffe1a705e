/-
  TurnsFair: who is always ready has the turn in one of n Nexts. For every input.
-/
import Derived.Test.YtjinppoecdbloaaTurnsG
namespace Go.Proofs.Ytjinppoecdbloaa
open Go.RowKit Go.Shelf Go.ChangeShapes Go.WideShapes Go.ChangeAt
set_option linter.unusedVariables false

/-- The lists of the argument. -/
def RdBB (w : World) (v : Value) (L : List (List Bool)) : Prop := RdS w v 1 (fun cs bs => ∃ u, cs = [u] ∧ RdS w u 1 (fun cs (b : Bool) => cs = [.bool b]) bs) L

theorem RdBB.get {w : World} {v : Value} {L : List (List Bool)} (h : RdBB w v L) {k : Nat} (hk : k < L.length) : ∃ g o cap u, v = .slice (some ⟨g, o, none⟩) L.length cap ∧ g < w.heap.size ∧ w.cell? ⟨g, o + k, none⟩ = some u ∧ Rd w u (bools L[k]) := by
  obtain ⟨g, o, cap, cs, h1, _, _, h2, h3, u, rfl, h4⟩ := RdS.get h hk
  have hc : w.cell? ⟨g, o + k, none⟩ = some u := by simpa using h3 0 u rfl
  exact ⟨g, o, cap, u, h1, World.block_lt_of_cell? w _ hc, hc, h4.bools.1⟩

namespace turnsFair
/-- What holds at the head of the first loop. -/
structure Head (w : World) (n who k : Nat) (wr : World) (since : Int) : Prop where
  last : ∃ (last : Int) (ws : List Int) (s d sn : Nat), TurnsAt wr (w.heap.size + 2) (w.heap.size + 1) n last ws ∧ -1 ≤ last ∧ last < n ∧ (s : Int) = last + 1 ∧ d < n ∧ pos n s d = who ∧ since = (sn : Nat) ∧ sn + d < n ∧
    ∀ j, j < n → 0 ≤ ws.getD j 0 ∧ ws.getD j 0 ≤ (k : Int) + 1
  fr : Fr [] w wr

set_option maxRecDepth 100000 in
set_option maxHeartbeats 4000000 in
theorem long (w : World) (N Last Who : Int) (lv : Value) (p : Option Addr) (m cap : Nat) (hlv : lv = .slice p m cap) (hm : 2048 < m) (hc : m ≤ 9223372036854775807) :
    Calls Try.prog 8 #[.agg #[.int .i64 N, .int .i64 Last, .int .i64 Who, lv]] w fun e w' => e = .returned (.bool true) ∧ Fr [] w w' := by
  subst hlv
  go_enter Try.func8, Try.ntmps8
  go_wp2
  go_ret
  exact ⟨rfl, (Fr.refl _ _).alloc _⟩

set_option maxRecDepth 100000 in
set_option maxHeartbeats 4000000 in
theorem refused (w : World) (N Last Who : Int) (lv : Value) (p : Option Addr) (m cap : Nat) (hlv : lv = .slice p m cap) (hm : m ≤ 2048) (h : N < 1 ∨ 16 < N ∨ Last < -1 ∨ N ≤ Last) (hn : -9223372036854775808 ≤ N) (hn2 : N ≤ 9223372036854775807) :
    Calls Try.prog 8 #[.agg #[.int .i64 N, .int .i64 Last, .int .i64 Who, lv]] w fun e w' => e = .returned (.bool true) ∧ Fr [] w w' := by
  subst hlv
  have H1 := fun w => from_no w N Last h
  have H2 := fun w => rfrom_no w N Last h hn hn2
  have h1 := Lib.hid H1
  have h2 := Lib.hid H2
  clear H1 H2 h hn hn2
  go_enter Try.func8, Try.ntmps8
  go_wp2_with (first
    | (go_at_call 11; refine (h1.out _).mono ?_; rintro e w1 ⟨rfl, rfl⟩)
    | (go_at_call 12; refine (h2.out _).mono ?_; rintro e w1 ⟨rfl, rfl⟩))
  go_ret
  exact ⟨rfl, (Fr.refl _ _).alloc _⟩

set_option maxRecDepth 100000 in
set_option maxHeartbeats 4000000 in
theorem played (w : World) (n : Nat) (last Who r : Int) (who : Nat) (lv : Value) (p : Option Addr) (L : List (List Bool)) (cap : Nat) (hlv : lv = .slice p L.length cap) (hL : RdBB w lv L) (hm : L.length ≤ 2048)
    (hn0 : 0 < n) (hn : n ≤ 16) (hl1 : -1 ≤ last) (hl2 : last < n) (hr : Who.tmod n = r) (hr1 : -(n : Int) < r) (hr2 : r < n) (hwho : (r + n) % (n : Int) = (who : Nat)) (hw : who < n) :
    Calls Try.prog 8 #[.agg #[.int .i64 n, .int .i64 last, .int .i64 Who, lv]] w fun e w' => e = .returned (.bool true) ∧ Fr [] w w' := by
  have HL := Lib.hid hL
  have HE := Lib.hid hlv
  rw [hlv]
  clear hL hlv
  obtain ⟨N, hN⟩ : ∃ N, L.length = N := ⟨_, rfl⟩
  rw [hN] at hm ⊢
  have HN := Lib.hid hN
  clear hN
  have hne : ((n : Int) == 0) = false := by simp; omega
  have hdN : decide (2048 < (N : Int)) = false := by simp; omega
  have hmk := make_bools n (by omega)
  go_enter Try.func8, Try.ntmps8
  go_wp2_with fail
  refine (from_ok _ n last (by omega) hn hl1 hl2).mono ?_
  rintro e w1 ⟨rfl, t1, f1⟩
  have kx := f1.blk (Blk.new w #[.int .i64 n, .int .i64 last, .int .i64 Who, .slice p N cap] 30) (by simp)
  have cx := kx.at 2 (v := .int .i64 Who) rfl
  have F1 : Fr [] w w1 := ((Fr.refl [] w).alloc _).trans f1 (by simp)
  rw [World.size_alloc] at t1
  have hfr1 := f1.size
  simp only [World.size_alloc] at hfr1
  clear f1
  go_wp2_with fail
  simp only [hwho]
  go_loopw [10, 9] (fun i sn wr => ∃ k : Nat, i = .int .i64 k ∧ k ≤ N ∧ ∃ since : Int, sn = .int .i64 since ∧ Head w n who k wr since) (fun i _ _ => N - (intOf i).toNat)
  case atStart =>
    obtain ⟨d, hd, hp⟩ := pos_reach (last + 1).toNat hn0 hw
    exact ⟨0, rfl, Nat.zero_le _, 0, rfl, ⟨last, init n last, (last + 1).toNat, d, 0, t1, hl1, hl2, by omega, hd, hp, rfl, by omega, fun j hj => by have := init_bd n last j hj; omega⟩, F1⟩
  case round =>
    obtain ⟨k, rfl, hk, since, rfl, hh⟩ := hrel
    by_cases hlt : k < N
    · obtain ⟨⟨last', ws, s, d, sn, tt, g1, g2, g3, g4, g5, rfl, g7, g8⟩, hfr⟩ := hh
      obtain ⟨g, o, cap', u, he, hgl, hcu, hub⟩ := HL.out.get (k := k) (by rw [HN.out]; exact hlt)
      rw [HE.out, HN.out] at he
      cases he
      generalize L[k]'(by rw [HN.out]; exact hlt) = li at hub
      have hgl' : g < wr.heap.size := by have := hfr.size; omega
      have hcu' : wr.cell? ⟨g, o + k, none⟩ = some u := (hfr.cell hgl (by simp)).trans hcu
      have HT := Lib.hid tt
      clear hcu
      have hcp := copyL_bools n li
      have hno : (bools (List.replicate n false)).length = n := by simp [bools]
      have hb1 : Blk (wr.alloc (.cells (noes n) 4)) wr.heap.size (bools (List.replicate n false)).toArray 4 := Blk.new _ _ _
      have hub' : Rd (wr.alloc (.cells (noes n) 4)) u (bools li) := hub.grow (hfr.alloc _)
      have h13 := fun (w : World) (bt bw : Nat) (last : Int) (ws : List Int) (h : TurnsAt w bt bw n last ws) => len_some w bt (.int .i64 n) _ _ h.t
      have HA := Lib.hid (And.intro hcp (And.intro hno (And.intro hb1 hub')))
      have HM := Lib.hid hmk
      clear hcp hno hb1 hub' hub h13
      go_wp2_with (with_reducible refine wpList_cp rfl (.tmp 68) (.tmp 72) 36 36 rfl 4 Try.underlying36 (by kernel_rfl) wr.heap.size n n _ _ HA.out.2.1 4 u rfl rfl HA.out.2.2.1 HA.out.2.2.2 (bools_one _) ?_; intro w2 b2 f2 s2; rw [HA.out.1] at b2; have e2 : ∃ v, w2.cell? ⟨wr.heap.size, who, none⟩ = some (.bool v) := ⟨_, b2.bool (by rw [copied_len]; exact hw)⟩; obtain ⟨v2, e2⟩ := e2; have e3 := b2.free who)
      have b3 := b2.set who (.bool true)
      rw [bools_set] at b3
      have f3 : Fr [] wr (w2.setCell ⟨wr.heap.size, who, none⟩ (.bool true)) := (((Fr.refl [] wr).alloc _).trans f2 (by simp)).setCell _ _ (.inr (Nat.le_refl _))
      generalize World.setCell w2 _ _ = w3 at *
      have tt := HT.out
      have tt' := HT.out
      have t3 : TurnsAt w3 (w.heap.size + 2) (w.heap.size + 1) n last' ws := ⟨f3.blk tt.t (by simp), f3.blk tt.s (by simp), tt.len⟩
      have hbl : ((copied n li).set who true).length = n := by simp [copied_len]
      have hwr : isReady ((copied n li).set who true) who = true := by simp [isReady, List.getD_eq_getElem?_getD, copied_len, hw]
      generalize (copied n li).set who true = bs at *
      have hsz3 := b3.lt
      have htb := tt.t.lt
      have htw := tt.s.lt
      clear b2 f2 s2 e2 e3 tt
      (with_reducible refine (len_some w3 _ _ _ _ t3.t).mono ?_)
      rintro e w' ⟨rfl, rfl⟩
      go_wp2_with fail
      (with_reducible refine (last_some w3 _ n _ _ (by omega) t3.t).mono ?_)
      rintro e w' ⟨rfl, rfl⟩
      go_wp2_with fail
      (with_reducible refine (from_ok w3 n last' (by omega) hn g1 g2).mono ?_)
      rintro e w4 ⟨rfl, tu4, f4⟩
      have t4 : TurnsAt w4 (w.heap.size + 2) (w.heap.size + 1) n last' ws := ⟨f4.blk t3.t (by simp), f4.blk t3.s (by simp), t3.len⟩
      have b4 := f4.blk b3 (by simp)
      have hsz4 := f4.size
      go_wp2_with fail
      (with_reducible refine (orderq_any w4 _ _ n s last' 0 _ hn0 hn g1 g2 g3 t4).mono ?_)
      rintro e w5 ⟨v5, rfl, o5, n5, f5⟩
      have t5 : TurnsAt w5 (w.heap.size + 2) (w.heap.size + 1) n last' ws := ⟨f5.blk t4.t (by simp), f5.blk t4.s (by simp), t4.len⟩
      have tu5 : TurnsAt w5 (w3.heap.size + 1) w3.heap.size n last' (init n last') := ⟨f5.blk tu4.t (by simp), f5.blk tu4.s (by simp), tu4.len⟩
      have b5 := f5.blk b4 (by simp)
      go_wp2_with fail
      (with_reducible refine (orderq_any w5 _ _ n s last' 0 _ hn0 hn g1 g2 g3 tu5).mono ?_)
      rintro e w6 ⟨v6, rfl, o6, n6, f6⟩
      have t6 : TurnsAt w6 (w.heap.size + 2) (w.heap.size + 1) n last' ws := ⟨f6.blk t5.t (by simp), f6.blk t5.s (by simp), t5.len⟩
      have tu6 : TurnsAt w6 (w3.heap.size + 1) w3.heap.size n last' (init n last') := ⟨f6.blk tu5.t (by simp), f6.blk tu5.s (by simp), tu5.len⟩
      have b6 := f6.blk b5 (by simp)
      have r5 := (RdInts.of_own o5).kept (w' := w6) (fun g o n c e => f6.block g (by
        rcases o5.2 with ⟨h1, _⟩ | ⟨g', cap, cur, h1, _, h2, _⟩
        · rw [h1] at e; cases e
        · rw [h1] at e; cases e; exact (Array.getElem?_eq_some_iff.1 h2).1) (by simp))
      have r6 := RdInts.of_own o6
      have hal : (asks n s (upTo 0 n)).length ≤ 1000000 := by rw [asks_len]; unfold upTo; split <;> omega
      go_wp2_with fail
      (with_reducible refine (same_any w6 _ _ _ _ r5 r6 hal hal).mono ?_)
      rintro e w7 ⟨he, j7, rfl⟩
      rw [decide_eq_true rfl] at he
      subst he
      have F37 : Fr [] w3 (w6.drewN j7) := ((f4.trans f5 (by simp)).trans f6 (by simp)).drewN _
      have t7 : TurnsAt (w6.drewN j7) (w.heap.size + 2) (w.heap.size + 1) n last' ws := ⟨t6.t.drewN _, t6.s.drewN _, t6.len⟩
      have tu7 : TurnsAt (w6.drewN j7) (w3.heap.size + 1) w3.heap.size n last' (init n last') := ⟨tu6.t.drewN _, tu6.s.drewN _, tu6.len⟩
      have b7 := b6.drewN j7
      have hs6 := (f5.trans f6 (by simp)).size
      have hs7 : wr.heap.size < (w6.drewN j7).heap.size := b7.lt
      generalize w6.drewN j7 = w7 at *
      clear t3 t4 t5 t6 tu4 tu5 tu6 b3 b4 b5 b6 r5 r6 o5 o6 n5 n6 f4 f5 f6
      go_wp2_with fail
      have rd7 : Rd w7 (.slice (some ⟨wr.heap.size, 0, none⟩) n n) (bools bs) := by have := b7.rdb; rwa [hbl] at this
      have hbs : bs.length ≤ 9223372036854775807 := by omega
      have hrd : isReady bs (pos n s d) = true := by rw [g5]; exact hwr
      (with_reducible refine (nextq_some w7 _ _ n s d last' ws _ bs hn0 hn g1 g2 g3 (fun j hj => by have := g8 j hj; omega) t7 rd7 hbs (fun g o n c e _ => by cases e; exact ⟨hs7, by omega, by omega⟩) g4 hrd).mono ?_)
      rintro e w8 ⟨j, v8, j1, j2, j3, rfl, t8, f8⟩
      have tu8 : TurnsAt w8 (w3.heap.size + 1) w3.heap.size n last' (init n last') := ⟨f8.blk tu7.t (by simp; omega), f8.blk tu7.s (by simp; omega), tu7.len⟩
      have b8 := f8.blk b7 (by simp; omega)
      have rd8 : Rd w8 (.slice (some ⟨wr.heap.size, 0, none⟩) n n) (bools bs) := by have := b8.rdb; rwa [hbl] at this
      have hs8 := f8.size
      go_wp2_with fail
      (with_reducible refine (nextq_some w8 _ _ n s d last' _ _ bs hn0 hn g1 g2 g3 (fun j hj => by have := init_bd n last' j hj; omega) tu8 rd8 hbs (fun g o n c e _ => by cases e; exact ⟨by omega, by omega, by omega⟩) g4 hrd).mono ?_)
      rintro e w9 ⟨j', v9, i1, i2, i3, rfl, -, f9⟩
      obtain rfl : j = j' := first_unique j2 j3 i2 i3
      have t9 : TurnsAt w9 (w.heap.size + 2) (w.heap.size + 1) n (pos n s j : Nat) (given ws (pos n s j)) := ⟨f9.blk t8.t (by simp; omega), f9.blk t8.s (by simp; omega), t8.len⟩
      have b9 := f9.blk b8 (by simp; omega)
      have hpl := pos_lt (n := n) s j hn0
      have cp : w9.cell? ⟨wr.heap.size, pos n s j, none⟩ = some (.bool true) := by
        have := b9.bool (k := pos n s j) (by rw [hbl]; exact hpl)
        rw [this]
        exact congrArg (fun b => some (Value.bool b)) j3
      have F09 : Fr [] w w9 := ((((hfr.trans f3 (by simp)).trans F37 (by simp)).trans f8 (by intro x hx; simp at hx; right; omega)).trans f9 (by intro x hx; simp at hx; right; omega))
      have hstep : pos n s j ≠ who → pos n (pos n s j + 1) (d - j - 1) = who ∧ j < d := fun hne => by
        have hjd : j < d := by
          rcases Nat.lt_or_ge j d with h | h
          · exact h
          · exact absurd (by rw [show j = d by omega]; exact g5) hne
        exact ⟨pos_step hn0 g5 hjd, hjd⟩
      have gb9 := given_bd (k := pos n s j) tt'.len (by omega) g8
      generalize pos n s j = q at *
      have HQ := Lib.hid (And.intro hstep (And.intro gb9 (And.intro t9 F09)))
      clear hstep gb9 t9 F09 b9 b8 b7 rd7 rd8 t7 t8 tu7 tu8 f8 f9 f3 F37 g5 j2 j3 i2 i3 hrd hwr g8 tt' hfr t1 F1 hn0 hbl hbs g3
      by_cases hqw : q = who
      · subst hqw
        go_wp2
        go_roundw
        case rel =>
          obtain ⟨-, gb9, t9, F09⟩ := HQ.out
          exact ⟨k + 1, by go_num, by omega, 0, rfl, ⟨(q : Nat), given ws q, q + 1, n - 1, 0, t9, by omega, by omega, by omega, by omega, pos_round (by omega) hpl, rfl, by omega, fun j hj => by have := gb9 j hj; omega⟩, F09⟩
        case measure => simp [intOf]; omega
      · have hqw' : ((q : Int) == who) = false := by simp; omega
        have hge : (sn : Int) + 1 < n := by have := HQ.out.1 hqw; omega
        have HW := Lib.hid hqw
        clear hqw
        go_wp2
        go_roundw
        case rel =>
          obtain ⟨hs, gb9, t9, F09⟩ := HQ.out
          obtain ⟨hs1, hs2⟩ := hs HW.out
          exact ⟨k + 1, by go_num, by omega, (sn : Int) + 1, rfl, ⟨(q : Nat), given ws q, q + 1, d - j - 1, sn + 1, t9, by omega, by omega, by omega, by omega, hs1, by omega, by omega, fun j hj => by have := gb9 j hj; omega⟩, F09⟩
        case measure => simp [intOf]; omega
    · obtain rfl : k = N := by omega
      obtain ⟨wo, rfl⟩ : ∃ wo : World, wo = wr := ⟨_, rfl⟩
      obtain ⟨⟨last', ws, s, d, sn, tt, g1, g2, g3, g4, g5, rfl, g7, g8⟩, hfr⟩ := hh
      have HT := Lib.hid (And.intro tt (And.intro hfr (And.intro g8 (And.intro g3 hm))))
      clear tt hfr g8 g3 g5 t1 F1 cx
      go_wp2_with fail
      go_loopw [21] (fun i wx => ∃ m : Nat, i = .int .i64 m ∧ m ≤ n ∧ Blk wx wo.heap.size (bools (List.replicate m true ++ List.replicate (n - m) false)).toArray 4 ∧ Fr [] wo wx) (fun i _ => n - (intOf i).toNat)
      case atStart => exact ⟨0, rfl, Nat.zero_le _, by simpa [noes] using Blk.new wo (noes n) 4, (Fr.refl _ _).alloc _⟩
      case round =>
        obtain ⟨wx, rfl⟩ : ∃ wx : World, wx = wr := ⟨_, rfl⟩
        obtain ⟨m, rfl, hmn, bm, fm⟩ := hrel
        by_cases hlm : m < n
        · have hlen : (List.replicate m true ++ List.replicate (n - m) false).length = n := by simp; omega
          have em := bm.bool (k := m) (by rw [hlen]; exact hlm)
          have emf := bm.free m
          obtain ⟨vb, hvb⟩ : ∃ vb, (List.replicate m true ++ List.replicate (n - m) false).getD m false = vb := ⟨_, rfl⟩
          rw [hvb] at em
          have hset : (List.replicate m true ++ List.replicate (n - m) false).set m true = List.replicate (m + 1) true ++ List.replicate (n - (m + 1)) false := by
            rw [List.set_append_right _ _ (by simp), List.length_replicate, Nat.sub_self, List.replicate_succ' , List.append_assoc]
            obtain ⟨c, hc⟩ : ∃ c, n - m = c + 1 := ⟨n - m - 1, by omega⟩
            rw [hc, show n - (m + 1) = c by omega]
            rfl
          have HS := Lib.hid hset
          clear hset hvb hlen
          go_wp2
          go_roundw
          case rel => exact ⟨m + 1, by go_num, by omega, by rw [← HS.out, ← bools_set]; exact bm.set m _, fm.setCell _ _ (.inr (Nat.le_refl _))⟩
          case measure => simp [intOf]; omega
        · obtain rfl : m = n := by omega
          obtain ⟨tt, hfr, g8, g3, hm⟩ := HT.out
          have hbl : (List.replicate m true ++ List.replicate (m - m) false) = List.replicate m true := by simp
          rw [hbl] at bm
          have tx : TurnsAt wx (w.heap.size + 2) (w.heap.size + 1) m last' ws := ⟨fm.blk tt.t (by simp), fm.blk tt.s (by simp), tt.len⟩
          have FX : Fr [] w wx := hfr.trans fm (by simp)
          have hgx : w.heap.size + 2 < wo.heap.size := tt.t.lt
          have HM2 := Lib.hid hm
          clear hbl tt hfr fm g3
          go_wp2_with fail
          (with_reducible refine (last_some wx _ m _ _ (by omega) tx.t).mono ?_)
          rintro e w' ⟨rfl, rfl⟩
          go_wp2_with fail
          go_loopw [23, 22] (fun i at_ wz => ∃ t : Nat, i = .int .i64 t ∧ t ≤ 2 * m ∧ ∃ (a : Int) (ws : List Int), at_ = .int .i64 a ∧ TurnsAt wz (w.heap.size + 2) (w.heap.size + 1) m a ws ∧ -1 ≤ a ∧ a < m ∧ (∀ j, j < m → 0 ≤ ws.getD j 0 ∧ ws.getD j 0 ≤ (3000 + t : Nat)) ∧
            Blk wz wo.heap.size (bools (List.replicate m true)).toArray 4 ∧ Fr [] w wz) (fun i _ _ => 2 * m - (intOf i).toNat)
          case atStart =>
            have hm := HM2.out
            exact ⟨0, rfl, Nat.zero_le _, last', ws, rfl, tx, g1, g2, fun j hj => by have := g8 j hj; omega, bm, FX⟩
          case round =>
            obtain ⟨wz, rfl⟩ : ∃ wz : World, wz = wr := ⟨_, rfl⟩
            obtain ⟨t, rfl, ht, a, wt, rfl, tz, a1, a2, a3, bz, FZ⟩ := hrel
            by_cases hlt : t < 2 * m
            · have hrd : isReady (List.replicate m true) (pos m (a + 1).toNat 0) = true := by
                have := pos_lt (n := m) (a + 1).toNat 0 hn0
                simp [isReady, List.getD_eq_getElem?_getD, this]
              have hq : ((pos m (a + 1).toNat 0 : Nat) : Int) = (a + 1) % (m : Int) := by
                unfold pos
                rw [Nat.add_zero]
                have : ((a + 1).toNat : Int) = a + 1 := by omega
                rw [Int.natCast_emod, this]
              have rz : Rd wz (.slice (some ⟨wo.heap.size, 0, none⟩) m m) (bools (List.replicate m true)) := by have := bz.rdb; rwa [List.length_replicate] at this
              have hc := nextq_some wz _ _ m (a + 1).toNat 0 a wt _ (List.replicate m true) hn0 hn a1 a2 (by omega) (fun j hj => by have := a3 j hj; omega) tz rz (by simp; omega) (fun g o n c e _ => by cases e; exact ⟨bz.lt, by omega, by omega⟩) hn0 hrd
              have HC := Lib.hid hc
              have HB := Lib.hid (And.intro tz (And.intro a3 (And.intro bz FZ)))
              have HQ := Lib.hid hq
              clear hc hrd hq rz tz a3 bz FZ FX bm tx g8
              go_wp2_with fail
              (with_reducible refine HC.out.mono ?_)
              rintro e w9 ⟨j, v, j1, -, -, rfl, t9, f9⟩
              obtain rfl : j = 0 := by omega
              have hq := HQ.out
              have hql := pos_lt (n := m) (a + 1).toNat 0 hn0
              generalize pos m (a + 1).toNat 0 = q at *
              have hneq : ((q : Int) != (a + 1) % (m : Int)) = false := by rw [hq]; simp
              have HT9 := Lib.hid t9
              clear hq t9
              go_wp2
              go_roundw
              case rel =>
                obtain ⟨tz, a3, bz, FZ⟩ := HB.out
                have gb := given_bd (k := q) tz.len (by omega) a3
                refine ⟨t + 1, by go_num, by omega, _, given wt q, rfl, ?_, ?_, ?_, fun j hj => by have := gb j hj; omega, f9.blk bz (by simp; omega), FZ.trans f9 (by intro x hx; simp at hx; right; omega)⟩
                · rw [← HQ.out]; exact HT9.out
                · rw [← HQ.out]; omega
                · rw [← HQ.out]; omega
              case measure => simp [intOf]; omega
            · go_wp2
              go_ret
              exact ⟨rfl, FZ⟩

theorem walk (w : World) (N last Who : Int) (lv : Value) (L : List (List Bool)) (hL : RdBB w lv L) (b1 : -9223372036854775808 ≤ N) (b2 : N ≤ 9223372036854775807) :
    Calls Try.prog 8 #[.agg #[.int .i64 N, .int .i64 last, .int .i64 Who, lv]] w fun e w' => e = .returned (.bool true) ∧ Fr [] w w' := by
  obtain ⟨p, cap, hlv, hc, hm⟩ := hL.form
  by_cases h1 : 2048 < L.length
  · exact long w N last Who lv p _ cap hlv h1 (by unfold maxLen at hm; omega)
  · by_cases h2 : N < 1 ∨ 16 < N ∨ last < -1 ∨ N ≤ last
    · exact refused w N last Who lv p _ cap hlv (by omega) h2 b1 b2
    · obtain ⟨n, rfl⟩ := Int.eq_ofNat_of_zero_le (show 0 ≤ N by omega)
      have hn : (0 : Int) < n := by omega
      have hr1 : -(n : Int) < Who.tmod n := by
        rcases Int.le_total 0 Who with h | h
        · have := Int.tmod_nonneg (n : Int) h; omega
        · have h3 := Int.tmod_lt_of_pos (-Who) hn
          rw [Int.neg_tmod] at h3
          omega
      have hr2 : Who.tmod n < n := Int.tmod_lt_of_pos Who hn
      have hw1 := Int.emod_nonneg (Who.tmod n + n) (show (n : Int) ≠ 0 by omega)
      have hw2 := Int.emod_lt_of_pos (Who.tmod n + n) hn
      obtain ⟨who, hwho⟩ := Int.eq_ofNat_of_zero_le hw1
      exact played w n last Who _ who lv p L cap hlv hL (by omega) (by omega) (by omega) (by omega) (by omega) rfl hr1 hr2 hwho (by omega)

theorem read (w : World) {H : Type} {enc : TypeId × Value → H} {fuel : Nat} {cs : List Value} {x : DataW H × List MemPlace} (h : DataW.trod enc Try.prog w 0 (fun _ => true) true fuel 28 cs = some x) : ∃ v L, cs = [v] ∧ RdBB w v L :=
  read_slice Try.underlying28 (by decide +kernel) _ (fun n cs x hx => by
    obtain ⟨u, bs, rfl, hb⟩ := read_bools Try.underlying36 Try.underlying4 (by kernel_rfl) hx
    exact ⟨bs, u, rfl, hb⟩) h

set_option maxRecDepth 100000 in
theorem lifted (os : Os) (started : os.Started) (H : Type) (enc : TypeId × Value → H) :
    ReturnsInHanded {} Try.checked os 8 .any (Rows.turnsFairSpec.pre6 enc Try.prog Try.f8 Rows.turnsFairRow.domain false) (Rows.turnsFairSpec.post enc Try.prog Try.f8 false true false false) := by
  refine returnsInHanded_of_change (C := Try.checked) own started (by kernel_rfl) Try.func8
    (ChangeSpec.witness6 (enc := enc) (C := Try.checked) false ⟨#[], #[.agg #[.int .i64 0, .int .i64 0, .int .i64 0, .slice none 0 0]], []⟩ 8 (by kernel_rfl) (by kernel_rfl) (by kernel_rfl) (by kernel_rfl)) ?_
  intro W base args ds gs before hval0 hW hcnd _
  have hval : ∀ (j : Nat) t v, Try.f8.params[j]? = some t → args[j]? = some v → Value.okWide Try.prog W .any base t v := hval0
  have hW' := hW
  obtain ⟨p, q, hA, hV, rfl, hfz, hnd⟩ := hW
  rw [Try.params8] at hA hval
  obtain ⟨v0, d0, hargs, rfl, h0⟩ := trodAll_one hA
  obtain ⟨rfl, rfl⟩ := trodVars_none hV
  have : args = #[v0] := by simpa using hargs
  subst this
  obtain ⟨c0, c1, c2, c3, y0, y1, y2, y3, m, rfl, rfl, rfl, t0, t1, t2, t3⟩ := Joins.open_agg4 Try.underlying30 (by kernel_rfl) (by kernel_rfl) (hval 0 30 v0 rfl rfl) h0
  obtain ⟨x0, e0, _, w0⟩ := DataW.trod_int Try.underlying3 t0
  obtain ⟨x1, e1, _, w1⟩ := DataW.trod_int Try.underlying3 t1
  obtain ⟨x2, e2, _, w2⟩ := DataW.trod_int Try.underlying3 t2
  obtain ⟨x3, L, e3, hL⟩ := read W t3
  simp only [List.cons.injEq, and_true] at e0 e1 e2 e3
  subst e0 e1 e2 e3
  have hb := bounds_i64 w0
  refine (walk W x0 x1 x2 _ L hL (by omega) (by omega)).mono fun e W' ⟨he, hg⟩ => ?_
  exact ⟨_, he, law_post (tb := 4) laidOut (by rw [Try.params8]; intro t ht; simp at ht; subst ht; exact ⟨by kernel_rfl, of_decide_eq_true (by kernel_rfl)⟩) rfl Try.underlying4 rfl hW' rfl hg⟩
theorem over : Rows.turnsFairRow.holds Try.pinned (OpenSpec.ofChange Rows.turnsFairSpec) :=
  OpenClaim.holds_of_wide 8 Try.f8 rfl rfl rfl rfl rfl rfl rfl ⟨rfl, rfl, rfl, rfl, rfl⟩ rfl rfl rfl rfl rfl (by kernel_rfl) Try.func8 (by kernel_rfl)
    (of_decide_eq_true (by kernel_rfl)) (by unfold Func.isWrapper; first | (rw [if_pos (by decide +kernel)]; kernel_rfl) | (rw [if_neg (by decide +kernel)]; exact ⟨rfl, rfl⟩))
    (fun os started H enc _ => lifted os started H enc)
/-- The statement TurnsFair. -/
theorem proved : Rows.TurnsFairSaid := over
#print axioms proved
end turnsFair
end Go.Proofs.Ytjinppoecdbloaa
