/-
  SendNumbers: the walk.
-/
import Derived.Test.YtehdhdocalbfpaaSendG
import Derived.Deep.CutBlock
import Derived.Deep.DeepCutAuto
namespace Go.Proofs.Ytehdhdocalbfpaa
open Go.RowKit ring
set_option linter.unusedVariables false
attribute [local go_sem ↓] Go.wp_at_zero Go.wp_at_succ newVar56
attribute [local go_sem] ev_layEv_same can_new run_storeEv0 run_newEv run_newEv'

/-- A step of a script. -/
structure Stp where
  kd : Int
  e : Ev
  nw : Int
  nm : Int
def Stp.cells (s : Stp) : List Value := .int .i64 s.kd :: (s.e.cells ++ [.int .u32 s.nw, .int .u64 s.nm])
theorem new_cells (w : World) (e : Ev) : ∀ j u, e.cells[j]? = some u → (w.alloc (.cells e.cells.toArray 56)).cell? ((⟨w.heap.size, 0, none⟩ : Addr).add j) = some u := by
  intro j u hj
  rw [Addr.add_lit]
  have := (Blk.new w e.cells.toArray 56).at j (v := u) (by simpa using hj)
  simpa using this
theorem ev_one (e : Ev) : ∀ u ∈ e.cells, u.oneCell' = true := by
  intro u hu
  simp [Ev.cells] at hu
  rcases hu with rfl | rfl | rfl | rfl | rfl | rfl | rfl | rfl <;> rfl
namespace sendNumbers

set_option maxRecDepth 100000 in
theorem walk_bad (w : World) (fr : Bool) (win tmo most ac : Int) (p1 p2 : Option Addr) (l1 c1 l2 c2 : Nat) (lp : Option Addr) (n cap : Nat) (h : win < 1 ∨ 32 < win ∨ tmo < 1 ∨ 1000 < tmo ∨ most < 1 ∨ 256 < most) :
    Calls Try.prog 5 #[.agg #[.bool fr, .int .i64 win, .int .i64 tmo, .int .i64 most, .int .u64 ac, .slice p1 l1 c1, .slice p2 l2 c2], .slice lp n cap] w fun e w' => e = .returned (.bool true) ∧ Fr [] w w' := by
  have H := Lib.hid (fun w => snew_no w win tmo most h)
  have F := Lib.hid ((Fr.refl [] w).alloc (.cells #[.bool fr, .int .i64 win, .int .i64 tmo, .int .i64 most, .int .u64 ac, .slice p1 l1 c1, .slice p2 l2 c2] 45))
  clear h
  go_enter Try.func5, Try.ntmps5
  go_wp2_with fail
  (with_reducible refine (H.out _).mono ?_)
  rintro e w1 ⟨rfl, rfl⟩
  by_cases hn : 4096 < n
  · have i1 : (4096 : Int) < (n : Int) := by omega
    go_wp2
    go_ret
    exact ⟨rfl, F.out⟩
  · have i1 : ¬ (4096 : Int) < (n : Int) := by omega
    go_wp2
    go_ret
    exact ⟨rfl, F.out⟩
set_option maxRecDepth 100000 in
theorem walk_long (w : World) (fr : Bool) (win tmo most : Nat) (ac : Int) (p1 p2 : Option Addr) (l1 c1 l2 c2 : Nat) (lp : Option Addr) (n cap : Nat) (h1 : 1 ≤ win ∧ win ≤ 32) (h2 : 1 ≤ tmo ∧ tmo ≤ 1000) (h3 : 1 ≤ most ∧ most ≤ 256) (hn : 4096 < n) :
    Calls Try.prog 5 #[.agg #[.bool fr, .int .i64 win, .int .i64 tmo, .int .i64 most, .int .u64 ac, .slice p1 l1 c1, .slice p2 l2 c2], .slice lp n cap] w fun e w' => e = .returned (.bool true) ∧ Fr [] w w' := by
  have H := Lib.hid (fun w => snew_ok w win tmo most h1 h2 h3)
  have F := Lib.hid ((Fr.refl [] w).alloc (.cells #[.bool fr, .int .i64 win, .int .i64 tmo, .int .i64 most, .int .u64 ac, .slice p1 l1 c1, .slice p2 l2 c2] 45))
  have i1 : (4096 : Int) < (n : Int) := by omega
  clear h1 h2 h3
  go_enter Try.func5, Try.ntmps5
  go_wp2_with fail
  (with_reducible refine (H.out _).mono ?_)
  rintro e w1 ⟨S, sb, rfl, s1, s2, f1⟩
  have F2 := Lib.hid (F.out.trans f1 (by simp))
  clear s1 s2 f1
  go_wp2
  go_ret
  exact ⟨rfl, F2.out⟩

set_option maxRecDepth 100000 in
set_option maxHeartbeats 40000000 in
theorem walk_ok (w : World) (fr : Bool) (win tmo most : Nat) (ac : Int) (p1 p2 : Option Addr) (l1 c1 l2 c2 : Nat) (lv : Value) (l : List Stp) (h1 : 1 ≤ win ∧ win ≤ 32) (h2 : 1 ≤ tmo ∧ tmo ≤ 1000) (h3 : 1 ≤ most ∧ most ≤ 256) (hP : RdS w lv 11 (fun cs (s : Stp) => cs = s.cells) l) (hl : l.length ≤ 4096) :
    Calls Try.prog 5 #[.agg #[.bool fr, .int .i64 win, .int .i64 tmo, .int .i64 most, .int .u64 ac, .slice p1 l1 c1, .slice p2 l2 c2], lv] w fun e w' => e = .returned (.bool true) ∧ Fr [] w w' := by
  obtain ⟨p, c, rfl, hc, hcm⟩ := RdS.form hP
  have HP := Lib.hid hP
  obtain ⟨n, hn⟩ : ∃ n, n = l.length := ⟨_, rfl⟩
  have hmx : maxLen = 9223372036854775807 := by decide
  rw [← hn] at hl ⊢
  have H := Lib.hid (fun w => snew_ok w win tmo most h1 h2 h3)
  obtain ⟨cs, hcs⟩ : ∃ cs : Array Value, cs = #[.bool fr, .int .i64 win, .int .i64 tmo, .int .i64 most, .int .u64 ac, .slice p1 l1 c1, .slice p2 l2 c2] := ⟨_, rfl⟩
  have f0 := (Fr.refl [] w).alloc (.cells #[.bool fr, .int .i64 win, .int .i64 tmo, .int .i64 most, .int .u64 ac, .slice p1 l1 c1, .slice p2 l2 c2] 45)
  have hX0 := Blk.new w #[.bool fr, .int .i64 win, .int .i64 tmo, .int .i64 most, .int .u64 ac, .slice p1 l1 c1, .slice p2 l2 c2] 45
  obtain ⟨xb, hxb⟩ : ∃ xb, xb = w.heap.size := ⟨_, rfl⟩
  rw [← hxb] at hX0
  have F := Lib.hid (And.intro f0 (And.intro hX0 (And.intro hxb (And.intro hcs hn))))
  have i1 : ¬ (4096 : Int) < (n : Int) := by omega
  have hbnd := Lib.hid (And.intro h1 (And.intro h2 h3))
  clear hcs hP hn hc hmx f0 hX0
  go_enter Try.func5, Try.ntmps5
  go_wp2_with fail
  simp only [← hxb]
  generalize (w.alloc _) = w0 at *
  (with_reducible refine (H.out _).mono ?_)
  rintro e w1 ⟨S, sb, rfl, s1, s2, f1⟩
  have hN : NAt w w1 S sb xb cs win tmo most 0 [] [] [] (.slice none 0 0) := by
    obtain ⟨f0, hX0, hxb, hcs, hn⟩ := F.out
    refine ⟨s1, fun b hb => Nat.le_trans f0.size (s2 b hb), World.ownsRow_nil _ _ _ _, by simp [Value.ownBlock], f0.trans f1 (by simp), by rw [hcs]; exact f1.blk hX0 (by simp), by omega⟩
  have HN0 := Lib.hid hN
  clear s1 s2 f1 hN hxb
  go_wp2_with fail
  go_loopw [7, 8, 9] (fun vo last i wr => ∃ (k acked : Nat) (S : List Nat) (O : List Ev) (A : List Int), last = .int .u64 ((acked : Int) + (A.length : Int)) ∧ i = .int .i64 k ∧ k ≤ n ∧ O.length ≤ k ∧ acked ≤ O.length ∧ NAt w wr S sb xb cs win tmo most acked (O.drop acked) A O vo) (fun _ _ i _ => n - (intOf i).toNat)
  case atStart => exact ⟨0, 0, S, [], [], rfl, rfl, Nat.zero_le _, Nat.le_refl _, Nat.le_refl _, HN0.out⟩
  case round =>
    obtain ⟨k, acked, S, O, A, rfl, rfl, hk, hOk, hao, hA⟩ := hrel
    obtain ⟨wi, rfl⟩ : ∃ wi : World, wi = wr := ⟨_, rfl⟩
    clear HN0
    by_cases hlt : k < n
    · obtain ⟨lg, lo, cap', cc, he, _, _, _, hcell, hcc⟩ := HP.out.get (k := k) (by rw [← F.out.2.2.2.2]; exact hlt)
      rw [← F.out.2.2.2.2] at he
      cases he
      obtain ⟨s, hs⟩ : ∃ s, s = l[k]'(by rw [← F.out.2.2.2.2]; exact hlt) := ⟨_, rfl⟩
      rw [← hs] at hcc
      subst hcc
      have hfr := hA.fr
      have hcl : ∀ j u, s.cells[j]? = some u → wi.cell? ⟨lg, lo + k * 11 + j, none⟩ = some u := fun j u hj => by
        have := hcell j u hj
        exact (hfr.cell (World.block_lt_of_cell? w _ this) (by simp)).trans this
      have d0 : wi.cell? ⟨lg, lo + k * 11, none⟩ = some (.int .i64 s.kd) := by have := hcl 0 _ rfl; simpa using this
      have d1 : ev? wi lg (lo + k * 11 + 1) = some s.e.val := ev_of_cells (fun j u hj => by
        have hj8 : j < 8 := by have := (List.getElem?_eq_some_iff.1 hj).1; simpa [Ev.cells] using this
        have := hcl (1 + j) u (by
          rw [Stp.cells, Nat.add_comm, List.getElem?_cons_succ, List.getElem?_append_left (by simpa [Ev.cells] using hj8)]
          exact hj)
        rw [← Nat.add_assoc] at this
        exact this)
      have d9 : wi.cell? ⟨lg, lo + k * 11 + 9, none⟩ = some (.int .u32 s.nw) := hcl 9 _ rfl
      have d10 : wi.cell? ⟨lg, lo + k * 11 + 10, none⟩ = some (.int .u64 s.nm) := hcl 10 _ rfl
      obtain ⟨ls, hls⟩ : ∃ ls : Int, ls = (acked : Int) + (A.length : Int) := ⟨_, rfl⟩
      rw [← hls]
      have d1w : ev? w lg (lo + k * 11 + 1) = some s.e.val := ev_of_cells (fun j u hj => by
        have hj8 : j < 8 := by have := (List.getElem?_eq_some_iff.1 hj).1; simpa [Ev.cells] using this
        have := hcell (1 + j) u (by
          rw [Stp.cells, Nat.add_comm, List.getElem?_cons_succ, List.getElem?_append_left (by simpa [Ev.cells] using hj8)]
          exact hj)
        rw [← Nat.add_assoc] at this
        exact this)
      clear hcell hcl hs hfr
      obtain ⟨kd, hkd⟩ : ∃ kd, s.kd = kd := ⟨_, rfl⟩
      rw [hkd] at d0
      clear hkd
      have D1 := Lib.hid d1w
      clear d1w
      obtain ⟨pv, cv, hvo⟩ := hA.form
      obtain ⟨on, hon⟩ : ∃ on, on = O.length := ⟨_, rfl⟩
      rw [← hon] at hvo
      subst hvo
      have HONN := Lib.hid hon
      have HD19 := Lib.hid (And.intro d1 (And.intro d9 d10))
      have HAA := Lib.hid (And.intro hA (And.intro hao (And.intro hOk hls)))
      clear hon d1 d9 d10 hA hao hOk hls
      go_upto_block 2 with fail
      go_cut [7] from 43 to 229 (fun s7 wx => ∃ (acked' : Nat) (S' : List Nat) (O' : List Ev) (A' : List Int) (p' : Option Addr) (on' c' : Nat), s7 = .slice p' on' c' ∧ on' = O'.length ∧ O'.length ≤ k + 1 ∧ acked' ≤ O'.length ∧ ls ≤ (acked' : Int) + (A'.length : Int) ∧ NAt w wx S' sb xb cs win tmo most acked' (O'.drop acked') A' O' (.slice p' on' c'))
      case rest =>
        obtain ⟨acked', S', O', A', p', on', c', rfl, hon', hOk', hao', hlow, hT⟩ := hcut
        obtain ⟨wt, rfl⟩ : ∃ wt : World, wt = wc := ⟨_, rfl⟩
        have hL' : (O'.drop acked').length = O'.length - acked' := by rw [List.length_drop]
        have HON := Lib.hid hon'
        clear hon' d0
        go_wp2_with fail
        have hon := HON.out
        have hTl := hT.snd.len
        have hTw := hT.snd.aw
        have hTal := hT.snd.al
        have x1 := hT.xc.at 1 (v := .int .i64 win) (by rw [F.out.2.2.2.1]; rfl)
        have x3 := hT.xc.at 3 (v := .int .i64 most) (by rw [F.out.2.2.2.1]; rfl)
        obtain ⟨h1, h2, h3⟩ := hbnd.out
        obtain ⟨si, hsi⟩ : ∃ si : Int, si = (acked' : Int) + ((A').length : Int) := ⟨_, rfl⟩
        obtain ⟨ai, hai⟩ : ∃ ai : Int, ai = (acked' : Int) := ⟨_, rfl⟩
        obtain ⟨fi, hfi⟩ : ∃ fi : Int, fi = ((most - (O'.drop acked').length : Nat) : Int) := ⟨_, rfl⟩
        have HS := Lib.hid (fun m => show Calls Try.prog 23 #[.pointer (some ⟨sb, 0, none⟩)] (wt.drewN m) fun e w' => e = .returned (.int .u64 si) ∧ ∃ q, w' = (wt.drewN m).drewN q by rw [hsi]; exact snd_sent (wt.drewN m) S' sb win tmo most (acked') (O'.drop acked') (A') (hT.snd.fr0 ((Fr.refl [] wt).drewN m)))
        have HC := Lib.hid (fun m => show Calls Try.prog 21 #[.pointer (some ⟨sb, 0, none⟩)] (wt.drewN m) fun e w' => e = .returned (.int .u64 ai) ∧ w' = wt.drewN m by rw [hai]; exact (snd_acked (wt.drewN m) S' sb win tmo most (acked') (O'.drop acked') (A') (hT.snd.fr0 ((Fr.refl [] wt).drewN m))).mono fun _ _ h => ⟨h.1, h.2.symm⟩)
        have HR := Lib.hid (fun m => show Calls Try.prog 18 #[.pointer (some ⟨sb, 0, none⟩)] (wt.drewN m) fun e w' => e = .returned (.int .i64 fi) ∧ w' = wt.drewN m by rw [hfi]; exact (snd_free (wt.drewN m) S' sb win tmo most (acked') (O'.drop acked') (A') (hT.snd.fr0 ((Fr.refl [] wt).drewN m))).mono fun _ _ h => ⟨h.1, h.2.symm⟩)
        have i1 : decide (si < ls) = false := by rw [decide_eq_false_iff_not]; omega
        have k1 : IntKind.u64.wrap (win : Int) = win := by rw [IntKind.wrap_u64]; omega
        have k2 : IntKind.u64.wrap (ai + win) = ai + win := by rw [IntKind.wrap_u64]; omega
        have i2 : decide (ai + win < si) = false := by rw [decide_eq_false_iff_not]; omega
        have k3 : IntKind.i64.wrap (fi + on') = fi + on' := by rw [IntKind.wrap_i64]; omega
        have k4 : IntKind.i64.wrap ai = ai := by rw [IntKind.wrap_i64]; omega
        have k5 : IntKind.i64.wrap (fi + on' - ai) = most := by rw [IntKind.wrap_i64]; omega
        have HT := Lib.hid (And.intro hT (And.intro hsi (And.intro hOk' hao')))
        clear hT hsi hai hfi h1 h2 h3 hTl hTw hTal hOk' hao' hon hlow hL'
        go_quiet (first | (go_at_call 23; exact Calls.quiet_of (HS.out _)) | (go_at_call 21; exact Calls.quiet_of_same (HC.out _)) | (go_at_call 18; exact Calls.quiet_of_same (HR.out _)))
        go_wp2_with (go_at_call 23; refine (HS.out _).mono ?_; rintro e w9 ⟨rfl, mm, rfl⟩)
        obtain ⟨hT, hsi, hOk', hao'⟩ := HT.out
        have hT2 : ∀ q1 q2, NAt w (wt.drewN (q1 + q2)) S' sb xb cs win tmo most (acked') (O'.drop acked') (A') (O') _ := fun q1 q2 => hT.fr0 ((Fr.refl [] wt).drewN _)
        first
          | (refine ⟨⟨k + 1, acked', S', O', A', by first | (rw [hsi]; done) | (rw [hsi, Int.natCast_add]), by go_num, by omega, hOk', hao', hT2 _ _⟩, ?_⟩
             simp [intOf]; omega)
          | (go_roundw
             case rel => exact ⟨k + 1, acked', S', O', A', by first | (rw [hsi]; done) | (rw [hsi, Int.natCast_add]), by go_num, by omega, hOk', hao', hT2 _ _⟩
             case measure => simp [intOf]; omega)
      case first =>
        obtain ⟨hA, hao, hOk, hls⟩ := HAA.out
        obtain ⟨d1, d9, d10⟩ := HD19.out
        by_cases e1 : kd = 1
        · as_aux_lemma =>
            subst e1
            have hon := HONN.out
            have hL0 : (O.drop acked).length = O.length - acked := by rw [List.length_drop]
            have hlm := hA.snd.len
            have HON0 := Lib.hid hon
            by_cases hfull : (O.drop acked).length = most
            · have HY := Lib.hid (offer_full wi S sb win tmo most acked (O.drop acked) A s.e hA.snd hfull)
              have HA0 := Lib.hid (And.intro hA (And.intro hao (And.intro hOk (And.intro hls (And.intro hon (And.intro hL0 hfull))))))
              clear hA hao hOk hls hon hL0 hlm hfull
              go_wp2_with fail
              (with_reducible refine HY.out.mono ?_)
              rintro e w2 ⟨rfl, hto⟩
              obtain ⟨hA, hao, hOk, hls, hon, hL0, hfull⟩ := HA0.out
              obtain ⟨S', hT⟩ := hA.step hto
              have HR0 := Lib.hid (show Calls Try.prog 18 #[.pointer (some ⟨sb, 0, none⟩)] w2 fun e w' => e = .returned (.int .i64 0) ∧ w2 = w' by
                have := snd_free w2 S' sb win tmo most acked (O.drop acked) A hT.snd
                rw [show most - (O.drop acked).length = 0 by omega] at this
                exact this)
              have HT := Lib.hid (And.intro hT (And.intro hOk (And.intro hao hls)))
              clear hA hao hOk hls hon hL0 hfull hT hto
              go_wp2_with (go_at_call 18; refine HR0.out.mono ?_; rintro e w9 ⟨rfl, rfl⟩)
              obtain ⟨hT, hOk, hao, hls⟩ := HT.out
              rw [HON0.out] at *
              first
                | (refine ⟨⟨k + 1, acked, S', O, A, by rw [hls], by go_num, by omega, by omega, hao, hT⟩, ?_⟩
                   simp [intOf]; omega)
                | (go_roundw
                   case rel => exact ⟨k + 1, acked, S', O, A, by rw [hls], by go_num, by omega, by omega, hao, hT⟩
                   case measure => simp [intOf]; omega)
            · obtain ⟨on2, hon2⟩ : ∃ on2, on2 = on + 1 := ⟨_, rfl⟩
              have HY := Lib.hid (show Calls Try.prog 17 #[.pointer (some ⟨sb, 0, none⟩), s.e.val] wi fun e w' => e = .returned (.tuple #[.int .u64 (on2 : Int), .int .i64 0]) ∧ SndTo wi S w' sb win tmo most acked (O.drop acked ++ [s.e]) A by
                have := offer_ok wi S sb win tmo most acked (O.drop acked) A s.e hA.snd (by omega) (by omega)
                rw [show (acked : Int) + (((O.drop acked).length : Int) + 1) = (on2 : Int) by omega] at this
                exact this)
              have HA0 := Lib.hid (And.intro hA (And.intro hao (And.intro hOk (And.intro hls (And.intro hon (And.intro hL0 hon2))))))
              have k0 : IntKind.u64.wrap (on2 : Int) = on2 := by rw [IntKind.wrap_u64]; omega
              clear hA hao hOk hls hon hL0 hlm hon2 hfull
              go_wp2_with fail
              (with_reducible refine HY.out.mono ?_)
              rintro e w2 ⟨rfl, hto⟩
              obtain ⟨hA, hao, hOk, hls, hon, hL0, hon2⟩ := HA0.out
              obtain ⟨S', hT⟩ := hA.step hto
              have d1' := ev_fr hT.fr D1.out
              have fa := (Fr.refl [] w2).alloc (.cells s.e.cells.toArray 56)
              have hT2 := hT.fr0 fa
              have HN := Lib.hid (fun (v1 : Value) (w3 : World) (happ : Appended (w2.alloc (.cells s.e.cells.toArray 56)) 56 8 (.slice pv on cv) (on + 1) (evs O ++ s.e.cells) v1 w3) => show NAt w w3 S' sb xb cs win tmo most acked (O.drop acked ++ [s.e]) A (O ++ [s.e]) v1 ∧ ∃ g1 cp1, v1 = .slice (some ⟨g1, 0, none⟩) on2 cp1 by
                rw [hon] at happ
                obtain ⟨g1, cp1, hv⟩ := own_succ happ.own
                exact ⟨by rw [hon] at hT2; exact hT2.app happ, g1, cp1, by rw [hv, hon2, hon]⟩)
              have HO := Lib.hid (show (w2.alloc (.cells s.e.cells.toArray 56)).ownsRow 0 56 8 (.slice pv on cv) on (evs O) by have := hT2.own; rw [← hon] at this; exact this)
              have HQ := Lib.hid (And.intro hao (And.intro hOk (And.intro hls (And.intro hon (And.intro hL0 hon2)))))
              have hbd : on ≤ 4096 := by omega
              clear hA hao hOk hls hon hL0 hon2 hto hT hT2 fa d1
              have hfold : ∀ e : Ev, List.foldl (fun (cs : Array Value) (x : Value × Nat) => cs.setIfInBounds x.snd x.fst) #[.int .u8 0, .int .u32 0, .int .u32 0, .int .u32 0, .int .i32 0, .int .i32 0, .int .u32 0, .float .f64 0] e.cells.zipIdx = e.cells.toArray := fun e => rfl
              have hlen8 : ∀ e : Ev, e.cells.length = 8 := fun e => rfl
              go_wp2_with (at_builtin; go_must (refine wpList_app _ rfl _ _ 42 rfl 56 Ev.zero.val 8 40 Try.underlying42 info56b rfl (by decide) (.slice pv on cv) on (evs O) rfl HO.out ⟨w2.heap.size, 0, none⟩ 1 1 s.e.cells rfl rfl (new_cells w2 s.e) (ev_one s.e) (by unfold maxLen; omega) (by omega) ?_); intro v1 w3 happ; obtain ⟨hT3, g1, cp1, rfl⟩ := HN.out _ _ happ; have HT3 := Lib.hid hT3; clear hT3 happ)
              obtain ⟨hao, hOk, hls, hon, hL0, hon2⟩ := HQ.out
              have hT := HT3.out
              obtain ⟨wt, rfl⟩ : ∃ wt : World, wt = w3 := ⟨_, rfl⟩
              have hOk' : (O ++ [s.e]).length ≤ k + 1 := by rw [List.length_append]; simp; omega
              have hao' : acked ≤ (O ++ [s.e]).length := by rw [List.length_append]; omega
              have hlow : ls ≤ (acked : Int) + A.length := by omega
              have hdr : O.drop acked ++ [s.e] = (O ++ [s.e]).drop acked := by rw [List.drop_append_of_le_length hao]
              rw [hdr] at hT
              have hL' : ((O ++ [s.e]).drop acked).length = (O ++ [s.e]).length - acked := by rw [List.length_drop]
              have HON := Lib.hid (show on2 = (O ++ [s.e]).length by rw [List.length_append]; simp; omega)
              clear hao hOk hls hon hL0 hon2 hdr HT3 HQ hbd hfold hlen8
              go_meet
              case rel => exact ⟨acked, S', O ++ [s.e], A, _, _, _, rfl, HON.out, hOk', hao', hlow, hT⟩
        by_cases e3 : kd = 3
        · as_aux_lemma =>
            subst e3
            have q1 : ((3 : Int) == 1) = false := by decide
            have hon := HONN.out
            have hL0 : (O.drop acked).length = O.length - acked := by rw [List.length_drop]
            have HON := Lib.hid hon
            rcases hw : wayOf win tmo (O.drop acked).length A s.nw with _ | b
            · have HHas := Lib.hid (show Calls Try.prog 19 #[.pointer (some ⟨sb, 0, none⟩), .int .u32 s.nw] wi fun e w' => e = .returned (.bool false) ∧ ∃ m, w' = wi.drewN m by
                have := snd_has wi S sb win tmo most acked (O.drop acked) A s.nw hA.snd
                rw [hw] at this
                exact this)
              have HNx := Lib.hid (fun m => next_none (wi.drewN m) S sb win tmo most acked (O.drop acked) A s.nw (hA.snd.fr0 ((Fr.refl [] wi).drewN m)) hw)
              have HA0 := Lib.hid (And.intro hA (And.intro hao (And.intro hOk (And.intro hls hL0))))
              clear hA hao hOk hls hon hL0 hw
              go_wp2_with (go_at_call 19; refine HHas.out.mono ?_; rintro e w9 ⟨rfl, mm0, rfl⟩)
              (with_reducible refine (HNx.out _).mono ?_)
              rintro e w2 ⟨rfl, hto⟩
              obtain ⟨hA, hao, hOk, hls, hL0⟩ := HA0.out
              obtain ⟨S', hT⟩ := (hA.fr0 ((Fr.refl [] wi).drewN mm0)).step hto
              obtain ⟨y, hy⟩ : ∃ y, y = w2.heap.size := ⟨_, rfl⟩
              have f3 : Fr [] w2 (layEv (w2.alloc (.cells Ev.zero.cells.toArray 56)) y 0 Ev.zero) := (((Fr.refl [y] w2).alloc _).setEv 0 Ev.zero (.inl (by simp))).mono (by simp [hy])
              have HT3 := Lib.hid (hT.fr0 f3)
              clear hA hto hT f3 d1 d9 d10
              have hOk' : O.length ≤ k + 1 := by omega
              have hao' := hao
              have hlow : ls ≤ (acked : Int) + A.length := by omega
              have hL' := hL0
              clear hls hL0 hao hOk
              go_wp2_with fail
              simp only [zero_cells, ← hy]
              generalize layEv _ y 0 Ev.zero = w3 at *
              go_quiet (fail)
              go_wp2_with fail
              generalize hwt : World.drewN w3 _ = wt
              have hT : NAt w wt S' sb xb cs win tmo most acked (O.drop acked) A O (.slice pv on cv) := by rw [← hwt]; exact HT3.out.fr0 ((Fr.refl [] w3).drewN _)
              clear hwt HT3 hy
              go_meet
              case rel => exact ⟨acked, S', O, A, _, _, _, rfl, HON.out, hOk', hao', hlow, hT⟩
            · have HHas := Lib.hid (show Calls Try.prog 19 #[.pointer (some ⟨sb, 0, none⟩), .int .u32 s.nw] wi fun e w' => e = .returned (.bool true) ∧ ∃ m, w' = wi.drewN m by
                have := snd_has wi S sb win tmo most acked (O.drop acked) A s.nw hA.snd
                rw [hw] at this
                exact this)
              have hal := hA.snd.al
              have haw := hA.snd.aw
              have HNx := Lib.hid (fun m => show Calls Try.prog 20 #[.pointer (some ⟨sb, 0, none⟩), .int .u32 s.nw] (wi.drewN m) fun e w' => ∃ (i : Nat) (x : Ev) (ni : Int) (A2 : List Int), ni = (acked : Int) + 1 + i ∧ i < win ∧ i < A2.length ∧ A.length ≤ A2.length ∧ (O.drop acked)[i]? = some x ∧ e = .returned (.tuple #[.int .u64 ni, x.val, .bool true]) ∧ SndTo (wi.drewN m) S w' sb win tmo most acked (O.drop acked) A2 by
                refine (snd_next (wi.drewN m) S sb win tmo most acked (O.drop acked) A s.nw (hA.snd.fr0 ((Fr.refl [] wi).drewN m))).mono fun e w' h => ?_
                unfold SNext at h
                rw [hw] at h
                obtain ⟨i, x, hi, hx, he, hs⟩ := h
                have hlw := hA.snd.lw
                refine ⟨i, x, _, _, rfl, ?_, ?_, ?_, hx, he, hs⟩
                · cases b
                  · simp at hi; omega
                  · have := (wayOf_fresh hw).2; simp at hi; omega
                · cases b
                  · have := wayOf_again hw; simp at hi ⊢; omega
                  · simp at hi ⊢; omega
                · cases b <;> simp)
              have HA0 := Lib.hid (And.intro hA (And.intro hao (And.intro hOk (And.intro hls (And.intro hL0 hon)))))
              clear hA hao hOk hls hon hL0 hw hal haw
              go_wp2_with (go_at_call 19; refine HHas.out.mono ?_; rintro e w9 ⟨rfl, mm0, rfl⟩)
              (with_reducible refine (HNx.out _).mono ?_)
              rintro e w2 ⟨i, x, ni, A2, hni, hiw, hiA, hAA, hx, rfl, hto⟩
              obtain ⟨hA, hao, hOk, hls, hL0, hon⟩ := HA0.out
              obtain ⟨S', hT⟩ := (hA.fr0 ((Fr.refl [] wi).drewN mm0)).step hto
              obtain ⟨y, hy⟩ : ∃ y, y = w2.heap.size := ⟨_, rfl⟩
              have f3 : Fr [] w2 (layEv (w2.alloc (.cells Ev.zero.cells.toArray 56)) y 0 x) := (((Fr.refl [y] w2).alloc _).setEv 0 x (.inl (by simp))).mono (by simp [hy])
              have hT3 := hT.fr0 f3
              have ey := ev_layEv_same (w2.alloc (.cells Ev.zero.cells.toArray 56)) y 0 x (by rw [hy]; exact can_new w2)
              obtain ⟨ix, hix⟩ : ∃ ix, ix = acked + i := ⟨_, rfl⟩
              have hOx : O[ix]? = some x := by rw [hix, ← List.getElem?_drop]; exact hx
              have hil : i < (O.drop acked).length := (List.getElem?_eq_some_iff.1 hx).1
              obtain ⟨og, cg, hvg, eo⟩ := hT3.event hOx
              rw [← hon] at hvg
              cases hvg
              have hxc := hT3.xc
              have hTl := hT3.snd.len
              have hTw := hT3.snd.aw
              obtain ⟨h1, h2, h3⟩ := hbnd.out
              obtain ⟨si, hsi⟩ : ∃ si : Int, si = (acked : Int) + (A2.length : Int) := ⟨_, rfl⟩
              obtain ⟨ai, hai⟩ : ∃ ai : Int, ai = (acked : Int) := ⟨_, rfl⟩
              have HC3 := Lib.hid (fun W (f : Fr [] (layEv (w2.alloc (.cells Ev.zero.cells.toArray 56)) y 0 x) W) => show Calls Try.prog 21 #[.pointer (some ⟨sb, 0, none⟩)] W fun e w' => e = .returned (.int .u64 ai) ∧ W = w' by rw [hai]; exact snd_acked W S' sb win tmo most acked (O.drop acked) A2 (hT3.snd.fr0 f))
              have HS3 := Lib.hid (fun W (f : Fr [] (layEv (w2.alloc (.cells Ev.zero.cells.toArray 56)) y 0 x) W) => show Calls Try.prog 23 #[.pointer (some ⟨sb, 0, none⟩)] W fun e w' => e = .returned (.int .u64 si) ∧ ∃ m, w' = W.drewN m by rw [hsi]; exact snd_sent W S' sb win tmo most acked (O.drop acked) A2 (hT3.snd.fr0 f))
              have HK3 := Lib.hid (fun W (f : Fr [] (layEv (w2.alloc (.cells Ev.zero.cells.toArray 56)) y 0 x) W) => show W.cell? ⟨xb, 1, none⟩ = some (.int .i64 win) ∧ ev? W y 0 = some x.val ∧ ev? W og (ix * 8) = some x.val from ⟨(f.blk hxc (by simp)).at 1 (v := .int .i64 win) (by rw [F.out.2.2.2.1]; rfl), ev_fr f ey, ev_fr f eo⟩)
              have j1 : decide (ni ≤ ai) = false := by rw [decide_eq_false_iff_not]; omega
              have k1 : IntKind.u64.wrap (win : Int) = win := by rw [IntKind.wrap_u64]; omega
              have k2 : IntKind.u64.wrap (ai + win) = ai + win := by rw [IntKind.wrap_u64]; omega
              have j2 : decide (ai + win < ni) = false := by rw [decide_eq_false_iff_not]; omega
              have k3 : IntKind.u64.wrap (on : Int) = on := by rw [IntKind.wrap_u64]; omega
              have j3 : decide ((on : Int) < ni) = false := by rw [decide_eq_false_iff_not]; omega
              have k4 : IntKind.u64.wrap (ni - 1) = (ix : Int) := by rw [IntKind.wrap_u64]; omega
              have j4 : (0 : Int) ≤ (ix : Int) := by omega
              have j5 : (ix : Int) < (on : Int) := by omega
              have j6 : decide (si < ni) = false := by rw [decide_eq_false_iff_not]; omega
              have HT3 := Lib.hid hT3
              have hOk' : O.length ≤ k + 1 := by omega
              have hao' := hao
              have hlow : ls ≤ (acked : Int) + A2.length := by omega
              have hL' := hL0
              have HB := Lib.hid (And.intro hOk' (And.intro hao' (And.intro hlow hL')))
              clear hA hto hT f3 d1 d9 d10 hT3 ey hx hOx eo hxc hTl hTw h1 h2 h3 hsi hai hni hiw hiA hAA hil hix hon hls hL0 hao hOk hOk' hao' hlow hL'
              go_wp2_with fail
              simp only [zero_cells, ← hy]
              clear hy
              generalize layEv _ y 0 x = w3 at *
              have c1 := (HK3.out w3 (Fr.refl [] w3)).1
              have e1 := (HK3.out w3 (Fr.refl [] w3)).2.1
              have e2 := (HK3.out w3 (Fr.refl [] w3)).2.2
              go_region_held3 (fun w' => w'.cell? ⟨xb, 1, none⟩ = some (.int .i64 win) ∧ ev? w' y 0 = some x.val ∧ ev? w' og (ix * 8) = some x.val) (first | exact HK3.out _ ((Fr.refl [] w3).drew) | exact HK3.out _ ((Fr.refl [] w3).drewN _) | exact HK3.out _ f9 | exact HK3.out _ (f9.drewN _))
                (first
                  | (go_at_call 21; refine (HC3.out _ (by first | exact (Fr.refl [] w3).drewN _ | exact (Fr.refl [] w3).drew)).mono ?_; rintro e w9 ⟨rfl, rfl⟩)
                  | (go_at_call 22; refine (like_same _ x).mono ?_; rintro e w9 ⟨rfl, f8⟩; have f9 : Fr [] w3 w9 := (by first | exact ((Fr.refl [] w3).drewN _).trans f8 (by simp) | exact ((Fr.refl [] w3).drew).trans f8 (by simp)))
                  | (go_at_call 23; refine (HS3.out _ f9).mono ?_; rintro e w10 ⟨rfl, mm1, rfl⟩))
              simp only [Exit.then]
              go_wp2_with fail
              generalize hwt : World.drewN _ _ = wt
              have hT : NAt w wt S' sb xb cs win tmo most acked (O.drop acked) A2 O (.slice (some ⟨og, 0, none⟩) on cv) := by rw [← hwt]; exact HT3.out.fr0 (f9.drewN _)
              obtain ⟨hOk', hao', hlow, hL'⟩ := HB.out
              clear hwt HT3 HB j1 k1 k2 j2 k3 j3 k4 j4 j5 j6 c1 e1 e2 HC3 HS3 HK3
              go_meet
              case rel => exact ⟨acked, S', O, A2, _, _, _, rfl, HON.out, hOk', hao', hlow, hT⟩
        by_cases e4 : kd = 4
        · as_aux_lemma =>
            have q1 : ((4 : Int) == 1) = false := by decide
            have q3 : ((4 : Int) == 3) = false := by decide
            subst e4
            have hon := HONN.out
            have HC0 := Lib.hid (snd_acked wi S sb win tmo most acked (O.drop acked) A hA.snd)
            have HS0 := Lib.hid (snd_sent wi S sb win tmo most acked (O.drop acked) A hA.snd)
            obtain ⟨nn, hnn⟩ : ∃ nn, IntKind.u64.wrap ((acked : Int) + s.nm) = nn := ⟨_, rfl⟩
            have hL0 : (O.drop acked).length = O.length - acked := by rw [List.length_drop]
            by_cases hcan : (acked : Int) < nn ∧ nn ≤ (acked : Int) + A.length
            · obtain ⟨d, hd⟩ : ∃ d : Nat, nn = (acked : Int) + d := ⟨(nn - acked).toNat, by omega⟩
              have hd1 : 1 ≤ d := by omega
              have hd2 : d ≤ A.length := by omega
              have HY := Lib.hid (fun m => ack_yes (wi.drewN m) S sb win tmo most acked (O.drop acked) A d (hA.snd.fr0 ((Fr.refl [] wi).drewN m)) hd1 hd2)
              have c1 : (acked : Int) < (acked : Int) + d := by omega
              have c2 : (acked : Int) + d ≤ (acked : Int) + A.length := by omega
              rw [hd] at hnn
              have hald := hA.snd.al
              have HA0 := Lib.hid (And.intro hA (And.intro hao (And.intro hOk (And.intro hls (And.intro hon (And.intro hd1 (And.intro hd2 (And.intro hL0 hald))))))))
              clear hA hao hOk hd hcan hls hon hL0 hald
              go_wp2_with (first | (go_at_call 21; refine HC0.out.mono ?_; rintro e w9 ⟨rfl, rfl⟩) | (go_at_call 23; refine HS0.out.mono ?_; rintro e w9 ⟨rfl, mm0, rfl⟩))
              (with_reducible refine (HY.out _).mono ?_)
              rintro e w2 ⟨rfl, hto⟩
              obtain ⟨hA, hao, hOk, hls, hon, hd1, hd2, hL0, hald⟩ := HA0.out
              obtain ⟨S', hT⟩ := (hA.fr0 ((Fr.refl [] wi).drewN mm0)).step hto
              obtain ⟨wt, rfl⟩ : ∃ wt : World, wt = w2 := ⟨_, rfl⟩
              rw [List.drop_drop] at hT
              have HC1 := Lib.hid (show Calls Try.prog 21 #[.pointer (some ⟨sb, 0, none⟩)] wt fun e w' => e = .returned (.int .u64 ((acked : Int) + d)) ∧ wt = w' from snd_acked wt S' sb win tmo most (acked + d) _ _ hT.snd)
              have hOk' : O.length ≤ k + 1 := by omega
              have hao' : acked + d ≤ O.length := by omega
              have hlow : ls ≤ ((acked + d : Nat) : Int) + (A.drop d).length := by rw [List.length_drop]; omega
              have hL' : (O.drop (acked + d)).length = O.length - (acked + d) := by rw [List.length_drop]
              have HON := Lib.hid hon
              clear hA hao hOk hls hd1 hd2 hto d1 d9 d10 hL0 hald hon
              go_wp2_with (go_at_call 21; refine HC1.out.mono ?_; rintro e w9 ⟨rfl, rfl⟩)
              go_meet
              case rel => exact ⟨acked + d, S', O, A.drop d, _, _, _, rfl, HON.out, hOk', hao', hlow, hT⟩
            · have HY := Lib.hid (fun m => ack_no (wi.drewN m) S sb win tmo most acked (O.drop acked) A nn (hA.snd.fr0 ((Fr.refl [] wi).drewN m)) (by omega))
              by_cases hb : (acked : Int) < nn
              · have c2 : ¬ nn ≤ (acked : Int) + A.length := by omega
                have HA0 := Lib.hid (And.intro hA (And.intro hao (And.intro hOk (And.intro hls (And.intro hon hL0)))))
                clear hA hao hOk hcan hls hon hL0
                go_wp2_with (first | (go_at_call 21; refine HC0.out.mono ?_; rintro e w9 ⟨rfl, rfl⟩) | (go_at_call 23; refine HS0.out.mono ?_; rintro e w9 ⟨rfl, mm0, rfl⟩))
                (with_reducible refine (HY.out _).mono ?_)
                rintro e w2 ⟨rfl, hto⟩
                obtain ⟨hA, hao, hOk, hls, hon, hL0⟩ := HA0.out
                obtain ⟨S', hT⟩ := (hA.fr0 ((Fr.refl [] wi).drewN mm0)).step hto
                obtain ⟨wt, rfl⟩ : ∃ wt : World, wt = w2 := ⟨_, rfl⟩
                have HC1 := Lib.hid (snd_acked wt S' sb win tmo most acked _ _ hT.snd)
                have hOk' : O.length ≤ k + 1 := by omega
                have hao' := hao
                have hlow : ls ≤ (acked : Int) + A.length := by omega
                have hL' := hL0
                have HON := Lib.hid hon
                clear hA hao hOk hls hto d1 d9 d10 hL0 hon
                go_wp2_with (go_at_call 21; refine HC1.out.mono ?_; rintro e w9 ⟨rfl, rfl⟩)
                go_meet
                case rel => exact ⟨acked, S', O, A, _, _, _, rfl, HON.out, hOk', hao', hlow, hT⟩
              · have HA0 := Lib.hid (And.intro hA (And.intro hao (And.intro hOk (And.intro hls (And.intro hon hL0)))))
                have HY0 := Lib.hid (ack_no wi S sb win tmo most acked (O.drop acked) A nn hA.snd (by omega))
                clear hA hao hOk hcan hls hon hL0
                go_wp2_with (first | (go_at_call 21; refine HC0.out.mono ?_; rintro e w9 ⟨rfl, rfl⟩))
                (with_reducible refine HY0.out.mono ?_)
                rintro e w2 ⟨rfl, hto⟩
                obtain ⟨hA, hao, hOk, hls, hon, hL0⟩ := HA0.out
                obtain ⟨S', hT⟩ := hA.step hto
                obtain ⟨wt, rfl⟩ : ∃ wt : World, wt = w2 := ⟨_, rfl⟩
                have HC1 := Lib.hid (snd_acked wt S' sb win tmo most acked _ _ hT.snd)
                have hOk' : O.length ≤ k + 1 := by omega
                have hao' := hao
                have hlow : ls ≤ (acked : Int) + A.length := by omega
                have hL' := hL0
                have HON := Lib.hid hon
                clear hA hao hOk hls hto d1 d9 d10 hL0 hon
                go_wp2_with (go_at_call 21; refine HC1.out.mono ?_; rintro e w9 ⟨rfl, rfl⟩)
                go_meet
                case rel => exact ⟨acked, S', O, A, _, _, _, rfl, HON.out, hOk', hao', hlow, hT⟩
        have q1 : (kd == 1) = false := beq_false e1
        have q3 : (kd == 3) = false := beq_false e3
        have q4 : (kd == 4) = false := beq_false e4
        have hon := HONN.out
        have hT := hA
        have hOk' : O.length ≤ k + 1 := by omega
        have hao' := hao
        have hlow : ls ≤ (acked : Int) + A.length := by omega
        have hL' : (O.drop acked).length = O.length - acked := by rw [List.length_drop]
        obtain ⟨wt, rfl⟩ : ∃ wt : World, wt = wi := ⟨_, rfl⟩
        have HON := Lib.hid hon
        clear hA hao hOk e1 e3 e4 d1 d9 d10 hls hon
        go_wp2_with fail
        go_meet
        case rel => exact ⟨acked, S, O, A, _, _, _, rfl, HON.out, hOk', hao', hlow, hT⟩
    · have HF := Lib.hid hA.fr
      obtain rfl : n = k := by omega
      obtain ⟨pv, cv, rfl⟩ := hA.form
      clear hA
      go_wp2
      go_ret
      exact ⟨rfl, HF.out⟩
end sendNumbers

end Go.Proofs.Ytehdhdocalbfpaa
