/-
  SendPlays: the walk.
-/
import Derived.Test.YtehdhdocalbfpaaPlayN
import Derived.Test.YtehdhdocalbfpaaSendG
import Derived.Deep.CutBlock
import Derived.Deep.DeepCutAuto
namespace Go.Proofs.Ytehdhdocalbfpaa
open Go.RowKit ring
set_option linter.unusedVariables false
attribute [local go_sem ↓] Go.wp_at_zero Go.wp_at_succ newVar56
attribute [local go_sem] ev_layEv_same can_new run_storeEv0 run_newEv run_newEv'

namespace sendPlays
/-- made: none, or both. -/
def MadeOk (w : World) (win tmo most acked : Nat) (L : List Ev) (A : List Int) (e : Ending) (w' : World) : Prop :=
  ∃ S T sb rb, e = .returned (.tuple #[.pointer (some ⟨sb, 0, none⟩), .pointer (some ⟨rb, 0, none⟩), .bool true]) ∧ Both w w' S T sb rb win tmo most acked L A
def MadeNo (w : World) (e : Ending) (w' : World) : Prop := e = .returned (.tuple #[.pointer none, .pointer none, .bool true]) ∧ Fr [] w w'

set_option maxRecDepth 100000 in
theorem walk_long (w : World) (fr : Bool) (win tmo most ac : Int) (p1 p2 : Option Addr) (l1 c1 l2 c2 : Nat) (lp : Option Addr) (n cap : Nat) (hn : 4096 < n) :
    Calls Try.prog 8 #[.agg #[.bool fr, .int .i64 win, .int .i64 tmo, .int .i64 most, .int .u64 ac, .slice p1 l1 c1, .slice p2 l2 c2], .slice lp n cap] w fun e w' => e = .returned (.bool true) ∧ Fr [] w w' := by
  have i1 : (4096 : Int) < (n : Int) := by omega
  go_enter Try.func8, Try.ntmps8
  go_wp2
  go_ret
  exact ⟨rfl, (Fr.refl [] w).alloc _⟩
set_option maxRecDepth 100000 in
theorem walk_no (w : World) (fr : Bool) (win tmo most ac : Int) (p1 p2 : Option Addr) (l1 c1 l2 c2 : Nat) (lp : Option Addr) (n cap : Nat) (hn : n ≤ 4096)
    (hm : Calls Try.prog 27 #[.agg #[.bool fr, .int .i64 win, .int .i64 tmo, .int .i64 most, .int .u64 ac, .slice p1 l1 c1, .slice p2 l2 c2]] (w.alloc (.cells #[.bool fr, .int .i64 win, .int .i64 tmo, .int .i64 most, .int .u64 ac, .slice p1 l1 c1, .slice p2 l2 c2] 45)) (MadeNo (w.alloc (.cells #[.bool fr, .int .i64 win, .int .i64 tmo, .int .i64 most, .int .u64 ac, .slice p1 l1 c1, .slice p2 l2 c2] 45)))) :
    Calls Try.prog 8 #[.agg #[.bool fr, .int .i64 win, .int .i64 tmo, .int .i64 most, .int .u64 ac, .slice p1 l1 c1, .slice p2 l2 c2], .slice lp n cap] w fun e w' => e = .returned (.bool true) ∧ Fr [] w w' := by
  have i1 : ¬ (4096 : Int) < (n : Int) := by omega
  have H := Lib.hid hm
  clear hm
  go_enter Try.func8, Try.ntmps8
  go_wp2_with fail
  (with_reducible refine H.out.mono ?_)
  rintro e w1 ⟨rfl, f1⟩
  have F := Lib.hid f1
  clear f1
  go_wp2
  go_ret
  exact ⟨rfl, ((Fr.refl [] w).alloc _).trans F.out (by simp)⟩

set_option maxRecDepth 100000 in
set_option maxHeartbeats 40000000 in
theorem walk_ok (w : World) (fr : Bool) (win tmo most acked0 : Nat) (ac : Int) (p1 p2 : Option Addr) (l1 c1 l2 c2 : Nat) (L0 : List Ev) (A0 : List Int) (lv : Value) (l : List Stp) (hP : RdS w lv 11 (fun cs (s : Stp) => cs = s.cells ∧ 0 ≤ s.nw ∧ s.nw < 4294967296) l) (hl : l.length ≤ 4096) (hu : U32s A0)
    (hm : Calls Try.prog 27 #[.agg #[.bool fr, .int .i64 win, .int .i64 tmo, .int .i64 most, .int .u64 ac, .slice p1 l1 c1, .slice p2 l2 c2]] (w.alloc (.cells #[.bool fr, .int .i64 win, .int .i64 tmo, .int .i64 most, .int .u64 ac, .slice p1 l1 c1, .slice p2 l2 c2] 45)) (MadeOk (w.alloc (.cells #[.bool fr, .int .i64 win, .int .i64 tmo, .int .i64 most, .int .u64 ac, .slice p1 l1 c1, .slice p2 l2 c2] 45)) win tmo most acked0 L0 A0)) :
    Calls Try.prog 8 #[.agg #[.bool fr, .int .i64 win, .int .i64 tmo, .int .i64 most, .int .u64 ac, .slice p1 l1 c1, .slice p2 l2 c2], lv] w fun e w' => e = .returned (.bool true) ∧ Fr [] w w' := by
  obtain ⟨p, c, rfl, hc, hcm⟩ := RdS.form hP
  have HP := Lib.hid hP
  obtain ⟨n, hn⟩ : ∃ n, n = l.length := ⟨_, rfl⟩
  have hmx : maxLen = 9223372036854775807 := by decide
  rw [← hn] at hl ⊢
  have H := Lib.hid hm
  obtain ⟨cs, hcs⟩ : ∃ cs : Array Value, cs = #[.bool fr, .int .i64 win, .int .i64 tmo, .int .i64 most, .int .u64 ac, .slice p1 l1 c1, .slice p2 l2 c2] := ⟨_, rfl⟩
  have f0 := (Fr.refl [] w).alloc (.cells #[.bool fr, .int .i64 win, .int .i64 tmo, .int .i64 most, .int .u64 ac, .slice p1 l1 c1, .slice p2 l2 c2] 45)
  have hX0 := Blk.new w #[.bool fr, .int .i64 win, .int .i64 tmo, .int .i64 most, .int .u64 ac, .slice p1 l1 c1, .slice p2 l2 c2] 45
  obtain ⟨xb, hxb⟩ : ∃ xb, xb = w.heap.size := ⟨_, rfl⟩
  rw [← hxb] at hX0
  have F := Lib.hid (And.intro f0 (And.intro hX0 (And.intro hxb (And.intro hcs (And.intro hn hu)))))
  have i1 : ¬ (4096 : Int) < (n : Int) := by omega
  clear hcs hP hn hc hmx f0 hX0 hm hu
  go_enter Try.func8, Try.ntmps8
  go_wp2_with fail
  simp only [← hxb]
  generalize (w.alloc _) = w0 at *
  (with_reducible refine H.out.mono ?_)
  rintro e w1 ⟨S, T, sb, rb, rfl, hB⟩
  have hA0 : PAt w w1 S T sb rb xb cs win tmo most acked0 L0 A0 := by
    obtain ⟨f0, hX0, hxb, hcs, hn, hu⟩ := F.out
    obtain ⟨h1, h2, h3, h4, h5, h6⟩ := hB
    exact ⟨h1, h2, fun b hb => Nat.le_trans f0.size (h3 b hb), fun b hb => Nat.le_trans f0.size (h4 b hb), h5, f0.trans h6 (by simp), by rw [hcs]; exact h6.blk hX0 (by simp), hu⟩
  have HA0 := Lib.hid hA0
  clear hB hA0 H hxb
  go_wp2_with fail
  go_loopw [5, 7, 8] (fun sv okv i wr => ∃ (k acked sb : Nat) (S T : List Nat) (L : List Ev) (A : List Int), sv = .pointer (some ⟨sb, 0, none⟩) ∧ okv = .bool true ∧ i = .int .i64 k ∧ k ≤ n ∧ PAt w wr S T sb rb xb cs win tmo most acked L A) (fun _ _ i _ => n - (intOf i).toNat)
  case atStart => exact ⟨0, acked0, sb, S, T, L0, A0, rfl, rfl, rfl, Nat.zero_le _, HA0.out⟩
  case round =>
    obtain ⟨k, acked, sb, S, T, L, A, rfl, rfl, rfl, hk, hA⟩ := hrel
    obtain ⟨wi, rfl⟩ : ∃ wi : World, wi = wr := ⟨_, rfl⟩
    clear HA0
    by_cases hlt : k < n
    · obtain ⟨lg, lo, cap', cc, he, _, _, _, hcell, hcc, hnw⟩ := HP.out.get (k := k) (by rw [← F.out.2.2.2.2.1]; exact hlt)
      rw [← F.out.2.2.2.2.1] at he
      cases he
      obtain ⟨s, hs⟩ : ∃ s, s = l[k]'(by rw [← F.out.2.2.2.2.1]; exact hlt) := ⟨_, rfl⟩
      rw [← hs] at hcc hnw
      subst hcc
      have hfr := hA.fr
      have hcl : ∀ j u, s.cells[j]? = some u → w.cell? ⟨lg, lo + k * 11 + j, none⟩ = some u := hcell
      have d0 : wi.cell? ⟨lg, lo + k * 11, none⟩ = some (.int .i64 s.kd) := by
        have h0 := hcl 0 _ rfl
        have := (hfr.cell (World.block_lt_of_cell? w _ h0) (by simp)).trans h0
        simpa using this
      have d1w : ev? w lg (lo + k * 11 + 1) = some s.e.val := ev_of_cells (fun j u hj => by
        have hj8 : j < 8 := by have := (List.getElem?_eq_some_iff.1 hj).1; simpa [Ev.cells] using this
        have := hcell (1 + j) u (by
          rw [Stp.cells, Nat.add_comm, List.getElem?_cons_succ, List.getElem?_append_left (by simpa [Ev.cells] using hj8)]
          exact hj)
        rw [← Nat.add_assoc] at this
        exact this)
      have d9w := hcl 9 _ rfl
      have d10w := hcl 10 _ rfl
      have HD := Lib.hid (fun (W : World) (f : Fr [] w W) => show ev? W lg (lo + k * 11 + 1) = some s.e.val ∧ W.cell? ⟨lg, lo + k * 11 + 9, none⟩ = some (.int .u32 s.nw) ∧ W.cell? ⟨lg, lo + k * 11 + 10, none⟩ = some (.int .u64 s.nm) from ⟨ev_fr f d1w, (f.cell (World.block_lt_of_cell? w _ d9w) (by simp)).trans d9w, (f.cell (World.block_lt_of_cell? w _ d10w) (by simp)).trans d10w⟩)
      clear hcell hcl hs hfr d1w d9w d10w
      obtain ⟨kd, hkd⟩ : ∃ kd, s.kd = kd := ⟨_, rfl⟩
      rw [hkd] at d0
      clear hkd
      have HNW := Lib.hid hnw
      have HAA := Lib.hid hA
      clear hA hnw
      go_upto_block 2 with fail
      go_cut [5, 7] (fun s5 s7 wx => ∃ (acked' sb' : Nat) (S' T' : List Nat) (L' : List Ev) (A' : List Int), s5 = .pointer (some ⟨sb', 0, none⟩) ∧ s7 = .bool true ∧ PAt w wx S' T' sb' rb xb cs win tmo most acked' L' A')
      case rest =>
        obtain ⟨acked', sb', S', T', L', A', rfl, rfl, hT⟩ := hcut
        obtain ⟨wt, rfl⟩ : ∃ wt : World, wt = wc := ⟨_, rfl⟩
        have HT := Lib.hid hT
        clear hT d0
        go_wp2_with fail
        first
          | (refine ⟨⟨k + 1, acked', sb', S', T', L', A', rfl, rfl, by go_num, by omega, HT.out⟩, ?_⟩
             simp [intOf]; omega)
          | (go_roundw
             case rel => exact ⟨k + 1, acked', sb', S', T', L', A', rfl, rfl, by go_num, by omega, HT.out⟩
             case measure => simp [intOf]; omega)
      case first =>
        by_cases e1 : kd = 1
        · as_aux_lemma =>
            subst e1
            obtain ⟨a, b, L', h1, h2⟩ := offers win tmo most acked L A s.e HAA.out.snd.len HAA.out.snd.la
            have d1 := (HD.out wi HAA.out.fr).1
            have HY := Lib.hid (h1 wi S sb HAA.out.snd)
            have HZ := Lib.hid h2
            clear h1 h2
            go_wp2_with fail
            (with_reducible refine HY.out.mono ?_)
            rintro e w2 ⟨rfl, hto⟩
            have hA := HAA.out
            obtain ⟨S1, t1, t2, t3⟩ := id hto
            have d1 := (HD.out w2 (hA.fr.trans t3 (fun b hb => .inr (hA.ns b hb)))).1
            have HR := Lib.hid (HZ.out w2 T rb (hA.ref1 hto))
            have HTO := Lib.hid hto
            clear hto t1 t2 t3 hA
            go_wp2_with fail
            (with_reducible refine HR.out.mono ?_)
            rintro e w3 ⟨rfl, hto2⟩
            obtain ⟨S', T', hT⟩ := HAA.out.step HTO.out hto2 HAA.out.u
            have q1 : (a == a) = true := by simp
            have q2 : (b == b) = true := by simp
            clear hto2
            go_wp2_with fail
            go_meet
            case rel => exact ⟨acked, sb, _, _, L', A, rfl, rfl, hT⟩
        by_cases e2 : kd = 2
        · as_aux_lemma =>
            subst e2
            have q1 : ((2 : Int) == 1) = false := by decide
            obtain ⟨bw, hbw⟩ : ∃ bw : Bool, bw = (wayOf win tmo L.length A s.nw).isSome := ⟨_, rfl⟩
            have H1 := Lib.hid (fun m => show Calls Try.prog 19 #[.pointer (some ⟨sb, 0, none⟩), .int .u32 s.nw] (wi.drewN m) fun e w' => e = .returned (.bool bw) ∧ ∃ q, w' = (wi.drewN m).drewN q by rw [hbw]; exact snd_has (wi.drewN m) S sb win tmo most acked L A s.nw (HAA.out.snd.fr0 ((Fr.refl [] wi).drewN m)))
            have H2 := Lib.hid (fun m => show Calls Try.prog 29 #[.pointer (some ⟨rb, 0, none⟩), .int .u32 s.nw] (wi.drewN m) fun e w' => e = .returned (.bool bw) ∧ ∃ q, w' = (wi.drewN m).drewN q by rw [hbw]; exact ref_has (wi.drewN m) T rb win tmo most acked L A s.nw (HAA.out.ref.fr0 ((Fr.refl [] wi).drewN m)) HNW.out HAA.out.u)
            have d9 := (HD.out wi HAA.out.fr).2.1
            have q5 : (bw == bw) = true := by simp
            clear hbw
            go_wp2_with fail
            go_quiet (first | (go_at_call 19; exact Calls.quiet_of (H1.out _)) | (go_at_call 29; exact Calls.quiet_of (H2.out _)))
            go_wp2_with fail
            have hT := fun q => HAA.out.fr0 ((Fr.refl [] wi).drewN q)
            go_meet
            case rel => exact ⟨acked, sb, _, _, L, A, rfl, rfl, hT _⟩
        by_cases e3 : kd = 3
        · as_aux_lemma =>
            subst e3
            have q1 : ((3 : Int) == 1) = false := by decide
            have q2 : ((3 : Int) == 2) = false := by decide
            obtain ⟨a, y, b, A', hu', h1, h2⟩ := nexts win tmo most acked L A s.nw HNW.out HAA.out.u HAA.out.snd.al
            have d9 := (HD.out wi HAA.out.fr).2.1
            have HU := Lib.hid hu'
            have HY := Lib.hid (h1 wi S sb HAA.out.snd)
            have HZ := Lib.hid h2
            clear h1 h2 hu'
            go_wp2_with fail
            (with_reducible refine HY.out.mono ?_)
            rintro e w2 ⟨rfl, hto⟩
            obtain ⟨x, hx⟩ : ∃ x, x = w2.heap.size := ⟨_, rfl⟩
            have f3 : Fr [] w2 (layEv (w2.alloc (.cells Ev.zero.cells.toArray 56)) x 0 y) := (((Fr.refl [x] w2).alloc _).setEv 0 y (.inl (by simp))).mono (by simp [hx])
            have ey := ev_layEv_same (w2.alloc (.cells Ev.zero.cells.toArray 56)) x 0 y (by rw [hx]; exact can_new w2)
            have hto3 := hto.then0 f3
            have hA := HAA.out
            obtain ⟨S1, t1, t2, t3⟩ := id hto3
            have d9 := (HD.out _ (hA.fr.trans t3 (fun b hb => .inr (hA.ns b hb)))).2.1
            have hxT : x ∉ T := fun hm => by
              have h9 := hA.ref.lt_size x hm
              obtain ⟨S2, u1, u2, u3⟩ := hto
              have := u3.size
              omega
            have HR := Lib.hid (HZ.out (layEv (w2.alloc (.cells Ev.zero.cells.toArray 56)) x 0 y) T rb (hA.ref1 hto3))
            have HTO := Lib.hid hto3
            have hxl : x < (layEv (w2.alloc (.cells Ev.zero.cells.toArray 56)) x 0 y).heap.size := by
              have := f3.size
              have h8 : (layEv (w2.alloc (.cells Ev.zero.cells.toArray 56)) x 0 y).heap.size = (w2.alloc (.cells Ev.zero.cells.toArray 56)).heap.size := by simp [layEv]
              rw [h8, hx]; simp
            have HE := Lib.hid (And.intro ey (And.intro hxT hxl))
            clear hto t1 t2 t3 hA f3 hto3 ey hxT hxl
            go_upto_region 18 with fail
            simp only [zero_cells, ← hx]
            clear hx
            generalize layEv _ x 0 y = w3v at *
            obtain ⟨w3, hw3⟩ : ∃ w3, w3 = w3v := ⟨_, rfl⟩
            rw [← hw3] at d9 HR HTO HE
            rw [← hw3]
            clear hw3
            go_wp2_with fail
            (with_reducible refine HR.out.mono ?_)
            rintro e w4 ⟨rfl, hto2⟩
            obtain ⟨z, hz⟩ : ∃ z, z = w4.heap.size := ⟨_, rfl⟩
            have f5 : Fr [] w4 (layEv (w4.alloc (.cells Ev.zero.cells.toArray 56)) z 0 y) := (((Fr.refl [z] w4).alloc _).setEv 0 y (.inl (by simp))).mono (by simp [hz])
            have ez := ev_layEv_same (w4.alloc (.cells Ev.zero.cells.toArray 56)) z 0 y (by rw [hz]; exact can_new w4)
            obtain ⟨S', T', hT⟩ := HAA.out.step HTO.out (hto2.then0 f5) HU.out
            have ey : ev? (layEv (w4.alloc (.cells Ev.zero.cells.toArray 56)) z 0 y) x 0 = some y.val := ev_fr f5 (by
              obtain ⟨T2, u1, u2, u3⟩ := hto2
              exact ev_frT u3 HE.out.1 HE.out.2.2 HE.out.2.1)
            have HT := Lib.hid hT
            clear hto2 hT f5
            go_upto_region 19 with fail
            simp only [zero_cells, ← hz]
            clear hz
            generalize layEv _ z 0 y = w5v at *
            obtain ⟨w5, hw5⟩ : ∃ w5, w5 = w5v := ⟨_, rfl⟩
            rw [← hw5] at ey ez HT
            rw [← hw5]
            clear hw5
            have q5 : (a == a) = true := by simp
            have q6 : (b == b) = true := by simp
            go_wp2_with (go_at_call 22; refine (like_same _ y).mono ?_; rintro e w6 ⟨rfl, f6⟩)
            have hT := HT.out.fr0 f6
            go_meet
            case rel => exact ⟨acked, sb, _, _, L, A', rfl, rfl, hT⟩
        by_cases e4 : kd = 4
        · as_aux_lemma =>
            subst e4
            have q1 : ((4 : Int) == 1) = false := by decide
            have q2 : ((4 : Int) == 2) = false := by decide
            have q3 : ((4 : Int) == 3) = false := by decide
            obtain ⟨nn, hnn⟩ : ∃ nn, IntKind.u64.wrap ((acked : Int) + s.nm) = nn := ⟨_, rfl⟩
            obtain ⟨b, acked', L', A', hu', h1, h2⟩ := acks win tmo most acked L A nn HAA.out.u
            have d10 := (HD.out wi HAA.out.fr).2.2
            obtain ⟨bv, av, hTT, hbl, o1, o2⟩ := HAA.out.ref.ex
            have c3 := hbl.at 3 (v := .int .u64 acked) rfl
            have HU := Lib.hid hu'
            have HY := Lib.hid (fun m => h1 (wi.drewN m) S sb (HAA.out.snd.fr0 ((Fr.refl [] wi).drewN m)))
            have HZ := Lib.hid h2
            clear h1 h2 hu' hbl o1 o2 hTT
            go_wp2_with fail
            go_quiet (fail)
            go_wp2_with fail
            (with_reducible refine (HY.out _).mono ?_)
            rintro e w2 ⟨rfl, hto⟩
            have hto3 := SndTo.pre ((Fr.refl [] wi).drewN _) hto
            have HR := Lib.hid (HZ.out w2 T rb (HAA.out.ref1 hto3))
            have HTO := Lib.hid hto3
            clear hto hto3
            go_wp2_with fail
            (with_reducible refine HR.out.mono ?_)
            rintro e w3 ⟨rfl, hto2⟩
            obtain ⟨S', T', hT⟩ := HAA.out.step HTO.out hto2 HU.out
            have q5 : (b == b) = true := by simp
            clear hto2
            go_wp2_with fail
            go_meet
            case rel => exact ⟨acked', sb, _, _, L', A', rfl, rfl, hT⟩
        by_cases e5 : kd = 5
        · as_aux_lemma =>
            subst e5
            have q1 : ((5 : Int) == 1) = false := by decide
            have q2 : ((5 : Int) == 2) = false := by decide
            have q3 : ((5 : Int) == 3) = false := by decide
            have q4 : ((5 : Int) == 4) = false := by decide
            have HY := Lib.hid (told_ok wi S T sb rb win tmo most acked L A HAA.out.snd HAA.out.ref)
            go_wp2_with fail
            (with_reducible refine HY.out.mono ?_)
            rintro e w2 ⟨rfl, f2⟩
            have hT := HAA.out.fr0 f2
            clear f2
            go_wp2_with fail
            go_meet
            case rel => exact ⟨acked, sb, _, _, L, A, rfl, rfl, hT⟩
        by_cases e6 : kd = 6
        · as_aux_lemma =>
            subst e6
            have q1 : ((6 : Int) == 1) = false := by decide
            have q2 : ((6 : Int) == 2) = false := by decide
            have q3 : ((6 : Int) == 3) = false := by decide
            have q4 : ((6 : Int) == 4) = false := by decide
            have q5 : ((6 : Int) == 5) = false := by decide
            have HX := Lib.hid (fun (W : World) (f : Fr [] wi W) => show W.cell? ⟨xb, 1, none⟩ = some (.int .i64 win) ∧ W.cell? ⟨xb, 2, none⟩ = some (.int .i64 tmo) ∧ W.cell? ⟨xb, 3, none⟩ = some (.int .i64 most) from by
              have hx := f.blk HAA.out.xc (by simp)
              rw [F.out.2.2.2.1] at hx
              exact ⟨hx.at 1 rfl, hx.at 2 rfl, hx.at 3 rfl⟩)
            have HAc := Lib.hid (fun (W : World) (f : Fr [] wi W) => (snd_acked W S sb win tmo most acked L A (HAA.out.snd.fr0 f)).mono fun e w' h => (⟨h.1, h.2 ▸ f⟩ : e = .returned (.int .u64 acked) ∧ Fr [] wi w'))
            have HBX := Lib.hid (fun (W : World) (f : Fr [] wi W) => (box_any W S sb win tmo most acked L A (HAA.out.snd.fr0 f)).mono fun e w' h => (show ∃ bv, e = .returned bv ∧ RdE w' bv L ∧ Fr [] wi w' by
              obtain ⟨v, rfl, o, _, f'⟩ := h
              exact ⟨v, rfl, RdE.of_own o, f.trans f' (by simp)⟩))
            have HSA := Lib.hid (fun (W : World) (f : Fr [] wi W) (bv : Value) (r : RdE W bv L) => (snd_sentat W S sb win tmo most acked L A (HAA.out.snd.fr0 f)).mono fun e w' h => (show ∃ av, e = .returned av ∧ Src w' av A.length 1 (u32s A) ∧ RdE w' bv L ∧ Fr [] wi w' by
              obtain ⟨v, rfl, o, _, f'⟩ := h
              exact ⟨v, rfl, Src.of_own o, r.fr0 f', f.trans f' (by simp)⟩))
            have HFr := Lib.hid (fun (W : World) (f : Fr [] wi W) (bv av : Value) (r : RdE W bv L) (sr : Src W av A.length 1 (u32s A)) => (sfrom_ok W win tmo most acked bv av L A HAA.out.snd.lw HAA.out.snd.lt HAA.out.snd.lm HAA.out.snd.la HAA.out.snd.len HAA.out.snd.al HAA.out.snd.aw r sr).mono fun e w' h => (show ∃ S' sb', e = .returned (.tuple #[.pointer (some ⟨sb', 0, none⟩), .int .i64 0]) ∧ Snd w' S' sb' win tmo most acked L A ∧ (∀ b ∈ S', wi.heap.size ≤ b) ∧ Fr [] wi w' by
              obtain ⟨S', sb', rfl, h1, h2, h3⟩ := h
              exact ⟨S', sb', rfl, h1, fun b hb => Nat.le_trans f.size (h2 b hb), f.trans h3 (by simp)⟩))
            have f9 := Fr.refl [] wi
            have x1 := (HX.out _ f9).1
            have x2 := (HX.out _ f9).2.1
            have x3 := (HX.out _ f9).2.2
            go_wp2_with fail
            go_region_held3 (fun w' => w'.cell? ⟨xb, 1, none⟩ = some (.int .i64 win) ∧ w'.cell? ⟨xb, 2, none⟩ = some (.int .i64 tmo) ∧ w'.cell? ⟨xb, 3, none⟩ = some (.int .i64 most)) (first | exact HX.out _ f9 | exact HX.out _ f9.drew | exact HX.out _ (f9.drewN _))
              (first
              | (go_at_call 21; refine (HAc.out _ (by first | exact f9 | exact f9.drew | exact f9.drewN _)).mono ?_; clear f9; rintro e w9 ⟨rfl, f9⟩)
              | (go_at_call 26; refine (HBX.out _ (by first | exact f9 | exact f9.drew | exact f9.drewN _)).mono ?_; clear f9; rintro e w9 ⟨bv, rfl, r9, f9⟩; have R9 := Lib.hid r9; clear r9)
              | (go_at_call 34; refine (HSA.out _ (by first | exact f9 | exact f9.drew | exact f9.drewN _) bv (by first | exact R9.out | exact R9.out.fr0 ((Fr.refl [] _).drew) | exact R9.out.fr0 ((Fr.refl [] _).drewN _))).mono ?_; clear f9 R9; rintro e w9 ⟨av, rfl, r8, r9, f9⟩; have R9 := Lib.hid (And.intro r8 r9); clear r8 r9)
              | (go_at_call 33; refine (HFr.out _ (by first | exact f9 | exact f9.drew | exact f9.drewN _) bv av (by first | exact R9.out.2 | exact R9.out.2.fr0 ((Fr.refl [] _).drew) | exact R9.out.2.fr0 ((Fr.refl [] _).drewN _)) (by first | exact R9.out.1 | exact R9.out.1.fr0 ((Fr.refl [] _).drew) | exact R9.out.1.fr0 ((Fr.refl [] _).drewN _))).mono ?_; clear f9 R9; rintro e w9 ⟨S', sb', rfl, hs, hns, f9⟩; have HS' := Lib.hid (And.intro hs hns); clear hs hns))
            simp only [Exit.then]
            go_wp2_with fail
            have hT := HAA.out.anew HS'.out.1 HS'.out.2 f9
            go_meet
            case rel => exact ⟨acked, sb', _, _, L, A, rfl, rfl, hT⟩
        have q1 : (kd == 1) = false := beq_false e1
        have q2 : (kd == 2) = false := beq_false e2
        have q3 : (kd == 3) = false := beq_false e3
        have q4 : (kd == 4) = false := beq_false e4
        have q5 : (kd == 5) = false := beq_false e5
        have q6 : (kd == 6) = false := beq_false e6
        have hT := HAA.out
        clear e1 e2 e3 e4 e5 e6
        go_wp2_with fail
        go_meet
        case rel => exact ⟨acked, sb, _, _, L, A, rfl, rfl, hT⟩
    · obtain rfl : k = n := by omega
      have HAA := Lib.hid hA
      clear hA
      obtain ⟨a, b, L', h1, h2⟩ := offers win tmo most acked L A ⟨0, 4, 0, 0, 0, 0, 0, 0⟩ HAA.out.snd.len HAA.out.snd.la
      have HY := Lib.hid (show Calls Try.prog 17 #[.pointer (some ⟨sb, 0, none⟩), .agg #[.int .u8 0, .int .u32 4, .int .u32 0, .int .u32 0, .int .i32 0, .int .i32 0, .int .u32 0, .float .f64 0]] wi fun e w' => e = .returned (.tuple #[.int .u64 a, .int .i64 b]) ∧ SndTo wi S w' sb win tmo most acked L' A from h1 wi S sb HAA.out.snd)
      have HZ := Lib.hid (fun W T rb (h : Ref W T rb win tmo most acked L A) => show Calls Try.prog 28 #[.pointer (some ⟨rb, 0, none⟩), .agg #[.int .u8 0, .int .u32 4, .int .u32 0, .int .u32 0, .int .i32 0, .int .i32 0, .int .u32 0, .float .f64 0]] W fun e w' => e = .returned (.tuple #[.int .u64 a, .int .i64 b]) ∧ RefTo W T w' rb win tmo most acked L' A from h2 W T rb h)
      clear h1 h2
      go_wp2_with fail
      (with_reducible refine HY.out.mono ?_)
      rintro e w2 ⟨rfl, hto⟩
      have HR := Lib.hid (HZ.out w2 T rb (HAA.out.ref1 hto))
      have HTO := Lib.hid hto
      clear hto
      go_wp2_with fail
      (with_reducible refine HR.out.mono ?_)
      rintro e w3 ⟨rfl, hto2⟩
      obtain ⟨S', T', hT⟩ := HAA.out.step HTO.out hto2 HAA.out.u
      have q1 : (a == a) = true := by simp
      have q2 : (b == b) = true := by simp
      have HT := Lib.hid (told_ok w3 S' T' sb rb win tmo most acked L' A hT.snd hT.ref)
      have HF := Lib.hid hT.fr
      clear hto2 hT
      go_wp2_with (go_at_call 32; refine HT.out.mono ?_; rintro e w4 ⟨rfl, f4⟩)
      go_ret
      exact ⟨rfl, HF.out.trans f4 (by simp)⟩

end sendPlays

end Go.Proofs.Ytehdhdocalbfpaa
