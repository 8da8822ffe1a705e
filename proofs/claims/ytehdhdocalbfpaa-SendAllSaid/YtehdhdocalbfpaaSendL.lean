/-
  SendAll: the walk.
-/
import Derived.Test.YtehdhdocalbfpaaSendJ
import Derived.Test.YtehdhdocalbfpaaSendK
import Derived.Deep.CutBlock
import Derived.Deep.DeepCutAuto
namespace Go.Proofs.Ytehdhdocalbfpaa
open Go.RowKit ring
set_option linter.unusedVariables false
attribute [local go_sem ↓] Go.wp_at_zero Go.wp_at_succ newVar56
attribute [local go_sem] ev_layEv_same can_new run_storeEv0 run_newEv run_newEv'

namespace sendAll
set_option maxRecDepth 100000 in
theorem walk_bad (w : World) (fr : Bool) (win tmo most ac : Int) (p1 p2 : Option Addr) (l1 c1 l2 c2 : Nat) (lp : Option Addr) (n cap : Nat) (calls now : Int) (h : win < 1 ∨ 32 < win ∨ tmo < 1 ∨ 1000 < tmo ∨ most < 1 ∨ 256 < most) :
    Calls Try.prog 7 #[.agg #[.bool fr, .int .i64 win, .int .i64 tmo, .int .i64 most, .int .u64 ac, .slice p1 l1 c1, .slice p2 l2 c2, .slice lp n cap, .int .i64 calls, .int .u32 now]] w fun e w' => e = .returned (.bool true) ∧ Fr [] w w' := by
  have H := Lib.hid (fun w => snew_no w win tmo most h)
  clear h
  go_enter Try.func7, Try.ntmps7
  go_wp2_with fail
  generalize hw1 : World.alloc (World.alloc w _) _ = w1
  have F : Fr [] w w1 := by rw [← hw1]; exact ((Fr.refl [] w).alloc _).alloc _
  have F := Lib.hid F
  clear hw1
  (with_reducible refine (H.out _).mono ?_)
  rintro e w1 ⟨rfl, rfl⟩
  go_wp2
  go_ret
  exact ⟨rfl, F.out⟩
set_option maxRecDepth 100000 in
set_option maxHeartbeats 2000000 in
theorem walk_ok (w : World) (fr : Bool) (win tmo most : Nat) (ac : Int) (p1 p2 : Option Addr) (l1 c1 l2 c2 : Nat) (ev : Value) (E : List Ev) (calls now : Int) (h1 : 1 ≤ win ∧ win ≤ 32) (h2 : 1 ≤ tmo ∧ tmo ≤ 1000) (h3 : 1 ≤ most ∧ most ≤ 256) (hP : RdS w ev 8 (fun cs (e : Ev) => cs = e.cells) E) (hnow : 0 ≤ now) :
    Calls Try.prog 7 #[.agg #[.bool fr, .int .i64 win, .int .i64 tmo, .int .i64 most, .int .u64 ac, .slice p1 l1 c1, .slice p2 l2 c2, ev, .int .i64 calls, .int .u32 now]] w fun e w' => e = .returned (.bool true) ∧ Fr [] w w' := by
  obtain ⟨p, c, rfl, hc, hcm⟩ := RdS.form hP
  have HP := Lib.hid hP
  obtain ⟨n, hn⟩ : ∃ n, n = E.length := ⟨_, rfl⟩
  have hmx : maxLen = 9223372036854775807 := by decide
  have hlen : E.length ≤ 9223372036854775807 := by omega
  rw [← hn] at hlen ⊢
  have H := Lib.hid (fun w => snew_ok w win tmo most h1 h2 h3)
  obtain ⟨cs, hcs⟩ : ∃ cs : Array Value, cs = #[.bool fr, .int .i64 win, .int .i64 tmo, .int .i64 most, .int .u64 ac, .slice p1 l1 c1, .slice p2 l2 c2] := ⟨_, rfl⟩
  obtain ⟨cy, hcy⟩ : ∃ cy : Array Value, cy = #[.bool fr, .int .i64 win, .int .i64 tmo, .int .i64 most, .int .u64 ac, .slice p1 l1 c1, .slice p2 l2 c2, .slice p n c, .int .i64 calls, .int .u32 now] := ⟨_, rfl⟩
  have HN := Lib.hid hn
  have HCS := Lib.hid (And.intro hcs hcy)
  have hbnd := Lib.hid (And.intro h1 (And.intro h2 h3))
  clear hP hn hc hmx hcm hcs hcy
  go_enter Try.func7, Try.ntmps7
  go_wp2_with fail
  generalize hw0 : World.alloc (World.alloc w _) _ = w0
  obtain ⟨yb, hyb⟩ : ∃ yb, yb = w.heap.size := ⟨_, rfl⟩
  obtain ⟨xb, hxb⟩ : ∃ xb, xb = w.heap.size + 1 := ⟨_, rfl⟩
  have fr0 : Fr [] w w0 := by rw [← hw0]; exact ((Fr.refl [] w).alloc _).alloc _
  have hY : Blk w0 yb cy 74 := by rw [← hw0, hyb, HCS.out.2]; exact (Blk.new w _ _).alloc _
  have hX : Blk w0 xb cs 45 := by rw [← hw0, hxb, HCS.out.1]; exact Blk.new_at (by simp) _ _
  simp only [← hxb]
  simp only [← hyb]
  have F := Lib.hid (And.intro fr0 (And.intro hY hX))
  clear hw0 fr0 hY hX hyb hxb
  (with_reducible refine (H.out _).mono ?_)
  rintro e w1 ⟨S, sb, rfl, s1, s2, f1⟩
  have hN : AAt w w1 S sb xb yb cs cy win tmo most 0 [] [] := by
    obtain ⟨fr0, hY, hX⟩ := F.out
    exact ⟨s1, fun b hb => Nat.le_trans fr0.size (s2 b hb), fr0.trans f1 (by simp), f1.blk hX (by simp), f1.blk hY (by simp)⟩
  have HN0 := Lib.hid hN
  clear s1 s2 f1 hN
  obtain ⟨m0, hm0⟩ : ∃ m0, m0 = min n most := ⟨_, rfl⟩
  have hm1 : m0 ≤ 256 := by omega
  obtain ⟨L0, hL0⟩ : ∃ L0, L0 = E.take m0 := ⟨_, rfl⟩
  have hL0l : L0.length = m0 := by rw [hL0, List.length_take]; have := HN.out; omega
  have HM := Lib.hid (And.intro hm0 (And.intro hL0 hL0l))
  clear hm0 hL0 hL0l
  go_upto_block 0 with fail
  go_cut [8] (fun s8 wx => ∃ S, s8 = .int .i64 m0 ∧ AAt w wx S sb xb yb cs cy win tmo most 0 L0 [])
  case first =>
    go_wp2_with fail
    go_loopw [8, 9] (fun m i wr => ∃ (k : Nat) (S : List Nat), m = .int .i64 k ∧ i = .int .i64 k ∧ k ≤ n ∧ k ≤ most ∧ AAt w wr S sb xb yb cs cy win tmo most 0 (E.take k) []) (fun _ i _ => n - (intOf i).toNat)
    case atStart => exact ⟨0, S, rfl, rfl, Nat.zero_le _, Nat.zero_le _, HN0.out⟩
    case round =>
      obtain ⟨k, S, rfl, rfl, hk, hkm, hA⟩ := hrel
      obtain ⟨wi, rfl⟩ : ∃ wi : World, wi = wr := ⟨_, rfl⟩
      clear HN0
      have x3 := hA.xc.at 3 (v := .int .i64 most) (by rw [HCS.out.1]; rfl)
      by_cases hlt : k < n ∧ k < most
      · obtain ⟨hlt, hlm⟩ := hlt
        obtain ⟨lg, lo, cap', cc, he, _, _, _, hcell, hcc⟩ := HP.out.get (k := k) (by rw [← HN.out]; exact hlt)
        rw [← HN.out] at he
        cases he
        obtain ⟨e, hs⟩ : ∃ e, e = E[k]'(by rw [← HN.out]; exact hlt) := ⟨_, rfl⟩
        rw [← hs] at hcc
        subst hcc
        have d1 : ev? wi lg (lo + k * 8) = some e.val := ev_fr hA.fr (ev_of_cells hcell)
        have hEk : E[k]? = some e := by rw [hs]; exact List.getElem?_eq_getElem _
        have htk : (E.take k).length = k := by rw [List.length_take]; have := HN.out; omega
        have hts : E.take k ++ [e] = E.take (k + 1) := by rw [hs, List.take_succ_eq_append_getElem]
        have HO := Lib.hid (show Calls Try.prog 17 #[.pointer (some ⟨sb, 0, none⟩), e.val] wi fun e' w' => e' = .returned (.tuple #[.int .u64 ((k : Int) + 1), .int .i64 0]) ∧ SndTo wi S w' sb win tmo most 0 (E.take (k + 1)) [] by
          have := offer_ok wi S sb win tmo most 0 (E.take k) [] e hA.snd (by omega) (by omega)
          rw [htk, hts] at this
          simpa using this)
        have k1 : IntKind.i64.wrap ((k : Int) + 1) = (k : Int) + 1 := by rw [IntKind.wrap_i64]; omega
        have k2 : IntKind.u64.wrap ((k : Int) + 1) = (k : Int) + 1 := by rw [IntKind.wrap_u64]; omega
        have HA := Lib.hid hA
        clear hA hcell hs hEk htk hts
        go_wp2_with fail
        (with_reducible refine HO.out.mono ?_)
        rintro e w2 ⟨rfl, hto⟩
        obtain ⟨S', hT⟩ := HA.out.step hto
        have HT := Lib.hid hT
        clear hT hto
        go_wp2_with fail
        first
          | (refine ⟨⟨k + 1, S', by go_num, by go_num, by omega, by omega, HT.out⟩, ?_⟩
             simp [intOf]; omega)
          | (go_roundw
             case rel => exact ⟨k + 1, S', by go_num, by go_num, by omega, by omega, HT.out⟩
             case measure => simp [intOf]; omega)
      · have HA := Lib.hid hA
        have HK := Lib.hid (show k = m0 by have := HM.out.1; omega)
        by_cases hk1 : k < n
        · have hk2 : ¬ k < most := by omega
          clear hA hlt
          go_wp2_with fail
          go_meet
          case rel =>
            have h := HA.out
            rw [HK.out, ← HM.out.2.1] at h
            exact ⟨S, by rw [HK.out], h⟩
        · clear hA hlt
          go_wp2_with fail
          go_meet
          case rel =>
            have h := HA.out
            rw [HK.out, ← HM.out.2.1] at h
            exact ⟨S, by rw [HK.out], h⟩
  case rest =>
    obtain ⟨S, rfl, hA⟩ := hcut
    obtain ⟨wa, rfl⟩ : ∃ wa : World, wa = wc := ⟨_, rfl⟩
    have HA1 := Lib.hid hA
    clear hA HN0
    go_upto_if 70 with fail
    go_cut [5] (fun s5 wx => ∃ now0 : Int, s5 = .int .u32 now0 ∧ 0 ≤ now0 ∧ now0 ≤ 1048576 ∧ wx = wa)
    case first =>
      by_cases hb : 1048576 < now
      · go_wp2_with fail
        go_meet
        case rel => exact ⟨1048576, rfl, by omega, by omega, rfl⟩
      · go_wp2_with fail
        go_meet
        case rel => exact ⟨now, rfl, by omega, by omega, rfl⟩
    case rest =>
      obtain ⟨now0, rfl, hn0, hn1, hwx⟩ := hcut
      subst hwx
      go_upto_block 2 with fail
      go_cut [12] (fun _ wx => ∃ (S : List Nat) (A : List Int), (∀ a ∈ A, a = now0) ∧ AAt w wx S sb xb yb cs cy win tmo most 0 L0 A)
      case first =>
        go_wp2_with fail
        go_loopw [12] (fun i wr => ∃ (k : Nat) (S : List Nat) (A : List Int), i = .int .i64 k ∧ k ≤ 1000 ∧ (∀ a ∈ A, a = now0) ∧ AAt w wr S sb xb yb cs cy win tmo most 0 L0 A) (fun i _ => 1000 - (intOf i).toNat)
        case atStart => exact ⟨0, S, [], rfl, by omega, by simp, HA1.out⟩
        case round =>
          obtain ⟨k, S, A, rfl, hk, hall, hA⟩ := hrel
          obtain ⟨wi, rfl⟩ : ∃ wi : World, wi = wr := ⟨_, rfl⟩
          have y8 := hA.yc.at 8 (v := .int .i64 calls) (by rw [HCS.out.2]; rfl)
          by_cases hc1 : (k : Int) < calls
          · by_cases hc2 : k < 1000
            · have hc3 : (k : Int) < 1000 := by omega
              have HX := Lib.hid (show Calls Try.prog 20 #[.pointer (some ⟨sb, 0, none⟩), .int .u32 now0] wi fun e w' => (∃ v, e = .returned v) ∧ ∃ S' A', (∀ a ∈ A', a = now0) ∧ AAt w w' S' sb xb yb cs cy win tmo most 0 L0 A' by
                refine (snd_next wi S sb win tmo most 0 L0 A now0 hA.snd).mono fun e w' h => ?_
                unfold SNext at h
                rcases ho : wayOf win tmo L0.length A now0 with _ | _ | _
                · rw [ho] at h
                  obtain ⟨S', h5⟩ := hA.step h.2
                  exact ⟨⟨_, h.1⟩, S', A, hall, h5⟩
                · exact absurd ho (calls_way hall hn0 (by omega) hbnd.out.2.1.1 _)
                · rw [ho] at h
                  obtain ⟨i, x, h3, h4, h5, h6⟩ := h
                  obtain ⟨S', h7⟩ := hA.step h6
                  refine ⟨⟨_, h5⟩, S', _, ?_, h7⟩
                  intro a ha
                  simp at ha
                  rcases ha with ha | ha
                  · exact hall a ha
                  · exact ha)
              clear hA hall
              go_wp2_with fail
              (with_reducible refine HX.out.mono ?_)
              rintro e w2 ⟨⟨v, rfl⟩, S', A', hall, hA⟩
              have HA2 := Lib.hid (And.intro hall hA)
              clear hall hA
              go_wp2_with fail
              first
                | (refine ⟨⟨k + 1, S', A', by go_num, by omega, HA2.out.1, HA2.out.2⟩, ?_⟩
                   simp [intOf]; omega)
                | (go_roundw
                   case rel => exact ⟨k + 1, S', A', by go_num, by omega, HA2.out.1, HA2.out.2⟩
                   case measure => simp [intOf]; omega)
            · have hc3 : ¬ (k : Int) < 1000 := by omega
              have HA2 := Lib.hid (And.intro hall hA)
              clear hall hA
              go_wp2_with fail
              go_meet
              case rel => exact ⟨S, A, HA2.out.1, HA2.out.2⟩
          · have HA2 := Lib.hid (And.intro hall hA)
            clear hall hA
            go_wp2_with fail
            go_meet
            case rel => exact ⟨S, A, HA2.out.1, HA2.out.2⟩
      case rest =>
        obtain ⟨S, A, hall, hA⟩ := hcut
        obtain ⟨wb, rfl⟩ : ∃ wb : World, wb = wc := ⟨_, rfl⟩
        have HA3 := Lib.hid (And.intro hall hA)
        clear hall hA HA1
        obtain ⟨R, hR⟩ : ∃ R, R = m0 * (tmo + 1) := ⟨_, rfl⟩
        have hRb : R ≤ 256 * 1001 := by rw [hR]; exact Nat.mul_le_mul hm1 (by have := hbnd.out.2.1; omega)
        have r1 : IntKind.i64.wrap ((tmo : Int) + 1) = (tmo : Int) + 1 := by rw [IntKind.wrap_i64]; have := hbnd.out.2.1; omega
        have r2 : (m0 : Int) * ((tmo : Int) + 1) = (R : Int) := by rw [hR]; push_cast; rfl
        have r3 : IntKind.i64.wrap (R : Int) = R := by rw [IntKind.wrap_i64]; omega
        have HR := Lib.hid hR
        clear hR
        go_upto_block 4 with fail
        go_cut [13] (fun _ wx => ∃ (S : List Nat) (A : List Int), AAt w wx S sb xb yb cs cy win tmo most m0 [] [])
        case first =>
          go_wp2_with fail
          go_loopw [5, 13] (fun s5 s13 wr => ∃ (r acked : Nat) (S : List Nat) (A : List Int), s5 = .int .u32 (now0 + (r : Int)) ∧ s13 = .int .i64 r ∧ r ≤ R ∧ acked ≤ m0 ∧ OutI tmo r (now0 + (r : Int)) acked (L0.drop acked) A ∧ AAt w wr S sb xb yb cs cy win tmo most acked (L0.drop acked) A) (fun _ i _ => R - (intOf i).toNat)
          case atStart => exact ⟨0, 0, S, A, by simp, rfl, Nat.zero_le _, Nat.zero_le _, by simpa using OutI.start HA3.out.1 hn0 hbnd.out.2.1.1, by simpa using HA3.out.2⟩
          case round =>
            obtain ⟨r, acked, S, A, rfl, rfl, hr, ham, hO, hA⟩ := hrel
            obtain ⟨wi, rfl⟩ : ∃ wi : World, wi = wr := ⟨_, rfl⟩
            have x2 := hA.xc.at 2 (v := .int .i64 tmo) (by rw [HCS.out.1]; rfl)
            clear HA3
            by_cases hlt : r < R
            · have hlt2 : (r : Int) < (R : Int) := by omega
              obtain ⟨nr, hnr⟩ : ∃ nr : Int, nr = now0 + (r : Int) + 1 := ⟨_, rfl⟩
              have q1 : IntKind.u32.wrap (now0 + (r : Int) + 1) = nr := by rw [IntKind.wrap_u32]; omega
              have hI := hO.step (by omega)
              rw [← hnr] at hI
              have hnb : 0 ≤ nr ∧ nr < 4294967296 := by omega
              have HNR := Lib.hid hnr
              have HI := Lib.hid (And.intro hI hA)
              clear hO hA hI hnr
              go_upto_block 5 with fail
              go_cut [5] (fun s5 wx => ∃ (acked : Nat) (S : List Nat) (A : List Int), s5 = .int .u32 nr ∧ acked ≤ m0 ∧ OutI tmo (r + 1) nr acked (L0.drop acked) A ∧ AAt w wx S sb xb yb cs cy win tmo most acked (L0.drop acked) A)
              case first =>
                clear x2 r1 r2 r3
                go_wp2_with fail
                go_loopw [14] (fun _ wr => ∃ (acked : Nat) (S : List Nat) (A : List Int), acked ≤ m0 ∧ InnI tmo (r + 1) nr acked (L0.drop acked) A ∧ AAt w wr S sb xb yb cs cy win tmo most acked (L0.drop acked) A) (fun _ wr => szL wr sb * 64 + (32 - szA wr sb))
                case atStart => exact ⟨acked, S, A, ham, HI.out.1, HI.out.2⟩
                case round =>
                  clear HI ham
                  obtain ⟨acked, S, A, ham, hI, hA⟩ := hrel
                  obtain ⟨wj, rfl⟩ : ∃ wj : World, wj = wr := ⟨_, rfl⟩
                  have m1 := hA.snd.szL
                  have m2 := hA.snd.szA
                  have hal := hA.snd.al
                  have haw := hA.snd.aw
                  have hL0l := HM.out.2.2
                  have hdl : (L0.drop acked).length = m0 - acked := by rw [List.length_drop, hL0l]
                  have hbw := hbnd.out.1
                  have k1 : IntKind.u64.wrap ((acked : Int) + 1) = (acked : Int) + 1 := by rw [IntKind.wrap_u64]; omega
                  have HH := Lib.hid (And.intro hI (And.intro hA (And.intro m1 (And.intro m2 (And.intro hal (And.intro haw (And.intro hdl hbw)))))))
                  rcases ho : wayOf win tmo (L0.drop acked).length A nr with _ | _ | _
                  · have HNx := Lib.hid (next_none wj S sb win tmo most acked (L0.drop acked) A nr hA.snd ho)
                    have HO := Lib.hid (hI.out ho hbw.1 hnb.2)
                    clear hI hA m1 m2 hal haw hL0l hdl hbw ho
                    go_wp2_with fail
                    (with_reducible refine HNx.out.mono ?_)
                    rintro e w2 ⟨rfl, hto⟩
                    obtain ⟨S', hT⟩ := HH.out.2.1.step hto
                    obtain ⟨y, hy⟩ : ∃ y, y = w2.heap.size := ⟨_, rfl⟩
                    have f3 : Fr [] w2 (layEv (w2.alloc (.cells Ev.zero.cells.toArray 56)) y 0 Ev.zero) := (((Fr.refl [y] w2).alloc _).setEv 0 Ev.zero (.inl (by simp))).mono (by simp [hy])
                    have hT3 := hT.fr0 f3
                    have HT3 := Lib.hid hT3
                    clear hT3 hT hto f3
                    go_wp2_with fail
                    simp only [zero_cells, ← hy]
                    try clear hy
                    generalize layEv _ y 0 Ev.zero = w3 at *
                    go_wp2_with fail
                    go_meet
                    case rel => exact ⟨acked, S', A, rfl, ham, HO.out, HT3.out⟩
                  · have h0 := wayOf_again ho
                    have hx : (L0.drop acked)[0]? = some ((L0.drop acked)[0]'(by omega)) := List.getElem?_eq_getElem _
                    obtain ⟨x, hxe⟩ : ∃ x, x = (L0.drop acked)[0]'(by omega) := ⟨_, rfl⟩
                    rw [← hxe] at hx
                    have HNx := Lib.hid (next_again wj S sb win tmo most acked (L0.drop acked) A nr x hA.snd ho hx)
                    have HJ := Lib.hid (hI.again ho hnb.2)
                    have HL := Lib.hid h0
                    clear hI hA m1 m2 hal haw hL0l hdl hbw ho h0 hx hxe
                    go_wp2_with fail
                    (with_reducible refine HNx.out.mono ?_)
                    rintro e w2 ⟨rfl, hto⟩
                    obtain ⟨S', hT⟩ := HH.out.2.1.step hto
                    obtain ⟨y, hy⟩ : ∃ y, y = w2.heap.size := ⟨_, rfl⟩
                    have f3 : Fr [] w2 (layEv (w2.alloc (.cells Ev.zero.cells.toArray 56)) y 0 x) := (((Fr.refl [y] w2).alloc _).setEv 0 x (.inl (by simp))).mono (by simp [hy])
                    have hT3 := hT.fr0 f3
                    have HT3 := Lib.hid hT3
                    clear hT3 hT hto f3
                    go_wp2_with fail
                    simp only [zero_cells, ← hy]
                    clear hy
                    generalize layEv _ y 0 x = w3 at *
                    have HC := Lib.hid (show Calls Try.prog 21 #[.pointer (some ⟨sb, 0, none⟩)] w3 fun e w' => e = .returned (.int .u64 (acked : Int)) ∧ w3 = w' from snd_acked w3 S' sb win tmo most acked (L0.drop acked) _ HT3.out.snd)
                    have HK := Lib.hid (show Calls Try.prog 24 #[.pointer (some ⟨sb, 0, none⟩), .int .u64 ((acked : Int) + 1)] w3 fun e w' => e = .returned (.bool true) ∧ SndTo w3 S' w' sb win tmo most (acked + 1) (L0.drop (acked + 1)) ((A.set 0 nr).drop 1) by
                      have := ack_yes w3 S' sb win tmo most acked (L0.drop acked) _ 1 HT3.out.snd (Nat.le_refl _) (by rw [List.length_set]; exact HL.out)
                      rw [List.drop_drop] at this
                      exact this)
                    go_wp2_with (first | (go_at_call 21; refine HC.out.mono ?_; rintro e w9 ⟨rfl, rfl⟩))
                    (with_reducible refine HK.out.mono ?_)
                    rintro e w4 ⟨rfl, hto⟩
                    obtain ⟨S2, hT4⟩ := HT3.out.step hto
                    have HFIN := Lib.hid (And.intro (show InnI tmo (r + 1) nr (acked + 1) (L0.drop (acked + 1)) ((A.set 0 nr).drop 1) by have := HJ.out; rw [List.drop_drop] at this; exact this) (And.intro hT4 (show (L0.drop (acked + 1)).length * 64 + (32 - ((A.set 0 nr).drop 1).length) < (L0.drop acked).length * 64 + (32 - A.length) by
                      obtain ⟨_, _, _, _, hal, haw, hdl, hbw⟩ := HH.out
                      have := HL.out
                      have := HM.out.2.2
                      rw [List.length_drop, List.length_drop, List.length_drop, List.length_set]
                      omega)))
                    have ham2 : acked + 1 ≤ m0 := by
                      obtain ⟨_, _, _, _, hal, haw, hdl, hbw⟩ := HH.out
                      have := HL.out
                      omega
                    clear hT4 hto
                    go_wp2_with fail
                    have m1 := HH.out.2.2.1
                    have m2 := HH.out.2.2.2.1
                    first
                      | (refine ⟨⟨acked + 1, S2, (A.set 0 nr).drop 1, by omega, HFIN.out.1, HFIN.out.2.1⟩, ?_⟩
                         rw [m1, m2, HFIN.out.2.1.snd.szL, HFIN.out.2.1.snd.szA]
                         exact HFIN.out.2.2)
                      | (go_roundw
                         case rel => exact ⟨acked + 1, S2, (A.set 0 nr).drop 1, by omega, HFIN.out.1, HFIN.out.2.1⟩
                         case measure => rw [m1, m2, HFIN.out.2.1.snd.szL, HFIN.out.2.1.snd.szA]; exact HFIN.out.2.2)
                  · have h0 := wayOf_fresh ho
                    have hx : (L0.drop acked)[A.length]? = some ((L0.drop acked)[A.length]'h0.1) := List.getElem?_eq_getElem _
                    obtain ⟨x, hxe⟩ : ∃ x, x = (L0.drop acked)[A.length]'h0.1 := ⟨_, rfl⟩
                    rw [← hxe] at hx
                    have HNx := next_fresh wj S sb win tmo most acked (L0.drop acked) A nr x hA.snd ho hx
                    by_cases hA0 : A = []
                    · subst hA0
                      have HNx : Calls Try.prog 20 #[.pointer (some ⟨sb, 0, none⟩), .int .u32 nr] wj fun e w' => e = .returned (.tuple #[.int .u64 ((acked : Int) + 1), x.val, .bool true]) ∧ SndTo wj S w' sb win tmo most acked (L0.drop acked) [nr] := by
                        have h5 := HNx
                        simpa using h5
                      have HNx := Lib.hid HNx
                      have HJ := Lib.hid (hI.fresh0 (fun e => by rw [e] at h0; simp at h0))
                      have HL := Lib.hid h0
                      clear hI hA m1 m2 hal haw hL0l hdl hbw ho h0 hx hxe
                      go_wp2_with fail
                      (with_reducible refine HNx.out.mono ?_)
                      rintro e w2 ⟨rfl, hto⟩
                      obtain ⟨S', hT⟩ := HH.out.2.1.step hto
                      obtain ⟨y, hy⟩ : ∃ y, y = w2.heap.size := ⟨_, rfl⟩
                      have f3 : Fr [] w2 (layEv (w2.alloc (.cells Ev.zero.cells.toArray 56)) y 0 x) := (((Fr.refl [y] w2).alloc _).setEv 0 x (.inl (by simp))).mono (by simp [hy])
                      have hT3 := hT.fr0 f3
                      have HT3 := Lib.hid hT3
                      clear hT3 hT hto f3
                      go_wp2_with fail
                      simp only [zero_cells, ← hy]
                      clear hy
                      generalize layEv _ y 0 x = w3 at *
                      have HC := Lib.hid (show Calls Try.prog 21 #[.pointer (some ⟨sb, 0, none⟩)] w3 fun e w' => e = .returned (.int .u64 (acked : Int)) ∧ w3 = w' from snd_acked w3 S' sb win tmo most acked (L0.drop acked) _ HT3.out.snd)
                      have HK := Lib.hid (show Calls Try.prog 24 #[.pointer (some ⟨sb, 0, none⟩), .int .u64 ((acked : Int) + 1)] w3 fun e w' => e = .returned (.bool true) ∧ SndTo w3 S' w' sb win tmo most (acked + 1) (L0.drop (acked + 1)) [] by
                        have := ack_yes w3 S' sb win tmo most acked (L0.drop acked) _ 1 HT3.out.snd (Nat.le_refl _) (by simp)
                        rw [List.drop_drop] at this
                        exact this)
                      go_wp2_with (first | (go_at_call 21; refine HC.out.mono ?_; rintro e w9 ⟨rfl, rfl⟩))
                      (with_reducible refine HK.out.mono ?_)
                      rintro e w4 ⟨rfl, hto⟩
                      obtain ⟨S2, hT4⟩ := HT3.out.step hto
                      have HFIN := Lib.hid (And.intro (show InnI tmo (r + 1) nr (acked + 1) (L0.drop (acked + 1)) [] by have := HJ.out; rw [List.drop_drop] at this; exact this) (And.intro hT4 (show (L0.drop (acked + 1)).length * 64 + (32 - ([] : List Int).length) < (L0.drop acked).length * 64 + (32 - ([] : List Int).length) by
                        have := HL.out.1
                        rw [List.length_drop, List.length_drop] at *
                        simp at *
                        omega)))
                      have ham2 : acked + 1 ≤ m0 := by
                        have h6 := HL.out.1
                        rw [List.length_drop] at h6
                        have := HM.out.2.2
                        simp at h6
                        omega
                      clear hT4 hto
                      go_wp2_with fail
                      have m1 := HH.out.2.2.1
                      have m2 := HH.out.2.2.2.1
                      first
                        | (refine ⟨⟨acked + 1, S2, [], by omega, HFIN.out.1, HFIN.out.2.1⟩, ?_⟩
                           rw [m1, m2, HFIN.out.2.1.snd.szL, HFIN.out.2.1.snd.szA]
                           exact HFIN.out.2.2)
                        | (go_roundw
                           case rel => exact ⟨acked + 1, S2, [], by omega, HFIN.out.1, HFIN.out.2.1⟩
                           case measure => rw [m1, m2, HFIN.out.2.1.snd.szL, HFIN.out.2.1.snd.szA]; exact HFIN.out.2.2)
                    · have HNx := Lib.hid HNx
                      have HJ := Lib.hid (hI.fresh hA0 hnb.1)
                      have HL := Lib.hid h0
                      have hAl : 0 < A.length := by
                        rcases Nat.eq_zero_or_pos A.length with h7 | h7
                        · exact absurd (List.length_eq_zero_iff.1 h7) hA0
                        · exact h7
                      have hne : ((acked : Int) + 1 + (A.length : Int) == (acked : Int) + 1) = false := beq_false (by omega)
                      clear hI hA m1 m2 hal haw hL0l hdl hbw ho h0 hx hxe hA0
                      go_wp2_with fail
                      (with_reducible refine HNx.out.mono ?_)
                      rintro e w2 ⟨rfl, hto⟩
                      obtain ⟨S', hT⟩ := HH.out.2.1.step hto
                      obtain ⟨y, hy⟩ : ∃ y, y = w2.heap.size := ⟨_, rfl⟩
                      have f3 : Fr [] w2 (layEv (w2.alloc (.cells Ev.zero.cells.toArray 56)) y 0 x) := (((Fr.refl [y] w2).alloc _).setEv 0 x (.inl (by simp))).mono (by simp [hy])
                      have hT3 := hT.fr0 f3
                      have HT3 := Lib.hid hT3
                      clear hT3 hT hto f3
                      go_wp2_with fail
                      simp only [zero_cells, ← hy]
                      clear hy
                      generalize layEv _ y 0 x = w3 at *
                      have HC := Lib.hid (show Calls Try.prog 21 #[.pointer (some ⟨sb, 0, none⟩)] w3 fun e w' => e = .returned (.int .u64 (acked : Int)) ∧ w3 = w' from snd_acked w3 S' sb win tmo most acked (L0.drop acked) _ HT3.out.snd)
                      have HFIN := Lib.hid (And.intro HJ.out (And.intro HT3.out (show (L0.drop acked).length * 64 + (32 - (A ++ [nr]).length) < (L0.drop acked).length * 64 + (32 - A.length) by
                        have h6 := HL.out.2
                        have := HH.out.2.2.2.2.2.2.2
                        rw [List.length_append]
                        simp
                        omega)))
                      go_wp2_with (first | (go_at_call 21; refine HC.out.mono ?_; rintro e w9 ⟨rfl, rfl⟩))
                      have m1 := HH.out.2.2.1
                      have m2 := HH.out.2.2.2.1
                      first
                        | (refine ⟨⟨acked, S', A ++ [nr], ham, HFIN.out.1, HFIN.out.2.1⟩, ?_⟩
                           rw [m1, m2, HFIN.out.2.1.snd.szL, HFIN.out.2.1.snd.szA]
                           exact HFIN.out.2.2)
                        | (go_roundw
                           case rel => exact ⟨acked, S', A ++ [nr], ham, HFIN.out.1, HFIN.out.2.1⟩
                           case measure => rw [m1, m2, HFIN.out.2.1.snd.szL, HFIN.out.2.1.snd.szA]; exact HFIN.out.2.2)
              case rest =>
                obtain ⟨acked', S', A', rfl, ham', hO', hA'⟩ := hcut
                have HO := Lib.hid (And.intro hO' hA')
                clear hO' hA'
                go_wp2_with fail
                have hO' := HO.out.1
                rw [HNR.out] at hO'
                have hO2 : OutI tmo (r + 1) (now0 + ((r + 1 : Nat) : Int)) acked' (L0.drop acked') A' := by
                  have e : now0 + ((r + 1 : Nat) : Int) = now0 + (r : Int) + 1 := by omega
                  rw [e]; exact hO'
                have e5 : nr = now0 + ((r + 1 : Nat) : Int) := by have := HNR.out; omega
                first
                  | (refine ⟨⟨r + 1, acked', S', A', by rw [e5], by go_num, by omega, ham', hO2, HO.out.2⟩, ?_⟩
                     simp [intOf]; omega)
                  | (go_roundw
                     case rel => exact ⟨r + 1, acked', S', A', by rw [e5], by go_num, by omega, ham', hO2, HO.out.2⟩
                     case measure => simp [intOf]; omega)
            · obtain rfl : R = r := by omega
              have hL : L0.drop acked = [] := by
                have hO2 := hO
                rw [HR.out] at hO2
                exact hO2.done (n := m0) (by rw [List.length_drop]; have := HM.out.2.2; omega)
              have hak : acked = m0 := by
                have := congrArg List.length hL
                rw [List.length_drop] at this
                have := HM.out.2.2
                simp at *
                omega
              have hA0 : A = [] := by
                have := hA.snd.al
                rw [hL] at this
                exact List.length_eq_zero_iff.1 (by simpa using this)
              rw [hL, hA0, hak] at hA
              have HA := Lib.hid hA
              clear hA hO hL hA0 hak
              go_wp2_with fail
              go_meet
              case rel => exact ⟨S, [], HA.out⟩
        case rest =>
          obtain ⟨S, A, hA⟩ := hcut
          obtain ⟨wd, rfl⟩ : ∃ wd : World, wd = wc := ⟨_, rfl⟩
          have HC := Lib.hid (fun W (f : Fr [] wd W) => show Calls Try.prog 21 #[.pointer (some ⟨sb, 0, none⟩)] W fun e w' => e = .returned (.int .u64 (m0 : Int)) ∧ W = w' from snd_acked W S sb win tmo most m0 [] [] (hA.snd.fr0 f))
          have HB := Lib.hid (fun W (f : Fr [] wd W) => box_empty W S sb win tmo most m0 (hA.snd.fr0 f))
          have HR := Lib.hid (fun W (f : Fr [] wd W) => show Calls Try.prog 18 #[.pointer (some ⟨sb, 0, none⟩)] W fun e w' => e = .returned (.int .i64 (most : Int)) ∧ W = w' from snd_free W S sb win tmo most m0 [] [] (hA.snd.fr0 f))
          have HK := Lib.hid (fun W (f : Fr [] wd W) => show W.cell? ⟨xb, 3, none⟩ = some (.int .i64 most) from (f.blk hA.xc (by simp)).at 3 (v := .int .i64 most) (by rw [HCS.out.1]; rfl))
          have HF := Lib.hid hA.fr
          have k1 : IntKind.u64.wrap (m0 : Int) = m0 := by rw [IntKind.wrap_u64]; omega
          have c1 := HK.out wd (Fr.refl [] wd)
          clear hA r1 r2 r3 HA3
          go_wp2_with fail
          go_region_held3 (fun w' => w'.cell? ⟨xb, 3, none⟩ = some (.int .i64 most)) (first | exact HK.out _ ((Fr.refl [] wd).drew) | exact HK.out _ ((Fr.refl [] wd).drewN _) | exact HK.out _ f9 | exact HK.out _ (f9.drewN _))
            (first
              | (go_at_call 21; refine (HC.out _ (by first | exact (Fr.refl [] wd).drewN _ | exact (Fr.refl [] wd).drew)).mono ?_; rintro e w9 ⟨rfl, rfl⟩)
              | (go_at_call 26; refine (HB.out _ (by first | exact (Fr.refl [] wd).drewN _ | exact (Fr.refl [] wd).drew)).mono ?_; rintro e w9 ⟨rfl, f8⟩; have f9 : Fr [] wd w9 := (by first | exact ((Fr.refl [] wd).drewN _).trans f8 (by simp) | exact ((Fr.refl [] wd).drew).trans f8 (by simp)))
              | (go_at_call 18; refine (HR.out _ f9).mono ?_; rintro e w10 ⟨rfl, rfl⟩))
          simp only [Exit.then]
          go_wp2
          go_ret
          exact ⟨rfl, HF.out.trans (by first | exact f9 | exact f9.drewN _) (by simp)⟩
end sendAll

end Go.Proofs.Ytehdhdocalbfpaa
