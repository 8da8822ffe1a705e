/-
  told: all that both senders tell is alike; what was told is written over and grown; by contract.
-/
import Derived.Test.YtehdhdocalbfpaaPlayL
namespace Go.Proofs.Ytehdhdocalbfpaa
open Go.RowKit ring
set_option linter.unusedVariables false
attribute [local go_sem ↓] Go.wp_at_zero Go.wp_at_succ newVar56
attribute [local go_sem] ev_layEv_same can_new run_storeEv0 run_newEv run_newEv' run_storeEv9

/-- Two lists that were made behind w, whatever they hold. -/
structure Grow (w W : World) (bv av : Value) (n m : Nat) : Prop where
  mine : Mine W bv av n m
  nb : ∀ g, bv.ownBlock = some g → w.heap.size ≤ g
  na : ∀ g, av.ownBlock = some g → w.heap.size ≤ g
  fr : Fr [] w W
section
variable {w W w' : World} {bv av : Value} {n m : Nat}
theorem Grow.fr0 (h : Grow w W bv av n m) (f : Fr [] W w') : Grow w w' bv av n m := ⟨h.mine.fr0 f, h.nb, h.na, h.fr.trans f (by simp)⟩
theorem Grow.lay {g cap : Nat} (h : Grow w W (.slice (some ⟨g, 0, none⟩) n cap) av n m) (o : Nat) (e : Ev) : Grow w (layEv W g o e) (.slice (some ⟨g, 0, none⟩) n cap) av n m :=
  ⟨h.mine.lay o e, h.nb, h.na, h.fr.trans (Fr.setEv (g := g) (Fr.refl [g] W) o e (.inl (by simp))) (by have := h.nb g rfl; simp; omega)⟩
theorem Grow.set {a cap : Nat} (h : Grow w W bv (.slice (some ⟨a, 0, none⟩) m cap) n m) (i : Nat) (u : Value) : Grow w (W.setCell ⟨a, i, none⟩ u) bv (.slice (some ⟨a, 0, none⟩) m cap) n m :=
  ⟨h.mine.set i u, h.nb, h.na, h.fr.trans ((Fr.refl [a] W).setCell ⟨a, i, none⟩ u (.inl (by simp))) (by have := h.na a rfl; simp; omega)⟩
theorem own_apart {w : World} {e e' : TypeId} {size size' k k' g : Nat} {v v' : Value} {xs xs' : List Value} (h : w.ownsRow 0 e size v k xs) (h' : w.ownsRow 0 e' size' v' k' xs') (hn : e ≠ e') (hg : v.ownBlock = some g) : g ∉ v'.ownBlock.toList := by
  obtain ⟨c, hc⟩ := own_blk h g (by simp [hg])
  intro hm
  simp at hm
  exact own_ne h' hm hc (Ne.symm hn) rfl
theorem Grow.appB {k : Nat} {ys : List Value} {v' : Value} (h : Grow w W bv av n m) (ho : ∃ zs, W.ownsRow 0 56 8 bv n zs) (ha : Appended W 56 8 bv k ys v' w') : Grow w w' v' av k m := by
  obtain ⟨-, zs, h2⟩ := h.mine
  obtain ⟨xs, h1⟩ := ho
  refine ⟨⟨⟨_, ha.own⟩, zs, own_fr h2 ha.fr (fun g hg => own_apart h2 h1 (by decide) hg)⟩, fun g hg => ?_, h.na, h.fr.trans ha.fr (fun x hx => .inr (h.nb x (by simpa using hx)))⟩
  rcases ha.place with hp | hp
  · exact h.nb g (by rw [← hp]; exact hg)
  · rw [hp] at hg; simp at hg; have := h.fr.size; omega
theorem Grow.appA {k : Nat} {ys : List Value} {v' : Value} (h : Grow w W bv av n m) (ho : ∃ zs, W.ownsRow 0 51 1 av m zs) (ha : Appended W 51 1 av k ys v' w') : Grow w w' bv v' n k := by
  obtain ⟨⟨zs, h2⟩, -⟩ := h.mine
  obtain ⟨xs, h1⟩ := ho
  refine ⟨⟨⟨zs, own_fr h2 ha.fr (fun g hg => own_apart h2 h1 (by decide) hg)⟩, _, ha.own⟩, h.nb, fun g hg => ?_, h.fr.trans ha.fr (fun x hx => .inr (h.na x (by simpa using hx)))⟩
  rcases ha.place with hp | hp
  · exact h.na g (by rw [← hp]; exact hg)
  · rw [hp] at hg; simp at hg; have := h.fr.size; omega
end
theorem new8 (W : World) : ∀ j u, (Ev.cells ⟨0, 8888, 0, 0, 0, 0, 0, 0⟩)[j]? = some u → (W.alloc (.cells #[.int .u8 0, .int .u32 8888, .int .u32 0, .int .u32 0, .int .i32 0, .int .i32 0, .int .u32 0, .float .f64 0] 56)).cell? ((⟨W.heap.size, 0, none⟩ : Addr).add j) = some u := pnew_cells W ⟨0, 8888, 0, 0, 0, 0, 0, 0⟩

section
variable (w : World) (S T : List Nat) (sb rb win tmo most acked : Nat) (L : List Ev) (A : List Int)
set_option maxRecDepth 100000 in
set_option maxHeartbeats 4000000 in
theorem told_ok (h : Snd w S sb win tmo most acked L A) (hr : Ref w T rb win tmo most acked L A) : Calls Try.prog 32 #[.pointer (some ⟨sb, 0, none⟩), .pointer (some ⟨rb, 0, none⟩)] w fun e w' => e = .returned (.bool true) ∧ Fr [] w w' := by
  have HS := Lib.hid (And.intro h hr)
  have hb := Lib.hid (box_any w S sb win tmo most acked L A h)
  clear h hr
  go_enter Try.func32, Try.ntmps32
  go_wp2_with fail
  (with_reducible refine hb.out.mono ?_)
  rintro e w1 ⟨bv, rfl, o1, n1, f1⟩
  obtain ⟨p1, cc1, rfl⟩ := own_form o1
  have HB := Lib.hid (And.intro o1 (And.intro n1 f1))
  have ha := Lib.hid (snd_sentat w1 S sb win tmo most acked L A (HS.out.1.fr0 f1))
  clear o1 n1 f1
  go_wp2_with fail
  (with_reducible refine ha.out.mono ?_)
  rintro e w2 ⟨av, rfl, o2, n2, f2⟩
  obtain ⟨p2, cc2, rfl⟩ := own_form o2
  obtain ⟨n, hn⟩ : ∃ n, n = L.length := ⟨_, rfl⟩
  obtain ⟨m, hm⟩ : ∃ m, m = A.length := ⟨_, rfl⟩
  have o12 := own_fr HB.out.1 f2 (by simp)
  have HA := Lib.hid (And.intro o2 (And.intro n2 (And.intro f2 o12)))
  have F2 := Lib.hid (HB.out.2.2.trans f2 (by simp))
  have HG0 := Lib.hid (show Grow w w2 (.slice p1 n cc1) (.slice p2 m cc2) n m by rw [hn, hm]; exact ⟨⟨⟨_, o12⟩, _, o2⟩, HB.out.2.1, fun g hg => Nat.le_trans HB.out.2.2.size (n2 g hg), F2.out⟩)
  have HS2 := Lib.hid (And.intro (HS.out.1.fr0 F2.out) (HS.out.2.fr0 F2.out))
  obtain ⟨bv, av, hT, hbl, h1, h2⟩ := HS.out.2.ex
  obtain ⟨p3, cc3, rfl⟩ := own_form h1
  obtain ⟨p4, cc4, rfl⟩ := own_form h2
  rw [← hn] at hbl ⊢
  rw [← hm] at hbl ⊢
  have hlL : n ≤ 256 := by have := HS.out.1.len; have := HS.out.1.lm; omega
  have hlA : m ≤ n := by have := HS.out.1.al; omega
  have HLA := Lib.hid (And.intro hlL hlA)
  have E1 : RdE w2 (.slice p1 n cc1) L := by rw [hn]; exact RdE.of_own o12
  have E3 : RdE w (.slice p3 n cc3) L := by rw [hn]; exact RdE.of_own h1
  have U2 : RdU w2 (.slice p2 m cc2) A := by rw [hm]; exact RdU.of_own HA.out.1
  have U4 : RdU w (.slice p4 m cc4) A := by rw [hm]; exact RdU.of_own h2
  have c4 := hbl.at 4 (v := .slice p3 n cc3) rfl
  have c5 := hbl.at 5 (v := .slice p4 m cc4) rfl
  have c3 := hbl.at 3 (v := .int .u64 acked) rfl
  have HE := Lib.hid (fun (W : World) (f : Fr [] w2 W) => (events_same W _ _ L (by omega) (E1.fr0 f) (E3.fr0 (F2.out.trans f (by simp)))).mono fun e w' h => (⟨h.1, f.trans h.2 (by simp)⟩ : e = .returned (.bool true) ∧ Fr [] w2 w'))
  have HU := Lib.hid (fun (W : World) (f : Fr [] w2 W) => (clocks_same W _ _ A (by omega) (U2.fr0 f) (U4.fr0 (F2.out.trans f (by simp)))).mono fun e w' h => (⟨h.1, f.trans h.2 (by simp)⟩ : e = .returned (.bool true) ∧ Fr [] w2 w'))
  have HE2 := Lib.hid (fun (W : World) (f : Fr [] w W) (p : Option Addr) (cc : Nat) (r : RdE W (.slice p n cc) L) => (events_same W _ _ L (by omega) r (E3.fr0 f)).mono fun e w' h => (⟨h.1, f.trans h.2 (by simp)⟩ : e = .returned (.bool true) ∧ Fr [] w w'))
  have HU2 := Lib.hid (fun (W : World) (f : Fr [] w W) (p : Option Addr) (cc : Nat) (r : RdU W (.slice p m cc) A) => (clocks_same W _ _ A (by omega) r (U4.fr0 f)).mono fun e w' h => (⟨h.1, f.trans h.2 (by simp)⟩ : e = .returned (.bool true) ∧ Fr [] w w'))
  have HBX := Lib.hid (fun (W : World) (f : Fr [] w W) => (box_any W S sb win tmo most acked L A (HS.out.1.fr0 f)).mono fun e w' h => (show ∃ p cc, e = .returned (.slice p n cc) ∧ RdE w' (.slice p n cc) L ∧ Fr [] w w' by
    obtain ⟨v, rfl, o, _, f'⟩ := h
    obtain ⟨p, c, rfl⟩ := own_form o
    have r := RdE.of_own o
    rw [← hn] at r ⊢
    exact ⟨p, c, rfl, r, f.trans f' (by simp)⟩))
  have HSA := Lib.hid (fun (W : World) (f : Fr [] w W) => (snd_sentat W S sb win tmo most acked L A (HS.out.1.fr0 f)).mono fun e w' h => (show ∃ p cc, e = .returned (.slice p m cc) ∧ RdU w' (.slice p m cc) A ∧ Fr [] w w' by
    obtain ⟨v, rfl, o, _, f'⟩ := h
    obtain ⟨p, c, rfl⟩ := own_form o
    have r := RdU.of_own o
    rw [← hm] at r ⊢
    exact ⟨p, c, rfl, r, f.trans f' (by simp)⟩))
  obtain ⟨fv, hfv⟩ : ∃ fv : Int, fv = ((most - L.length : Nat) : Int) := ⟨_, rfl⟩
  obtain ⟨tv, htv⟩ : ∃ tv : Int, tv = (acked : Int) + (A.length : Int) := ⟨_, rfl⟩
  have HF := Lib.hid (fun (W : World) (f : Fr [] w2 W) => (snd_free W S sb win tmo most acked L A (HS2.out.1.fr0 f)).mono fun e w' h => (⟨by rw [hfv]; exact h.1, h.2 ▸ f⟩ : e = .returned (.int .i64 fv) ∧ Fr [] w2 w'))
  have HF2 := Lib.hid (fun (W : World) (f : Fr [] w2 W) => (ref_free W T rb win tmo most acked L A (HS2.out.2.fr0 f)).mono fun e w' h => (⟨by rw [hfv]; exact h.1, by obtain ⟨-, k, rfl⟩ := h; exact f.drewN k⟩ : e = .returned (.int .i64 fv) ∧ Fr [] w2 w'))
  have HAc := Lib.hid (fun (W : World) (f : Fr [] w2 W) => (snd_acked W S sb win tmo most acked L A (HS2.out.1.fr0 f)).mono fun e w' h => (⟨h.1, h.2 ▸ f⟩ : e = .returned (.int .u64 acked) ∧ Fr [] w2 w'))
  have HT := Lib.hid (fun (W : World) (f : Fr [] w2 W) => (snd_sent W S sb win tmo most acked L A (HS2.out.1.fr0 f)).mono fun e w' h => (⟨by rw [htv]; exact h.1, by obtain ⟨-, k, rfl⟩ := h; exact f.drewN k⟩ : e = .returned (.int .u64 tv) ∧ Fr [] w2 w'))
  have HT2 := Lib.hid (fun (W : World) (f : Fr [] w2 W) => (ref_sent W T rb win tmo most acked L A (HS2.out.2.fr0 f)).mono fun e w' h => (⟨by rw [htv]; exact h.1, by obtain ⟨-, k, rfl⟩ := h; exact f.drewN k⟩ : e = .returned (.int .u64 tv) ∧ Fr [] w2 w'))
  have HC2 := Lib.hid (fun (W : World) (f : Fr [] w W) => show W.cell? ⟨rb, 4, none⟩ = some (.slice p3 n cc3) ∧ W.cell? ⟨rb, 5, none⟩ = some (.slice p4 m cc4) ∧ W.cell? ⟨rb, 3, none⟩ = some (.int .u64 acked) from ⟨(f.cell hbl.lt (by simp)).trans c4, (f.cell hbl.lt (by simp)).trans c5, (f.cell hbl.lt (by simp)).trans c3⟩)
  have HC := Lib.hid (fun (W : World) (f : Fr [] w2 W) => HC2.out W (F2.out.trans f (by simp)))
  have HN := Lib.hid (And.intro hn (And.intro hm (And.intro hfv htv)))
  have f9 := Fr.refl [] w2
  clear hn hm hfv htv E1 E3 U2 U4 hbl hT h1 h2 hlL hlA o2 n2 f2 o12
  go_wp2_with fail
  go_region_held3 (fun w' => w'.cell? ⟨rb, 4, none⟩ = some (.slice p3 n cc3) ∧ w'.cell? ⟨rb, 5, none⟩ = some (.slice p4 m cc4) ∧ w'.cell? ⟨rb, 3, none⟩ = some (.int .u64 acked)) (first | exact HC.out _ f9 | exact HC.out _ f9.drew | exact HC.out _ (f9.drewN _))
    (first
    | (go_at_call 64; refine (HE.out _ (by first | exact f9 | exact f9.drew | exact f9.drewN _)).mono ?_; clear f9; rintro e w9 ⟨rfl, f9⟩)
    | (go_at_call 65; refine (HU.out _ (by first | exact f9 | exact f9.drew | exact f9.drewN _)).mono ?_; clear f9; rintro e w9 ⟨rfl, f9⟩)
    | (go_at_call 18; refine (HF.out _ (by first | exact f9 | exact f9.drew | exact f9.drewN _)).mono ?_; clear f9; rintro e w9 ⟨rfl, f9⟩)
    | (go_at_call 68; refine (HF2.out _ (by first | exact f9 | exact f9.drew | exact f9.drewN _)).mono ?_; clear f9; rintro e w9 ⟨rfl, f9⟩)
    | (go_at_call 21; refine (HAc.out _ (by first | exact f9 | exact f9.drew | exact f9.drewN _)).mono ?_; clear f9; rintro e w9 ⟨rfl, f9⟩)
    | (go_at_call 23; refine (HT.out _ (by first | exact f9 | exact f9.drew | exact f9.drewN _)).mono ?_; clear f9; rintro e w9 ⟨rfl, f9⟩)
    | (go_at_call 67; refine (HT2.out _ (by first | exact f9 | exact f9.drew | exact f9.drewN _)).mono ?_; clear f9; rintro e w9 ⟨rfl, f9⟩))
  simp only [Exit.then]
  have HG9 := Lib.hid (HG0.out.fr0 f9)
  clear HG0 f9
  go_wp2_with fail
  go_loopw [7] (fun i wr => ∃ k : Nat, i = .int .i64 k ∧ k ≤ n ∧ Grow w wr (.slice p1 n cc1) (.slice p2 m cc2) n m) (fun i _ => n - (intOf i).toNat)
  case atStart => exact ⟨0, rfl, Nat.zero_le _, HG9.out⟩
  case round =>
    obtain ⟨k, rfl, hk, hG⟩ := hrel
    obtain ⟨wi, rfl⟩ : ∃ wi : World, wi = wr := ⟨_, rfl⟩
    by_cases hlt : k < n
    · obtain ⟨g, rfl⟩ : ∃ g, p1 = some ⟨g, 0, none⟩ := by
        obtain ⟨⟨ys, h1⟩, -⟩ := hG.mine
        rcases h1.2 with ⟨_, h9⟩ | ⟨g, cap9, cur, h9, _⟩
        · omega
        · simp at h9; exact ⟨g, h9.1⟩
      have q1 : can8 wi g (k * 8) = true := by obtain ⟨⟨ys, h1⟩, -⟩ := hG.mine; exact own_can8 h1 hlt
      have j1 : (0 : Int) ≤ (k : Int) := by omega
      have j2 : (k : Int) < (n : Int) := by omega
      have hl2 : n ≤ 256 := HLA.out.1
      have HK := Lib.hid (hG.lay (k * 8) ⟨0, 9999, 0, 0, 0, 0, 0, 0⟩)
      clear hG
      go_wp2_with fail
      first
        | (refine ⟨⟨k + 1, by go_num, by omega, HK.out⟩, ?_⟩
           simp [intOf]; omega)
        | (go_roundw
           case rel => exact ⟨k + 1, by go_num, by omega, HK.out⟩
           case measure => simp [intOf]; omega)
    · obtain rfl : k = n := by omega
      have HK := Lib.hid hG
      clear hG
      go_wp2_with fail
      go_loopw [8] (fun i wr => ∃ j : Nat, i = .int .i64 j ∧ j ≤ m ∧ Grow w wr (.slice p1 k cc1) (.slice p2 m cc2) k m) (fun i _ => m - (intOf i).toNat)
      case atStart => exact ⟨0, rfl, Nat.zero_le _, HK.out⟩
      case round =>
        obtain ⟨j, rfl, hj, hG⟩ := hrel
        obtain ⟨wj, rfl⟩ : ∃ wj : World, wj = wr := ⟨_, rfl⟩
        by_cases hlt2 : j < m
        · obtain ⟨g, rfl⟩ : ∃ g, p2 = some ⟨g, 0, none⟩ := by
            obtain ⟨-, zs, h1⟩ := hG.mine
            rcases h1.2 with ⟨_, h9⟩ | ⟨g, cap9, cur, h9, _⟩
            · omega
            · simp at h9; exact ⟨g, h9.1⟩
          obtain ⟨u, q1⟩ : ∃ u, wj.cell? ⟨g, j, none⟩ = some u := by obtain ⟨-, zs, h1⟩ := hG.mine; exact own_c1 h1 hlt2
          have q2 : wj.frozen? ⟨g, j, none⟩ = false := by obtain ⟨-, zs, h1⟩ := hG.mine; exact h1.frozenAt j
          have j1 : (0 : Int) ≤ (j : Int) := by omega
          have j2 : (j : Int) < (m : Int) := by omega
          have hl2 : k ≤ 256 := HLA.out.1
          have hl3 : m ≤ k := HLA.out.2
          have HK2 := Lib.hid (hG.set j (.int .u32 9999))
          clear hG
          go_wp2_with fail
          first
            | (refine ⟨⟨j + 1, by go_num, by omega, HK2.out⟩, ?_⟩
               simp [intOf]; omega)
            | (go_roundw
               case rel => exact ⟨j + 1, by go_num, by omega, HK2.out⟩
               case measure => simp [intOf]; omega)
        · obtain rfl : j = m := by omega
          have HK2 := Lib.hid hG
          clear hG
          go_wp2_with fail
          go_loopw [5, 6, 9] (fun bv av i wr => ∃ (q : Nat) (pb pa : Option Addr) (cb ca nb na : Nat), i = .int .i64 q ∧ q ≤ 20 ∧ nb = k + q ∧ na = j + q ∧ bv = .slice pb nb cb ∧ av = .slice pa na ca ∧ Grow w wr (.slice pb nb cb) (.slice pa na ca) nb na) (fun _ _ i _ => 20 - (intOf i).toNat)
          case atStart => exact ⟨0, p1, p2, cc1, cc2, k, j, rfl, Nat.zero_le _, rfl, rfl, rfl, rfl, HK2.out⟩
          case round =>
            obtain ⟨q, pb, pa, cb, ca, nb, na, rfl, hq, hnb, hna, rfl, rfl, hG⟩ := hrel
            obtain ⟨wq, rfl⟩ : ∃ wq : World, wq = wr := ⟨_, rfl⟩
            have hl2 : k ≤ 256 := HLA.out.1
            have hl3 : j ≤ k := HLA.out.2
            by_cases hlt3 : q < 20
            · have HGq := Lib.hid hG
              have HNQ := Lib.hid (And.intro hnb hna)
              have hnb1 : nb ≤ 1000 := by omega
              have hna1 : na ≤ 1000 := by omega
              obtain ⟨ys, o1⟩ := (HGq.out.fr0 ((Fr.refl [] wq).alloc (.cells #[.int .u8 0, .int .u32 8888, .int .u32 0, .int .u32 0, .int .i32 0, .int .i32 0, .int .u32 0, .float .f64 0] 56))).mine.1
              have HO1 := Lib.hid o1
              clear hG hnb hna hk hj hl2 hl3 o1
              go_wp2_with (first
                | (at_builtin; refine wpList_app _ rfl _ _ 42 rfl 56 Ev.zero.val 8 40 Try.underlying42 info56b rfl (by decide) (.slice pb nb cb) nb ys rfl HO1.out ⟨wq.heap.size, 0, none⟩ 1 1 (Ev.cells ⟨0, 8888, 0, 0, 0, 0, 0, 0⟩) rfl rfl (new8 wq) (pev_one _) (by unfold maxLen; omega) (by omega) ?_; intro v1 w3 happ; have hG3 := (HGq.out.fr0 ((Fr.refl [] wq).alloc _)).appB ⟨ys, HO1.out⟩ happ; obtain ⟨g3, cp3, rfl⟩ := own_succ happ.own; have HG3 := Lib.hid hG3; obtain ⟨zs, o2⟩ := (hG3.fr0 ((Fr.refl [] w3).alloc (.cells #[.int .u32 8888] 51))).mine.2; have HO2 := Lib.hid o2; clear o2 hG3 happ)
                | (at_builtin; refine wpList_app _ rfl _ _ 43 rfl 51 (.int .u32 0) 1 4 Try.underlying43 info51 rfl (by decide) (.slice pa na ca) na zs rfl HO2.out ⟨w3.heap.size, 0, none⟩ 1 1 [.int .u32 8888] rfl rfl (new_one w3 _ _ _ rfl) (by simp [Value.oneCell']) (by unfold maxLen; omega) (by omega) ?_; intro v2 w4 happ; have hG4 := (HG3.out.fr0 ((Fr.refl [] w3).alloc _)).appA ⟨zs, HO2.out⟩ happ; obtain ⟨g4, cp4, rfl⟩ := own_succ happ.own; have HG4 := Lib.hid hG4; clear hG4 happ))
              have hnb2 : nb + 1 = k + (q + 1) := by have := HNQ.out.1; omega
              have hna2 : na + 1 = j + (q + 1) := by have := HNQ.out.2; omega
              first
                | (refine ⟨⟨q + 1, _, _, _, _, nb + 1, na + 1, by go_num, by omega, hnb2, hna2, rfl, rfl, HG4.out⟩, ?_⟩
                   simp [intOf]; omega)
                | (go_roundw
                   case rel => exact ⟨q + 1, _, _, _, _, nb + 1, na + 1, by go_num, by omega, hnb2, hna2, rfl, rfl, HG4.out⟩
                   case measure => simp [intOf]; omega)
            · obtain rfl : q = 20 := by omega
              have k1 : IntKind.i64.wrap ((na : Int) + (k : Int)) = (na : Int) + k := by rw [IntKind.wrap_i64]; omega
              have k2 : IntKind.i64.wrap ((na : Int) + (k : Int) - (j : Int)) = (nb : Int) := by rw [IntKind.wrap_i64]; omega
              have f9 := hG.fr
              have c4 := (HC2.out _ f9).1
              have c5 := (HC2.out _ f9).2.1
              clear hG hnb hna hk hj hl2 hl3
              go_wp2_with fail
              go_region_held3 (fun w' => w'.cell? ⟨rb, 4, none⟩ = some (.slice p3 k cc3) ∧ w'.cell? ⟨rb, 5, none⟩ = some (.slice p4 j cc4) ∧ w'.cell? ⟨rb, 3, none⟩ = some (.int .u64 acked)) (first | exact HC2.out _ f9 | exact HC2.out _ f9.drew | exact HC2.out _ (f9.drewN _))
                (first
                | (go_at_call 26; refine (HBX.out _ (by first | exact f9 | exact f9.drew | exact f9.drewN _)).mono ?_; clear f9; rintro e w9 ⟨p9, c9, rfl, r9, f9⟩; have R9 := Lib.hid r9; clear r9)
                | (go_at_call 64; refine (HE2.out _ (by first | exact f9 | exact f9.drew | exact f9.drewN _) p9 c9 (by first | exact R9.out | exact R9.out.fr0 ((Fr.refl [] _).drew) | exact R9.out.fr0 ((Fr.refl [] _).drewN _))).mono ?_; clear f9 R9; rintro e w9 ⟨rfl, f9⟩)
                | (go_at_call 34; refine (HSA.out _ (by first | exact f9 | exact f9.drew | exact f9.drewN _)).mono ?_; clear f9; rintro e w9 ⟨p9, c9, rfl, r9, f9⟩; have R9 := Lib.hid r9; clear r9)
                | (go_at_call 65; refine (HU2.out _ (by first | exact f9 | exact f9.drew | exact f9.drewN _) p9 c9 (by first | exact R9.out | exact R9.out.fr0 ((Fr.refl [] _).drew) | exact R9.out.fr0 ((Fr.refl [] _).drewN _))).mono ?_; clear f9 R9; rintro e w9 ⟨rfl, f9⟩))
              simp only [Exit.then]
              go_wp2_with fail
              go_ret
              exact ⟨rfl, f9⟩
end

end Go.Proofs.Ytehdhdocalbfpaa
