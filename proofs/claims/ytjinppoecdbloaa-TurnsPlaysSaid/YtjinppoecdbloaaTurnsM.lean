/-
  TurnsPlays: a Next of both; Order left; made anew.
-/
import Derived.Test.YtjinppoecdbloaaTurnsL
namespace Go.Proofs.Ytjinppoecdbloaa
open Go.RowKit Go.Shelf
set_option linter.unusedVariables false
attribute [local go_sem] Oper.semAt_some

theorem St.vbt {B : Nat} {w : World} {bt bw br n : Nat} {had ws : List Int} {v : Value} (h : St B w bt bw br n had ws v) : ∀ g, v.ownBlock = some g → g ≠ bt := fun g hg e => own_ne h.r.s hg h.t.t (by decide) e.symm
theorem St.brt {B : Nat} {w : World} {bt bw br n : Nat} {had ws : List Int} {v : Value} (h : St B w bt bw br n had ws v) : br ≠ bt := h.r.t.ne h.t.t (by decide)
theorem St.brw {B : Nat} {w : World} {bt bw br n : Nat} {had ws : List Int} {v : Value} (h : St B w bt bw br n had ws v) : br ≠ bw := h.r.t.ne h.t.s (by decide)
/-- The reference lies on where only the program's own has turned. -/
theorem St.ref {B : Nat} {w w1 : World} {bt bw br n : Nat} {had ws : List Int} {v : Value} (h : St B w bt bw br n had ws v) (hf : Fr [bt, bw] w w1) : RefAt w1 br n had v :=
  h.r.fr hf (by have := h.brt; have := h.brw; simp; omega) (fun g hg => by have := h.vbt g hg; have := (h.pv g hg).2; simp; omega)
theorem St.next {B : Nat} {w w1 w2 : World} {bt bw br n : Nat} {had ws : List Int} {v v' : Value} {bs : List Bool} (h : St B w bt bw br n had ws v) (hB : B ≤ w.heap.size)
    (h1 : TurnsAt w1 bt bw n (lastOf (pkHad n (lastOf had + 1).toNat bs had)) (pkWs n (lastOf had + 1).toNat bs ws)) (f1 : Fr [bt, bw] w w1)
    (h2 : RefAt w2 br n (pkHad n (lastOf had + 1).toNat bs had) v') (hp : v'.ownBlock = v.ownBlock ∨ ∃ g, v'.ownBlock = some g ∧ w1.heap.size ≤ g) (f2 : Fr (br :: v.ownBlock.toList) w1 w2) :
    St B w2 bt bw br n (pkHad n (lastOf had + 1).toNat bs had) (pkWs n (lastOf had + 1).toNat bs ws) v' ∧ Below B w w2 := by
  have hbt : bt ∉ br :: v.ownBlock.toList := by
    intro hm
    rcases List.mem_cons.1 hm with hm | hm
    · exact h.brt hm.symm
    · exact h.vbt bt (by simpa using hm) rfl
  have hbw : bw ∉ br :: v.ownBlock.toList := by
    intro hm
    rcases List.mem_cons.1 hm with hm | hm
    · exact h.brw hm.symm
    · exact (h.pv bw (by simpa using hm)).2 rfl
  have hl := pk_last (s := (lastOf had + 1).toNat) (bs := bs) h.n0 h.lo h.hi
  refine ⟨⟨⟨f2.blk h1.t hbt, f2.blk h1.s hbw, h1.len⟩, h2, pk_ws h.n0 h.ws, hl.1, hl.2, h.n0, h.n1, h.pt, h.pw, h.pr, fun g hg => ?_⟩, ?_⟩
  · rcases hp with hp | ⟨g', hp, hge⟩
    · exact h.pv g (by rw [← hp]; exact hg)
    · rw [hp] at hg; cases hg
      have := f1.size
      have := h.t.s.lt
      omega
  · refine (f1.below' hB ?_).trans (f2.below' (Nat.le_trans hB f1.size) ?_)
    · intro x hx; simp at hx; have := h.pt; have := h.pw; omega
    · intro x hx
      rcases List.mem_cons.1 hx with rfl | hx
      · exact h.pr
      · exact (h.pv x (by simpa using hx)).1

/-- The lists of who is ready, where the program's own has turned. -/
theorem Sep.rd {w w1 : World} {bt bw br : Nat} {v rv : Value} {bs : List Bool} (h : Sep w bt bw br v rv bs) (hr : Rd w rv (bools bs)) (hf : Fr [bt, bw] w w1) : Rd w1 rv (bools bs) :=
  hf.rd hr (fun g o n c e hp => by obtain ⟨a, b, c, -, -⟩ := h g o n c e (by rwa [bools_len] at hp); exact ⟨a, by simp [b, c]⟩)
theorem Sep.grow {w w1 : World} {bt bw br : Nat} {v rv : Value} {bs : List Bool} (h : Sep w bt bw br v rv bs) (hf : Fr [] w w1) : Sep w1 bt bw br v rv bs :=
  fun g o n c e hp => by obtain ⟨a, b⟩ := h g o n c e hp; exact ⟨by have := hf.size; omega, b⟩
theorem RdInts.on {S : List Nat} {w w1 : World} {v : Value} {xs : List Int} (h : RdInts w v xs) (hf : Fr S w w1) (hs : ∀ g o n c, v = .slice (some ⟨g, o, none⟩) n c → g ∉ S) : RdInts w1 v xs := by
  obtain ⟨p, c, rfl, h1, h2⟩ := h
  refine ⟨p, c, rfl, h1, ?_⟩
  rcases h2 with h2 | ⟨g, o, rfl, h2⟩
  · exact .inl h2
  · exact .inr ⟨g, o, rfl, fun m hm => (hf.cell (World.block_lt_of_cell? w _ (h2 m hm)) (hs g o _ _ rfl)).trans (h2 m hm)⟩

set_option maxRecDepth 100000 in
set_option maxHeartbeats 2000000 in
theorem step_next (B : Nat) (w : World) (bt bw br n : Nat) (had ws : List Int) (v rv : Value) (bs : List Bool) (N : Int) (h : St B w bt bw br n had ws v) (hB : B ≤ w.heap.size) (hl : had.length ≤ 100000)
    (hrv : Rd w rv (bools bs)) (hb : bs.length ≤ 9223372036854775807) (hsep : Sep w bt bw br v rv bs) :
    Calls Try.prog 19 #[.pointer (some ⟨bt, 0, none⟩), .pointer (some ⟨br, 0, none⟩), .agg #[.int .i64 1, rv, .int .i64 N]] w (StepPost B w bt bw br n had) := by
  have f0 : Fr [] w (w.alloc (.cells #[.int .i64 1, rv, .int .i64 N] 47)) := (Fr.refl _ _).alloc _
  have S0 := h.fr f0
  have R0 := hrv.grow f0
  have P0 := hsep.grow f0
  have K0 : Blk (w.alloc (.cells #[.int .i64 1, rv, .int .i64 N] 47)) w.heap.size #[.int .i64 1, rv, .int .i64 N] 47 := Blk.new _ _ _
  have hbt := h.t.t.lt
  have hbw := h.t.s.lt
  have hpk := pkK_le n (lastOf had + 1).toNat bs
  have hn1 := h.n1
  have H1 := Lib.hid (next_st B _ bt bw br n had ws v rv bs S0 hl R0 hb P0)
  have HH := Lib.hid (And.intro S0 (And.intro R0 (And.intro P0 (And.intro K0 h))))
  obtain ⟨p, c, rfl, hc, _⟩ := hrv
  rw [bools_len] at *
  clear h hsep f0 S0 R0 P0 K0
  go_enter Try.func19, Try.ntmps19
  go_wp2_with fail
  (with_reducible refine H1.out.mono ?_)
  rintro e w1 ⟨av, rfl, t1, r1, a1, f1⟩
  obtain ⟨S0, R0, P0, K0, h⟩ := HH.out
  have k1 := f1.blk K0 (by simp; omega)
  have c1 := k1.at 1 (v := .slice p bs.length c) rfl
  have h2 := rnext_st B w1 bt bw br n had ws v _ bs (S0.ref f1) S0.hs S0.hi S0.n0 S0.n1 hl (P0.rd R0 f1) hb
  have H2 := Lib.hid h2
  have HT := Lib.hid (And.intro t1 (And.intro r1 (And.intro a1 f1)))
  clear h2 t1 r1 a1 f1 S0 R0 P0 K0 h k1
  go_wp2_with fail
  (with_reducible refine H2.out.mono ?_)
  rintro e w2 ⟨lv, v', rfl, rr, hp, r2, f2⟩
  obtain ⟨t1, r1, a1, f1⟩ := HT.out
  obtain ⟨S0, R0, P0, K0, h⟩ := HH.out
  have r1' := r1.on f2 (fun g o n c hv hm => by
    have hge := a1 g o n c hv
    simp at hge
    rcases List.mem_cons.1 hm with rfl | hm
    · have := h.r.t.lt; omega
    · have := own_lt h.r.s (g := g) (by simpa using hm); omega)
  obtain ⟨ST, BL⟩ := S0.next (by simp; omega) t1 f1 rr hp f2
  have hfin : StepPost B w bt bw br n had (.returned (.bool true)) w2 := ⟨rfl, _, _, v', ST, pkHad_len _ _ _ _, ((Below.refl B w).alloc hB _).trans BL⟩
  have hal : (asks n (lastOf had + 1).toNat (pkK n (lastOf had + 1).toNat bs)).length ≤ 1000000 := by rw [asks_len]; omega
  have h3 := same_any w2 _ _ _ _ r1' r2 hal hal
  rw [decide_eq_true rfl] at h3
  have H3 := Lib.hid h3
  have HF : ∀ j, StepPost B w bt bw br n had (.returned (.bool true)) (w2.drewN j) := fun j => by
    obtain ⟨a, h', w', v', b, c, d⟩ := hfin
    exact ⟨a, h', w', v', b.fr (drewN_fr _ _), c, below_drewN d j⟩
  have HFin := Lib.hid HF
  generalize pkI n (lastOf had + 1).toNat bs = i at *
  generalize pkOk n (lastOf had + 1).toNat bs = ok at *
  clear t1 r1 a1 f1 S0 R0 P0 K0 h r1' ST BL hfin hal h3 HF rr hp r2 f2
  cases ok
  · go_wp2_with (go_at_call 15; (with_reducible refine H3.out.mono ?_); rintro e w3 ⟨rfl, j, rfl⟩)
    go_ret
    exact HFin.out _
  · go_wp2_with (go_at_call 15; (with_reducible refine H3.out.mono ?_); rintro e w3 ⟨rfl, j, rfl⟩)
    go_ret
    exact HFin.out _

end Go.Proofs.Ytjinppoecdbloaa
