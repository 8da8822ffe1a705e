/-
  TurnsPlays: what lies behind each call, and told.
-/
import Derived.Test.YtjinppoecdbloaaTurnsJ
namespace Go.Proofs.Ytjinppoecdbloaa
open Go.RowKit Go.Shelf
set_option linter.unusedVariables false

/-- Both, side by side, in blocks from B on. -/
structure St (B : Nat) (w : World) (bt bw br n : Nat) (had ws : List Int) (v : Value) : Prop where
  t : TurnsAt w bt bw n (lastOf had) ws
  r : RefAt w br n had v
  ws : WsOf had ws n
  lo : -1 ≤ lastOf had
  hi : lastOf had < n
  n0 : 0 < n
  n1 : n ≤ 16
  pt : B ≤ bt
  pw : B ≤ bw
  pr : B ≤ br
  pv : ∀ g, v.ownBlock = some g → B ≤ g ∧ g ≠ bw
theorem St.fr {B : Nat} {w w' : World} {bt bw br n : Nat} {had ws : List Int} {v : Value} (h : St B w bt bw br n had ws v) (hf : Fr [] w w') : St B w' bt bw br n had ws v :=
  ⟨⟨hf.blk h.t.t (by simp), hf.blk h.t.s (by simp), h.t.len⟩, h.r.fr hf (by simp) (by simp), h.ws, h.lo, h.hi, h.n0, h.n1, h.pt, h.pw, h.pr, h.pv⟩
theorem own_zero {w : World} {b : Nat} {e : TypeId} {size k : Nat} {v : Value} {xs : List Value} (h : w.ownsRow b e size v k xs) : w.ownsRow 0 e size v k xs := by
  refine ⟨h.1, ?_⟩
  rcases h.2 with hn | ⟨g, cap, cur, h1, _, h2⟩
  · exact .inl hn
  · exact .inr ⟨g, cap, cur, h1, Nat.zero_le _, h2⟩

theorem drewN_fr (w : World) (j : Nat) : Fr [] w (w.drewN j) := (Fr.refl _ _).drewN _

set_option maxRecDepth 100000 in
set_option maxHeartbeats 2000000 in
theorem told_any (B : Nat) (w : World) (bt bw br n : Nat) (had ws : List Int) (v : Value) (h : St B w bt bw br n had ws v) (hl : had.length ≤ 100000) :
    Calls Try.prog 20 #[.pointer (some ⟨bt, 0, none⟩), .pointer (some ⟨br, 0, none⟩)] w fun e w' => e = .returned (.bool true) ∧ Fr [] w w' := by
  have H := Lib.hid h
  have hn1 := h.n1
  have hn0 := h.n0
  have hn0' : 1 ≤ n := h.n0
  have HL := Lib.hid hl
  clear h
  go_enter Try.func20, Try.ntmps20
  go_wp2_with fail
  (with_reducible refine (waited_any w bt bw n _ ws H.out.t hn0' H.out.n1).mono ?_)
  rintro e w1 ⟨v1, rfl, o1, f1⟩
  go_wp2_with fail
  (with_reducible refine (rwaited w1 br n had ws v (H.out.fr f1).r HL.out H.out.n1 H.out.ws).mono ?_)
  rintro e w2 ⟨v2, rfl, o2, n2, f2⟩
  have hwl := H.out.ws.1
  have HWL := Lib.hid hwl
  have hob := fun g hg => (o1.lt g hg).1
  have o1' := own_fr (own_zero o1) f2 (by simp)
  have o12 := own_zero o1
  rw [hwl] at o2
  obtain ⟨p1, c1, rfl, hc1, hp1, hp2⟩ := own_form o1'
  obtain ⟨g1, rfl⟩ : ∃ g, p1 = some ⟨g, 0, none⟩ := by
    cases p1 with
    | none => exact absurd (hp1 rfl) (by omega)
    | some a => obtain ⟨g, rfl⟩ := hp2 a rfl; exact ⟨g, rfl⟩
  have hg1 : w.heap.size ≤ g1 := hob g1 rfl
  have hg1w : g1 < w1.heap.size := (o1.lt g1 rfl).2
  have F2 : Fr [] w w2 := f1.trans f2 (by simp)
  have S2 := H.out.fr F2
  have r1 := RdInts.of_own o1'
  have r2 := RdInts.of_own o2
  have hwle : ws.length ≤ 1000000 := by omega
  have e0 := S2.r.t.at 0 (v := .int .i64 n) rfl
  have q15 : ∀ j, Calls Try.prog 15 #[.slice (some ⟨g1, 0, none⟩) n c1, v2] (w2.drewN j) fun e w' => e = .returned (.bool true) ∧ ∃ m, w' = (w2.drewN j).drewN m := fun j => by
    have := same_any (w2.drewN j) _ _ ws ws (r1.kept fun _ _ _ _ _ => rfl) (r2.kept fun _ _ _ _ _ => rfl) hwle hwle
    rwa [decide_eq_true rfl] at this
  have q14 : ∀ j, Calls Try.prog 14 #[.pointer (some ⟨bt, 0, none⟩)] (w2.drewN j) fun e w' => e = .returned (.int .i64 (lastOf had)) ∧ w' = w2.drewN j := fun j =>
    (last_some (w2.drewN j) bt n _ _ (by omega) (S2.t.t.drewN j)).mono fun e w' ⟨a, b⟩ => ⟨a, b.symm⟩
  have q13 : ∀ j, Calls Try.prog 13 #[.pointer (some ⟨bt, 0, none⟩)] (w2.drewN j) fun e w' => e = .returned (.int .i64 n) ∧ w' = w2.drewN j := fun j =>
    (len_some (w2.drewN j) bt _ _ _ (S2.t.t.drewN j)).mono fun e w' ⟨a, b⟩ => ⟨a, b.symm⟩
  have q28 : ∀ j, Calls Try.prog 28 #[.pointer (some ⟨br, 0, none⟩)] (w2.drewN j) fun e w' => e = .returned (.int .i64 (lastOf had)) ∧ ∃ m, w' = (w2.drewN j).drewN m := fun j =>
    rlast (w2.drewN j) br n had v ⟨S2.r.t.drewN j, S2.r.s⟩ (by have := HL.out; omega)
  have Q := Lib.hid (And.intro q15 (And.intro q14 (And.intro q13 q28)))
  have HO := Lib.hid (And.intro o1' (And.intro r2 (And.intro n2 (And.intro F2 S2))))
  generalize lastOf had = lst at *
  clear q15 q14 q13 q28 hp1 hp2 hob o1' o12 r1 r2 o1 o2 n2 F2 f1 f2 S2 hwl hl
  go_wp2
  go_quiet ((first | (go_at_call 15; exact Calls.quiet_of (Q.out.1 _)) | (go_at_call 14; exact Calls.quiet_of_same (Q.out.2.1 _)) | (go_at_call 13; exact Calls.quiet_of_same (Q.out.2.2.1 _)) | (go_at_call 28; exact Calls.quiet_of (Q.out.2.2.2 _))))
  go_wp2
  go_loopw [7] (fun i wr => ∃ k : Nat, i = .int .i64 k ∧ k ≤ n ∧ (∃ cur, Blk wr g1 cur 3 ∧ n ≤ cur.size) ∧ Fr [g1] w2 wr) (fun i _ => n - (intOf i).toNat)
  case atStart =>
    refine ⟨0, rfl, Nat.zero_le _, ?_, (Fr.refl _ _).drewN _⟩
    obtain ⟨o1, -⟩ := HO.out
    rcases o1.2 with ⟨h1, _⟩ | ⟨g, cap, cur, h1, _, h2, h3, _, h4, _⟩
    · cases h1
    · cases h1; exact ⟨cur, h2, by omega⟩
  case round =>
    obtain ⟨k, rfl, hk, ⟨cur, hb, hcs⟩, hf⟩ := hrel
    by_cases hlt : k < n
    · have hkc : k < cur.size := by omega
      have ck := hb.at k (v := cur[k]) (by simp [hkc])
      have cf := hb.free k
      generalize cur[k] = x at ck
      go_wp2
      go_roundw
      case rel => exact ⟨k + 1, by go_num, by omega, ⟨_, hb.set k _, by simpa using hcs⟩, hf.setCell _ _ (.inl (by simp))⟩
      case measure => simp [intOf]; omega
    · obtain ⟨o1, r2, n2, F2, S2⟩ := HO.out
      have F3 : Fr [] w wr := F2.trans hf (by intro x hx; simp at hx; right; omega)
      have S3 := H.out.fr F3
      have hv2 : RdInts wr v2 ws := by
        obtain ⟨p, c, rfl, h1, h2⟩ := r2
        refine ⟨p, c, rfl, h1, ?_⟩
        rcases h2 with h2 | ⟨g, o, rfl, h2⟩
        · exact .inl h2
        · refine .inr ⟨g, o, rfl, fun m hm => (hf.cell (World.block_lt_of_cell? w2 _ (h2 m hm)) ?_).trans (h2 m hm)⟩
          have := n2 g rfl
          simp
          have := hg1w
          omega
      have HV := Lib.hid hv2
      have HF3 := Lib.hid F3
      clear o1 r2 n2 F2 S2 F3 hv2 hf hb
      go_wp2_with fail
      (with_reducible refine (waited_any wr bt bw n _ ws S3.t hn0' hn1).mono ?_)
      rintro e w4 ⟨v4, rfl, o4, f4⟩
      go_wp2_with fail
      (with_reducible refine (same_any w4 _ _ ws ws (RdInts.of_own (own_zero o4)) ?hx hwle hwle).mono ?_)
      case hx =>
        obtain ⟨p, c, rfl, h1, h2⟩ := HV.out
        refine ⟨p, c, rfl, h1, ?_⟩
        rcases h2 with h2 | ⟨g, o, rfl, h2⟩
        · exact .inl h2
        · exact .inr ⟨g, o, rfl, fun m hm => (f4.cell (World.block_lt_of_cell? wr _ (h2 m hm)) (by simp)).trans (h2 m hm)⟩
      rintro e w5 ⟨he, j, rfl⟩
      rw [decide_eq_true rfl] at he
      subst he
      go_wp2
      go_ret
      exact ⟨rfl, (HF3.out.trans f4 (by simp)).drewN _⟩

end Go.Proofs.Ytjinppoecdbloaa
