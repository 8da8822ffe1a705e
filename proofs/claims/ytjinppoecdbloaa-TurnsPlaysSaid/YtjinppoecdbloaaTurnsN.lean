/-
  TurnsPlays: Order left; made anew; Order asked for before a turn.
-/
import Derived.Test.YtjinppoecdbloaaTurnsM
import Derived.Deep.RegionHeld3
import Derived.Deep.RegionWith
namespace Go.Proofs.Ytjinppoecdbloaa
open Go.RowKit Go.Shelf
set_option linter.unusedVariables false
attribute [local go_sem] Oper.semAt_some

set_option maxRecDepth 100000 in
set_option maxHeartbeats 2000000 in
theorem step_leave (B : Nat) (w : World) (bt bw br n : Nat) (had ws : List Int) (v rv : Value) (N : Int) (h : St B w bt bw br n had ws v) (hB : B ≤ w.heap.size) (hl : had.length ≤ 100000) (hrv : ∃ p l c, rv = .slice p l c) :
    Calls Try.prog 19 #[.pointer (some ⟨bt, 0, none⟩), .pointer (some ⟨br, 0, none⟩), .agg #[.int .i64 4, rv, .int .i64 N]] w (StepPost B w bt bw br n had) := by
  obtain ⟨p, l, c, rfl⟩ := hrv
  have H := Lib.hid h
  clear h
  have hhi := H.out.hi
  have hlo := H.out.lo
  have hn1 := H.out.n1
  have hn0 := H.out.n0
  have hsn : (lastOf had + 1).toNat ≤ n := by omega
  have S1 := H.out.fr ((Fr.refl [] w).alloc (.cells #[.int .i64 4, .slice p l c, .int .i64 N] 47))
  have HS1 := Lib.hid S1
  have h1 := rorder _ br n (lastOf had + 1).toNat had v S1.r (by omega) hn0 hn1 S1.hs hsn
  have H1 := Lib.hid h1
  clear S1 h1
  have K0 : Blk (w.alloc (.cells #[.int .i64 4, .slice p l c, .int .i64 N] 47)) w.heap.size #[.int .i64 4, .slice p l c, .int .i64 N] 47 := Blk.new _ _ _
  have HK := Lib.hid K0
  clear K0
  have fin : ∀ (w1 w2 w3 : World) (v1 l2 : Value) (K : Nat), Fr [] (w.alloc (.cells #[.int .i64 4, .slice p l c, .int .i64 N] 47)) w1 → RdInts w1 l2 (asks n (lastOf had + 1).toNat K) → K ≤ n → Fr [] w1 w2 → w2.ownsRow 0 3 1 v1 (asks n (lastOf had + 1).toNat K).length (ints (asks n (lastOf had + 1).toNat K)) →
      Calls Try.prog 15 #[v1, l2] w2 fun e w' => e = .returned (.bool true) ∧ StepPost B w bt bw br n had (.returned (.bool true)) w' := by
    intro w1 w2 w3 v1 l2 K f1 r1 hK f2 o2
    have hal : (asks n (lastOf had + 1).toNat K).length ≤ 1000000 := by rw [asks_len]; omega
    refine (same_any w2 _ _ _ _ (RdInts.of_own o2) (r1.on f2 (by simp)) hal hal).mono ?_
    rintro e w4 ⟨he, j, rfl⟩
    rw [decide_eq_true rfl] at he
    exact ⟨he, H.out.post hB (((((Fr.refl _ _).alloc _).trans f1 (by simp)).trans f2 (by simp)).drewN _)⟩
  have HFin := Lib.hid fin
  clear fin
  go_enter Try.func19, Try.ntmps19
  go_wp2_with fail
  (with_reducible refine H1.out.mono ?_)
  rintro e w1 ⟨v1, rfl, o1, n1, f1⟩
  have k1 := (f1.blk HK.out (by simp)).at 2 (v := .int .i64 N) rfl
  have hord := fun most => orderq_any w1 bt bw n (lastOf had + 1).toNat (lastOf had) most ws hn0 hn1 hlo hhi HS1.out.hs (HS1.out.fr f1).t
  have HO := Lib.hid hord
  rw [asks_len] at o1
  obtain ⟨p1, c1, rfl, hc1, hp1, hp2⟩ := own_form o1
  obtain ⟨g1, rfl⟩ : ∃ g, p1 = some ⟨g, 0, none⟩ := by
    cases p1 with
    | none => exact absurd (hp1 rfl) (by omega)
    | some a => obtain ⟨g, rfl⟩ := hp2 a rfl; exact ⟨g, rfl⟩
  have HW := Lib.hid (And.intro o1 f1)
  clear hord n1 f1 hp1 hp2
  by_cases hN : 0 < N ∧ N < n
  · obtain ⟨m, rfl⟩ := Int.eq_ofNat_of_zero_le (show 0 ≤ N by omega)
    have hm0 : 0 < m := by omega
    have hmn : m < n := by omega
    have hm1 : (0 : Int) < m := by omega
    have hu : upTo (m : Int) n = m := by unfold upTo; rw [if_pos (by omega)]; simp
    have hr : RdInts w1 (.slice (some ⟨g1, 0, none⟩) m c1) (asks n (lastOf had + 1).toNat m) := by
      refine ⟨some ⟨g1, 0, none⟩, c1, by rw [asks_len], by rw [asks_len]; omega, .inr ⟨g1, 0, rfl, fun x hx => ?_⟩⟩
      rw [asks_len] at hx
      rw [Nat.zero_add, own_at o1 (j := x) (by rw [asks_len]; omega), asks_get (by omega), asks_get hx]
    have HU := Lib.hid (And.intro hu hr)
    clear hN hu hr o1
    go_wp2_with fail
    (with_reducible refine (HO.out (m : Int)).mono ?_)
    rintro e w2 ⟨v2, rfl, o2, n2, f2⟩
    rw [HU.out.1] at o2
    have h3 := HFin.out w1 w2 w2 v2 _ m HW.out.2 HU.out.2 (by omega) f2 o2
    have H3 := Lib.hid h3
    clear h3 o2 n2 f2
    go_wp2_with fail
    (with_reducible refine H3.out.mono ?_)
    rintro e w3 ⟨rfl, hst⟩
    have HST := Lib.hid hst
    clear hst
    go_wp2
    go_ret
    exact HST.out
  · have hu : upTo N n = n := by
      unfold upTo
      split
      · omega
      · rfl
    have HU := Lib.hid hu
    have hN2 : N ≤ 0 ∨ (0 < N ∧ (n : Int) ≤ N) := by omega
    clear hN hu
    rcases hN2 with hN2 | ⟨hN2, hN3⟩
    all_goals
      clear o1
      go_wp2_with fail
      (with_reducible refine (HO.out N).mono ?_)
      rintro e w2 ⟨v2, rfl, o2, n2, f2⟩
      rw [HU.out] at o2
      have h3 := HFin.out w1 w2 w2 v2 _ n HW.out.2 (RdInts.of_own HW.out.1) (by omega) f2 o2
      have H3 := Lib.hid h3
      clear h3 o2 n2 f2
      go_wp2_with fail
      (with_reducible refine H3.out.mono ?_)
      rintro e w3 ⟨rfl, hst⟩
      have HST := Lib.hid hst
      clear hst
      go_wp2
      go_ret
      exact HST.out

set_option maxRecDepth 100000 in
set_option maxHeartbeats 2000000 in
theorem step_again (B : Nat) (w : World) (bt bw br n : Nat) (had ws : List Int) (v rv : Value) (N : Int) (h : St B w bt bw br n had ws v) (hB : B ≤ w.heap.size) (hl : had.length ≤ 100000) (hrv : ∃ p l c, rv = .slice p l c) :
    Calls Try.prog 19 #[.pointer (some ⟨bt, 0, none⟩), .pointer (some ⟨br, 0, none⟩), .agg #[.int .i64 6, rv, .int .i64 N]] w (StepPost B w bt bw br n had) := by
  obtain ⟨p, l, c, rfl⟩ := hrv
  have H := Lib.hid h
  clear h
  have hhi := H.out.hi
  have hlo := H.out.lo
  have hn1 := H.out.n1
  have hn0 := H.out.n0
  have hn0' : 1 ≤ n := hn0
  have hnI : (0 : Int) < n := by omega
  have hsn : (lastOf had + 1).toNat ≤ n := by omega
  have hu : upTo 0 n = n := by unfold upTo; rw [if_neg (by omega)]
  have HU := Lib.hid hu
  have S1 := H.out.fr ((Fr.refl [] w).alloc (.cells #[.int .i64 6, .slice p l c, .int .i64 N] 47))
  have HS1 := Lib.hid S1
  have hal : (asks n (lastOf had + 1).toNat n).length ≤ 1000000 := by rw [asks_len]; omega
  have HAL := Lib.hid hal
  clear hu hal
  go_enter Try.func19, Try.ntmps19
  go_wp2_with fail
  (with_reducible refine (len_some _ bt _ _ _ S1.t.t).mono ?_)
  rintro e w1 ⟨rfl, rfl⟩
  go_wp2_with fail
  (with_reducible refine (last_some _ bt _ _ _ hnI S1.t.t).mono ?_)
  rintro e w1 ⟨rfl, rfl⟩
  go_wp2_with fail
  (with_reducible refine (from_ok _ n (lastOf had) hn0' hn1 hlo hhi).mono ?_)
  rintro e w2 ⟨rfl, tu, f2⟩
  rw [World.size_alloc] at tu
  have HT := Lib.hid tu
  clear S1
  go_wp2_with fail
  (with_reducible refine (orderq_any w2 _ _ n (lastOf had + 1).toNat (lastOf had) 0 _ hn0 hn1 hlo hhi HS1.out.hs tu).mono ?_)
  rintro e w3 ⟨v3, rfl, o3, n3, f3⟩
  rw [HU.out] at o3
  have S3 := (HS1.out.fr f2).fr f3
  have hro := rorder w3 br n (lastOf had + 1).toNat had v S3.r (by omega) hn0 hn1 S3.hs hsn
  have HR := Lib.hid hro
  have HS3 := Lib.hid S3
  have HO3 := Lib.hid (And.intro o3 (And.intro f2 f3))
  clear tu o3 n3 f2 f3 S3 hro
  go_wp2_with fail
  (with_reducible refine HR.out.mono ?_)
  rintro e w4 ⟨v4, rfl, o4, n4, f4⟩
  have HO4 := Lib.hid (And.intro o4 f4)
  have h15 := same_any w4 _ _ _ _ (RdInts.of_own (own_fr HO3.out.1 f4 (by simp))) (RdInts.of_own o4) HAL.out HAL.out
  rw [decide_eq_true rfl] at h15
  have H15 := Lib.hid h15
  clear h15 o4 n4 f4
  go_wp2_with fail
  (with_reducible refine H15.out.mono ?_)
  rintro e w5 ⟨rfl, j, rfl⟩
  have F5 : Fr [] w2 (w4.drewN j) := (HO3.out.2.2.trans HO4.out.2 (by simp)).drewN _
  have tu5 := F5.blk HT.out.t (by simp)
  have S5 := (HS3.out.fr HO4.out.2).fr (drewN_fr w4 j)
  have HS5 := Lib.hid (And.intro S5 F5)
  generalize w4.drewN j = w5 at *
  clear F5
  go_wp2_with fail
  (with_reducible refine (last_some w5 _ _ _ _ hnI tu5).mono ?_)
  rintro e w6 ⟨rfl, rfl⟩
  have h28 := rlast w5 br n had v S5.r (by omega)
  have H28 := Lib.hid h28
  clear h28 S5 tu5
  go_wp2_with fail
  (with_reducible refine H28.out.mono ?_)
  rintro e w6 ⟨rfl, j2, rfl⟩
  go_wp2
  go_ret
  exact H.out.post hB ((((Fr.refl _ _).alloc _).trans (HO3.out.2.1.trans HS5.out.2 (by simp)) (by simp)).drewN _)

/-- Code that does not panic, and goes on. -/
theorem wp_calm {P : Program} {c : Code} {Q : Exit → Act → World → Prop} {a : Act} {w : World} (h : c.wp P (Exit.then (Q .normal) (fun _ _ _ => False)) a w) : c.wp P Q a w :=
  Code.wp_mono (fun e a w q => by cases e <;> first | exact q | exact q.elim) h

/-- Between two rounds. -/
structure BI (w : World) (n : Nat) (pre : List (Fin n)) (W : World) : Prop where
  o : AskedAt W w.heap.size (w.heap.size + 1) (vals pre)
  fr : Fr [] w W
theorem bi_own (w : World) (k : Nat) (hk : w.heap.size ≤ k) (n : Nat) : OwnFrom k (BI w n) :=
  fun s A B row h hg hr => ⟨asked_nc hg hr h.o, fr_nc hg hr hk h.fr⟩

set_option maxRecDepth 100000 in
set_option maxHeartbeats 4000000 in
theorem step_before (B : Nat) (w : World) (bt bw br n : Nat) (had ws : List Int) (v rv : Value) (bs : List Bool) (N : Int) (h : St B w bt bw br n had ws v) (hB : B ≤ w.heap.size) (hl : had.length ≤ 90000)
    (hrv : Rd w rv (bools bs)) (hb : bs.length ≤ 9223372036854775807) (hsep : Sep w bt bw br v rv bs) :
    Calls Try.prog 19 #[.pointer (some ⟨bt, 0, none⟩), .pointer (some ⟨br, 0, none⟩), .agg #[.int .i64 7, rv, .int .i64 N]] w (StepPost B w bt bw br n had) := by
  have f0 : Fr [] w ((w.alloc (.cells #[.int .i64 7, rv, .int .i64 N] 47)).alloc (.cells #[.pointer (some ⟨bt, 0, none⟩)] 23)) := ((Fr.refl _ _).alloc _).alloc _
  have S0 := h.fr f0
  have R0 := hrv.grow f0
  have P0 := hsep.grow f0
  have K0 : Blk ((w.alloc (.cells #[.int .i64 7, rv, .int .i64 N] 47)).alloc (.cells #[.pointer (some ⟨bt, 0, none⟩)] 23)) w.heap.size #[.int .i64 7, rv, .int .i64 N] 47 := (Blk.new _ _ _).alloc _
  have K1 : Blk ((w.alloc (.cells #[.int .i64 7, rv, .int .i64 N] 47)).alloc (.cells #[.pointer (some ⟨bt, 0, none⟩)] 23)) (w.heap.size + 1) #[.pointer (some ⟨bt, 0, none⟩)] 23 := Blk.new_at (by simp) _ _
  have hbt := h.t.t.lt
  have hbw := h.t.s.lt
  have hn1 := h.n1
  have H1 := Lib.hid (next_st B _ bt bw br n had ws v rv bs S0 (by omega) R0 hb P0)
  have HH := Lib.hid (And.intro S0 (And.intro R0 (And.intro P0 (And.intro K0 (And.intro K1 h)))))
  obtain ⟨p, c, rfl, hc, _⟩ := hrv
  have hq := eql55
  rw [bools_len] at *
  clear h hsep f0 S0 R0 P0 K0 K1
  refine (callsIn_wide (n := 9)).1 ?_
  refine callsIn_of_wp_marks Try.func19 rfl trivial ?_ rfl
  simp only [Try.ntmps19, List.size_toArray, List.length_cons, List.length_nil, Nat.reduceAdd, Nat.reduceSub, Array.replicate_succ, Array.replicate_zero, List.push_toArray, List.append_toArray, List.nil_append, List.cons_append]
  gi_wp2_with (refine ⟨trivial, ?_⟩; gi_at_call 23; refine (callsIn_wide.2 (order_any _ _)).mono ?_; rintro e w' ⟨rfl, rfl⟩)
  refine ⟨trivial, ?_⟩
  (with_reducible refine (callsIn_wide.2 H1.out).mono ?_)
  rintro e w1 ⟨av, rfl, t1, r1, a1, f1⟩
  obtain ⟨S0, R0, P0, K0, K1, h⟩ := HH.out
  have k1 := f1.blk K0 (by simp; omega)
  have c1 := k1.at 1 (v := .slice p bs.length c) rfl
  have h2 := rnext_st B w1 bt bw br n had ws v _ bs (S0.ref f1) S0.hs S0.hi S0.n0 S0.n1 (by omega) (P0.rd R0 f1) hb
  have H2 := Lib.hid h2
  have HT := Lib.hid (And.intro t1 (And.intro r1 (And.intro a1 f1)))
  clear h2 t1 r1 a1 f1 S0 R0 P0 K0 K1 h k1
  gi_wp2
  refine ⟨trivial, ?_⟩
  (with_reducible refine (callsIn_wide.2 H2.out).mono ?_)
  rintro e w2 ⟨lv, v', rfl, rr, hp, r2, f2⟩
  obtain ⟨t1, r1, a1, f1⟩ := HT.out
  obtain ⟨S0, R0, P0, K0, K1, h⟩ := HH.out
  obtain ⟨ST, BL⟩ := S0.next (by simp; omega) t1 f1 rr hp f2
  have hlen := pkHad_len n (lastOf had + 1).toNat bs had
  have kb2 : Blk w2 (w.heap.size + 1) #[.pointer (some ⟨bt, 0, none⟩)] 23 := f2.blk (f1.blk K1 (by simp; omega)) (fun hm => by
    rcases List.mem_cons.1 hm with hm | hm
    · have := h.r.t.lt; omega
    · have := own_lt h.r.s (g := w.heap.size + 1) (by simpa using hm); omega)
  generalize pkI n (lastOf had + 1).toNat bs = i at *
  generalize pkOk n (lastOf had + 1).toNat bs = ok at *
  generalize pkHad n (lastOf had + 1).toNat bs had = had' at *
  generalize pkWs n (lastOf had + 1).toNat bs ws = ws' at *
  have HST := Lib.hid (And.intro ST (And.intro BL hlen))
  have hb2 := kb2.lt
  have HK2 := Lib.hid kb2
  clear t1 r1 a1 f1 S0 R0 P0 K0 K1 h ST BL rr hp r2 f2 c1 hlen kb2
  gi_wp2
  obtain ⟨ST, BL, hlen⟩ := HST.out
  generalize hw3 : World.alloc w2 _ = w3
  have hz : w3.heap.size = w2.heap.size + 1 := by rw [← hw3]; simp
  have k0 : Blk w3 w2.heap.size #[.slice none 0 0] 25 := by rw [← hw3]; exact Blk.new _ _ _
  have kf : Fr [] w2 w3 := by rw [← hw3]; exact (Fr.refl _ _).alloc _
  have kb3 := kf.blk HK2.out (by simp)
  have S3 := ST.fr kf
  have hbt2 := ST.t.t.lt
  clear hw3
  refine wpIn_rangeFunc_ownG (w0 := w3) rfl (by decide) (gf := 30) (lb := #[.pointer (some ⟨w.heap.size + 1, 0, none⟩)]) rfl trivial (enters_of Try.func30 (by kernel_rfl) rfl)
    (order_stops (9 - 1) (w.heap.size + 1) bt n (lastOf had' + 1).toNat (lastOf had') _ S3.n0 S3.n1 S3.lo S3.hi S3.hs w3 kb3 S3.t.t) KeepsAt.trans (keeps_b (by intro k hk; simp at hk; omega)) (Below.refl _ _) (fun _ => rfl)
    (BI w2 n) (fun _ _ _ => False) (bi_own _ _ (by omega) _) (fun c => fun s A B row h hg hr => h)
    ⟨⟨_, k0, World.ownsRow_nil _ _ _ _, by simp [Value.ownBlock]⟩, kf⟩
    (fun x => { tmps := #[Value.pointer (some ⟨bt, 0, none⟩), Value.pointer (some ⟨br, 0, none⟩), Value.agg #[Value.int IntKind.i64 7, Value.slice p bs.length c, Value.int IntKind.i64 N], undef, undef, Value.pointer (some ⟨w.heap.size, 0, none⟩), Value.bool false, undef, undef, undef, undef, undef, undef, undef, undef, undef, undef, undef, Value.func (Fn.func 30) #[] #[Value.pointer (some ⟨w.heap.size + 1, 0, none⟩)], Value.int IntKind.i64 i, Value.bool ok, av, Value.int IntKind.i64 i, Value.bool ok, lv, Value.pointer (some ⟨w2.heap.size, 0, none⟩), Value.int .i64 (x.val : Nat), Value.pointer (some ⟨w.heap.size, 0, none⟩), Value.int IntKind.i64 7, Value.bool false, Value.bool false, undef, undef, undef, undef, undef, undef, undef, undef, undef, undef, undef, undef, undef, undef, undef, undef, undef, undef, undef, undef, undef, undef, undef, undef, undef, undef, undef, undef, undef, Value.bool false, Value.bool false, undef, undef, undef, undef, undef, undef, undef, undef, undef, undef, undef, Value.bool false, Value.bool false, undef, undef, undef, undef, undef, Value.bool false, Value.bool false, undef, undef, undef, undef, undef, undef, undef, undef, undef, undef, undef, undef, undef, undef, undef, undef, undef, undef, undef, undef, undef, undef, Value.bool false, Value.bool false, undef, undef, undef, Value.bool false, Value.bool false, undef, undef, undef, undef, undef, undef, undef, undef, undef, undef, undef, undef, undef, undef, undef, undef, undef, undef, undef, undef, undef, undef, undef, undef, undef, undef, undef, undef, Value.bool true, Value.bool true, Value.pointer (some ⟨bt, 0, none⟩), Value.func (Fn.func 30) #[] #[Value.pointer (some ⟨w.heap.size + 1, 0, none⟩)], Value.func (Fn.func 30) #[] #[Value.pointer (some ⟨w.heap.size + 1, 0, none⟩)], Value.bool false, Value.tuple #[Value.int IntKind.i64 i, Value.bool ok, av], Value.pointer (some ⟨bt, 0, none⟩), Value.pointer (some ⟨w.heap.size, 1, none⟩), Value.slice p bs.length c, Value.tuple #[Value.int IntKind.i64 i, Value.bool ok, av], Value.int IntKind.i64 i, Value.bool ok, av, Value.tuple #[Value.int IntKind.i64 i, Value.bool ok, lv], Value.pointer (some ⟨br, 0, none⟩), Value.pointer (some ⟨w.heap.size, 1, none⟩), Value.slice p bs.length c, Value.tuple #[Value.int IntKind.i64 i, Value.bool ok, lv], Value.int IntKind.i64 i, Value.bool ok, lv, Value.func (Fn.func 30) #[] #[Value.pointer (some ⟨w.heap.size + 1, 0, none⟩)], Value.int .i64 (x.val : Nat), undef, undef, undef, undef, undef, undef, undef, undef, undef, undef, undef, undef, undef, undef, undef, undef, undef, undef], defers := [] }) ?assign ?body ?done ?stop
  case assign =>
    intro l x W K hK
    gi_wp2
    exact hK
  case body =>
    rintro l pre x W hI hlt
    obtain ⟨v, ha, hown, hge⟩ := hI.o
    have hlen := vals_len pre
    rw [hlen] at hown
    have la := ha.lt
    have ca := ha.at 0 (v := v) rfl
    have hna := own_notin hown ha (by decide)
    have hn1' := ST.n1
    have hcore : ∀ g1 cp1 w1, Appended (W.alloc (.cells #[.int .i64 (x.val : Nat)] 3)) 3 1 v (pre.length + 1) (ints (vals pre) ++ [.int .i64 (x.val : Nat)]) (.slice (some ⟨g1, 0, none⟩) (pre.length + 1) cp1) w1 →
        (w1.cell? ⟨w2.heap.size, 0, none⟩ = some v ∧ w1.frozen? ⟨w2.heap.size, 0, none⟩ = false) ∧
        KeepsFrom w3.heap.size W (w1.setCell ⟨w2.heap.size, 0, none⟩ (.slice (some ⟨g1, 0, none⟩) (pre.length + 1) cp1)) ∧ KeepsAt [w.heap.size + 1, bt] W (w1.setCell ⟨w2.heap.size, 0, none⟩ (.slice (some ⟨g1, 0, none⟩) (pre.length + 1) cp1)) ∧
        BI w2 n (pre ++ [x]) (w1.setCell ⟨w2.heap.size, 0, none⟩ (.slice (some ⟨g1, 0, none⟩) (pre.length + 1) cp1)) := by
      intro g1 cp1 w1 h
      have F := h.fr
      have ka := F.blk (ha.alloc _) hna
      have hne : w2.heap.size ∉ (Value.slice (some ⟨g1, 0, none⟩) (pre.length + 1) cp1).ownBlock.toList := own_notin h.own ka (by decide)
      have F2 : Fr (w2.heap.size :: v.ownBlock.toList) W (w1.setCell ⟨w2.heap.size, 0, none⟩ (.slice (some ⟨g1, 0, none⟩) (pre.length + 1) cp1)) :=
        ((((Fr.refl _ W).alloc _).trans F (fun x hx => .inl (List.mem_cons_of_mem _ hx)))).setCell _ _ (.inl (by simp))
      have hbk : ∀ k, k ∈ w2.heap.size :: v.ownBlock.toList → ∃ c e, Blk W k c e := by
        intro k hk
        rcases List.mem_cons.1 hk with rfl | hk
        · exact ⟨_, _, ha⟩
        · exact own_blk hown k hk
      have hsm : ∀ k, k < w2.heap.size → k ∉ w2.heap.size :: v.ownBlock.toList := by
        intro k hk hm
        rcases List.mem_cons.1 hm with rfl | hm
        · omega
        · have := hge k (by simpa using hm); omega
      refine ⟨⟨ka.at 0 rfl, ka.free 0⟩, kf_of_fr _ F2 hbk, KeepsAt.of_fr F2 ?_, ⟨⟨_, ka.set 0 _, ?_, ?_⟩, ?_⟩⟩
      · intro k hk
        simp at hk
        rcases hk with rfl | rfl
        · exact ⟨by omega, hsm _ hb2⟩
        · exact ⟨by omega, hsm _ hbt2⟩
      · have := own_fr h.own ((Fr.refl [w2.heap.size] w1).setCell ⟨w2.heap.size, 0, none⟩ (.slice (some ⟨g1, 0, none⟩) (pre.length + 1) cp1) (.inl (by simp))) (fun g hg => by
          intro hm; simp at hm; subst hm; exact hne (by simp [hg]))
        rw [vals_snoc]
        simpa [ints, hlen] using this
      · intro g hg
        rcases h.place with h1 | h1
        · exact hge g (by rw [← h1]; exact hg)
        · rw [h1] at hg; cases hg; simp; omega
      · refine hI.fr.trans F2 ?_
        intro k hk
        rcases List.mem_cons.1 hk with rfl | hk
        · exact .inr (Nat.le_refl _)
        · exact .inr (by have := hge k (by simpa using hk); omega)
    have HC := Lib.hid hcore
    clear hcore hna hge hlen S3 ST
    gi_wp2_with (gi_at_builtin; go_must (refine wpListIn_app _ rfl _ _ 25 rfl 3 (.int .i64 0) 1 8 Try.underlying25 info3 rfl (by decide) v pre.length (ints (vals pre)) rfl (hown.alloc _) ⟨W.heap.size, 0, none⟩ 1 1 [.int .i64 (x.val : Nat)] rfl rfl (new_one _ _ _ _ rfl) (by simp [Value.oneCell']) (by unfold maxLen; omega) (by omega) ?_); intro v1 w1 happ; obtain ⟨g1, cp1, rfl⟩ := own_succ happ.own; obtain ⟨⟨e1, e2⟩, e5⟩ := HC.out _ _ _ happ; have E5 := Lib.hid e5; clear e5)
    exact E5.out
  case done =>
    rintro D ys W hD rfl hI hK
    obtain ⟨v9, ha, hown, hge⟩ := hI.o
    rw [vals_ord] at hown
    have ca := ha.at 0 (v := v9) rfl
    have SW := ST.fr hI.fr
    have hal : (asks n (lastOf had' + 1).toNat n).length ≤ 1000000 := by rw [asks_len]; omega
    have q27 : ∀ W', Fr [] W W' → Calls Try.prog 27 #[.pointer (some ⟨br, 0, none⟩)] W' fun e w' => ∃ v', e = .returned v' ∧ Fresh W' (asks n (lastOf had' + 1).toNat n) v' w' := fun W' hf =>
      rorder W' br n (lastOf had' + 1).toNat had' _ (SW.fr hf).r (by omega) SW.n0 SW.n1 SW.hs (by have := SW.hi; have := SW.lo; omega)
    have q15 : ∀ W1 W2 v4, Fr [] W W1 → Fresh W1 (asks n (lastOf had' + 1).toNat n) v4 W2 → ∀ j, Calls Try.prog 15 #[v9, v4] (W2.drewN j) fun e w' => e = .returned (.bool true) ∧ Fr [] W w' := by
      intro W1 W2 v4 f1 hfr j
      obtain ⟨o4, n4, f4⟩ := hfr
      have := same_any (W2.drewN j) _ _ _ _ ((RdInts.of_own hown).on ((f1.trans f4 (by simp)).drewN j) (by simp)) ((RdInts.of_own o4).on (drewN_fr W2 j) (by simp)) hal hal
      rw [decide_eq_true rfl] at this
      exact this.mono fun e w' ⟨he, j', hj⟩ => ⟨he, by rw [hj]; exact ((f1.trans f4 (by simp)).drewN j).drewN j'⟩
    have HQ := Lib.hid (And.intro q27 (And.intro q15 (And.intro hK (And.intro SW (And.intro hI.fr BL)))))
    clear q27 q15 hK SW hI BL hown hge S3 ST hal kb3
    cases ok
    all_goals
      gi_wp2
      refine wpIn_wide.2 (wp_calm ?_)
      generalize hKn : Exit.then _ _ Exit.normal = Kn
      go_region_held3 (fun w' => w'.cell? ⟨w2.heap.size, 0, none⟩ = some v9) (first | exact ca | exact c4 | exact c5)
        (first
        | (go_at_call 27; refine (HQ.out.1 _ ?_).mono ?_; exact ((Fr.refl [] W).drew); rintro e w4 ⟨v4, rfl, hfr4⟩; have c4 : w4.cell? ⟨w2.heap.size, 0, none⟩ = some v9 := (hfr4.2.2.cell (by exact ha.lt) (by simp)).trans ca)
        | (go_at_call 15; refine (HQ.out.2.1 _ _ _ ((Fr.refl [] W).drew) hfr4 0).mono ?_; rintro e w5 ⟨rfl, f5⟩; have c5 : w5.cell? ⟨w2.heap.size, 0, none⟩ = some v9 := (f5.cell (by exact ha.lt) (by simp)).trans ca))
      subst hKn
      simp only [Exit.then]
      have HF5 := Lib.hid f5
      clear f5
      gi_wp2
      obtain ⟨-, -, hK, SW, hfr, BL⟩ := HQ.out
      have f5 := HF5.out
      have hK5 : w5.heap[D]? = some (.deferred (some [])) := (f5.block D (Array.getElem?_eq_some_iff.1 hK).1 (by simp)).trans hK
      refine ⟨by simp, .inl ⟨_, _, rfl, run_takeDeferred hK5, ?_⟩⟩
      have hsz := hfr.size
      have hpo : Fr [D] w5 (w5.putObj D (.deferred none)) := (Fr.refl _ w5).grown (grownBy_putObj' w5 D _) (fun k hk => by cases hk; exact .inl (by simp))
      have S5 := SW.fr f5
      have hD2 : w2.heap.size + 1 ≤ D := by omega
      refine ⟨_, results_tmp rfl _ _ _, rfl, had', ws', v', ?_, hlen, ?_⟩
      · have e1 := HST.out.1.t.t.lt
        have e2 := HST.out.1.t.s.lt
        have e3 := HST.out.1.r.t.lt
        refine ⟨⟨hpo.blk S5.t.t (by simp; omega), hpo.blk S5.t.s (by simp; omega), S5.t.len⟩, S5.r.fr hpo (by simp; omega) (fun g hg => by have := own_lt HST.out.1.r.s hg; simp; omega), S5.ws, S5.lo, S5.hi, S5.n0, S5.n1, S5.pt, S5.pw, S5.pr, S5.pv⟩
      · have hBw2 : B ≤ w2.heap.size := by have := BL.size; simp at this; omega
        exact (((((Below.refl B w).alloc hB _).alloc (by simp; omega) _).trans BL).trans ((hfr.trans f5 (by simp)).below' hBw2 (by simp))).trans (hpo.below' (by have := f5.size; omega) (by simp; omega))
  case stop =>
    intro D c pre W hD hpre hX hK
    exact hX.elim

end Go.Proofs.Ytjinppoecdbloaa
