/-
  next and order of the statements' package; Next where there is nobody to ask, or none.
-/
import Derived.Test.YtjinppoecdbloaaTurnsD
namespace Go.Proofs.Ytjinppoecdbloaa
open Go.RowKit Go.Shelf
set_option linter.unusedVariables false
attribute [local go_sem] Oper.semAt_some

theorem asks_len (n s k : Nat) : (asks n s k).length = k := by simp [asks]
theorem neq59nil (w : World) : (binOp .neq 59 .nilFunc .nilFunc).run Try.prog w = .ok (.bool false) w := by kernel_rfl

/-- Next(nil). -/
theorem next_nil (w : World) (p : Option Addr) :
    Calls Try.prog 24 #[.pointer p, .nilFunc] w fun e w' => e = .returned (.tuple #[.int .i64 (-1), .bool false]) ∧ Fr [] w w' := by
  have hq := neq59nil
  go_enter Try.func24, Try.ntmps24
  go_wp2
  refine bodyPost_ret (v := .tuple #[.int .i64 (-1), .bool false]) (by simp [results, Try.results24, go_sem]) rfl ⟨rfl, ((((Fr.refl _ _).alloc _).alloc _).alloc _).alloc _⟩

/-- What next answers. -/
def NextRes (w : World) (bt bw n s : Nat) (last : Int) (ws : List Int) (bs : List Bool) (e : Ending) (w' : World) : Prop :=
  Fr [bt, bw] w w' ∧
  ((∃ j v, j < n ∧ (∀ k, k < j → isReady bs (pos n s k) = false) ∧ isReady bs (pos n s j) = true ∧ e = .returned (.tuple #[.int .i64 (pos n s j : Nat), .bool true, v]) ∧
      TurnsAt w' bt bw n (pos n s j : Nat) (given ws (pos n s j)) ∧ w'.ownsRow 0 3 1 v (j + 1) (ints (asks n s (j + 1))) ∧ ∀ g, v.ownBlock = some g → w.heap.size ≤ g) ∨
   (∃ v, (∀ k, k < n → isReady bs (pos n s k) = false) ∧ e = .returned (.tuple #[.int .i64 (-1), .bool false, v]) ∧ TurnsAt w' bt bw n last ws ∧ w'.ownsRow 0 3 1 v n (ints (asks n s n)) ∧ ∀ g, v.ownBlock = some g → w.heap.size ≤ g))

theorem nextq_any (w : World) (bt bw n s : Nat) (last : Int) (ws : List Int) (rv : Value) (bs : List Bool) (hn0 : 0 < n) (hn : n ≤ 16) (hl1 : -1 ≤ last) (hl2 : last < n) (hs : (s : Int) = last + 1) (hwb : ∀ k, k < n → 0 ≤ ws.getD k 0 ∧ ws.getD k 0 ≤ 1000000)
    (ht : TurnsAt w bt bw n last ws) (hrv : Rd w rv (bools bs)) (hb : bs.length ≤ 9223372036854775807)
    (hsep : ∀ g o n c, rv = .slice (some ⟨g, o, none⟩) n c → 0 < bs.length → g < w.heap.size ∧ g ≠ bt ∧ g ≠ bw) :
    Calls Try.prog 17 #[.pointer (some ⟨bt, 0, none⟩), rv] w (NextRes w bt bw n s last ws bs) := by
  obtain ⟨p, cap, rfl, hc, h0⟩ := hrv
  have hrv : Rd w (.slice p (bools bs).length cap) (bools bs) := ⟨p, cap, rfl, hc, h0⟩
  rw [bools_len] at *
  have hT : TurnsAt ((w.alloc (.cells #[.slice p bs.length cap] 36)).alloc (.cells #[.slice none 0 0] 25)) bt bw n last ws := ⟨(ht.t.alloc _).alloc _, (ht.s.alloc _).alloc _, ht.len⟩
  have hf0 : Fr [] w ((w.alloc (.cells #[.slice p bs.length cap] 36)).alloc (.cells #[.slice none 0 0] 25)) := ((Fr.refl _ _).alloc _).alloc _
  have hR := hf0.rd hrv (fun g o n c e hp => ⟨(hsep g o n c e (by simpa [bools_len] using hp)).1, by simp⟩)
  have hnx := next_any _ bt bw (w.heap.size + 1) w.heap.size n s last ws (.slice p bs.length cap) bs hn0 hn hl1 hl2 hs hwb hT (Blk.new_at (by simp) _ _) ((Blk.new w _ _).alloc _) hR hb
    (fun g o n c e hp => by obtain ⟨s1, s2, s3⟩ := hsep g o n c e hp; exact ⟨by simp; omega, s2, s3, by omega⟩)
  have HN := Lib.hid hnx
  have HS := Lib.hid (And.intro hs (And.intro hf0 (And.intro ht.t.lt ht.s.lt)))
  clear hs hnx hrv hR hf0 hwb hsep h0
  go_enter Try.func17, Try.ntmps17
  go_wp2_with (go_at_call 24; refine HN.out.mono ?_; clear HN; rintro e w' ⟨hf, (⟨j, a1, a2, a3, rfl, a5, v, a6, a7, a8⟩ | ⟨a2, rfl, a5, v, a6, a7, a8⟩)⟩ <;> have cv := a6.at 0 (v := v) rfl)
  all_goals
    go_quiet (fail)
    go_wp2
    go_ret3
    obtain ⟨hs, hf0, hbt, hbw⟩ := HS.out
    have hF : Fr [bt, bw] w (w'.drewN nq) := ((hf0.mono (T := [bt, bw]) (by simp)).trans hf (by intro k hk; simp at hk ⊢; omega)).drewN _
    rw [asks_len] at a7
    refine ⟨hF, ?_⟩
  · exact .inl ⟨j, v, a1, a2, a3, rfl, ⟨a5.t.drewN _, a5.s.drewN _, a5.len⟩, a7, fun g hg => by have := a8 g hg; simp at this; omega⟩
  · exact .inr ⟨v, a2, rfl, ⟨a5.t.drewN _, a5.s.drewN _, a5.len⟩, a7, fun g hg => by have := a8 g hg; simp at this; omega⟩

/-- How many are told, left behind 'most'. -/
def upTo (most : Int) (n : Nat) : Nat := if 1 ≤ most ∧ most ≤ n then most.toNat else n

/-- Between two rounds of order. -/
structure OI (w : World) (p : Value) (n : Nat) (most : Int) (pre : List (Fin n)) (W : World) : Prop where
  m : Blk W w.heap.size #[.int .i64 most] 3
  o : AskedAt W (w.heap.size + 1) (w.heap.size + 3) (vals pre)
  b : Blk W (w.heap.size + 2) #[p] 23
  fr : Fr [] w W
  no : pre = [] ∨ (pre.length : Int) < most ∨ most < 1
/-- Left behind 'most'. -/
structure OX (w : World) (n : Nat) (most : Int) (c : Code) (pre : List (Fin n)) (W : World) : Prop where
  c : c = .exit 0
  o : AskedAt W (w.heap.size + 1) (w.heap.size + 3) (vals pre)
  fr : Fr [] w W
  len : (pre.length : Int) = most ∧ 1 ≤ most
theorem oi_own (w : World) (k : Nat) (hk : w.heap.size ≤ k) (p : Value) (n : Nat) (most : Int) : OwnFrom k (OI w p n most) :=
  fun s A B row h hg hr => ⟨blk_nc hg hr h.m, asked_nc hg hr h.o, blk_nc hg hr h.b, fr_nc hg hr hk h.fr, h.no⟩
theorem ox_own (w : World) (k : Nat) (hk : w.heap.size ≤ k) (n : Nat) (most : Int) (c : Code) : OwnFrom k (OX w n most c) :=
  fun s A B row h hg hr => ⟨h.c, asked_nc hg hr h.o, fr_nc hg hr hk h.fr, h.len⟩

/-- What order answers. -/
def OrderPost (w : World) (xs : List Int) (e : Ending) (w' : World) : Prop :=
  ∃ v, e = .returned v ∧ w'.ownsRow 0 3 1 v xs.length (ints xs) ∧ (∀ g, v.ownBlock = some g → w.heap.size ≤ g) ∧ Fr [] w w'

set_option maxRecDepth 100000 in
set_option maxHeartbeats 4000000 in
theorem orderq_core (w : World) (n N : Nat) (L : List (Fin n)) (p : Option Addr) (most : Int) (S : List Nat) (hS : ∀ k, k ∈ S → k < w.heap.size ∨ k = w.heap.size + 2) (hN : N ≤ 16)
    (hseq : ∀ w3, Blk w3 (w.heap.size + 2) #[.pointer p] 23 → Fr [] w w3 → SeqStopsK Fence.wide 8 Try.prog 30 #[.pointer (some ⟨w.heap.size + 2, 0, none⟩)] (fun x : Fin n => #[.int .i64 (x.val : Nat)]) (KeepsAt S) (fun ys => ys = L) (fun pre => pre <+: L) N w3) :
    Calls Try.prog 16 #[.pointer p, .int .i64 most] w (OrderPost w (vals (L.take (upTo most L.length)))) := by
  have hq := eql55
  refine (callsIn_wide (n := 9)).1 ?_
  refine callsIn_of_wp_marks Try.func16 rfl trivial ?_ rfl
  simp only [Try.ntmps16, List.size_toArray, List.length_cons, List.length_nil, Nat.reduceAdd, Nat.reduceSub, Array.replicate_succ, Array.replicate_zero, List.push_toArray, List.append_toArray, List.nil_append, List.cons_append]
  gi_wp2_with (refine ⟨trivial, ?_⟩; gi_at_call 23; refine (callsIn_wide.2 (order_any _ _)).mono ?_; rintro e w' ⟨rfl, rfl⟩)
  generalize hw3 : World.alloc _ _ = w3
  have hz : w3.heap.size = w.heap.size + 3 := by rw [← hw3]; simp
  have k0 : Blk w3 w.heap.size #[.int .i64 most] 3 := by rw [← hw3]; exact ((Blk.new w _ _).alloc _).alloc _
  have k1 : Blk w3 (w.heap.size + 1) #[.slice none 0 0] 25 := by rw [← hw3]; exact (Blk.new_at (by simp) _ _).alloc _
  have k2 : Blk w3 (w.heap.size + 2) #[.pointer p] 23 := by rw [← hw3]; exact Blk.new_at (by simp) _ _
  have kf : Fr [] w w3 := by rw [← hw3]; exact (((Fr.refl _ w).alloc _).alloc _).alloc _
  clear hw3
  refine wpIn_rangeFunc_ownG (w0 := w3) rfl (by decide) (gf := 30) (lb := #[.pointer (some ⟨w.heap.size + 2, 0, none⟩)]) rfl trivial (enters_of Try.func30 (by kernel_rfl) rfl)
    (hseq w3 k2 kf) KeepsAt.trans (keeps_b (by intro k hk; have := hS k hk; omega)) (Below.refl _ _) (fun _ => rfl)
    (OI w (.pointer p) n most) (OX w n most) (oi_own _ _ (by omega) _ _ _) (fun c => ox_own _ _ (by omega) _ _ c)
    ⟨k0, ⟨_, k1, World.ownsRow_nil _ _ _ _, by simp [Value.ownBlock]⟩, k2, kf, .inl rfl⟩
    (fun x => { tmps := #[.pointer p, .int .i64 most, undef, .pointer (some ⟨w.heap.size, 0, none⟩), .slice none 0 0, .pointer (some ⟨w.heap.size + 1, 0, none⟩), .func (.func 30) #[] #[.pointer (some ⟨w.heap.size + 2, 0, none⟩)], .int .i64 (x.val : Nat), .pointer p, .func (.func 30) #[] #[.pointer (some ⟨w.heap.size + 2, 0, none⟩)], .func (.func 30) #[] #[.pointer (some ⟨w.heap.size + 2, 0, none⟩)], .bool false, undef, .func (.func 30) #[] #[.pointer (some ⟨w.heap.size + 2, 0, none⟩)], .int .i64 (x.val : Nat), undef, undef, undef, undef, undef, undef, undef, undef, undef], defers := [] }) ?assign ?body ?done ?stop
  case assign =>
    intro l x W K hK
    gi_wp2
    exact hK
  case body =>
    rintro l pre x W hI hlt
    obtain ⟨v, ha, hown, hge⟩ := hI.o
    have hlen := vals_len pre
    rw [hlen] at hown
    have la := ha.lt
    have lm := hI.m.lt
    have ca := ha.at 0 (v := v) rfl
    have hna := own_notin hown ha (by decide)
    have hnm : w.heap.size ∉ v.ownBlock.toList := by intro hm; have := hge _ (by simpa using hm); omega
    have hcore : ∀ g1 cp1 w1, Appended (W.alloc (.cells #[.int .i64 (x.val : Nat)] 3)) 3 1 v (pre.length + 1) (ints (vals pre) ++ [.int .i64 (x.val : Nat)]) (.slice (some ⟨g1, 0, none⟩) (pre.length + 1) cp1) w1 →
        (w1.cell? ⟨w.heap.size + 1, 0, none⟩ = some v ∧ w1.frozen? ⟨w.heap.size + 1, 0, none⟩ = false ∧
          (w1.setCell ⟨w.heap.size + 1, 0, none⟩ (.slice (some ⟨g1, 0, none⟩) (pre.length + 1) cp1)).cell? ⟨w.heap.size + 1, 0, none⟩ = some (.slice (some ⟨g1, 0, none⟩) (pre.length + 1) cp1) ∧
          (w1.setCell ⟨w.heap.size + 1, 0, none⟩ (.slice (some ⟨g1, 0, none⟩) (pre.length + 1) cp1)).cell? ⟨w.heap.size, 0, none⟩ = some (.int .i64 most)) ∧
        KeepsFrom w3.heap.size W (w1.setCell ⟨w.heap.size + 1, 0, none⟩ (.slice (some ⟨g1, 0, none⟩) (pre.length + 1) cp1)) ∧ KeepsAt S W (w1.setCell ⟨w.heap.size + 1, 0, none⟩ (.slice (some ⟨g1, 0, none⟩) (pre.length + 1) cp1)) ∧
        (((pre.length + 1 : Nat) : Int) = most → OX w n most (.exit 0) (pre ++ [x]) (w1.setCell ⟨w.heap.size + 1, 0, none⟩ (.slice (some ⟨g1, 0, none⟩) (pre.length + 1) cp1))) ∧
        (((pre.length + 1 : Nat) : Int) ≠ most → OI w (.pointer p) n most (pre ++ [x]) (w1.setCell ⟨w.heap.size + 1, 0, none⟩ (.slice (some ⟨g1, 0, none⟩) (pre.length + 1) cp1))) := by
      intro g1 cp1 w1 h
      have F := h.fr
      have ka := F.blk (ha.alloc _) hna
      have km := F.blk (hI.m.alloc _) hnm
      have kb := F.blk (hI.b.alloc _) (own_notin hown hI.b (by decide))
      have hne : w.heap.size + 1 ∉ (Value.slice (some ⟨g1, 0, none⟩) (pre.length + 1) cp1).ownBlock.toList := own_notin h.own ka (by decide)
      have F2 : Fr ((w.heap.size + 1) :: v.ownBlock.toList) W (w1.setCell ⟨w.heap.size + 1, 0, none⟩ (.slice (some ⟨g1, 0, none⟩) (pre.length + 1) cp1)) :=
        ((((Fr.refl _ W).alloc _).trans F (fun x hx => .inl (List.mem_cons_of_mem _ hx)))).setCell _ _ (.inl (by simp))
      have hbk : ∀ k, k ∈ (w.heap.size + 1) :: v.ownBlock.toList → ∃ c e, Blk W k c e := by
        intro k hk
        rcases List.mem_cons.1 hk with rfl | hk
        · exact ⟨_, _, ha⟩
        · exact own_blk hown k hk
      have hfr : Fr [] w (w1.setCell ⟨w.heap.size + 1, 0, none⟩ (.slice (some ⟨g1, 0, none⟩) (pre.length + 1) cp1)) := by
        refine hI.fr.trans F2 ?_
        intro k hk
        rcases List.mem_cons.1 hk with rfl | hk
        · exact .inr (by omega)
        · exact .inr (by have := hge k (by simpa using hk); omega)
      have hask : AskedAt (w1.setCell ⟨w.heap.size + 1, 0, none⟩ (.slice (some ⟨g1, 0, none⟩) (pre.length + 1) cp1)) (w.heap.size + 1) (w.heap.size + 3) (vals (pre ++ [x])) := by
        refine ⟨_, ka.set 0 _, ?_, ?_⟩
        · have := own_fr h.own ((Fr.refl [w.heap.size + 1] w1).setCell ⟨w.heap.size + 1, 0, none⟩ (.slice (some ⟨g1, 0, none⟩) (pre.length + 1) cp1) (.inl (by simp))) (fun g hg => by
            intro hm; simp at hm; subst hm; exact hne (by simp [hg]))
          rw [vals_snoc]
          simpa [ints, hlen] using this
        · intro g hg
          rcases h.place with h1 | h1
          · exact hge g (by rw [← h1]; exact hg)
          · rw [h1] at hg; cases hg; have := hI.b.lt; simp; omega
      refine ⟨⟨ka.at 0 rfl, ka.free 0, (ka.set 0 _).at 0 (by simp), (km.other _ _ (by simp)).at 0 rfl⟩, kf_of_fr _ F2 hbk, KeepsAt.of_fr F2 ?_, fun hl => ⟨rfl, hask, hfr, by simp; omega⟩, fun hl => ⟨km.other _ _ (by simp), hask, kb.other _ _ (by simp), hfr, ?_⟩⟩
      · intro k hk
        rcases hS k hk with h1 | rfl
        · refine ⟨by have := hI.b.lt; omega, ?_⟩
          intro hm
          rcases List.mem_cons.1 hm with rfl | hm
          · omega
          · have := hge k (by simpa using hm); omega
        · refine ⟨hI.b.lt, ?_⟩
          intro hm
          rcases List.mem_cons.1 hm with hm | hm
          · omega
          · have := hge _ (by simpa using hm); omega
      · right
        simp
        rcases hI.no with rfl | h1 | h1
        · simp at hl; simp; omega
        · omega
        · exact .inr h1
    have HC := Lib.hid hcore
    clear hcore hna hnm hge hlen
    gi_wp2_with (gi_at_builtin; go_must (refine wpListIn_app _ rfl _ _ 25 rfl 3 (.int .i64 0) 1 8 Try.underlying25 info3 rfl (by decide) v pre.length (ints (vals pre)) rfl (hown.alloc _) ⟨W.heap.size, 0, none⟩ 1 1 [.int .i64 (x.val : Nat)] rfl rfl (new_one _ _ _ _ rfl) (by simp [Value.oneCell']) (by unfold maxLen; omega) (by omega) ?_); intro v1 w1 happ; obtain ⟨g1, cp1, rfl⟩ := own_succ happ.own; obtain ⟨⟨e1, e2, e3, e4⟩, e5, e6, e7, e8⟩ := HC.out _ _ _ happ; have E7 := Lib.hid e7; have E8 := Lib.hid e8; have E5 := Lib.hid e5; have E6 := Lib.hid e6; clear e5 e6 e7 e8)
    · have hm : ((pre.length + 1 : Nat) : Int) = most := by simpa using ‹((pre.length : Int) + 1 == most) = true›
      exact ⟨E5.out, E7.out hm⟩
    · have hm : ((pre.length + 1 : Nat) : Int) ≠ most := by simpa using ‹((pre.length : Int) + 1 == most) = false›
      exact ⟨E5.out, E6.out, E8.out hm⟩
  case done =>
    rintro D ys W hD rfl hI hK
    obtain ⟨v, ha, hown, hge⟩ := hI.o
    have hlt := ha.lt
    have ca := ha.at 0 (v := v) rfl
    have HH := Lib.hid (And.intro hK (And.intro hI (And.intro hown hge)))
    clear hK hI hown hge
    gi_wp2
    obtain ⟨hK, hI, hown, hge⟩ := HH.out
    refine ⟨by simp, .inl ⟨_, _, rfl, run_takeDeferred hK, ?_⟩⟩
    refine ⟨_, results_tmp rfl _ _ _, v, rfl, ?_, fun g hg => by have := hge g hg; omega, hI.fr.putObj _ _ (by omega)⟩
    have hu : ys.take (upTo most ys.length) = ys := by
      apply List.take_of_length_le
      unfold upTo
      split
      · rename_i h
        rcases hI.no with rfl | h1 | h1
        · simp
        · omega
        · omega
      · omega
    rw [hu]
    exact ownsRow_putObj hown _ hK rfl
  case stop =>
    rintro D c pre W hD hpre hX hK
    obtain ⟨rfl, ⟨v, ha, hown, hge⟩, hfr, hlen1, hlen2⟩ := hX
    have hlt := ha.lt
    have ca := ha.at 0 (v := v) rfl
    have HH := Lib.hid (And.intro hK (And.intro hfr (And.intro hown (And.intro hge (And.intro hlen1 hpre)))))
    clear hK hfr hown hge hlen1 hpre
    gi_wp2
    obtain ⟨hK, hfr, hown, hge, hlen1, hpre⟩ := HH.out
    refine ⟨by simp, .inl ⟨_, _, rfl, run_takeDeferred hK, ?_⟩⟩
    refine ⟨_, results_tmp rfl _ _ _, v, rfl, ?_, fun g hg => by have := hge g hg; omega, hfr.putObj _ _ (by omega)⟩
    have hu : L.take (upTo most L.length) = pre := by
      have := hpre.length_le
      unfold upTo
      rw [if_pos (by omega), show most.toNat = pre.length by omega]
      exact (List.prefix_iff_eq_take.1 hpre).symm
    rw [hu]
    exact ownsRow_putObj hown _ hK rfl

/-- order, of one that there is. -/
theorem orderq_any (w : World) (bt bw n s : Nat) (last most : Int) (ws : List Int) (hn0 : 0 < n) (hn : n ≤ 16) (hl1 : -1 ≤ last) (hl2 : last < n) (hs : (s : Int) = last + 1) (ht : TurnsAt w bt bw n last ws) :
    Calls Try.prog 16 #[.pointer (some ⟨bt, 0, none⟩), .int .i64 most] w (OrderPost w (asks n s (upTo most n))) := by
  have h := orderq_core w n n (ord n s n hn0) (some ⟨bt, 0, none⟩) most [w.heap.size + 2, bt] (by intro k hk; have := ht.t.lt; simp at hk; omega) hn
    (fun w3 hb hf => order_stops 8 (w.heap.size + 2) bt n s last _ hn0 hn hl1 hl2 hs w3 hb (hf.blk ht.t (by simp)))
  have hu : upTo most n ≤ n := by unfold upTo; split <;> omega
  have e : vals ((ord n s n hn0).take (upTo most (ord n s n hn0).length)) = asks n s (upTo most n) := by
    rw [ord_len, ← vals_ord n s _ hn0]
    simp [ord, ← List.map_take, List.take_range, Nat.min_eq_left hu]
  rw [e] at h
  exact h
/-- order, of none. -/
theorem orderq_empty (w : World) (p : Option Addr) (most : Int) (hp : Empty w p) :
    Calls Try.prog 16 #[.pointer p, .int .i64 most] w (OrderPost w []) := by
  have h := orderq_core w 1 0 [] p most [] (by simp) (by omega) (fun w3 hb hf => order0_stops 8 (w.heap.size + 2) p w3 hb (hp.mono hf.below))
  simpa [vals] using h

end Go.Proofs.Ytjinppoecdbloaa
