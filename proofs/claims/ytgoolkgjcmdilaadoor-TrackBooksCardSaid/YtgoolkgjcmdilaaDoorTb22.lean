/-
  Tb, part 22 of 36: the texts Tel KbD RegI.
-/
import Derived.Test.YtgoolkgjcmdilaaDoorTb8
import Derived.Test.YtgoolkgjcmdilaaDoorTb9
import Derived.Test.YtgoolkgjcmdilaaDoorTb15
import Derived.Test.YtgoolkgjcmdilaaDoorTb21
section
namespace Go.Proofs.YtgoolkgjcmdilaaDoor
open Go.RowKit
set_option linter.unusedVariables false
set_option linter.unusedSimpArgs false
attribute [local go_sem] Oper.semAt_some
theorem eqlNilO (a : Addr) (n c : Nat) (w : World) : (binOp .eql 210 (.slice (some a) n c) (.slice none 0 0)).run Tryd.prog w = .ok (.bool false) w := by
  exact Lib.run_eql_slice_nil _ _ _ _ _ _ _ _ Tryd.underlying210
attribute [local go_sem] eqlNilO
/-- A row of one's own with the pairs. -/
def CopyO (w : World) (Ps : List (Int × (Nat))) (v : Value) (W : World) : Prop := W.ownsRow 0 218 2 v Ps.length (flat payO Ps) ∧ ∃ g, v.ownBlock = some g ∧ w.heap.size ≤ g
set_option maxRecDepth 100000 in
theorem cloneO_any (w : World) (b : Nat) (v : Value) (Ps : List (Int × (Nat))) (room : Int) (h : TabO w b v Ps room) : Calls Tryd.prog 143 #[v] w fun e w' => (∃ v', e = .returned v' ∧ CopyO w Ps v' w') ∧ Fr [] w w' := by
  have hl : Ps.length ≤ 65536 := by have := h.lim; omega
  obtain ⟨g, cap, rfl, h1, h2, h3, h4⟩ := h.row
  have F0 : Fr [] w (w.alloc (.cells #[] 218)) := (Fr.refl _ _).alloc _
  have hO := World.ownsRow_made (base := 0) (e := 218) (size := 2) w #[] 0 (Nat.zero_le _) (Nat.zero_le _) rfl
  have hsrc : ∀ j u, (flat payO Ps)[j]? = some u → (w.alloc (.cells #[] 218)).cell? ((⟨g, 0, none⟩ : Addr).add j) = some u := fun j u hj => by
    rw [Addr.add_lit]
    have := h4.fr F0 j u hj
    simpa using this
  obtain ⟨xs, hxs⟩ : ∃ xs, xs = flat payO Ps := ⟨_, rfl⟩
  obtain ⟨n, hn⟩ : ∃ n, n = Ps.length := ⟨_, rfl⟩
  have hxl : xs.length = n * 2 := by rw [hxs, hn]; exact flat_len wideO Ps
  have hxo : ∀ u ∈ xs, u.oneCell' = true := by rw [hxs]; exact flat_one wideO Ps
  have HP := Lib.hid (show ∀ v' w', Appended (w.alloc (.cells #[] 218)) 218 2 (.slice (some ⟨w.heap.size, 0, none⟩) 0 0) (0 + n) ([] ++ xs) v' w' → (∃ v2, Ending.returned v' = .returned v2 ∧ CopyO w Ps v2 w') ∧ Fr [] w w' from fun v' w' ha => by
    refine ⟨⟨v', rfl, ?_, ?_⟩, F0.trans ha.fr (fun x hx => .inr ?_)⟩
    · have := ha.own
      rw [Nat.zero_add, List.nil_append, hxs, hn] at this
      exact this
    · rcases ha.place with q | q
      · exact ⟨_, q, Nat.le_refl _⟩
      · exact ⟨_, q, by simp⟩
    · simp [Value.ownBlock] at hx; omega)
  rw [← hxs] at hsrc
  rw [← hn] at hl
  simp only [← hn]
  have HS := Lib.hid (And.intro hO (And.intro hsrc (And.intro hxl hxo)))
  clear h h1 h2 h3 h4 F0 hO hsrc hxs hn hxl hxo
  go_enter Tryd.func143, Tryd.ntmps143
  go_wp2_with (at_builtin; go_must (refine wpList_app _ rfl _ _ 210 rfl 218 (.agg #[.int .u32 0, .pointer none]) 2 16 Tryd.underlying210 infoO rfl (by decide) (.slice (some ⟨w.heap.size, 0, none⟩) 0 0) 0 [] rfl HS.out.1 ⟨g, 0, none⟩ n cap xs rfl HS.out.2.2.1 HS.out.2.1 HS.out.2.2.2 (by unfold maxLen; omega) (by omega) ?_); intro v1 w3 happ; have HAP := Lib.hid happ; clear happ)
  all_goals (go_ret; exact HP.out _ _ HAP.out)
def AllOPost (w : World) (Ps : List (Int × (Nat))) (e : Ending) (w' : World) : Prop :=
  ∃ bx v, e = .returned (.func (.func 144) #[] #[.pointer (some ⟨bx, 0, none⟩)]) ∧ Blk w' bx #[v] 210 ∧ CopyO w Ps v w' ∧ w.heap.size ≤ bx ∧ Fr [] w w'
set_option maxRecDepth 100000 in
theorem allO_any (w : World) (b : Nat) (v : Value) (Ps : List (Int × (Nat))) (room : Int) (h : TabO w b v Ps room) : Calls Tryd.prog 109 #[.pointer (some ⟨b, 0, none⟩)] w (AllOPost w Ps) := by
  have F0 : Fr [] w (w.alloc (.cells #[.slice none 0 0] 210)) := (Fr.refl _ _).alloc _
  have h2 := h.grow F0
  have hz := Blk.new w #[.slice none 0 0] 210
  have HH := Lib.hid (And.intro h2 (And.intro F0 hz))
  have HC := Lib.hid (cloneO_any _ b v Ps room h2)
  obtain ⟨g, cap, rfl, _⟩ := h2.row
  have c1 := h2.hd.at 1 (v := .slice (some ⟨g, 0, none⟩) Ps.length cap) rfl
  obtain ⟨n, hn⟩ : ∃ n, n = Ps.length := ⟨_, rfl⟩
  rw [← hn] at c1 HC
  have HN := Lib.hid hn
  clear h h2 F0 hz hn
  go_enter Tryd.func109, Tryd.ntmps109
  go_wp2_with fail
  (with_reducible refine (liveO_any _ b _ Ps room HH.out.1).mono ?_)
  rintro e w1 ⟨rfl, rfl⟩
  go_wp2_with fail
  (with_reducible refine (HC.out).mono ?_)
  rintro e w1 ⟨⟨v', rfl, hcp⟩, f1⟩
  have zb := f1.blk HH.out.2.2 (by simp)
  have y0 := zb.at 0 (v := .slice none 0 0) rfl
  have e0 := zb.free 0
  obtain ⟨gq, hgq, hge⟩ := hcp.2
  have hsl : ∃ cp, v' = .slice (some ⟨gq, 0, none⟩) Ps.length cp := by
    rcases hcp.1.2 with ⟨rfl, _⟩ | ⟨g', cp, _, rfl, _⟩
    · simp [Value.ownBlock] at hgq
    · simp [Value.ownBlock] at hgq; subst hgq; exact ⟨cp, rfl⟩
  obtain ⟨cp, rfl⟩ := hsl
  have HQ := Lib.hid (And.intro zb (And.intro hcp (And.intro f1 hge)))
  clear zb hcp f1 hgq hge
  go_wp2
  go_ret
  obtain ⟨zb, hcp, f1, hge⟩ := HQ.out
  refine ⟨w.heap.size, _, rfl, zb.set 0 _, ⟨own_fr hcp.1 ((Fr.refl [w.heap.size] w1).setCell _ _ (.inl (by simp))) (fun g2 hg2 => ?_), gq, rfl, ?_⟩, Nat.le_refl _, ?_⟩
  · simp [Value.ownBlock] at hg2; subst hg2; simp at hge ⊢; omega
  · simp at hge; omega
  · exact (HH.out.2.1.trans f1 (by simp)).setCell _ _ (.inr (Nat.le_refl _))
/-- The pairs lie there. -/
def OHeld (k : Nat) (lv : Value) (L : List (Int × Nat)) (W : World) : Prop := Blk W k #[lv] 210 ∧ W.ownsRow 0 218 2 lv L.length (flat payO L)
theorem OHeld.kpb {B k : Nat} {lv : Value} {L : List (Int × Nat)} {W W' : World} (h : OHeld k lv L W) (f : Kpb (k :: lv.ownBlock.toList) B W W') : OHeld k lv L W' := by
  refine ⟨(f.1 k (by simp)).trans h.1, h.2.1, ?_⟩
  rcases h.2.2 with hn | ⟨g, cap, cur, rfl, hb, hgg, rest⟩
  · exact .inl hn
  · exact .inr ⟨g, cap, cur, rfl, hb, (f.1 g (by simp [Value.ownBlock])).trans hgg, rest⟩
theorem OHeld.fr0 {k : Nat} {lv : Value} {L : List (Int × Nat)} {W W' : World} (h : OHeld k lv L W) (f : Fr [] W W') : OHeld k lv L W' := ⟨f.blk h.1 (by simp), own_fr h.2 f (by simp)⟩
theorem OHeld.at {W : World} {k g cap n : Nat} {L : List (Int × Nat)} (h : OHeld k (.slice (some ⟨g, 0, none⟩) n cap) L W) {i : Nat} {p : Int} {x : Nat} (hx : L[i]? = some (p, x)) : W.cell? ⟨g, i * 2, none⟩ = some (.int .u32 p) ∧ W.cell? ⟨g, i * 2 + 1, none⟩ = some (.pointer (some ⟨x, 0, none⟩)) := by
  have hr : RowO W g L := fun j u hu => by
    have := h.2.cells (g := g) rfl j u hu
    rw [Addr.add_lit] at this
    simpa using this
  exact hr.at hx
set_option maxRecDepth 100000 in
set_option maxHeartbeats 1000000 in
theorem allO_tells {γ : Type} (m k B : Nat) (lv : Value) (C : List γ) (f : γ → Int × Nat) (hL : C.length ≤ 65536) :
    Tells Fence.wide m Tryd.prog 144 #[.pointer (some ⟨k, 0, none⟩)] (fun (x : {c // c ∈ C}) => #[.int .u32 (f x.1).1, .pointer (some ⟨(f x.1).2, 0, none⟩)]) [] (Kpb (k :: lv.ownBlock.toList) B) (fun xs => xs = C.attach) (fun pre => pre <+: C.attach) C.length (OHeld k lv (C.map f)) (OHeld k lv (C.map f)) := by
  intro l J Jx W hW hJ hJx hY h0
  refine callsIn_of_wp Tryd.func144 rfl trivial ?_ rfl
  simp only [Tryd.ntmps144, List.size_toArray, List.length_cons, List.length_nil, Nat.reduceAdd, Nat.reduceSub, Array.replicate_succ, Array.replicate_zero, List.push_toArray, List.append_toArray, List.nil_append, List.cons_append]
  refine wpIn_wide.2 ?_
  have HJ := Lib.hid hJ
  have HY := Lib.hid hY
  obtain ⟨p, c, hvr⟩ := own_form hW.2
  have HV := Lib.hid hvr
  have c0 := hW.1.at 0 (v := lv) rfl
  rw [hvr] at c0
  have HW := Lib.hid (And.intro hW h0)
  clear hJ hJx hY hvr hW h0
  obtain ⟨n, hn⟩ : ∃ n, n = C.length := ⟨_, rfl⟩
  rw [List.length_map, ← hn] at c0
  rw [← hn] at hL
  have HN := Lib.hid hn
  clear hn
  go_wp2
  go_loopw [7] (fun i wr => ∃ j : Nat, i = .int .i64 j ∧ j ≤ n ∧ OHeld k lv (C.map f) wr ∧ W.heap.size ≤ wr.heap.size ∧ J (C.attach.take j) wr) (fun i _ => n - (intOf i).toNat)
  case atStart => exact ⟨0, rfl, Nat.zero_le _, HW.out.1, Nat.le_refl _, HW.out.2⟩
  case round =>
    obtain ⟨j, rfl, hj, hA, hsz, hJj⟩ := hrel
    obtain ⟨wi, rfl⟩ : ∃ wi : World, wi = wr := ⟨_, rfl⟩
    by_cases hlt : j < n
    · have hjl : j < C.length := by rw [← HN.out]; exact hlt
      obtain ⟨c, hc⟩ : ∃ c, C[j]? = some c := ⟨_, List.getElem?_eq_getElem hjl⟩
      obtain ⟨⟨q, x⟩, hqx⟩ : ∃ y, y = f c := ⟨_, rfl⟩
      have hx : (C.map f)[j]? = some (q, x) := by rw [List.getElem?_map, hc, hqx]; rfl
      obtain ⟨g, rfl⟩ : ∃ g, p = some ⟨g, 0, none⟩ := by
        rcases hA.2.2 with ⟨_, h9⟩ | ⟨g, cap, cur, h9, _⟩
        · rw [List.length_map] at h9; omega
        · rw [HV.out] at h9; cases h9; exact ⟨g, rfl⟩
      have hA' := hA
      rw [HV.out] at hA'
      obtain ⟨x0, x1⟩ := hA'.at hx
      have hm : c ∈ C := List.mem_of_getElem? hc
      have hsn : C.attach.take j ++ [⟨c, hm⟩] = C.attach.take (j + 1) := by
        obtain ⟨h8, h9⟩ := List.getElem?_eq_some_iff.1 hc
        rw [List.take_succ_eq_append_getElem (by rw [List.length_attach]; exact h8), List.getElem_attach]
        simp only [h9]
      obtain ⟨wn, hwn⟩ : ∃ wn, wn = wi.alloc (.cells #[.int .u32 q, .pointer (some ⟨x, 0, none⟩)] 218) := ⟨_, rfl⟩
      have f3 : Fr [] wi wn := by rw [hwn]; exact (Fr.refl [] wi).alloc _
      have hJ3 := HJ.out _ wi _ none hJj (grown_fr f3) (by simp)
      have hy0 := HY.out _ ⟨c, hm⟩ _ hJ3 (by rw [List.length_take, List.length_attach]; omega)
      dsimp only at hy0
      rw [hsn, ← hqx] at hy0
      obtain ⟨ff, tm, asg, body, hy, hR⟩ := hy0
      have HR := Lib.hid hR
      have HA := Lib.hid (And.intro (hA.fr0 f3) (Nat.le_trans hsz f3.size))
      have k1 : (0 : Int) ≤ (j : Int) := by omega
      have k2 : (j : Int) < (n : Int) := by omega
      clear hR hA hA' hJj hsn hx hjl hJ3 f3 hsz
      subst hwn
      refine (wpIn_wide (n := m)).1 ?_
      gi_wp2
      refine ⟨fun h => by simp [Fence.wide] at h, HR.out.mono ?_⟩
      rintro e W3 ⟨hk3, (⟨rfl, hJ3⟩ | ⟨rfl, hJx3⟩)⟩
      · gi_wp2
        exact ⟨⟨j + 1, by go_num, by omega, HA.out.1.kpb hk3, Nat.le_trans HA.out.2 hk3.2.size, hJ3⟩, by simp [intOf]; omega⟩
      · gi_wp2
        refine bodyPost_ret (results_none rfl _ _ _) rfl ⟨⟨_, rfl⟩, HA.out.1.kpb hk3, .inr ⟨_, List.take_prefix _ _, hJx3⟩⟩
    · obtain rfl : j = n := by omega
      have hJ' : J C.attach wi := by rw [HN.out, List.take_of_length_le (by rw [List.length_attach]; exact Nat.le_refl _)] at hJj; exact hJj
      clear hJj
      go_wp2
      go_end0
      exact ⟨⟨_, rfl⟩, hA, .inl ⟨_, rfl, hJ'⟩⟩
theorem eqlNilN (a : Addr) (n c : Nat) (w : World) : (binOp .eql 213 (.slice (some a) n c) (.slice none 0 0)).run Tryd.prog w = .ok (.bool false) w := by
  exact Lib.run_eql_slice_nil _ _ _ _ _ _ _ _ Tryd.underlying213
attribute [local go_sem] eqlNilN
/-- A row of one's own with the pairs. -/
def CopyN (w : World) (Ps : List (Int × (Int))) (v : Value) (W : World) : Prop := W.ownsRow 0 227 2 v Ps.length (flat payN Ps) ∧ ∃ g, v.ownBlock = some g ∧ w.heap.size ≤ g
set_option maxRecDepth 100000 in
theorem cloneN_any (w : World) (b : Nat) (v : Value) (Ps : List (Int × (Int))) (room : Int) (h : TabN w b v Ps room) : Calls Tryd.prog 160 #[v] w fun e w' => (∃ v', e = .returned v' ∧ CopyN w Ps v' w') ∧ Fr [] w w' := by
  have hl : Ps.length ≤ 65536 := by have := h.lim; omega
  obtain ⟨g, cap, rfl, h1, h2, h3, h4⟩ := h.row
  have F0 : Fr [] w (w.alloc (.cells #[] 227)) := (Fr.refl _ _).alloc _
  have hO := World.ownsRow_made (base := 0) (e := 227) (size := 2) w #[] 0 (Nat.zero_le _) (Nat.zero_le _) rfl
  have hsrc : ∀ j u, (flat payN Ps)[j]? = some u → (w.alloc (.cells #[] 227)).cell? ((⟨g, 0, none⟩ : Addr).add j) = some u := fun j u hj => by
    rw [Addr.add_lit]
    have := h4.fr F0 j u hj
    simpa using this
  obtain ⟨xs, hxs⟩ : ∃ xs, xs = flat payN Ps := ⟨_, rfl⟩
  obtain ⟨n, hn⟩ : ∃ n, n = Ps.length := ⟨_, rfl⟩
  have hxl : xs.length = n * 2 := by rw [hxs, hn]; exact flat_len wideN Ps
  have hxo : ∀ u ∈ xs, u.oneCell' = true := by rw [hxs]; exact flat_one wideN Ps
  have HP := Lib.hid (show ∀ v' w', Appended (w.alloc (.cells #[] 227)) 227 2 (.slice (some ⟨w.heap.size, 0, none⟩) 0 0) (0 + n) ([] ++ xs) v' w' → (∃ v2, Ending.returned v' = .returned v2 ∧ CopyN w Ps v2 w') ∧ Fr [] w w' from fun v' w' ha => by
    refine ⟨⟨v', rfl, ?_, ?_⟩, F0.trans ha.fr (fun x hx => .inr ?_)⟩
    · have := ha.own
      rw [Nat.zero_add, List.nil_append, hxs, hn] at this
      exact this
    · rcases ha.place with q | q
      · exact ⟨_, q, Nat.le_refl _⟩
      · exact ⟨_, q, by simp⟩
    · simp [Value.ownBlock] at hx; omega)
  rw [← hxs] at hsrc
  rw [← hn] at hl
  simp only [← hn]
  have HS := Lib.hid (And.intro hO (And.intro hsrc (And.intro hxl hxo)))
  clear h h1 h2 h3 h4 F0 hO hsrc hxs hn hxl hxo
  go_enter Tryd.func160, Tryd.ntmps160
  go_wp2_with (at_builtin; go_must (refine wpList_app _ rfl _ _ 213 rfl 227 (.agg #[.int .u32 0, .int .i64 0]) 2 16 Tryd.underlying213 infoN rfl (by decide) (.slice (some ⟨w.heap.size, 0, none⟩) 0 0) 0 [] rfl HS.out.1 ⟨g, 0, none⟩ n cap xs rfl HS.out.2.2.1 HS.out.2.1 HS.out.2.2.2 (by unfold maxLen; omega) (by omega) ?_); intro v1 w3 happ; have HAP := Lib.hid happ; clear happ)
  all_goals (go_ret; exact HP.out _ _ HAP.out)
def AllNPost (w : World) (Ps : List (Int × (Int))) (e : Ending) (w' : World) : Prop :=
  ∃ bx v, e = .returned (.func (.func 161) #[] #[.pointer (some ⟨bx, 0, none⟩)]) ∧ Blk w' bx #[v] 213 ∧ CopyN w Ps v w' ∧ w.heap.size ≤ bx ∧ Fr [] w w'
set_option maxRecDepth 100000 in
theorem allN_any (w : World) (b : Nat) (v : Value) (Ps : List (Int × (Int))) (room : Int) (h : TabN w b v Ps room) : Calls Tryd.prog 145 #[.pointer (some ⟨b, 0, none⟩)] w (AllNPost w Ps) := by
  have F0 : Fr [] w (w.alloc (.cells #[.slice none 0 0] 213)) := (Fr.refl _ _).alloc _
  have h2 := h.grow F0
  have hz := Blk.new w #[.slice none 0 0] 213
  have HH := Lib.hid (And.intro h2 (And.intro F0 hz))
  have HC := Lib.hid (cloneN_any _ b v Ps room h2)
  obtain ⟨g, cap, rfl, _⟩ := h2.row
  have c1 := h2.hd.at 1 (v := .slice (some ⟨g, 0, none⟩) Ps.length cap) rfl
  obtain ⟨n, hn⟩ : ∃ n, n = Ps.length := ⟨_, rfl⟩
  rw [← hn] at c1 HC
  have HN := Lib.hid hn
  clear h h2 F0 hz hn
  go_enter Tryd.func145, Tryd.ntmps145
  go_wp2_with fail
  (with_reducible refine (liveN_any _ b _ Ps room HH.out.1).mono ?_)
  rintro e w1 ⟨rfl, rfl⟩
  go_wp2_with fail
  (with_reducible refine (HC.out).mono ?_)
  rintro e w1 ⟨⟨v', rfl, hcp⟩, f1⟩
  have zb := f1.blk HH.out.2.2 (by simp)
  have y0 := zb.at 0 (v := .slice none 0 0) rfl
  have e0 := zb.free 0
  obtain ⟨gq, hgq, hge⟩ := hcp.2
  have hsl : ∃ cp, v' = .slice (some ⟨gq, 0, none⟩) Ps.length cp := by
    rcases hcp.1.2 with ⟨rfl, _⟩ | ⟨g', cp, _, rfl, _⟩
    · simp [Value.ownBlock] at hgq
    · simp [Value.ownBlock] at hgq; subst hgq; exact ⟨cp, rfl⟩
  obtain ⟨cp, rfl⟩ := hsl
  have HQ := Lib.hid (And.intro zb (And.intro hcp (And.intro f1 hge)))
  clear zb hcp f1 hgq hge
  go_wp2
  go_ret
  obtain ⟨zb, hcp, f1, hge⟩ := HQ.out
  refine ⟨w.heap.size, _, rfl, zb.set 0 _, ⟨own_fr hcp.1 ((Fr.refl [w.heap.size] w1).setCell _ _ (.inl (by simp))) (fun g2 hg2 => ?_), gq, rfl, ?_⟩, Nat.le_refl _, ?_⟩
  · simp [Value.ownBlock] at hg2; subst hg2; simp at hge ⊢; omega
  · simp at hge; omega
  · exact (HH.out.2.1.trans f1 (by simp)).setCell _ _ (.inr (Nat.le_refl _))
/-- The pairs lie there. -/
def NHeld (k : Nat) (lv : Value) (L : List (Int × Int)) (W : World) : Prop := Blk W k #[lv] 213 ∧ W.ownsRow 0 227 2 lv L.length (flat payN L)
theorem NHeld.kpb {B k : Nat} {lv : Value} {L : List (Int × Int)} {W W' : World} (h : NHeld k lv L W) (f : Kpb (k :: lv.ownBlock.toList) B W W') : NHeld k lv L W' := by
  refine ⟨(f.1 k (by simp)).trans h.1, h.2.1, ?_⟩
  rcases h.2.2 with hn | ⟨g, cap, cur, rfl, hb, hgg, rest⟩
  · exact .inl hn
  · exact .inr ⟨g, cap, cur, rfl, hb, (f.1 g (by simp [Value.ownBlock])).trans hgg, rest⟩
theorem NHeld.fr0 {k : Nat} {lv : Value} {L : List (Int × Int)} {W W' : World} (h : NHeld k lv L W) (f : Fr [] W W') : NHeld k lv L W' := ⟨f.blk h.1 (by simp), own_fr h.2 f (by simp)⟩
theorem NHeld.at {W : World} {k g cap n : Nat} {L : List (Int × Int)} (h : NHeld k (.slice (some ⟨g, 0, none⟩) n cap) L W) {i : Nat} {p : Int} {x : Int} (hx : L[i]? = some (p, x)) : W.cell? ⟨g, i * 2, none⟩ = some (.int .u32 p) ∧ W.cell? ⟨g, i * 2 + 1, none⟩ = some (.int .i64 x) := by
  have hr : RowN W g L := fun j u hu => by
    have := h.2.cells (g := g) rfl j u hu
    rw [Addr.add_lit] at this
    simpa using this
  exact hr.at hx
set_option maxRecDepth 100000 in
set_option maxHeartbeats 1000000 in
theorem allN_tells (m k B : Nat) (lv : Value) (R : List (Int × Int)) (hL : R.length ≤ 65536) :
    Tells Fence.wide m Tryd.prog 161 #[.pointer (some ⟨k, 0, none⟩)] (fun (x : Int × Int) => #[.int .u32 x.1, .int .i64 x.2]) [] (Kpb (k :: lv.ownBlock.toList) B) (fun xs => xs = R) (fun pre => pre <+: R) R.length (NHeld k lv R) (NHeld k lv R) := by
  intro l J Jx W hW hJ hJx hY h0
  refine callsIn_of_wp Tryd.func161 rfl trivial ?_ rfl
  simp only [Tryd.ntmps161, List.size_toArray, List.length_cons, List.length_nil, Nat.reduceAdd, Nat.reduceSub, Array.replicate_succ, Array.replicate_zero, List.push_toArray, List.append_toArray, List.nil_append, List.cons_append]
  refine wpIn_wide.2 ?_
  have HJ := Lib.hid hJ
  have HY := Lib.hid hY
  obtain ⟨p, c, hvr⟩ := own_form hW.2
  have HV := Lib.hid hvr
  have c0 := hW.1.at 0 (v := lv) rfl
  rw [hvr] at c0
  have HW := Lib.hid (And.intro hW h0)
  clear hJ hJx hY hvr hW h0
  obtain ⟨n, hn⟩ : ∃ n, n = R.length := ⟨_, rfl⟩
  rw [← hn] at c0
  rw [← hn] at hL
  have HN := Lib.hid hn
  clear hn
  go_wp2
  go_loopw [7] (fun i wr => ∃ j : Nat, i = .int .i64 j ∧ j ≤ n ∧ NHeld k lv R wr ∧ W.heap.size ≤ wr.heap.size ∧ J (R.take j) wr) (fun i _ => n - (intOf i).toNat)
  case atStart => exact ⟨0, rfl, Nat.zero_le _, HW.out.1, Nat.le_refl _, HW.out.2⟩
  case round =>
    obtain ⟨j, rfl, hj, hA, hsz, hJj⟩ := hrel
    obtain ⟨wi, rfl⟩ : ∃ wi : World, wi = wr := ⟨_, rfl⟩
    by_cases hlt : j < n
    · have hjl : j < R.length := by rw [← HN.out]; exact hlt
      obtain ⟨⟨q, x⟩, hx⟩ : ∃ x, R[j]? = some x := ⟨_, List.getElem?_eq_getElem hjl⟩
      obtain ⟨g, rfl⟩ : ∃ g, p = some ⟨g, 0, none⟩ := by
        rcases hA.2.2 with ⟨_, h9⟩ | ⟨g, cap, cur, h9, _⟩
        · omega
        · rw [HV.out] at h9; cases h9; exact ⟨g, rfl⟩
      have hA' := hA
      rw [HV.out] at hA'
      obtain ⟨x0, x1⟩ := hA'.at hx
      have hsn : R.take j ++ [(q, x)] = R.take (j + 1) := by
        obtain ⟨h8, h9⟩ := List.getElem?_eq_some_iff.1 hx
        rw [List.take_succ_eq_append_getElem h8, h9]
      obtain ⟨wn, hwn⟩ : ∃ wn, wn = wi.alloc (.cells #[.int .u32 q, .int .i64 x] 227) := ⟨_, rfl⟩
      have f3 : Fr [] wi wn := by rw [hwn]; exact (Fr.refl [] wi).alloc _
      have hJ3 := HJ.out _ wi _ none hJj (grown_fr f3) (by simp)
      obtain ⟨ff, tm, asg, body, hy, hR⟩ := HY.out _ (q, x) _ hJ3 (by rw [List.length_take]; omega)
      rw [hsn] at hR
      have HR := Lib.hid hR
      have HA := Lib.hid (And.intro (hA.fr0 f3) (Nat.le_trans hsz f3.size))
      have k1 : (0 : Int) ≤ (j : Int) := by omega
      have k2 : (j : Int) < (n : Int) := by omega
      clear hR hA hA' hJj hsn hx hjl hJ3 f3 hsz
      subst hwn
      refine (wpIn_wide (n := m)).1 ?_
      gi_wp2
      refine ⟨fun h => by simp [Fence.wide] at h, HR.out.mono ?_⟩
      rintro e W3 ⟨hk3, (⟨rfl, hJ3⟩ | ⟨rfl, hJx3⟩)⟩
      · gi_wp2
        exact ⟨⟨j + 1, by go_num, by omega, HA.out.1.kpb hk3, Nat.le_trans HA.out.2 hk3.2.size, hJ3⟩, by simp [intOf]; omega⟩
      · gi_wp2
        refine bodyPost_ret (results_none rfl _ _ _) rfl ⟨⟨_, rfl⟩, HA.out.1.kpb hk3, .inr ⟨_, List.take_prefix _ _, hJx3⟩⟩
    · obtain rfl : j = n := by omega
      have hJ' : J R wi := by rw [HN.out, List.take_of_length_le (Nat.le_refl _)] at hJj; exact hJj
      clear hJj
      go_wp2
      go_end0
      exact ⟨⟨_, rfl⟩, hA, .inl ⟨_, rfl, hJ'⟩⟩
end Go.Proofs.YtgoolkgjcmdilaaDoor
end
section
namespace Go.Proofs.YtgoolkgjcmdilaaDoor
open Go.RowKit Flo
set_option linter.unusedVariables false
set_option linter.unusedSimpArgs false
inductive Al2 {α β : Type} (R : α → β → Prop) : List α → List β → Prop
  | nil : Al2 R [] []
  | cons {a : α} {b : β} {l : List α} {m : List β} : R a b → Al2 R l m → Al2 R (a :: l) (b :: m)
namespace Al2
variable {α β : Type} {R S : α → β → Prop}
theorem len : ∀ {l : List α} {m : List β}, Al2 R l m → l.length = m.length
  | _, _, .nil => rfl
  | _, _, .cons _ h => by simp [len h]
theorem at_ : ∀ {l : List α} {m : List β} {k : Nat} {a : α} {b : β}, Al2 R l m → l[k]? = some a → m[k]? = some b → R a b
  | _, _, k, a, b, .nil, h, _ => by simp at h
  | _, _, 0, a, b, .cons r _, h, h' => by simp at h h'; subst h; subst h'; exact r
  | _, _, k + 1, a, b, .cons _ h2, h, h' => by simp at h h'; exact at_ h2 h h'
theorem left : ∀ {l : List α} {m : List β} {a : α}, Al2 R l m → a ∈ l → ∃ b, b ∈ m ∧ R a b
  | _, _, a, .nil, h => by simp at h
  | _, _, a, .cons r h2, h => by
    rcases List.mem_cons.1 h with rfl | h
    · exact ⟨_, by simp, r⟩
    · obtain ⟨b, h3, h4⟩ := left h2 h
      exact ⟨b, by simp [h3], h4⟩
theorem right : ∀ {l : List α} {m : List β} {b : β}, Al2 R l m → b ∈ m → ∃ a, a ∈ l ∧ R a b
  | _, _, a, .nil, h => by simp at h
  | _, _, a, .cons r h2, h => by
    rcases List.mem_cons.1 h with rfl | h
    · exact ⟨_, by simp, r⟩
    · obtain ⟨b, h3, h4⟩ := right h2 h
      exact ⟨b, by simp [h3], h4⟩
theorem mono : ∀ {l : List α} {m : List β}, Al2 R l m → (∀ a b, a ∈ l → b ∈ m → R a b → S a b) → Al2 S l m
  | _, _, .nil, _ => .nil
  | _, _, .cons r h2, h => .cons (h _ _ (by simp) (by simp) r) (mono h2 fun a b ha hb => h a b (by simp [ha]) (by simp [hb]))
theorem get_right {l : List α} {m : List β} {k : Nat} {a : α} (h : Al2 R l m) (ha : l[k]? = some a) : ∃ b, m[k]? = some b ∧ R a b := by
  have hk : k < m.length := by rw [← h.len]; exact (List.getElem?_eq_some_iff.1 ha).1
  exact ⟨_, List.getElem?_eq_getElem hk, h.at_ ha (List.getElem?_eq_getElem hk)⟩
theorem set : ∀ {l : List α} {m : List β} {a : α} {b : β}, Al2 R l m → ∀ k, R a b → Al2 R (l.set k a) (m.set k b)
  | _, _, _, _, .nil, k, _ => .nil
  | _, _, _, _, .cons _ h2, 0, h => .cons h h2
  | _, _, _, _, .cons r h2, k + 1, h => .cons r (set h2 k h)
theorem erase : ∀ {l : List α} {m : List β}, Al2 R l m → ∀ k, Al2 R (l.eraseIdx k) (m.eraseIdx k)
  | _, _, .nil, k => .nil
  | _, _, .cons _ h2, 0 => h2
  | _, _, .cons r h2, k + 1 => .cons r (erase h2 k)
theorem ins (key : α → Int) (key' : β → Int) : ∀ {l : List α} {m : List β} {a : α} {b : β}, (∀ a b, R a b → key a = key' b) → Al2 R l m → R a b → Al2 R (insK key a l) (insK key' b m)
  | _, _, _, _, _, .nil, h => .cons h .nil
  | _, _, a, b, hk, .cons r h2, h => by
    unfold insK
    rw [hk _ _ r, hk _ _ h]
    split
    · exact .cons h (.cons r h2)
    · exact .cons r (ins key key' hk h2 h)
theorem map {α' β' : Type} {S : α' → β' → Prop} (f : α → α') (g : β → β') : ∀ {l : List α} {m : List β}, Al2 R l m → (∀ a b, a ∈ l → b ∈ m → R a b → S (f a) (g b)) → Al2 S (l.map f) (m.map g)
  | _, _, .nil, _ => .nil
  | _, _, .cons r h2, h => .cons (h _ _ (by simp) (by simp) r) (map f g h2 fun a b ha hb => h a b (by simp [ha]) (by simp [hb]))
theorem up {key : α → Int} {key' : β → Int} (hk : ∀ a b, R a b → key a = key' b) : ∀ {l : List α} {m : List β}, Al2 R l m → l.map key = m.map key'
  | _, _, .nil => rfl
  | _, _, .cons r h2 => by rw [List.map_cons, List.map_cons, hk _ _ r, up hk h2]
end Al2
structure OC where
  x : Nat
  bB : Nat
  vB : Value
  B : List Bool
  id : Int
  num : Int
  t : Int
  px : Int
  py : Int
  sp : Nat
def OC.pair (c : OC) : Int × Nat := (c.id, c.x)
def OC.blks (c : OC) : List Nat := c.x :: c.bB :: c.vB.ownBlock.toList
/-- It lies there. -/
def ObOk (w : World) (rN : Nat) (c : OC) : Prop := ObAt w c.x c.bB c.id c.num c.t c.px c.py c.sp ∧ (∃ ws, BitsAt w c.bB c.vB c.B ws) ∧ c.B.length = rN
theorem ObOk.fr {S : List Nat} {w w' : World} {rN : Nat} {c : OC} (h : ObOk w rN c) (f : Fr S w w') (hs : ∀ s ∈ c.blks, s ∉ S) : ObOk w' rN c := by
  obtain ⟨h1, ⟨ws, h2⟩, h3⟩ := h
  exact ⟨f.blk h1 (hs _ (by simp [OC.blks])), ⟨ws, h2.fr f (hs _ (by simp [OC.blks])) (fun g hg => hs _ (by simp [OC.blks, hg]))⟩, h3⟩
/-- Two objects lie apart. -/
def OC.apart (a b : OC) : Prop := a.x ≠ b.x ∧ a.bB ≠ b.bB ∧ ∀ g, a.vB.ownBlock = some g → b.vB.ownBlock ≠ some g
theorem OC.apart.symm {a b : OC} (h : a.apart b) : b.apart a := ⟨h.1.symm, h.2.1.symm, fun g hg hg' => h.2.2 g hg' hg⟩
/-- The book, as it lies. -/
structure KBL (w : World) (N : List Nat) (k bO bN bP : Nat) (v u vP : Value) (rO rN : Nat) (Fs : List (Int × Int)) (BP : List Bool) (Cs : List OC) : Prop where
  hd : BkAt w k bO bN bP
  hO : TabO w bO v (Cs.map OC.pair) rO
  hN : TabN w bN u Fs rN
  hP : ∃ wP, BitsAt w bP vP BP wP
  lP : BP.length = rN
  m0 : rO ≤ 64
  mN : rN ≤ 64
  ob : ∀ c ∈ Cs, ObOk w rN c
  used : Used Fs BP
  apart : Apart Fs
  pos : ∀ p ∈ Fs, 0 ≤ p.2 ∧ p.2 < (rN : Int)
  bits : ∀ c ∈ Cs, ∀ i, c.B.getD i false = true → BP.getD i false = true
  sep : Cs.Pairwise OC.apart
  sepP : ∀ c ∈ Cs, c.bB ≠ bP ∧ ∀ g, c.vB.ownBlock = some g → vP.ownBlock ≠ some g
  nk : k ∈ N
  nO : ∀ s ∈ bO :: v.ownBlock.toList, s ∈ N
  nN : ∀ s ∈ bN :: u.ownBlock.toList, s ∈ N
  nP : ∀ s ∈ bP :: vP.ownBlock.toList, s ∈ N
  nC : ∀ c ∈ Cs, ∀ s ∈ c.blks, s ∈ N
  low : ∀ s ∈ N, s < w.heap.size
/-- How an object stands to one of the document's. -/
structure Kin (Fs : List (Int × Int)) (c : OC) (o : VO) : Prop where
  id : c.id = o.id
  num : c.num = o.num
  t : c.t = o.t
  px : c.px = o.px
  py : c.py = o.py
  sp : FE c.sp o.sp
  ids : o.ids = idsOf Fs c.B
  uid : U32 o.id
  ut : U32 o.t
  upx : I32 o.px
  upy : I32 o.py
/-- The book and the document's objects V. -/
def KB (w : World) (N : List Nat) (k : Nat) (rO rN : Nat) (Fs : List (Int × Int)) (V : List VO) : Prop :=
  ∃ bO bN bP v u vP BP Cs, KBL w N k bO bN bP v u vP rO rN Fs BP Cs ∧ Al2 (Kin Fs) Cs V
section
variable {w w' : World} {N : List Nat} {k bO bN bP rO rN : Nat} {v u vP : Value} {Fs : List (Int × Int)} {BP : List Bool} {Cs : List OC} {V : List VO}
/-- It lies on where nothing of it turns; it may own more. -/
theorem KBL.step {N' S : List Nat} (h : KBL w N k bO bN bP v u vP rO rN Fs BP Cs) (f : Fr S w w') (hs : ∀ s ∈ S, s ∉ N) (hN : ∀ s ∈ N, s ∈ N') (hl : ∀ s ∈ N', s < w'.heap.size) : KBL w' N' k bO bN bP v u vP rO rN Fs BP Cs := by
  have hn : ∀ {s}, s ∈ N → s ∉ S := fun hm hs' => hs _ hs' hm
  obtain ⟨wP, hP⟩ := h.hP
  exact ⟨h.hd.fr f (hn h.nk), h.hO.fr f (hn (h.nO _ (by simp))) (fun g hg => hn (h.nO _ (by simp [hg]))), h.hN.fr f (hn (h.nN _ (by simp))) (fun g hg => hn (h.nN _ (by simp [hg]))),
    ⟨wP, hP.fr f (hn (h.nP _ (by simp))) (fun g hg => hn (h.nP _ (by simp [hg])))⟩, h.lP, h.m0, h.mN, fun c hc => (h.ob c hc).fr f (fun s hs => hn (h.nC c hc s hs)), h.used, h.apart, h.pos, h.bits, h.sep, h.sepP,
    hN _ h.nk, fun s hs => hN _ (h.nO s hs), fun s hs => hN _ (h.nN s hs), fun s hs => hN _ (h.nP s hs), fun c hc s hs => hN _ (h.nC c hc s hs), hl⟩
theorem KBL.grow (h : KBL w N k bO bN bP v u vP rO rN Fs BP Cs) (f : Fr [] w w') : KBL w' N k bO bN bP v u vP rO rN Fs BP Cs := h.step f (by simp) (fun _ h => h) (fun s hs => Nat.lt_of_lt_of_le (h.low s hs) f.size)
theorem KB.step {N' S : List Nat} (h : KB w N k rO rN Fs V) (f : Fr S w w') (hs : ∀ s ∈ S, s ∉ N) (hN : ∀ s ∈ N, s ∈ N') (hl : ∀ s ∈ N', s < w'.heap.size) : KB w' N' k rO rN Fs V := by
  obtain ⟨bO, bN, bP, v, u, vP, BP, Cs, h1, h2⟩ := h
  exact ⟨bO, bN, bP, v, u, vP, BP, Cs, h1.step f hs hN hl, h2⟩
theorem KB.grow (h : KB w N k rO rN Fs V) (f : Fr [] w w') : KB w' N k rO rN Fs V := by
  obtain ⟨bO, bN, bP, v, u, vP, BP, Cs, h1, h2⟩ := h
  exact ⟨bO, bN, bP, v, u, vP, BP, Cs, h1.grow f, h2⟩
theorem KBL.upC (h : KBL w N k bO bN bP v u vP rO rN Fs BP Cs) : Cs.Pairwise (fun a b => a.id < b.id) := by
  have := h.hO.up
  unfold Up at this
  rw [List.pairwise_map] at this
  exact this
theorem KBL.lC (h : KBL w N k bO bN bP v u vP rO rN Fs BP Cs) : Cs.length ≤ rO := by
  have := h.hO.lim.1
  rw [List.length_map] at this
  omega
end
theorem upV_of {Fs : List (Int × Int)} {Cs : List OC} {V : List VO} (h : Al2 (Kin Fs) Cs V) (hu : Cs.Pairwise (fun a b => a.id < b.id)) : V.Pairwise (fun a b => a.id < b.id) := by
  have h1 := Al2.up (key := OC.id) (key' := VO.id) (fun a b r => r.id) h
  have h2 : (Cs.map OC.id).Pairwise (· < ·) := by rw [List.pairwise_map]; exact hu
  rw [h1, List.pairwise_map] at h2
  exact h2
/-- Where an object stands in both. -/
theorem both_at {Fs : List (Int × Int)} {Cs : List OC} {V : List VO} (h : Al2 (Kin Fs) Cs V) (hu : Cs.Pairwise (fun a b => a.id < b.id)) (id : Int) :
    (hasId (Cs.map OC.pair) id = false ∧ posV V id < 0) ∨ (∃ (r : Nat) (c : OC) (o : VO), hasId (Cs.map OC.pair) id = true ∧ r = rank (Cs.map OC.pair) id ∧ posV V id = r ∧ Cs[r]? = some c ∧ V[r]? = some o ∧ c.id = id ∧ o.id = id ∧ Kin Fs c o ∧ (Cs.map OC.pair)[rank (Cs.map OC.pair) id]? = some (id, c.x)) := by
  have hup : Up (Cs.map OC.pair) := by unfold Up; rw [List.pairwise_map]; exact hu
  have hV := upV_of h hu
  cases hh : hasId (Cs.map OC.pair) id with
  | false =>
    refine .inl ⟨rfl, ?_⟩
    rw [posV_none fun o ho e => ?_]
    · omega
    · obtain ⟨c, hc, hk⟩ := h.right ho
      have : hasId (Cs.map OC.pair) id = true := by
        unfold hasId
        rw [List.any_eq_true]
        exact ⟨c.pair, List.mem_map_of_mem hc, by simp [OC.pair, hk.id, e]⟩
      rw [hh] at this
      cases this
  | true =>
    obtain ⟨z, hz⟩ := (has_at hup id).1 hh
    have hz' := hz
    rw [List.getElem?_map] at hz'
    cases hc : Cs[rank (Cs.map OC.pair) id]? with
    | none => rw [hc] at hz'; cases hz'
    | some c =>
      rw [hc] at hz'
      simp [OC.pair] at hz'
      obtain ⟨o, ho, hk⟩ := h.get_right hc
      refine .inr ⟨_, c, o, rfl, rfl, posV_at hV ho (hk.id.symm.trans hz'.1), hc, ho, hz'.1, hk.id.symm.trans hz'.1, hk, ?_⟩
      rw [hz, hz'.2]
end Go.Proofs.YtgoolkgjcmdilaaDoor
end
section
namespace Go.Proofs.YtgoolkgjcmdilaaDoor
open Go.RowKit
set_option linter.unusedVariables false
set_option linter.unusedSimpArgs false
section
variable {P : Program} {Q : Exit → Act → World → Prop} {l : List Oper} {a0 a : Act} {vals : List (Option Value)} {Ψ : (Nat → Prop) → (Nat → Option Value) → World → Prop} {W : World} {p : Nat → Prop} {F : Fence} {n : Nat}
/-- **A region that draws its order and changes memory.** -/
theorem region_chg_in {id : Nat} {w : World} (hm : P.follows .mixedOrders = true) (hu : waitsFor l.toArray = true) (vals : List (Option Value)) (Ψ : (Nat → Prop) → (Nat → Option Value) → World → Prop) (N : Nat) (hN : a0.tmps.size = N) (hs : slotsOk l N = true) (ds : List (Nat × Tmp)) (hds : slots l = ds)
    (h0 : Ψ (fun _ => False) (fun t => a0.tmps[t]?) w.drew)
    (hstep : ∀ (p : Nat → Prop) (a : Act) (W : World) (i : Nat), i < l.length → ¬ p i → (∀ o, l.toArray[i]? = some o → ∀ e, e ∈ o.after → Region.binds .any e = true → p e.on) → RegC l a0 vals Ψ p a W →
      ∀ K : Act → World → Prop, SetsC l vals Ψ p i a K → wpOpIn F n P l.toArray Q i K a W)
    (hend : ∀ (vs : Nat → Value) (p : Nat → Prop) (W : World), (∀ i, i < l.length → p i) → Ψ p (fun t => (lay ds vs a0.tmps)[t]?) W → (∀ i d v, i < l.length → slotOf l i = some d → vals.getD i none = some v → vs i = v) → Q .normal { tmps := lay ds vs a0.tmps, defers := a0.defers } W) : (Code.region id l.toArray true).wpIn F n P Q a0 w := by
  refine region_inv_in2 hm hu (RegC l a0 vals Ψ) ?_ ?_ ?_
  · exact ⟨rfl, rfl, fun _ _ => rfl, fun i d v h => h.elim, h0, fun _ h => h.elim, fun _ h => h.elim⟩
  · intro p a W i hi hn hd h
    exact hstep p a W i hi hn hd h _ (fun v W' hv hΨ => h.step N hN hs hi hd hv hΨ)
  · intro p a W hp h
    obtain ⟨vs, h1, rfl⟩ := h.frame N hN hs hp
    have h2 := h.world
    rw [laid_lay hds] at h2 ⊢
    exact hend vs p W hp h2 h1
theorem op_doC_in {i : Nat} {o : Oper} {K : Act → World → Prop} (hi : l.toArray[i]? = some o) (hw : Region.wanted o (yielded l.toArray a.tmps) = true) (hK : SetsC l vals Ψ p i a K)
    (h : ∀ K' : Act → World → Prop, (∀ v W', (∀ u, vals.getD i none = some u → v = u) → Ψ (fun k => p k ∨ k = i) (fun t => (a.put o.dst v).tmps[t]?) W' → K' (a.put o.dst v) W') → o.wpIn F n P a W K' Q) : wpOpIn F n P l.toArray Q i K a W := by
  unfold wpOpIn
  rw [hi]
  simp only [hw, if_true]
  have hs : slotOf l i = o.dst := by
    unfold slotOf
    rw [show l[i]? = some o by simpa using hi]
    rfl
  refine h K fun v W' hv hΨ => ?_
  rw [← hs] at hΨ ⊢
  exact hK v W' hv hΨ
end
/-- Operation m alone changes memory, and it is the last. -/
structure OnceP (w0 : World) (m : Nat) (Post : World → Prop) (p : Nat → Prop) (f : Nat → Option Value) (W : World) : Prop where
  fr : ¬ p m → Fr [] w0 W
  dn : p m → (∀ i, i < m → p i) ∧ Post W
theorem OnceP.start {w0 : World} {m : Nat} {Post : World → Prop} {f : Nat → Option Value} : OnceP w0 m Post (fun _ => False) f w0.drew := ⟨fun _ => (Fr.refl _ _).drew, fun h => h.elim⟩
theorem OnceP.world {w0 W : World} {m i : Nat} {Post : World → Prop} {p : Nat → Prop} {f : Nat → Option Value} (h : OnceP w0 m Post p f W) (hi : i < m) (hn : ¬ p i) : Fr [] w0 W := h.fr fun q => hn ((h.dn q).1 i hi)
theorem OnceP.keep {w0 W W' : World} {m i : Nat} {Post : World → Prop} {p : Nat → Prop} {f g : Nat → Option Value} (h : OnceP w0 m Post p f W) (hi : i < m) (hn : ¬ p i) (hf : Fr [] W W') : OnceP w0 m Post (fun k => p k ∨ k = i) g W' :=
  ⟨fun q => (h.fr (fun a => q (.inl a))).trans hf (by simp), fun q => absurd ((h.dn (q.resolve_right (by omega))).1 i hi) hn⟩
theorem OnceP.last {w0 W' : World} {m : Nat} {Post : World → Prop} {p : Nat → Prop} {g : Nat → Option Value} (hall : ∀ i, i < m → p i) (hq : Post W') : OnceP w0 m Post (fun k => p k ∨ k = m) g W' :=
  ⟨fun q => absurd (.inr rfl) q, fun _ => ⟨fun i hi => .inl (hall i hi), hq⟩⟩
end Go.Proofs.YtgoolkgjcmdilaaDoor
end
