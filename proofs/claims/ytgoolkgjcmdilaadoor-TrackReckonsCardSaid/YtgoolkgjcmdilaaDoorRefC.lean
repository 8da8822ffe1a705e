/-
  The document's table: Put.
-/
import Derived.Test.YtgoolkgjcmdilaaDoorRefB
import Derived.Test.YtgoolkgjcmdilaaDoorTabN
import Derived.Test.YtgoolkgjcmdilaaDoorRange
namespace Go.Proofs.YtgoolkgjcmdilaaDoor
open Go.RowKit
set_option linter.unusedVariables false
set_option linter.unusedSimpArgs false
attribute [local go_sem] Oper.semAt_some

def RChg (w : World) (b : Nat) (v : Value) (Qs : IPs) (room : Int) (a : Value) (e : Ending) (w' : World) : Prop :=
  e = .returned a ∧ ∃ v', RefT w' b v' Qs room ∧ (∀ g, v'.ownBlock = some g → v.ownBlock = some g ∨ w.heap.size ≤ g) ∧ Fr (b :: v.ownBlock.toList) w w'
theorem own_form {w : World} {base e size k : Nat} {v : Value} {xs : List Value} (h : w.ownsRow base e size v k xs) : ∃ p c, v = .slice p k c := by
  rcases h.2 with ⟨rfl, rfl⟩ | ⟨g, cap, cur, rfl, _⟩
  · exact ⟨_, _, rfl⟩
  · exact ⟨_, _, rfl⟩
/-- What stands behind the first r elements. -/
theorem tail_cell {w : World} {n r g cap : Nat} {xs : List Value} (h : w.ownsRow 0 154 2 (.slice (some ⟨g, 0, none⟩) n cap) n xs) : ∀ j u, (xs.drop (r * 2))[j]? = some u → w.cell? ⟨g, r * 2 + j, none⟩ = some u := fun j u hj => by
  rw [List.getElem?_drop] at hj
  have := h.cells (g := g) rfl _ u hj
  rw [Addr.add_lit] at this
  simpa using this
theorem tail_src {w : World} {n r g cap : Nat} {xs : List Value} {v : Value} (h : w.ownsRow 0 154 2 (.slice (some ⟨g, 0, none⟩) n cap) n xs) (hr : r ≤ n) (hv : v = .slice (some (if cap = r then ⟨g, 0, none⟩ else ⟨g, r * 2, none⟩)) (n - r) (cap - r)) : Src w v (n - r) 2 (xs.drop (r * 2)) := by
  have hn : n ≤ cap := by
    rcases h.2 with ⟨q, _⟩ | ⟨g', cap', cur, q, _, _, hnc, _⟩
    · cases q
    · cases q; exact hnc
  refine .inr ⟨_, _, hv, by rw [List.length_drop, h.1, Nat.sub_mul], fun j u hj => ?_⟩
  split
  · have : j < (xs.drop (r * 2)).length := (List.getElem?_eq_some_iff.1 hj).1
    rw [List.length_drop, h.1] at this
    omega
  · rw [Addr.add_lit]; exact tail_cell h j u hj
/-- A new row is laid into the table. -/
theorem ref_store {w w5 : World} {b : Nat} {v v3 : Value} {R Qs : IPs} {room : Int} {k : Nat} {ys : List Value} (h : RefT w b v R room) (f : Fr [] w w5) (ho : w5.ownsRow 0 154 2 v3 k ys) (hk : k = Qs.length) (hy : ys = flat payN Qs)
    (hf : ∀ g, v3.ownBlock = some g → w.heap.size ≤ g) (hu : Up Qs) (hi : ∀ p ∈ Qs, U32 p.1) (hl : Qs.length ≤ 65536) :
    RefT (w5.setCell ⟨b, 1, none⟩ v3) b v3 Qs room ∧ Fr (b :: v.ownBlock.toList) w (w5.setCell ⟨b, 1, none⟩ v3) := by
  subst hk hy
  have hb := f.blk h.hd (by simp)
  have hlt := h.hd.lt
  refine ⟨⟨hb.set 1 v3, own_fr ho ((Fr.refl [b] w5).setCell _ _ (.inl (by simp))) (fun g hg hm => ?_), hu, hi, hl⟩, (f.mono (by simp)).setCell _ _ (.inl (by simp))⟩
  have := hf g hg
  simp at hm
  omega
theorem ins_ids {R : IPs} {id x : Int} (h : ∀ p ∈ R, U32 p.1) (hi : U32 id) : ∀ p ∈ insAt R id x, U32 p.1 := by
  intro p hp
  unfold insAt at hp
  rcases List.mem_append.1 hp with q | q
  · exact h p (List.mem_of_mem_take q)
  · rcases List.mem_cons.1 q with q | q
    · rw [q]; exact hi
    · exact h p (List.mem_of_mem_drop q)
theorem fresh_app {w w1 : World} {k e size g : Nat} {xs : List Value} {v1 : Value} (h : Appended w e size (.slice none 0 0) k xs v1 w1) (hg : g ∈ v1.ownBlock.toList) : w.heap.size ≤ g := by
  rcases h.place with q | q
  · rw [q] at hg; simp [Value.ownBlock] at hg
  · rw [q] at hg; simp at hg; omega
theorem fresh_app2 {w w1 w2 : World} {k k' e e' size size' g : Nat} {xs ys : List Value} {v1 v2 : Value} {o : Obj} (h : Appended w e size (.slice none 0 0) k xs v1 w1) (f : Fr [] w w1) (h2 : Appended (w1.alloc o) e' size' v1 k' ys v2 w2) (hg : g ∈ v2.ownBlock.toList) : w.heap.size ≤ g := by
  rcases h2.place with q | q
  · rw [q] at hg; exact fresh_app h hg
  · rw [q] at hg; simp at hg; have := f.size; omega
set_option maxRecDepth 100000 in
theorem rput_old (w : World) (b : Nat) (v : Value) (R : IPs) (room id x y : Int) (h : RefT w b v R room) (hi : U32 id) (hx : R[rank R id]? = some (id, y)) :
    Calls Tryd.prog 68 #[.pointer (some ⟨b, 0, none⟩), .int .u32 id, .int .i64 x] w (RChg w b v (R.set (rank R id) (id, x)) room (.tuple #[.int .i64 y, .int .i64 0])) := by
  have hh : hasId R id = true := (has_at h.up id).2 ⟨y, hx⟩
  have hA := at_any w b v R room id h hi
  rw [hh] at hA
  have hrl := (List.getElem?_eq_some_iff.1 hx).1
  have HH := Lib.hid h
  obtain ⟨r, hr⟩ : ∃ r, r = rank R id := ⟨_, rfl⟩
  obtain ⟨n, hn⟩ : ∃ n, n = R.length := ⟨_, rfl⟩
  rw [← hr] at hA hx hrl ⊢
  have HA := Lib.hid hA
  have HX := Lib.hid (And.intro hx hn)
  rw [← hn] at hrl
  clear h hh hA hr hx hn
  go_enter Tryd.func68, Tryd.ntmps68
  go_wp2_with fail
  (with_reducible refine (HA.out).mono ?_)
  rintro e w1 ⟨rfl, rfl⟩
  have h1 : RefT w.drew b v R room := HH.out.grow (Fr.refl [] w).drew
  obtain ⟨g, cap, cur, rfl⟩ : ∃ g cap, ∃ _ : Unit, v = .slice (some ⟨g, 0, none⟩) R.length cap := by
    rcases h1.own.2 with ⟨rfl, q⟩ | ⟨g, cap, cur, rfl, _⟩
    · have := HX.out.2; omega
    · exact ⟨g, cap, (), rfl⟩
  have d1 := h1.hd.at 1 (v := .slice (some ⟨g, 0, none⟩) R.length cap) rfl
  rw [← HX.out.2] at d1
  obtain ⟨pp, cp, cc, hc, hr⟩ := h1.rd
  cases cc
  obtain ⟨g2, o, hgg, c0, c1⟩ := hr r _ HX.out.1
  cases hgg
  dsimp only at c0 c1
  rw [Nat.zero_add] at c0 c1
  have e1 : w.drew.frozen? ⟨g, r * 2 + 1, none⟩ = false := h1.own.frozenAt _
  have g0 : (0 : Int) ≤ (r : Int) := by omega
  have g1 : (r : Int) < (n : Int) := by omega
  clear hr hc
  have HW := Lib.hid h1
  clear h1
  go_wp2_with fail
  refine bodyPost_ret (v := .tuple #[.int .i64 y, .int .i64 0]) (by simp [results, Tryd.results68, go_sem]) rfl ⟨rfl, .slice (some ⟨g, 0, none⟩) R.length cap, ?_, fun g hg => .inl hg, ?_⟩
  · have h1 := HW.out
    have hne : b ≠ g := by have := h1.notin; simpa [Value.ownBlock] using this
    refine ⟨h1.hd.other _ _ hne, ?_, up_set h1.up HX.out.1, fun p hp => ?_, by simpa using h1.lim⟩
    · have hs := own_setN h1.own rfl (r * 2 + 1) (.int .i64 x) (by rw [flat_len wideN, ← HX.out.2]; omega)
      rw [setN_flat HX.out.1] at hs
      rw [List.length_set]
      exact hs
    · rcases List.mem_or_eq_of_mem_set hp with q | q
      · exact h1.ids p q
      · rw [q]; exact h1.ids (id, y) (List.mem_of_getElem? HX.out.1)
  · exact (((Fr.refl [] w).drew.mono (by simp)).setCell _ _ (.inl (by simp [Value.ownBlock])))
set_option maxRecDepth 100000 in
theorem rput_full (w : World) (b : Nat) (v : Value) (R : IPs) (room id x : Int) (h : RefT w b v R room) (hi : U32 id) (hh : hasId R id = false) (hl : room ≤ (R.length : Int)) :
    Calls Tryd.prog 68 #[.pointer (some ⟨b, 0, none⟩), .int .u32 id, .int .i64 x] w fun e w' => e = .returned (.tuple #[.int .i64 0, .int .i64 5]) ∧ Fr [] w w' := by
  have hA := at_any w b v R room id h hi
  rw [hh] at hA
  obtain ⟨r, hr⟩ : ∃ r, r = rank R id := ⟨_, rfl⟩
  rw [← hr] at hA
  have HA := Lib.hid hA
  have h1 : RefT w.drew b v R room := h.grow (Fr.refl [] w).drew
  obtain ⟨p, cap, rfl, _⟩ := h1.rd
  have d0 := h1.hd.at 0 (v := .int .i64 room) rfl
  have d1 := h1.hd.at 1 (v := .slice p R.length cap) rfl
  obtain ⟨n, hn⟩ : ∃ n, n = R.length := ⟨_, rfl⟩
  rw [← hn] at d1 hl
  clear h h1 hh hA hr hn
  go_enter Tryd.func68, Tryd.ntmps68
  go_wp2_with fail
  (with_reducible refine (HA.out).mono ?_)
  rintro e w1 ⟨rfl, rfl⟩
  go_wp2_with fail
  go_region
  simp only [Exit.then]
  go_wp2_with fail
  refine bodyPost_ret (v := .tuple #[.int .i64 0, .int .i64 5]) (by simp [results, Tryd.results68, go_sem]) rfl ⟨rfl, ?_⟩
  exact (Fr.refl [] w).drew.drew
set_option maxRecDepth 100000 in
theorem rput_new (w : World) (b : Nat) (v : Value) (R : IPs) (room id x : Int) (h : RefT w b v R room) (hi : U32 id) (hh : hasId R id = false) (hl : ¬ room ≤ (R.length : Int)) (hrm : room ≤ 65536) :
    Calls Tryd.prog 68 #[.pointer (some ⟨b, 0, none⟩), .int .u32 id, .int .i64 x] w (RChg w b v (insAt R id x) room (.tuple #[.int .i64 0, .int .i64 0])) := by
  have hA := at_any w b v R room id h hi
  rw [hh] at hA
  have hrn : rank R id ≤ R.length := rank_le _ _
  have HI := Lib.hid (And.intro h (And.intro hi hh))
  have hins := insN_flat R (rank R id) id x
  obtain ⟨r, hr⟩ : ∃ r, r = rank R id := ⟨_, rfl⟩
  rw [← hr] at hA hrn hins
  have HA := Lib.hid hA
  have h1 : RefT w.drew.drew b v R room := h.grow (Fr.refl [] w).drew.drew
  have hfl := flat_len wideN R
  have hfo := flat_one wideN R
  have ho := h1.own
  have d0 := h1.hd.at 0 (v := .int .i64 room) rfl
  have d1 := h1.hd.at 1 (v := v) rfl
  have e1 := h1.hd.free 1
  obtain ⟨n, hn⟩ : ∃ n, n = R.length := ⟨_, rfl⟩
  obtain ⟨xs, hxs⟩ : ∃ xs, xs = flat payN R := ⟨_, rfl⟩
  rw [← hn] at hl hrn ho
  rw [← hn, ← hxs] at hfl
  rw [← hxs] at hfo ho hins
  have HN := Lib.hid (And.intro hn (And.intro hr (And.intro hxs hins)))
  clear h h1 hh hA hr hn hxs hins
  rcases ho.2 with ⟨rfl, rfl⟩ | ⟨g, cap, cur, rfl, _, hg, hnc, hcm, hcs, _⟩
  · obtain rfl : r = 0 := by omega
    have hx0 : xs = [] := by
      have := ho.1
      exact List.length_eq_zero_iff.1 (by omega)
    subst hx0
    clear ho hfl hfo hrn
    go_enter Tryd.func68, Tryd.ntmps68
    go_wp2_with fail
    (with_reducible refine (HA.out).mono ?_)
    rintro e w1 ⟨rfl, rfl⟩
    go_wp2_with fail
    go_region
    simp only [Exit.then]
    go_wp2_with (at_builtin; go_must (first
      | (refine wpList_src _ rfl _ _ 50 rfl 154 (.agg #[.int .u32 0, .int .i64 0]) 2 16 Tryd.underlying50 infoR rfl (by decide) (.slice none 0 0) 0 [] rfl (World.ownsRow_nil _ _ _ _) (.slice none 0 0) 0 [] rfl (.inl ⟨rfl, rfl, rfl⟩) (by simp) (by unfold maxLen; omega) (by omega) ?_; intro v1 w3 happ; have HAP1 := Lib.hid happ; have F1 := Lib.hid (show Fr [] w.drew.drew w3 from happ.fr.mono (by simp [Value.ownBlock])); have D1 := Lib.hid d1; have E1 := Lib.hid e1; clear d1 e1; have d1 := (F1.out.cell HI.out.1.hd.lt (by simp)).trans D1.out; have e1 := (F1.out.frozen (HI.out.1.hd.lt : (⟨b, 1, none⟩ : Addr).block < _) (by simp)).trans E1.out; clear happ)
      | (refine wpList_app _ rfl _ _ 50 rfl 154 (.agg #[.int .u32 0, .int .i64 0]) 2 16 Tryd.underlying50 infoR rfl (by decide) v1 (0 + 0) ([] ++ []) rfl (HAP1.out.own.alloc _) ⟨w3.heap.size, 0, none⟩ 1 1 [.int .u32 id, .int .i64 x] rfl rfl (new_list w3 [.int .u32 id, .int .i64 x] 154 _ rfl) (by intro u hu; simp at hu; rcases hu with rfl | rfl <;> rfl) (by unfold maxLen; omega) (by omega) ?_; intro v2 w4 happ; have HAP2 := Lib.hid happ; have F2 := Lib.hid (show Fr [] w.drew.drew w4 from (F1.out.alloc _).trans happ.fr (fun y hy => .inr (fresh_app HAP1.out hy))); clear d1 e1; have d1 := (F2.out.cell HI.out.1.hd.lt (by simp)).trans D1.out; have e1 := (F2.out.frozen (HI.out.1.hd.lt : (⟨b, 1, none⟩ : Addr).block < _) (by simp)).trans E1.out; clear happ)
      | (refine wpList_src _ rfl _ _ 50 rfl 154 (.agg #[.int .u32 0, .int .i64 0]) 2 16 Tryd.underlying50 infoR rfl (by decide) v2 (0 + 0 + 1) _ rfl HAP2.out.own (.slice none 0 0) 0 [] rfl (.inl ⟨rfl, rfl, rfl⟩) (by simp) (by unfold maxLen; omega) (by omega) ?_; intro v3 w5 happ; obtain ⟨p3, c3, rfl⟩ := own_form happ.own; have HAP3 := Lib.hid happ; have F3 := Lib.hid (show Fr [] w.drew.drew w5 from F2.out.trans happ.fr (fun y hy => .inr (fresh_app2 HAP1.out F1.out HAP2.out hy))); clear d1 e1; have d1 := (F3.out.cell HI.out.1.hd.lt (by simp)).trans D1.out; have e1 := (F3.out.frozen (HI.out.1.hd.lt : (⟨b, 1, none⟩ : Addr).block < _) (by simp)).trans E1.out; clear happ)))
    all_goals
      refine bodyPost_ret (v := .tuple #[.int .i64 0, .int .i64 0]) (by simp [results, Tryd.results68, go_sem]) rfl ⟨rfl, .slice p3 (0 + 0 + 1 + 0) c3, ?_⟩
      have hff : ∀ g, (Value.slice p3 (0 + 0 + 1 + 0) c3).ownBlock = some g → w.drew.drew.heap.size ≤ g := fun g hg => by
        rcases HAP3.out.place with q | q
        · rw [q] at hg; exact fresh_app2 HAP1.out F1.out HAP2.out (by simp [hg])
        · rw [q] at hg; simp at hg; have := F2.out.size; omega
      have hlen : 0 + 0 + 1 + 0 = (insAt R id x).length := by
        unfold insAt
        rw [List.length_append, List.length_take, List.length_cons, List.length_drop, ← HN.out.1, ← HN.out.2.1]
        omega
      have he := ref_store (Qs := insAt R id x) (HI.out.1.grow (Fr.refl [] w).drew.drew) F3.out HAP3.out.own hlen (by rw [List.nil_append]; unfold insAt; rw [← HN.out.2.1]; exact (by simpa [oneN, payN] using HN.out.2.2.2.symm)) hff (up_ins HI.out.1.up x HI.out.2.2) (ins_ids HI.out.1.ids HI.out.2.1) (by rw [← hlen]; omega)
      simp only [Nat.zero_add] at he
      have he2 : Fr [b] w.drew.drew (w5.setCell ⟨b, 1, none⟩ (.slice p3 (1 + 0) c3)) := he.2
      have f0 : Fr [b] w w.drew.drew := (Fr.refl [] w).drew.drew.mono (by simp)
      exact ⟨by simpa only [Nat.zero_add] using he.1, fun g hg => .inr (hff g hg), f0.trans he2 (fun y hy => .inl hy)⟩
  · have hs1 : Src w.drew.drew (.slice (some ⟨g, 0, none⟩) r cap) r 2 (xs.take (r * 2)) := .inr ⟨_, cap, rfl, by rw [List.length_take]; omega, fun j u hj => by
      rw [List.getElem?_take] at hj
      split at hj
      · exact ho.cells (g := g) rfl j u hj
      · cases hj⟩
    have HS1 := Lib.hid hs1
    have HO := Lib.hid (And.intro ho (And.intro hfl (And.intro hfo (And.intro hcs hcm))))
    have g0 : (0 : Int) ≤ (r : Int) := by omega
    have g1 : (r : Int) ≤ (cap : Int) := by omega
    have g2 : (r : Int) ≤ (n : Int) := by omega
    clear hs1 ho hfl hfo hg hcs hcm
    go_enter Tryd.func68, Tryd.ntmps68
    go_wp2_with fail
    (with_reducible refine (HA.out).mono ?_)
    rintro e w1 ⟨rfl, rfl⟩
    go_wp2_with fail
    go_region
    simp only [Exit.then]
    go_wp2_with (at_builtin; go_must (first
      | (refine wpList_src _ rfl _ _ 50 rfl 154 (.agg #[.int .u32 0, .int .i64 0]) 2 16 Tryd.underlying50 infoR rfl (by decide) (.slice none 0 0) 0 [] rfl (World.ownsRow_nil _ _ _ _) (.slice (some ⟨g, 0, none⟩) r cap) r (xs.take (r * 2)) rfl HS1.out (fun u hu => HO.out.2.2.1 u (List.mem_of_mem_take hu)) (by unfold maxLen; omega) (by omega) ?_; intro v1 w3 happ; have HAP1 := Lib.hid happ; have F1 := Lib.hid (show Fr [] w.drew.drew w3 from happ.fr.mono (by simp [Value.ownBlock])); have D1 := Lib.hid d1; have E1 := Lib.hid e1; clear d1 e1; have d1 := (F1.out.cell HI.out.1.hd.lt (by simp)).trans D1.out; have e1 := (F1.out.frozen (HI.out.1.hd.lt : (⟨b, 1, none⟩ : Addr).block < _) (by simp)).trans E1.out; clear happ)
      | (refine wpList_app _ rfl _ _ 50 rfl 154 (.agg #[.int .u32 0, .int .i64 0]) 2 16 Tryd.underlying50 infoR rfl (by decide) v1 (0 + r) ([] ++ (xs.take (r * 2))) rfl (HAP1.out.own.alloc _) ⟨w3.heap.size, 0, none⟩ 1 1 [.int .u32 id, .int .i64 x] rfl rfl (new_list w3 [.int .u32 id, .int .i64 x] 154 _ rfl) (by intro u hu; simp at hu; rcases hu with rfl | rfl <;> rfl) (by unfold maxLen; omega) (by omega) ?_; intro v2 w4 happ; have HAP2 := Lib.hid happ; have F2 := Lib.hid (show Fr [] w.drew.drew w4 from (F1.out.alloc _).trans happ.fr (fun y hy => .inr (fresh_app HAP1.out hy))); clear d1 e1; have d1 := (F2.out.cell HI.out.1.hd.lt (by simp)).trans D1.out; have e1 := (F2.out.frozen (HI.out.1.hd.lt : (⟨b, 1, none⟩ : Addr).block < _) (by simp)).trans E1.out; clear happ)
      | (refine wpList_src _ rfl _ _ 50 rfl 154 (.agg #[.int .u32 0, .int .i64 0]) 2 16 Tryd.underlying50 infoR rfl (by decide) v2 (0 + r + 1) _ rfl HAP2.out.own (.slice (some (if cap = r then ⟨g, 0, none⟩ else ⟨g, r * 2, none⟩)) (n - r) (cap - r)) (n - r) (xs.drop (r * 2)) (by simp [Act.eval]; split <;> rfl) (tail_src (own_fr HO.out.1 F2.out (by simp)) hrn rfl) (fun u hu => HO.out.2.2.1 u (List.mem_of_mem_drop hu)) (by unfold maxLen; omega) (by omega) ?_; intro v3 w5 happ; obtain ⟨p3, c3, rfl⟩ := own_form happ.own; have HAP3 := Lib.hid happ; have F3 := Lib.hid (show Fr [] w.drew.drew w5 from F2.out.trans happ.fr (fun y hy => .inr (fresh_app2 HAP1.out F1.out HAP2.out hy))); clear d1 e1; have d1 := (F3.out.cell HI.out.1.hd.lt (by simp)).trans D1.out; have e1 := (F3.out.frozen (HI.out.1.hd.lt : (⟨b, 1, none⟩ : Addr).block < _) (by simp)).trans E1.out; clear happ)))
    all_goals
      refine bodyPost_ret (v := .tuple #[.int .i64 0, .int .i64 0]) (by simp [results, Tryd.results68, go_sem]) rfl ⟨rfl, .slice p3 (0 + r + 1 + (n - r)) c3, ?_⟩
      have hff : ∀ g, (Value.slice p3 (0 + r + 1 + (n - r)) c3).ownBlock = some g → w.drew.drew.heap.size ≤ g := fun g hg => by
        rcases HAP3.out.place with q | q
        · rw [q] at hg; exact fresh_app2 HAP1.out F1.out HAP2.out (by simp [hg])
        · rw [q] at hg; simp at hg; have := F2.out.size; omega
      have hlen : 0 + r + 1 + (n - r) = (insAt R id x).length := by
        unfold insAt
        rw [List.length_append, List.length_take, List.length_cons, List.length_drop, ← HN.out.1, ← HN.out.2.1]
        omega
      have he := ref_store (Qs := insAt R id x) (HI.out.1.grow (Fr.refl [] w).drew.drew) F3.out HAP3.out.own hlen (by rw [List.nil_append]; unfold insAt; rw [← HN.out.2.1]; exact HN.out.2.2.2.symm) hff (up_ins HI.out.1.up x HI.out.2.2) (ins_ids HI.out.1.ids HI.out.2.1) (by rw [← hlen]; omega)
      simp only [Nat.zero_add] at he
      have he2 : Fr [b, g] w.drew.drew (w5.setCell ⟨b, 1, none⟩ (.slice p3 (r + 1 + (n - r)) c3)) := he.2
      have f0 : Fr [b, g] w w.drew.drew := (Fr.refl [] w).drew.drew.mono (by simp)
      exact ⟨by simpa only [Nat.zero_add] using he.1, fun g hg => .inr (hff g hg), f0.trans he2 (fun y hy => .inl hy)⟩
end Go.Proofs.YtgoolkgjcmdilaaDoor
