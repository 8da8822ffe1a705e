/-
  The document's table: Del.
-/
import Derived.Test.YtgoolkgjcmdilaaDoorRefC
import Derived.Test.YtgoolkgjcmdilaaDoorTabN
namespace Go.Proofs.YtgoolkgjcmdilaaDoor
open Go.RowKit
set_option linter.unusedVariables false
set_option linter.unusedSimpArgs false
attribute [local go_sem] Oper.semAt_some

set_option maxRecDepth 100000 in
theorem rdel_no (w : World) (b : Nat) (v : Value) (R : IPs) (room id : Int) (h : RefT w b v R room) (hi : U32 id) (hh : hasId R id = false) :
    Calls Tryd.prog 70 #[.pointer (some ⟨b, 0, none⟩), .int .u32 id] w fun e w' => e = .returned (.tuple #[.int .i64 0, .bool false]) ∧ Fr [] w w' := by
  have hA := at_any w b v R room id h hi
  rw [hh] at hA
  obtain ⟨r, hr⟩ : ∃ r, r = rank R id := ⟨_, rfl⟩
  rw [← hr] at hA
  have HA := Lib.hid hA
  clear h hh hA hr
  go_enter Tryd.func70, Tryd.ntmps70
  go_wp2_with fail
  (with_reducible refine (HA.out).mono ?_)
  rintro e w1 ⟨rfl, rfl⟩
  go_wp2_with fail
  refine bodyPost_ret (v := .tuple #[.int .i64 0, .bool false]) (by simp [results, Tryd.results70, go_sem]) rfl ⟨rfl, (Fr.refl [] w).drew⟩
theorem tail_src1 {w : World} {n r g cap : Nat} {xs : List Value} {v : Value} (h : w.ownsRow 0 154 2 (.slice (some ⟨g, 0, none⟩) n cap) n xs) (hr : r < n) (hv : v = .slice (some (if cap = r + 1 then ⟨g, 0, none⟩ else ⟨g, (r + 1) * 2, none⟩)) (n - (r + 1)) (cap - (r + 1))) : Src w v (n - (r + 1)) 2 (xs.drop (r * 2 + 2)) := by
  have := tail_src (r := r + 1) h hr hv
  rwa [Nat.succ_mul] at this
set_option maxRecDepth 100000 in
theorem rdel_yes (w : World) (b : Nat) (v : Value) (R : IPs) (room id x : Int) (h : RefT w b v R room) (hi : U32 id) (hx : R[rank R id]? = some (id, x)) :
    Calls Tryd.prog 70 #[.pointer (some ⟨b, 0, none⟩), .int .u32 id] w (RChg w b v (R.eraseIdx (rank R id)) room (.tuple #[.int .i64 x, .bool true])) := by
  have hh : hasId R id = true := (has_at h.up id).2 ⟨x, hx⟩
  have hA := at_any w b v R room id h hi
  rw [hh] at hA
  have hrn := (List.getElem?_eq_some_iff.1 hx).1
  have HI := Lib.hid (And.intro h hi)
  have hdel := delN_flat R (rank R id)
  have hn6 := h.lim
  obtain ⟨r, hr⟩ : ∃ r, r = rank R id := ⟨_, rfl⟩
  rw [← hr] at hA hrn hdel hx ⊢
  have HA := Lib.hid hA
  have h1 : RefT w.drew b v R room := h.grow (Fr.refl [] w).drew
  have hfl := flat_len wideN R
  have hfo := flat_one wideN R
  have ho := h1.own
  have d1 := h1.hd.at 1 (v := v) rfl
  have e1 := h1.hd.free 1
  have hp := h1.rd
  obtain ⟨n, hn⟩ : ∃ n, n = R.length := ⟨_, rfl⟩
  obtain ⟨xs, hxs⟩ : ∃ xs, xs = flat payN R := ⟨_, rfl⟩
  rw [← hn] at hrn ho hn6
  rw [← hn, ← hxs] at hfl
  rw [← hxs] at hfo ho hdel
  have HN := Lib.hid (And.intro hn (And.intro hr (And.intro hxs hdel)))
  rcases ho.2 with ⟨rfl, q⟩ | ⟨g, cap, cur, rfl, _, hg, hnc, hcm, hcs, _⟩
  · omega
  · obtain ⟨pp, cp, cc, _, h0⟩ := hp
    obtain rfl : pp = some ⟨g, 0, none⟩ := by injection cc with h1 _ _; exact h1.symm
    clear cc
    obtain ⟨g', o', hgg, c2, c3⟩ := h0 r _ hx
    cases hgg
    dsimp only at c2 c3
    rw [Nat.zero_add] at c2 c3
    have hs1 : Src w.drew (.slice (some ⟨g, 0, none⟩) r cap) r 2 (xs.take (r * 2)) := .inr ⟨_, cap, rfl, by rw [List.length_take]; omega, fun j u hj => by
      rw [List.getElem?_take] at hj
      split at hj
      · exact ho.cells (g := g) rfl j u hj
      · cases hj⟩
    have HS1 := Lib.hid hs1
    have HO := Lib.hid (And.intro ho (And.intro hfl (And.intro hfo (And.intro hcs hcm))))
    have g0 : (0 : Int) ≤ (r : Int) := by omega
    have g1 : (r : Int) ≤ (cap : Int) := by omega
    have g2 : (r : Int) < (n : Int) := by omega
    have g3 : (0 : Int) ≤ (r : Int) + 1 := by omega
    have g4 : (r : Int) + 1 ≤ (cap : Int) := by omega
    have g5 : (r : Int) + 1 ≤ (n : Int) := by omega
    have hwr : wrap64 ((r : Int) + 1) = (r : Int) + 1 := w64 (by omega)
    have HB := Lib.hid (And.intro hrn hn6)
    clear hs1 ho hfl hfo hg hcs hcm h0 h h1 hh hA hr hn hxs hdel hrn hn6
    go_enter Tryd.func70, Tryd.ntmps70
    go_wp2_with fail
    (with_reducible refine (HA.out).mono ?_)
    rintro e w1 ⟨rfl, rfl⟩
    go_wp2_with (at_builtin; go_must (first
      | (refine wpList_src _ rfl _ _ 50 rfl 154 (.agg #[.int .u32 0, .int .i64 0]) 2 16 Tryd.underlying50 infoR rfl (by decide) (.slice none 0 0) 0 [] rfl (World.ownsRow_nil _ _ _ _) (.slice (some ⟨g, 0, none⟩) r cap) r (xs.take (r * 2)) rfl HS1.out (fun u hu => HO.out.2.2.1 u (List.mem_of_mem_take hu)) (by have := HB.out; unfold maxLen; omega) (by have := HB.out; omega) ?_; intro v1 w3 happ; have HAP1 := Lib.hid happ; have F1 := Lib.hid (show Fr [] w.drew w3 from happ.fr.mono (by simp [Value.ownBlock])); have D1 := Lib.hid d1; have E1 := Lib.hid e1; clear d1 e1; have d1 := (F1.out.cell HI.out.1.hd.lt (by simp)).trans D1.out; have e1 := (F1.out.frozen (HI.out.1.hd.lt : (⟨b, 1, none⟩ : Addr).block < _) (by simp)).trans E1.out; clear happ)
      | (refine wpList_src _ rfl _ _ 50 rfl 154 (.agg #[.int .u32 0, .int .i64 0]) 2 16 Tryd.underlying50 infoR rfl (by decide) v1 (0 + r) _ rfl HAP1.out.own (.slice (some (if cap = r + 1 then ⟨g, 0, none⟩ else ⟨g, (r + 1) * 2, none⟩)) (n - (r + 1)) (cap - (r + 1))) (n - (r + 1)) (xs.drop (r * 2 + 2)) (by simp [Act.eval]; split <;> rfl) (tail_src1 (own_fr HO.out.1 F1.out (by simp)) HB.out.1 rfl) (fun u hu => HO.out.2.2.1 u (List.mem_of_mem_drop hu)) (by have := HB.out; unfold maxLen; omega) (by have := HB.out; omega) ?_; intro v3 w5 happ; obtain ⟨p3, c3, rfl⟩ := own_form happ.own; have HAP3 := Lib.hid happ; have F3 := Lib.hid (show Fr [] w.drew w5 from F1.out.trans happ.fr (fun y hy => .inr (fresh_app HAP1.out hy))); clear d1 e1; have d1 := (F3.out.cell HI.out.1.hd.lt (by simp)).trans D1.out; have e1 := (F3.out.frozen (HI.out.1.hd.lt : (⟨b, 1, none⟩ : Addr).block < _) (by simp)).trans E1.out; clear happ)))
    all_goals
      refine bodyPost_ret (v := .tuple #[.int .i64 x, .bool true]) (by simp [results, Tryd.results70, go_sem]) rfl ⟨rfl, .slice p3 (0 + r + (n - (r + 1))) c3, ?_⟩
      have hff : ∀ g, (Value.slice p3 (0 + r + (n - (r + 1))) c3).ownBlock = some g → w.drew.heap.size ≤ g := fun g hg => by
        rcases HAP3.out.place with q | q
        · rw [q] at hg; exact fresh_app HAP1.out (by simp [hg])
        · rw [q] at hg; simp at hg; have := F1.out.size; omega
      have hlen : 0 + r + (n - (r + 1)) = (R.eraseIdx r).length := by
        have := HB.out
        rw [List.length_eraseIdx, ← HN.out.1, if_pos this.1]
        omega
      have he := ref_store (Qs := R.eraseIdx r) (HI.out.1.grow (Fr.refl [] w).drew) F3.out HAP3.out.own hlen (by rw [List.nil_append]; exact HN.out.2.2.2.symm) hff (up_erase HI.out.1.up r) (fun p hp => HI.out.1.ids p (List.mem_of_mem_eraseIdx hp)) (by rw [← hlen]; have := HB.out; omega)
      simp only [Nat.zero_add] at he
      have he2 : Fr [b, g] w.drew (w5.setCell ⟨b, 1, none⟩ (.slice p3 (r + (n - (r + 1))) c3)) := he.2
      have f0 : Fr [b, g] w w.drew := (Fr.refl [] w).drew.mono (by simp)
      exact ⟨by simpa only [Nat.zero_add] using he.1, fun g hg => .inr (hff g hg), f0.trans he2 (fun y hy => .inl hy)⟩
end Go.Proofs.YtgoolkgjcmdilaaDoor
