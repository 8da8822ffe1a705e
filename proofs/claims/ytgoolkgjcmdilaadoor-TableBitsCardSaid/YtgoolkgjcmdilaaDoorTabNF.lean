/-
  Tables of N: slices.Delete.
-/
import Derived.Test.YtgoolkgjcmdilaaDoorTabNE
import Derived.Deep.RegionLaw
import Derived.Shelf.RegionOpenPlain
namespace Go.Proofs.YtgoolkgjcmdilaaDoor
open Go.RowKit
set_option linter.unusedVariables false
set_option linter.unusedSimpArgs false
attribute [local go_sem] Oper.semAt_some

theorem delN_flat (Ps : List (Int × (Int))) (i : Nat) : flat payN (Ps.eraseIdx i) = (flat payN Ps).take (i * 2) ++ (flat payN Ps).drop (i * 2 + 2) := by
  rw [List.eraseIdx_eq_take_drop_succ, flat_app, ← flat_take wideN, ← flat_drop wideN, show (i + 1) * (1 + 1) = i * 2 + 2 by omega]
theorem zeroN : ∀ w, (zeroValue 227).run Tryd.prog w = .ok (.agg #[.int .u32 0, .int .i64 0]) w := fun w => by kernel_rfl
set_option maxRecDepth 100000 in
set_option maxHeartbeats 4000000 in
theorem deleN_any (w : World) (g cap m : Nat) (cur : Array Value) (Ps : List (Int × (Int))) (i : Nat) (hg : Blk w g cur 227) (hm : cap ≤ maxLen) (hcs : cur.size = cap * 2) (hn : Ps.length = m + 1) (htake : cur.toList.take (Ps.length * 2) = flat payN Ps)
    (hi : i < m + 1) (hnc : m + 1 ≤ cap) (hl : m < 65536) :
    Calls Tryd.prog 163 #[.slice (some ⟨g, 0, none⟩) (m + 1) cap, .int .i64 (i : Nat), .int .i64 ((i : Int) + 1)] w fun e w' =>
      e = .returned (.slice (some ⟨g, 0, none⟩) m cap) ∧ w'.ownsRow 0 227 2 (.slice (some ⟨g, 0, none⟩) m cap) m (flat payN (Ps.eraseIdx i)) ∧ Fr [g] w w' := by
  obtain ⟨xs, hxs⟩ : ∃ xs, xs = flat payN Ps := ⟨_, rfl⟩
  have hxl : xs.length = (m + 1) * 2 := by rw [hxs, ← hn]; exact flat_len wideN Ps
  have hE := delN_flat Ps i
  have hEl : (flat payN (Ps.eraseIdx i)).length = m * 2 := by rw [flat_len wideN, List.length_eraseIdx_of_lt (by omega), hn]; rfl
  rw [← hxs] at hE htake
  rw [hn] at htake
  have hxo : ∀ v ∈ xs.drop (i * 2 + 2), v.oneCell' = true := fun v hv => flat_one wideN Ps v (hxs ▸ List.mem_of_mem_drop hv)
  have htk : cur.toList.take xs.length = xs := by rw [hxl]; exact htake
  have hcl : cur.toList.length = cap * 2 := by simpa using hcs
  have hfit : xs.length ≤ cur.toList.length := by rw [hxl, hcl]; omega
  have hpq : i * 2 ≤ i * 2 + 2 := by omega
  have hql : i * 2 + 2 ≤ xs.length := by rw [hxl]; omega
  have hdl : (xs.drop (i * 2 + 2)).length = (m - i) * 2 := by rw [List.length_drop, hxl]; omega
  have hpm : i * 2 + (xs.drop (i * 2 + 2)).length = m * 2 := by rw [hdl]; omega
  obtain ⟨i0, hi0, hz0, hzs, hzb⟩ := info_parts infoN
  have hsrc : ∀ j u, (xs.drop (i * 2 + 2))[j]? = some u → w.drew.cell? ((⟨g, i * 2 + 2, none⟩ : Addr).add j) = some u := fun j u hj => by
    rw [Addr.add_lit]
    rw [List.getElem?_drop] at hj
    have hj2 : cur.toList[i * 2 + 2 + j]? = some u := by
      rw [← htk, List.getElem?_take] at hj
      split at hj
      · exact hj
      · cases hj
    exact hg.at (i * 2 + 2 + j) (by simpa using hj2)
  obtain ⟨W1, hW1⟩ : ∃ W1, W1 = w.drew.setRow g (del1 cur.toList xs (i * 2) (i * 2 + 2)).toArray := ⟨_, rfl⟩
  have hap : ∀ ty (ad : Addr) c, (m - i ≠ 0 → ad = ⟨g, i * 2 + 2, none⟩) → (Builtin.append_ #[213, 213] ty #[.slice (some ⟨g, 0, none⟩) i cap, .slice (some ad) (m - i) c]).run Tryd.prog w.drew = .ok (.slice (some ⟨g, 0, none⟩) m cap) W1 := fun ty ad c had => by
    have h := run_append_room (P := Tryd.prog) w.drew 213 ty 227 i0 Tryd.underlying213 hi0 g i cap cur hg ad (m - i) c (xs.drop (i * 2 + 2)) (by rw [hzs, hdl]) (fun j u hj => by
      by_cases h0 : m - i = 0
      · have := (List.getElem?_eq_some_iff.1 hj).1
        rw [hdl, h0] at this
        omega
      · rw [had h0]
        exact hsrc j u hj) hxo (by omega) (by rw [hzs, hdl, hcs]; omega)
    rw [h, hW1, hzs, show i + (m - i) = m by omega]
    rfl
  have hg1 : Blk W1 g (del1 cur.toList xs (i * 2) (i * 2 + 2)).toArray 227 := by rw [hW1]; exact setRow_heap w.drew g cur _ 227 _ hg
  have hd1 := del1_len hpq hql hfit
  have hclr : ∀ ty c, (Builtin.clear_ #[213] ty #[.slice (some ⟨g, m * 2, none⟩) 1 c]).run Tryd.prog W1 = .ok (.tuple #[]) (W1.setRow g (del2 cur.toList xs [.int .u32 0, .int .i64 0] (i * 2) (i * 2 + 2) (m * 2)).toArray) := fun ty c => by
    have hst := run_storeCells_at Tryd.prog g (m * 2) 227 [.int .u32 0, .int .i64 0] 0 _ W1 hg1 (by rw [List.size_toArray, hd1, hcl]; simp; omega) (by intro v hv; simp at hv; rcases hv with rfl | rfl <;> rfl)
    have hz : (Builtin.zeroCells (.agg #[.int .u32 0, .int .i64 0] : Value).cells 1).toList = [.int .u32 0, .int .i64 0] := by simp [Builtin.zeroCells, Value.cells]; rfl
    simp only [Nat.add_zero] at hst
    simp [Builtin.clear_, run_underlying Tryd.underlying213, zeroN]
    rw [hz, hst]
    simp [del2]
  have HC := Lib.hid hclr
  have HAP := Lib.hid hap
  have HALL := Lib.hid (And.intro hE (And.intro hEl (And.intro htk (And.intro hfit (And.intro hpq (And.intro hql (And.intro hpm (And.intro hcl (And.intro hm (And.intro hW1 (And.intro hg1 hd1)))))))))))
  have hz2 : ¬ ((i : Int) = (i : Int) + 1) := by omega
  have hb1 : (0 : Int) ≤ (i : Int) + 1 := by omega
  have hin : i ≤ m + 1 := by omega
  have hin2 : (i : Int) + 1 ≤ (m : Int) + 1 := by omega
  have hc63 : cap ≤ 9223372036854775807 := by unfold maxLen at hm; omega
  have mixed : Tryd.prog.follows Departure.mixedOrders = true := by kernel_rfl
  have htn : ((i : Int) + 1).toNat = i + 1 := by omega
  have hb4 : ¬ (cap = i) := by omega
  have hb5 : ¬ (cap = m) := by omega
  have hb7 : (m : Int) + 1 ≤ (cap : Int) := by omega
  have hb8 : (i : Int) ≤ (cap : Int) := by omega
  clear hE hEl htk hfit hpq hql hpm hcl hm hW1 hg1 hd1 hclr hap hsrc hxo hdl hxl hxs hcs htake hn hg hi0 hz0 hzs hzb
  have hcl0 := HC.out 0 (cap - m)
  have HFIN := Lib.hid (show (.slice (some ⟨g, 0, none⟩) m cap : Value) = .slice (some ⟨g, 0, none⟩) m cap ∧ (W1.setRow g (del2 cur.toList xs [.int .u32 0, .int .i64 0] (i * 2) (i * 2 + 2) (m * 2)).toArray).ownsRow 0 227 2 (.slice (some ⟨g, 0, none⟩) m cap) m (flat payN (Ps.eraseIdx i)) ∧ Fr [g] w (W1.setRow g (del2 cur.toList xs [.int .u32 0, .int .i64 0] (i * 2) (i * 2 + 2) (m * 2)).toArray) from by
    obtain ⟨hE, hEl, htk, hfit, hpq, hql, hpm, hcl, hm, hW1, hg1, hd1⟩ := HALL.out
    refine ⟨rfl, ⟨hEl, .inr ⟨g, cap, _, rfl, Nat.zero_le _, setRow_heap W1 g _ _ 227 _ hg1, by omega, hm, ?_, ?_⟩⟩, ?_⟩
    · rw [List.size_toArray, del2_len hpq hql hfit (by rw [hcl]; simp; omega), hcl]
    · have := del2_take (zs := [.int .u32 0, .int .i64 0]) hpq hql htk hfit
      rw [hpm] at this
      rw [hE]
      exact this
    · rw [hW1]
      exact ((Fr.refl _ w).drew.setRow g _ (.inl (by simp))).setRow g _ (.inl (by simp)))
  by_cases hci : cap = i + 1
  · obtain rfl : i = m := by omega
    subst hci
    have hap2 : (Builtin.append_ #[213, 213] 213 #[.slice (some ⟨g, 0, none⟩) i (i + 1), .slice (some ⟨g, 0, none⟩) 0 0]).run Tryd.prog w.drew = .ok (.slice (some ⟨g, 0, none⟩) i (i + 1)) W1 := by
      have := HAP.out 213 ⟨g, 0, none⟩ 0 (fun h => absurd (Nat.sub_self _) h)
      rw [Nat.sub_self] at this
      exact this
    have HAP2 := Lib.hid hap2
    have hb9 : (i : Int) ≤ (i : Int) + 1 := by omega
    have hb10 : (0 : Int) ≤ (i : Int) := by omega
    rw [show i + 1 - i = 1 by omega] at hcl0
    clear hap2
    go_enter Tryd.func163, Tryd.ntmps163
    go_wp2_with fail
    go_region_law_o (refine step_appR rfl _ _ 213 213 rfl (.slice (some ⟨g, 0, none⟩) i (i + 1)) (.slice (some ⟨g, 0, none⟩) 0 0) (by simp [Act.eval, Act.put]) (by simp [Act.eval, Act.put]) HAP2.out ?_)
    go_wp2
    go_ret
    exact ⟨rfl, HFIN.out.2⟩
  · go_enter Tryd.func163, Tryd.ntmps163
    go_wp2_with fail
    go_region_law_o (refine step_appR rfl _ _ 213 213 rfl (.slice (some ⟨g, 0, none⟩) i cap) (.slice (some ⟨g, i * 2 + 2, none⟩) (m - i) (cap - (i + 1))) (by simp [Act.eval, Act.put]) (by simp [Act.eval, Act.put]) (HAP.out 213 _ (cap - (i + 1)) (fun _ => rfl)) ?_)
    go_wp2
    go_ret
    exact ⟨rfl, HFIN.out.2⟩
end Go.Proofs.YtgoolkgjcmdilaaDoor
