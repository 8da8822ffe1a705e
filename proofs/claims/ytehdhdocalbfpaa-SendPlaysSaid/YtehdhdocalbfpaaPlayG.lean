/-
  What the iterator of All of a ring of events tells.
-/
import Derived.Test.YtehdhdocalbfpaaPlayF
import Derived.Test.YtehdhdocalbfpaaQueueNB
namespace Go.Proofs.Ytehdhdocalbfpaa
open Go.RowKit Go.Shelf ring
set_option linter.unusedVariables false
attribute [local go_sem ↓] newVar56
attribute [local go_sem] Oper.semAt_some ev_layEv_same can_new run_storeEv0 run_newEv run_newEv'

/-- The places and the events. -/
def numbered (L : List Ev) : List (Int × Ev) := L.zipIdx.map fun p => ((p.2 : Int), p.1)
theorem numbered_len (L : List Ev) : (numbered L).length = L.length := by simp [numbered]
theorem numbered_at (L : List Ev) {j : Nat} {x : Ev} (h : L[j]? = some x) : (numbered L)[j]? = some ((j : Int), x) := by
  simp [numbered, h]
/-- The list lies there. -/
def EHeld (k : Nat) (lv : Value) (L : List Ev) (W : World) : Prop := Blk W k #[lv] 42 ∧ W.ownsRow 0 56 8 lv L.length (evs L)
theorem EHeld.kpb {B k : Nat} {lv : Value} {L : List Ev} {W W' : World} (h : EHeld k lv L W) (f : Kpb (k :: lv.ownBlock.toList) B W W') : EHeld k lv L W' := by
  refine ⟨(f.1 k (by simp)).trans h.1, h.2.1, ?_⟩
  rcases h.2.2 with hn | ⟨g, cap, cur, rfl, hb, hgg, rest⟩
  · exact .inl hn
  · exact .inr ⟨g, cap, cur, rfl, hb, (f.1 g (by simp [Value.ownBlock])).trans hgg, rest⟩
theorem EHeld.fr0 {k : Nat} {lv : Value} {L : List Ev} {W W' : World} (h : EHeld k lv L W) (f : Fr [] W W') : EHeld k lv L W' := ⟨f.blk h.1 (by simp), own_fr h.2 f (by simp)⟩

theorem grown_fr {W W' : World} (f : Fr [] W W') : W.grownBy W' none := ⟨f.os, f.tape, f.output, f.size, fun k hk _ => f.block k hk (by simp)⟩
set_option maxRecDepth 100000 in
set_option maxHeartbeats 1000000 in
theorem eall_tells_any (m k B : Nat) (lv : Value) (L : List Ev) (hL : L.length ≤ 4611686018427387904) :
    Tells Fence.wide m Try.prog 79 #[.pointer (some ⟨k, 0, none⟩)] (fun (x : Int × Ev) => #[.int .i64 x.1, x.2.val]) [] (Kpb (k :: lv.ownBlock.toList) B) (fun xs => xs = numbered L) (fun pre => pre <+: numbered L) L.length (EHeld k lv L) (EHeld k lv L) := by
  intro l J Jx W hW hJ hJx hY h0
  refine callsIn_of_wp Try.func79 rfl trivial ?_ rfl
  simp only [Try.ntmps79, List.size_toArray, List.length_cons, List.length_nil, Nat.reduceAdd, Nat.reduceSub, Array.replicate_succ, Array.replicate_zero, List.push_toArray, List.append_toArray, List.nil_append, List.cons_append]
  refine wpIn_wide.2 ?_
  have HJ := Lib.hid hJ
  have HY := Lib.hid hY
  obtain ⟨p, c, hvr⟩ := own_form hW.2
  have HV := Lib.hid hvr
  have c0 := hW.1.at 0 (v := lv) rfl
  rw [hvr] at c0
  have HW := Lib.hid (And.intro hW h0)
  clear hJ hJx hY hvr hW h0
  obtain ⟨n, hn⟩ : ∃ n, n = L.length := ⟨_, rfl⟩
  rw [← hn] at c0 hL
  have HN := Lib.hid hn
  clear hn
  go_wp2
  go_loopw [7] (fun i wr => ∃ j : Nat, i = .int .i64 j ∧ j ≤ n ∧ EHeld k lv L wr ∧ W.heap.size ≤ wr.heap.size ∧ J ((numbered L).take j) wr) (fun i _ => n - (intOf i).toNat)
  case atStart => exact ⟨0, rfl, Nat.zero_le _, HW.out.1, Nat.le_refl _, HW.out.2⟩
  case round =>
    obtain ⟨j, rfl, hj, hA, hsz, hJj⟩ := hrel
    obtain ⟨wi, rfl⟩ : ∃ wi : World, wi = wr := ⟨_, rfl⟩
    by_cases hlt : j < n
    · have hjl : j < L.length := by rw [← HN.out]; exact hlt
      obtain ⟨x, hx⟩ : ∃ x, L[j]? = some x := ⟨_, List.getElem?_eq_getElem hjl⟩
      obtain ⟨g, rfl⟩ : ∃ g, p = some ⟨g, 0, none⟩ := by
        rcases hA.2.2 with ⟨_, h9⟩ | ⟨g, cap, cur, h9, _⟩
        · omega
        · rw [HV.out] at h9; cases h9; exact ⟨g, rfl⟩
      have cx : ev? wi g (j * 8) = some x.val := own_ev hA.2 HV.out hx
      have hsn : (numbered L).take j ++ [((j : Int), x)] = (numbered L).take (j + 1) := by
        have h7 := numbered_at L hx
        obtain ⟨h8, h9⟩ := List.getElem?_eq_some_iff.1 h7
        rw [List.take_succ_eq_append_getElem h8, h9]
      have f3 : Fr [] wi (layEv (wi.alloc (.cells Ev.zero.cells.toArray 56)) wi.heap.size 0 x) := (((Fr.refl [wi.heap.size] wi).alloc _).setEv 0 x (.inl (by simp))).mono (by simp)
      have ey := ev_layEv_same (wi.alloc (.cells Ev.zero.cells.toArray 56)) wi.heap.size 0 x (can_new wi)
      have hJ3 := HJ.out _ wi _ none hJj (grown_fr f3) (by simp)
      obtain ⟨ff, tm, asg, body, hy, hR⟩ := HY.out _ ((j : Int), x) _ hJ3 (by rw [List.length_take, numbered_len]; omega)
      rw [hsn] at hR
      have HR := Lib.hid hR
      have HA := Lib.hid (And.intro (hA.fr0 f3) (Nat.le_trans hsz f3.size))
      have k1 : (0 : Int) ≤ (j : Int) := by omega
      have k2 : (j : Int) < (n : Int) := by omega
      have hz := zero_cells
      have hcan : ∀ W : World, can8 (W.alloc (.cells Ev.zero.cells.toArray 56)) W.heap.size 0 = true := can_new
      clear hR hA hJj hsn hx hjl hJ3 f3 hsz
      refine (wpIn_wide (n := m)).1 ?_
      gi_wp2
      refine ⟨fun h => by simp [Fence.wide] at h, HR.out.mono ?_⟩
      rintro e W3 ⟨hk3, (⟨rfl, hJ3⟩ | ⟨rfl, hJx3⟩)⟩
      · gi_wp2
        exact ⟨⟨j + 1, by go_num, by omega, HA.out.1.kpb hk3, Nat.le_trans HA.out.2 hk3.2.size, hJ3⟩, by simp [intOf]; omega⟩
      · gi_wp2
        refine bodyPost_ret (results_none rfl _ _ _) rfl ⟨⟨_, rfl⟩, HA.out.1.kpb hk3, .inr ⟨_, List.take_prefix _ _, hJx3⟩⟩
    · obtain rfl : j = n := by omega
      have hJ' : J (numbered L) wi := by rw [HN.out, List.take_of_length_le (by rw [numbered_len]; exact Nat.le_refl _)] at hJj; exact hJj
      clear hJj
      go_wp2
      go_end0
      exact ⟨⟨_, rfl⟩, hA, .inl ⟨_, rfl, hJ'⟩⟩

end Go.Proofs.Ytehdhdocalbfpaa
