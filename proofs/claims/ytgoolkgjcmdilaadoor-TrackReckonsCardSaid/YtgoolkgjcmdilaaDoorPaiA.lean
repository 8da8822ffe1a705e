/-
  What a walk over a table tells.
-/
import Derived.Test.YtgoolkgjcmdilaaDoorTabV
import Derived.Test.YtgoolkgjcmdilaaDoorRefD
import Derived.Test.YtgoolkgjcmdilaaDoorLivA
import Derived.Test.YtgoolkgjcmdilaaDoorRangeIn
import Derived.Test.YtgoolkgjcmdilaaDoorInvIn
namespace Go.Proofs.YtgoolkgjcmdilaaDoor
open Go.RowKit
set_option linter.unusedVariables false
set_option linter.unusedSimpArgs false
attribute [local go_sem] Oper.semAt_some

abbrev VPL := List (Int × (Int × ByteArray))
/-- What a round keeps: these blocks; the books from B on. -/
def Kpb (S : List Nat) (B : Nat) (W W' : World) : Prop := (∀ k, k ∈ S → W'.heap[k]? = W.heap[k]?) ∧ KeepsFrom B W W'
theorem Kpb.trans {S : List Nat} {D : Nat} {A B C : World} (h : Kpb S D A B) (k : Kpb S D B C) : Kpb S D A C := ⟨fun i hi => (k.1 i hi).trans (h.1 i hi), h.2.trans k.2⟩
theorem Kpb.put {S : List Nat} {W : World} {B l : Nat} (o' : Obj) (hl : l ∉ S) (hB : l < B) : Kpb S B W (W.putObj l o') :=
  ⟨fun k hk => World.putObj_heap_other (by rintro rfl; exact hl hk), by simp [World.putObj], fun k o hk h _ => (World.putObj_heap_other (by omega)).trans h⟩
theorem Kpb.of_fr {S T : List Nat} {W W' : World} (B : Nat) (h : Fr T W W') (hs : ∀ k, k ∈ S → k < W.heap.size ∧ k ∉ T) (ht : ∀ k, k ∈ T → ∃ c e, Blk W k c e) : Kpb S B W W' :=
  ⟨fun k hk => h.block k (hs k hk).1 (hs k hk).2, kf_of_fr B h ht⟩
/-- The pairs lie there. -/
def VHeld (k : Nat) (lv : Value) (L : VPL) (W : World) : Prop := Blk W k #[lv] 66 ∧ W.ownsRow 0 143 3 lv L.length (flat payV L)
theorem VHeld.kpb {B k : Nat} {lv : Value} {L : VPL} {W W' : World} (h : VHeld k lv L W) (f : Kpb (k :: lv.ownBlock.toList) B W W') : VHeld k lv L W' := by
  refine ⟨(f.1 k (by simp)).trans h.1, h.2.1, ?_⟩
  rcases h.2.2 with hn | ⟨g, cap, cur, rfl, hb, hgg, rest⟩
  · exact .inl hn
  · exact .inr ⟨g, cap, cur, rfl, hb, (f.1 g (by simp [Value.ownBlock])).trans hgg, rest⟩
theorem VHeld.fr0 {k : Nat} {lv : Value} {L : VPL} {W W' : World} (h : VHeld k lv L W) (f : Fr [] W W') : VHeld k lv L W' := ⟨f.blk h.1 (by simp), own_fr h.2 f (by simp)⟩
theorem grown_fr {W W' : World} (f : Fr [] W W') : W.grownBy W' none := ⟨f.os, f.tape, f.output, f.size, fun k hk _ => f.block k hk (by simp)⟩
/-- The value that stands for a number; the pairs of the document as pairs of the table. -/
def mapV (R : IPs) : VPL := R.map fun p => (p.1, (p.2, sv p.2))
theorem mapV_len (R : IPs) : (mapV R).length = R.length := by simp [mapV]
theorem mapV_at {R : IPs} {i : Nat} {q : Int × Int} (h : R[i]? = some q) : (mapV R)[i]? = some (q.1, (q.2, sv q.2)) := by simp [mapV, h]
def payVal (x : Int × Int) : Value := .agg #[.int .i64 x.2, .string (sv x.2)]
theorem VHeld.at {W : World} {k g cap n : Nat} {L : VPL} (h : VHeld k (.slice (some ⟨g, 0, none⟩) n cap) L W) {i : Nat} {p : Int} {x : Int × ByteArray} (hx : L[i]? = some (p, x)) : W.cell? ⟨g, i * 3, none⟩ = some (.int .u32 p) ∧ W.cell? ⟨g, i * 3 + 1, none⟩ = some (.int .i64 x.1) ∧ W.cell? ⟨g, i * 3 + 2, none⟩ = some (.string x.2) := by
  have hr : RowV W g L := fun j u hu => by
    have := h.2.cells (g := g) rfl j u hu
    rw [Addr.add_lit] at this
    simpa using this
  exact hr.at hx
set_option maxRecDepth 100000 in
set_option maxHeartbeats 1000000 in
theorem allV_tells (m k B : Nat) (lv : Value) (R : IPs) (hL : R.length ≤ 65536) :
    Tells Fence.wide m Tryd.prog 67 #[.pointer (some ⟨k, 0, none⟩)] (fun (x : Int × Int) => #[.int .u32 x.1, payVal x]) [] (Kpb (k :: lv.ownBlock.toList) B) (fun xs => xs = R) (fun pre => pre <+: R) R.length (VHeld k lv (mapV R)) (VHeld k lv (mapV R)) := by
  intro l J Jx W hW hJ hJx hY h0
  refine callsIn_of_wp Tryd.func67 rfl trivial ?_ rfl
  simp only [Tryd.ntmps67, List.size_toArray, List.length_cons, List.length_nil, Nat.reduceAdd, Nat.reduceSub, Array.replicate_succ, Array.replicate_zero, List.push_toArray, List.append_toArray, List.nil_append, List.cons_append]
  refine wpIn_wide.2 ?_
  have HJ := Lib.hid hJ
  have HY := Lib.hid hY
  obtain ⟨p, c, hvr⟩ := own_form hW.2
  have HV := Lib.hid hvr
  have c0 := hW.1.at 0 (v := lv) rfl
  rw [hvr] at c0
  have HW := Lib.hid (And.intro hW h0)
  clear hJ hJx hY hvr hW h0
  obtain ⟨n, hn⟩ : ∃ n, n = R.length := ⟨_, rfl⟩
  rw [mapV_len, ← hn] at c0
  rw [← hn] at hL
  have HN := Lib.hid hn
  clear hn
  go_wp2
  go_loopw [7] (fun i wr => ∃ j : Nat, i = .int .i64 j ∧ j ≤ n ∧ VHeld k lv (mapV R) wr ∧ W.heap.size ≤ wr.heap.size ∧ J (R.take j) wr) (fun i _ => n - (intOf i).toNat)
  case atStart => exact ⟨0, rfl, Nat.zero_le _, HW.out.1, Nat.le_refl _, HW.out.2⟩
  case round =>
    obtain ⟨j, rfl, hj, hA, hsz, hJj⟩ := hrel
    obtain ⟨wi, rfl⟩ : ∃ wi : World, wi = wr := ⟨_, rfl⟩
    by_cases hlt : j < n
    · have hjl : j < R.length := by rw [← HN.out]; exact hlt
      obtain ⟨⟨q, x⟩, hx⟩ : ∃ x, R[j]? = some x := ⟨_, List.getElem?_eq_getElem hjl⟩
      obtain ⟨g, rfl⟩ : ∃ g, p = some ⟨g, 0, none⟩ := by
        rcases hA.2.2 with ⟨_, h9⟩ | ⟨g, cap, cur, h9, _⟩
        · rw [mapV_len] at h9; omega
        · rw [HV.out] at h9; cases h9; exact ⟨g, rfl⟩
      have hA' := hA
      rw [HV.out] at hA'
      obtain ⟨x0, x1, x2⟩ := hA'.at (mapV_at hx)
      dsimp only at x0 x1 x2
      have hsn : R.take j ++ [(q, x)] = R.take (j + 1) := by
        obtain ⟨h8, h9⟩ := List.getElem?_eq_some_iff.1 hx
        rw [List.take_succ_eq_append_getElem h8, h9]
      obtain ⟨wn, hwn⟩ : ∃ wn, wn = wi.alloc (.cells #[.int .u32 q, .int .i64 x, .string (sv x)] 143) := ⟨_, rfl⟩
      have f3 : Fr [] wi wn := by rw [hwn]; exact (Fr.refl [] wi).alloc _
      have hJ3 := HJ.out _ wi _ none hJj (grown_fr f3) (by simp)
      obtain ⟨ff, tm, asg, body, hy, hR⟩ := HY.out _ (q, x) _ hJ3 (by rw [List.length_take]; omega)
      rw [hsn] at hR
      have HR := Lib.hid hR
      have HA := Lib.hid (And.intro (hA.fr0 f3) (Nat.le_trans hsz f3.size))
      have k1 : (0 : Int) ≤ (j : Int) := by omega
      have k2 : (j : Int) < (n : Int) := by omega
      clear hR hA hA' hJj hsn hx hjl hJ3 f3 hsz
      unfold payVal at hy
      subst hwn
      refine (wpIn_wide (n := m)).1 ?_
      gi_wp2
      refine ⟨fun h => by simp [Fence.wide] at h, HR.out.mono ?_⟩
      rintro e W3 ⟨hk3, (⟨rfl, hJ3⟩ | ⟨rfl, hJx3⟩)⟩
      · gi_wp2
        exact ⟨⟨j + 1, by go_num, by omega, HA.out.1.kpb hk3, Nat.le_trans HA.out.2 hk3.2.size, hJ3⟩, by simp [intOf]; omega⟩
      · gi_wp2
        refine bodyPost_ret (results_none rfl _ _ _) rfl ⟨⟨_, rfl⟩, HA.out.1.kpb hk3, .inr ⟨_, List.take_prefix _ _, hJx3⟩⟩
    · obtain rfl : j = n := by omega
      have hJ' : J R wi := by rw [HN.out, List.take_of_length_le (Nat.le_refl _)] at hJj; exact hJj
      clear hJj
      go_wp2
      go_end0
      exact ⟨⟨_, rfl⟩, hA, .inl ⟨_, rfl, hJ'⟩⟩
end Go.Proofs.YtgoolkgjcmdilaaDoor
