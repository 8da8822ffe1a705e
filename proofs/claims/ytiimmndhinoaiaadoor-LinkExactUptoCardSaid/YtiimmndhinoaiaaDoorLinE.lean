/-
  What All of a line of texts tells; works. Printed by genLinE.py.
-/
import Derived.Test.YtiimmndhinoaiaaDoorLinS
import Derived.Test.YtiimmndhinoaiaaDoorLinI
import Derived.Test.YtiimmndhinoaiaaDoorRangeO
namespace Go.Proofs.YtiimmndhinoaiaaDoor
open Go.RowKit Go.Shelf
set_option linter.unusedVariables false
attribute [local go_sem] Oper.semAt_some

/-- What a round keeps: these blocks; the books from B on. -/
def Kpb (S : List Nat) (B : Nat) (W W' : World) : Prop := (∀ k, k ∈ S → W'.heap[k]? = W.heap[k]?) ∧ KeepsFrom B W W'
theorem Kpb.trans {S : List Nat} {D : Nat} {A B C : World} (h : Kpb S D A B) (k : Kpb S D B C) : Kpb S D A C := ⟨fun i hi => (k.1 i hi).trans (h.1 i hi), h.2.trans k.2⟩
theorem Kpb.put {S : List Nat} {W : World} {B l : Nat} (o' : Obj) (hl : l ∉ S) (hB : l < B) : Kpb S B W (W.putObj l o') :=
  ⟨fun k hk => World.putObj_heap_other (by rintro rfl; exact hl hk), by simp [World.putObj], fun k o hk h _ => (World.putObj_heap_other (by omega)).trans h⟩
theorem Kpb.of_fr {S T : List Nat} {W W' : World} (B : Nat) (h : Fr T W W') (hs : ∀ k, k ∈ S → k < W.heap.size ∧ k ∉ T) (ht : ∀ k, k ∈ T → ∃ c e, Blk W k c e) : Kpb S B W W' :=
  ⟨fun k hk => h.block k (hs k hk).1 (hs k hk).2, kf_of_fr B h ht⟩
theorem LnS.AllHeld.kpb {B k : Nat} {vr : Value} {L : List ByteArray} {W W' : World} (h : LnS.AllHeld k vr L W) (f : Kpb (k :: vr.ownBlock.toList) B W W') : LnS.AllHeld k vr L W' := by
  refine ⟨(f.1 k (by simp)).trans h.1, h.2.1, ?_⟩
  rcases h.2.2 with hn | ⟨g, cap, cur, rfl, hb, hgg, rest⟩
  · exact .inl hn
  · exact .inr ⟨g, cap, cur, rfl, hb, (f.1 g (by simp [Value.ownBlock])).trans hgg, rest⟩

def strArg (x : ByteArray) : Array Value := #[.string x]

set_option maxRecDepth 100000 in
set_option maxHeartbeats 1000000 in
theorem all_tells (m k B : Nat) (vr : Value) (L : List ByteArray) (hL : L.length ≤ 4611686018427387904) :
    TellsO Fence.wide m Tryd.prog 32 #[.pointer (some ⟨k, 0, none⟩)] strArg [] (Kpb (k :: vr.ownBlock.toList) B) (fun xs => xs = L) (fun pre => pre <+: L) L.length (LnS.AllHeld k vr L) (LnS.AllHeld k vr L) (fun _ pre x _ => L[pre.length]? = some x) := by
  intro l J Jx W hW hJ hJx hY h0
  refine callsIn_of_wp Tryd.func32 rfl trivial ?_ rfl
  simp only [Tryd.ntmps32, List.size_toArray, List.length_cons, List.length_nil, Nat.reduceAdd, Nat.reduceSub, Array.replicate_succ, Array.replicate_zero, List.push_toArray, List.append_toArray, List.nil_append, List.cons_append]
  refine wpIn_wide.2 ?_
  have HJ := Lib.hid hJ
  have HY := Lib.hid hY
  have hform : ∃ p c, vr = .slice p L.length c ∧ (p = none → L.length = 0) ∧ ∀ a, p = some a → ∃ g, a = ⟨g, 0, none⟩ := by
    rcases hW.2.2 with ⟨h1, h2⟩ | ⟨g, cap, cur, h1, _⟩
    · exact ⟨none, 0, by rw [h1, h2], fun _ => h2, (fun a h => by cases h)⟩
    · exact ⟨_, cap, h1, (fun h => by cases h), (fun a h => ⟨g, by cases h; rfl⟩)⟩
  obtain ⟨p, c, hvr, hp0, hpa⟩ := hform
  have HV := Lib.hid hvr
  have c0 := hW.1.at 0 (v := vr) rfl
  rw [hvr] at c0
  have HW := Lib.hid (And.intro hW h0)
  clear hJ hJx hY hvr hW h0
  obtain ⟨n, hn⟩ : ∃ n, n = L.length := ⟨_, rfl⟩
  rw [← hn] at c0 hp0 hL
  have HN := Lib.hid hn
  clear hn
  go_wp2
  go_loopw [7] (fun i wr => ∃ j : Nat, i = .int .i64 j ∧ j ≤ n ∧ LnS.AllHeld k vr L wr ∧ J (L.take j) wr) (fun i _ => n - (intOf i).toNat)
  case atStart => exact ⟨0, rfl, Nat.zero_le _, HW.out.1, HW.out.2⟩
  case round =>
    obtain ⟨j, rfl, hj, hA, hJj⟩ := hrel
    obtain ⟨wi, rfl⟩ : ∃ wi : World, wi = wr := ⟨_, rfl⟩
    by_cases hlt : j < n
    · have hjl : j < L.length := by rw [← HN.out]; exact hlt
      have hpne : ∃ a, p = some a := by
        cases p with
        | none => have := hp0 rfl; omega
        | some a => exact ⟨a, rfl⟩
      obtain ⟨a, rfl⟩ := hpne
      obtain ⟨g, rfl⟩ := hpa a rfl
      obtain ⟨x, hx⟩ : ∃ x, L[j] = x := ⟨_, rfl⟩
      have cx : wi.cell? ⟨g, j, none⟩ = some (.string x) := by
        have h1 := hA.2
        rw [HV.out] at h1
        have := h1.cells (g := g) rfl j (.string x) (by simp [strs, hjl, hx])
        rw [Addr.add_lit] at this
        simpa using this
      have hsn : L.take j ++ [x] = L.take (j + 1) := by rw [List.take_succ_eq_append_getElem hjl, hx]
      obtain ⟨f, tm, asg, body, hy, hR⟩ := HY.out _ x wi hJj (by rw [List.length_take, Nat.min_eq_left (by omega), List.getElem?_eq_getElem hjl, hx]) (by rw [List.length_take]; omega)
      rw [hsn] at hR
      simp only [strArg] at hy
      have HR := Lib.hid hR
      have HA := Lib.hid hA
      have k1 : (0 : Int) ≤ (j : Int) := by omega
      have k2 : (j : Int) < (n : Int) := by omega
      clear hR hA hJj hsn hx hjl
      refine (wpIn_wide (n := m)).1 ?_
      gi_wp2
      refine ⟨fun h => by simp [Fence.wide] at h, HR.out.mono ?_⟩
      rintro e W3 ⟨hk3, (⟨rfl, hJ3⟩ | ⟨rfl, hJx3⟩)⟩
      · gi_wp2
        exact ⟨⟨j + 1, by go_num, by omega, HA.out.kpb hk3, hJ3⟩, by simp [intOf]; omega⟩
      · gi_wp2
        refine bodyPost_ret (results_none rfl _ _ _) rfl ⟨⟨_, rfl⟩, HA.out.kpb hk3, .inr ⟨_, List.take_prefix _ _, hJx3⟩⟩
    · obtain rfl : j = n := by omega
      have hJ' : J L wi := by rw [HN.out, List.take_of_length_le (Nat.le_refl _)] at hJj; exact hJj
      clear hJj
      go_wp2
      go_end0
      exact ⟨⟨_, rfl⟩, hA, .inl ⟨L, rfl, hJ'⟩⟩


theorem works_any (w : World) : Calls Tryd.prog 9 #[] w fun e w' => e = .returned (.bool true) ∧ Fr [] w w' := by
  have h1 := LnI.new_ok w 1 (by omega) (by omega)
  rw [show ((1 : Nat) : Int) = 1 from rfl] at h1
  have H1 := Lib.hid h1
  clear h1
  go_enter Tryd.func9, Tryd.ntmps9
  go_wp2_with fail
  (with_reducible refine H1.out.mono ?_)
  rintro e w1 ⟨rfl, l1, f1⟩
  have H2 := Lib.hid (LnI.put_ok w1 w.heap.size _ [] 1 _ 7 l1 (by omega) (by simp))
  have F1 := Lib.hid f1
  clear l1 f1
  go_wp2_with fail
  (with_reducible refine H2.out.mono ?_)
  rintro e w2 ⟨rfl, v2, l2, m2, f2⟩
  have F2 := Lib.hid (And.intro (F1.out.trans f2 (by intro x hx; simp [Value.ownBlock] at hx; omega)) m2)
  have H3 := Lib.hid (LnI.put_full w2 w.heap.size v2 [7] 1 _ 8 l2 (by omega) (by simp))
  have F2s := f2.size
  have F1s := F1.out.size
  have HS := Lib.hid (And.intro F1s F2s)
  clear l2 m2 f2 F2s F1s
  go_wp2_with fail
  (with_reducible refine H3.out.mono ?_)
  rintro e w3 ⟨rfl, l3, f3⟩
  have F3 := Lib.hid (F2.out.1.trans f3 (by simp))
  have H4 := Lib.hid (LnI.take_ok w3 w.heap.size v2 [7] 1 _ 5 l3 (by simp) (by simp))
  have hp : LnI.place 5 ([7] : List Int).length = 0 := by decide
  rw [hp] at H4
  clear l3 f3 hp
  go_wp2_with fail
  (with_reducible refine H4.out.mono ?_)
  rintro e w4 ⟨rfl, v4, l4, o4, f4⟩
  have F4 := Lib.hid (F3.out.trans f4 (by
    intro x hx
    rcases List.mem_cons.1 hx with h | h
    · exact .inr (by omega)
    · rcases F2.out.2 with h2 | ⟨g, h2, h3⟩
      · rw [h2] at h; simp [Value.ownBlock] at h
      · rw [h2] at h; simp at h; exact .inr (by have := HS.out.1; omega)))
  have H5 := Lib.hid (LnI.len_zero w4 w.heap.size v4 1 _ l4)
  clear l4 o4 f4
  go_wp2_with fail
  (with_reducible refine H5.out.mono ?_)
  rintro e w5 ⟨rfl, rfl⟩
  go_wp2
  go_ret
  exact ⟨rfl, F4.out⟩
end Go.Proofs.YtiimmndhinoaiaaDoor
