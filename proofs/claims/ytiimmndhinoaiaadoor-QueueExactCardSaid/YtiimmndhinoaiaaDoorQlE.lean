/-
  What All of a ring of texts tells. Made from LinE.
-/
import Derived.Test.YtiimmndhinoaiaaDoorRgSF
import Derived.Test.YtiimmndhinoaiaaDoorRangeO
namespace Go.Proofs.YtiimmndhinoaiaaDoor
open Go.RowKit Go.Shelf
set_option linter.unusedVariables false
attribute [local go_sem] Oper.semAt_some
namespace Qu
/-- What a round keeps: these blocks; the books from B on. -/
def Kpb (S : List Nat) (B : Nat) (W W' : World) : Prop := (∀ k, k ∈ S → W'.heap[k]? = W.heap[k]?) ∧ KeepsFrom B W W'
theorem Kpb.trans {S : List Nat} {D : Nat} {A B C : World} (h : Kpb S D A B) (k : Kpb S D B C) : Kpb S D A C := ⟨fun i hi => (k.1 i hi).trans (h.1 i hi), h.2.trans k.2⟩
theorem Kpb.put {S : List Nat} {W : World} {B l : Nat} (o' : Obj) (hl : l ∉ S) (hB : l < B) : Kpb S B W (W.putObj l o') :=
  ⟨fun k hk => World.putObj_heap_other (by rintro rfl; exact hl hk), by simp [World.putObj], fun k o hk h _ => (World.putObj_heap_other (by omega)).trans h⟩
theorem Kpb.of_fr {S T : List Nat} {W W' : World} (B : Nat) (h : Fr T W W') (hs : ∀ k, k ∈ S → k < W.heap.size ∧ k ∉ T) (ht : ∀ k, k ∈ T → ∃ c e, Blk W k c e) : Kpb S B W W' :=
  ⟨fun k hk => h.block k (hs k hk).1 (hs k hk).2, kf_of_fr B h ht⟩
theorem held_kpb {B k : Nat} {vr : Value} {L : List ByteArray} {W W' : World} (h : RgS.AllHeld k vr L W) (f : Kpb (k :: vr.ownBlock.toList) B W W') : RgS.AllHeld k vr L W' := by
  refine ⟨(f.1 k (by simp)).trans h.1, h.2.1, ?_⟩
  rcases h.2.2 with hn | ⟨g, cap, cur, rfl, hb, hgg, rest⟩
  · exact .inl hn
  · exact .inr ⟨g, cap, cur, rfl, hb, (f.1 g (by simp [Value.ownBlock])).trans hgg, rest⟩

def prArg (x : Nat × ByteArray) : Array Value := #[.int .i64 (x.1 : Nat), .string x.2]
/-- The first j of the pairs. -/
def tk (L : List ByteArray) : Nat → List (Nat × ByteArray)
  | 0 => []
  | j + 1 => tk L j ++ [(j, L.getD j ⟨#[]⟩)]
theorem tk_len (L : List ByteArray) : ∀ j, (tk L j).length = j
  | 0 => rfl
  | j + 1 => by rw [tk, List.length_append, tk_len L j]; rfl

set_option maxRecDepth 100000 in
set_option maxHeartbeats 1000000 in
theorem qall_tells (m k B : Nat) (vr : Value) (L : List ByteArray) (hL : L.length ≤ 4611686018427387904) :
    TellsO Fence.wide m Tryd.prog 50 #[.pointer (some ⟨k, 0, none⟩)] prArg [] (Kpb (k :: vr.ownBlock.toList) B) (fun xs => xs.length = L.length) (fun pre => True) L.length (RgS.AllHeld k vr L) (RgS.AllHeld k vr L) (fun _ pre x _ => x.1 = pre.length ∧ L[pre.length]? = some x.2) := by
  intro l J Jx W hW hJ hJx hY h0
  refine callsIn_of_wp Tryd.func50 rfl trivial ?_ rfl
  simp only [Tryd.ntmps50, List.size_toArray, List.length_cons, List.length_nil, Nat.reduceAdd, Nat.reduceSub, Array.replicate_succ, Array.replicate_zero, List.push_toArray, List.append_toArray, List.nil_append, List.cons_append]
  refine wpIn_wide.2 ?_
  have HJ := Lib.hid hJ
  have HY := Lib.hid hY
  have hform : ∃ p c, vr = .slice p L.length c ∧ (p = none → L.length = 0) ∧ ∀ a, p = some a → ∃ g, a = ⟨g, 0, none⟩ := by
    rcases hW.2.2 with ⟨h1, h2⟩ | ⟨g, cap, cur, h1, _⟩
    · exact ⟨none, 0, by rw [h1, h2], fun _ => h2, (fun a h => by cases h)⟩
    · exact ⟨_, cap, h1, (fun h => by cases h), (fun a h => ⟨g, by cases h; rfl⟩)⟩
  obtain ⟨p, c, hvr, hp0, hpa⟩ := hform
  have HV := Lib.hid hvr
  have c0 := hW.1.at 0 (v := vr) rfl
  rw [hvr] at c0
  have HW := Lib.hid (And.intro hW h0)
  clear hJ hJx hY hvr hW h0
  obtain ⟨n, hn⟩ : ∃ n, n = L.length := ⟨_, rfl⟩
  rw [← hn] at c0 hp0 hL
  have HN := Lib.hid hn
  clear hn
  go_wp2
  go_loopw [7] (fun i wr => ∃ j : Nat, i = .int .i64 j ∧ j ≤ n ∧ RgS.AllHeld k vr L wr ∧ J (tk L j) wr) (fun i _ => n - (intOf i).toNat)
  case atStart => exact ⟨0, rfl, Nat.zero_le _, HW.out.1, HW.out.2⟩
  case round =>
    obtain ⟨j, rfl, hj, hA, hJj⟩ := hrel
    obtain ⟨wi, rfl⟩ : ∃ wi : World, wi = wr := ⟨_, rfl⟩
    by_cases hlt : j < n
    · have hjl : j < L.length := by rw [← HN.out]; exact hlt
      have hpne : ∃ a, p = some a := by
        cases p with
        | none => have := hp0 rfl; omega
        | some a => exact ⟨a, rfl⟩
      obtain ⟨a, rfl⟩ := hpne
      obtain ⟨g, rfl⟩ := hpa a rfl
      obtain ⟨x, hx⟩ : ∃ x, L[j] = x := ⟨_, rfl⟩
      have cx : wi.cell? ⟨g, j, none⟩ = some (.string x) := by
        have h1 := hA.2
        rw [HV.out] at h1
        have := h1.cells (g := g) rfl j (.string x) (by simp [strs, hjl, hx])
        rw [Addr.add_lit] at this
        simpa using this
      have hsn : tk L j ++ [(j, x)] = tk L (j + 1) := by rw [tk]; simp [List.getD_eq_getElem?_getD, hjl, hx]
      obtain ⟨f, tm, asg, body, hy, hR⟩ := HY.out _ (j, x) wi hJj ⟨(tk_len L j).symm, by rw [tk_len, List.getElem?_eq_getElem hjl, hx]⟩ (by rw [tk_len]; omega)
      rw [hsn] at hR
      simp only [prArg] at hy
      have HR := Lib.hid hR
      have HA := Lib.hid hA
      have k1 : (0 : Int) ≤ (j : Int) := by omega
      have k2 : (j : Int) < (n : Int) := by omega
      clear hR hA hJj hsn hx hjl
      refine (wpIn_wide (n := m)).1 ?_
      gi_wp2
      refine ⟨fun h => by simp [Fence.wide] at h, HR.out.mono ?_⟩
      rintro e W3 ⟨hk3, (⟨rfl, hJ3⟩ | ⟨rfl, hJx3⟩)⟩
      · gi_wp2
        exact ⟨⟨j + 1, by go_num, by omega, held_kpb HA.out hk3, hJ3⟩, by simp [intOf]; omega⟩
      · gi_wp2
        refine bodyPost_ret (results_none rfl _ _ _) rfl ⟨⟨_, rfl⟩, held_kpb HA.out hk3, .inr ⟨_, trivial, hJx3⟩⟩
    · obtain rfl : j = n := by omega
      have hJ' := Lib.hid hJj
      clear hJj
      go_wp2
      go_end0
      exact ⟨⟨_, rfl⟩, hA, .inl ⟨tk L j, by rw [tk_len]; exact HN.out, hJ'.out⟩⟩


end Qu
end Go.Proofs.YtiimmndhinoaiaaDoor
