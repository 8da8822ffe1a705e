/-
  Tables of V: New, live, find.
-/
import Derived.Test.YtgoolkgjcmdilaaDoorTabP
import Derived.Test.YtgoolkgjcmdilaaDoorProg
namespace Go.Proofs.YtgoolkgjcmdilaaDoor
open Go.RowKit
set_option linter.unusedVariables false
set_option linter.unusedSimpArgs false
attribute [local go_sem] Oper.semAt_some

def payV (x : Int × ByteArray) : List Value := [.int .i64 x.1, .string x.2]
theorem wideV : Wide payV 2 := ⟨fun _ => rfl, fun x v hv => by simp [payV] at hv; rcases hv with rfl | rfl <;> rfl⟩
structure TabV (W : World) (b : Nat) (v : Value) (Ps : List (Int × (Int × ByteArray))) (room : Int) : Prop where
  hd : Blk W b #[.int .i64 room, v] 68
  own : W.ownsRow 0 143 3 v Ps.length (flat payV Ps)
  nn : v.ownBlock ≠ none
  up : Up Ps
  ids : ∀ p ∈ Ps, U32 p.1
  lim : (Ps.length : Int) ≤ room ∧ room ≤ 65536
/-- A slice of pairs reads. -/
def RowV (W : World) (g : Nat) (Ps : List (Int × (Int × ByteArray))) : Prop := ∀ j u, (flat payV Ps)[j]? = some u → W.cell? ⟨g, j, none⟩ = some u
theorem RowV.at {W : World} {g : Nat} {Ps : List (Int × (Int × ByteArray))} (h0 : RowV W g Ps) {i : Nat} {p : Int × (Int × ByteArray)} (h : Ps[i]? = some p) : W.cell? ⟨g, i * 3, none⟩ = some (.int .u32 p.1) ∧ W.cell? ⟨g, i * 3 + 1, none⟩ = some (.int .i64 p.2.1) ∧ W.cell? ⟨g, i * 3 + 2, none⟩ = some (.string p.2.2) :=
  ⟨h0 (i * 3) _ (flat_id wideV h), h0 (i * 3 + 1) _ (flat_pay wideV h (j := 0) rfl), h0 (i * 3 + 2) _ (flat_pay wideV h (j := 1) rfl)⟩
theorem RowV.fr {W W' : World} {g : Nat} {Ps : List (Int × (Int × ByteArray))} (h : RowV W g Ps) (hf : Fr [] W W') : RowV W' g Ps :=
  fun j u hu => (hf.cell (World.block_lt_of_cell? W _ (h j u hu)) (by simp)).trans (h j u hu)
theorem TabV.row {W : World} {b : Nat} {v : Value} {Ps : List (Int × (Int × ByteArray))} {room : Int} (h : TabV W b v Ps room) :
    ∃ g cap, v = .slice (some ⟨g, 0, none⟩) Ps.length cap ∧ Ps.length ≤ cap ∧ cap ≤ maxLen ∧ g < W.heap.size ∧ RowV W g Ps := by
  rcases h.own.2 with ⟨rfl, _⟩ | ⟨g, cap, cur, rfl, _, hg, hnc, hm, _, _⟩
  · exact absurd rfl h.nn
  · refine ⟨g, cap, rfl, hnc, hm, (Array.getElem?_eq_some_iff.1 hg).1, fun j u hu => ?_⟩
    have := h.own.cells (g := g) rfl j u hu
    rw [Addr.add_lit] at this
    simpa using this
theorem TabV.notin {W : World} {b : Nat} {v : Value} {Ps : List (Int × (Int × ByteArray))} {room : Int} (h : TabV W b v Ps room) : b ∉ v.ownBlock.toList := own_notin h.own h.hd (by decide)
theorem TabV.fr {S : List Nat} {W W' : World} {b : Nat} {v : Value} {Ps : List (Int × (Int × ByteArray))} {room : Int} (h : TabV W b v Ps room) (hf : Fr S W W') (h1 : b ∉ S) (h2 : ∀ g, v.ownBlock = some g → g ∉ S) : TabV W' b v Ps room :=
  ⟨hf.blk h.hd h1, own_fr h.own hf h2, h.nn, h.up, h.ids, h.lim⟩
theorem TabV.grow {W W' : World} {b : Nat} {v : Value} {Ps : List (Int × (Int × ByteArray))} {room : Int} (h : TabV W b v Ps room) (hf : Fr [] W W') : TabV W' b v Ps room := h.fr hf (by simp) (by simp)

theorem newV_no (w : World) (room : Int) (hr : room < 0 ∨ 65536 < room) : Calls Tryd.prog 11 #[.int .i64 room] w fun e w' => e = .returned (.tuple #[.pointer none, .int .i64 2]) ∧ Fr [] w w' := by
  by_cases h1 : room < 0
  · clear hr
    go_enter Tryd.func11, Tryd.ntmps11
    go_wp2
    refine bodyPost_ret (v := .tuple #[.pointer none, .int .i64 2]) (by simp [results, Tryd.results11, go_sem]) rfl ⟨rfl, Fr.refl _ _⟩
  · have h2 : 65536 < room := by omega
    clear hr
    go_enter Tryd.func11, Tryd.ntmps11
    go_wp2
    refine bodyPost_ret (v := .tuple #[.pointer none, .int .i64 2]) (by simp [results, Tryd.results11, go_sem]) rfl ⟨rfl, Fr.refl _ _⟩
def NewVPost (w : World) (room : Int) (e : Ending) (w' : World) : Prop :=
  ∃ b v, e = .returned (.tuple #[.pointer (some ⟨b, 0, none⟩), .int .i64 0]) ∧ TabV w' b v [] room ∧ w.heap.size ≤ b ∧ (∀ g, v.ownBlock = some g → w.heap.size ≤ g) ∧ Fr [] w w'
theorem newV_ok (w : World) (room : Int) (h0 : 0 ≤ room) (h6 : room ≤ 65536) : Calls Tryd.prog 11 #[.int .i64 room] w (NewVPost w room) := by
  have h1 : ¬ room < 0 := by omega
  have h2 : ¬ 65536 < room := by omega
  go_enter Tryd.func11, Tryd.ntmps11
  go_wp2
  refine bodyPost_ret (v := .tuple #[.pointer (some ⟨w.heap.size + 1, 0, none⟩), .int .i64 0]) (by simp [results, Tryd.results11, go_sem]) rfl ?_
  unfold NewVPost
  refine ⟨w.heap.size + 1, .slice (some ⟨w.heap.size, 0, none⟩) 0 0, rfl, ⟨Blk.new_at (by simp) _ _, ?_, by simp [Value.ownBlock], List.Pairwise.nil, by simp, by simp; omega⟩, by omega, by simp [Value.ownBlock], ((Fr.refl [] w).alloc _).alloc _⟩
  exact (World.ownsRow_made (base := 0) (e := 143) (size := 3) w #[] 0 (Nat.zero_le _) (Nat.zero_le _) rfl).alloc _

theorem liveV_any (w : World) (b : Nat) (v : Value) (Ps : List (Int × (Int × ByteArray))) (room : Int) (h : TabV w b v Ps room) : Calls Tryd.prog 62 #[.pointer (some ⟨b, 0, none⟩)] w fun e w' => e = .returned (.bool true) ∧ w = w' := by
  obtain ⟨g, cap, rfl, _, _, _, _⟩ := h.row
  have c1 := h.hd.at 1 (v := .slice (some ⟨g, 0, none⟩) Ps.length cap) rfl
  go_enter Tryd.func62, Tryd.ntmps62
  go_wp2
  go_ret
  exact ⟨rfl, rfl⟩

theorem cmpV_any (w : World) (p id : Int) (x : Int × ByteArray) (hp : U32 p) (hi : U32 id) : Calls Tryd.prog 128 #[.agg #[.int .u32 p, .int .i64 x.1, .string x.2], .int .u32 id] w fun e w' => e = .returned (.int .i64 (if p < id then -1 else if id < p then 1 else 0)) ∧ Fr [] w w' := by
  have hb := Blk.new w #[.int .u32 p, .int .i64 x.1, .string x.2] 143
  have c0 := hb.at 0 (v := .int .u32 p) rfl
  have HF := Lib.hid ((Fr.refl [] w).alloc (.cells #[.int .u32 p, .int .i64 x.1, .string x.2] 143))
  clear hb
  by_cases h1 : p < id
  · rw [if_pos h1]
    go_enter Tryd.func128, Tryd.ntmps128
    go_wp2
    go_ret
    exact ⟨rfl, HF.out⟩
  · by_cases h2 : id < p
    · rw [if_neg h1, if_pos h2]
      go_enter Tryd.func128, Tryd.ntmps128
      go_wp2
      go_ret
      exact ⟨rfl, HF.out⟩
    · rw [if_neg h1, if_neg h2]
      go_enter Tryd.func128, Tryd.ntmps128
      go_wp2
      go_ret
      exact ⟨rfl, HF.out⟩
end Go.Proofs.YtgoolkgjcmdilaaDoor
