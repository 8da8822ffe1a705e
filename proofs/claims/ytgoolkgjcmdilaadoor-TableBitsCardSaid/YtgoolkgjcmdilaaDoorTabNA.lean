/-
  Tables of N: New, live, find.
-/
import Derived.Test.YtgoolkgjcmdilaaDoorTabP
import Derived.Test.YtgoolkgjcmdilaaDoorProg
namespace Go.Proofs.YtgoolkgjcmdilaaDoor
open Go.RowKit
set_option linter.unusedVariables false
set_option linter.unusedSimpArgs false
attribute [local go_sem] Oper.semAt_some

def payN (x : Int) : List Value := [.int .i64 x]
theorem wideN : Wide payN 1 := ⟨fun _ => rfl, fun x v hv => by simp [payN] at hv; rcases hv with rfl <;> rfl⟩
structure TabN (W : World) (b : Nat) (v : Value) (Ps : List (Int × (Int))) (room : Int) : Prop where
  hd : Blk W b #[.int .i64 room, v] 215
  own : W.ownsRow 0 227 2 v Ps.length (flat payN Ps)
  nn : v.ownBlock ≠ none
  up : Up Ps
  ids : ∀ p ∈ Ps, U32 p.1
  lim : (Ps.length : Int) ≤ room ∧ room ≤ 65536
/-- A slice of pairs reads. -/
def RowN (W : World) (g : Nat) (Ps : List (Int × (Int))) : Prop := ∀ j u, (flat payN Ps)[j]? = some u → W.cell? ⟨g, j, none⟩ = some u
theorem RowN.at {W : World} {g : Nat} {Ps : List (Int × (Int))} (h0 : RowN W g Ps) {i : Nat} {p : Int × (Int)} (h : Ps[i]? = some p) : W.cell? ⟨g, i * 2, none⟩ = some (.int .u32 p.1) ∧ W.cell? ⟨g, i * 2 + 1, none⟩ = some (.int .i64 p.2) :=
  ⟨h0 (i * 2) _ (flat_id wideN h), h0 (i * 2 + 1) _ (flat_pay wideN h (j := 0) rfl)⟩
theorem RowN.fr {W W' : World} {g : Nat} {Ps : List (Int × (Int))} (h : RowN W g Ps) (hf : Fr [] W W') : RowN W' g Ps :=
  fun j u hu => (hf.cell (World.block_lt_of_cell? W _ (h j u hu)) (by simp)).trans (h j u hu)
theorem TabN.row {W : World} {b : Nat} {v : Value} {Ps : List (Int × (Int))} {room : Int} (h : TabN W b v Ps room) :
    ∃ g cap, v = .slice (some ⟨g, 0, none⟩) Ps.length cap ∧ Ps.length ≤ cap ∧ cap ≤ maxLen ∧ g < W.heap.size ∧ RowN W g Ps := by
  rcases h.own.2 with ⟨rfl, _⟩ | ⟨g, cap, cur, rfl, _, hg, hnc, hm, _, _⟩
  · exact absurd rfl h.nn
  · refine ⟨g, cap, rfl, hnc, hm, (Array.getElem?_eq_some_iff.1 hg).1, fun j u hu => ?_⟩
    have := h.own.cells (g := g) rfl j u hu
    rw [Addr.add_lit] at this
    simpa using this
theorem TabN.notin {W : World} {b : Nat} {v : Value} {Ps : List (Int × (Int))} {room : Int} (h : TabN W b v Ps room) : b ∉ v.ownBlock.toList := own_notin h.own h.hd (by decide)
theorem TabN.fr {S : List Nat} {W W' : World} {b : Nat} {v : Value} {Ps : List (Int × (Int))} {room : Int} (h : TabN W b v Ps room) (hf : Fr S W W') (h1 : b ∉ S) (h2 : ∀ g, v.ownBlock = some g → g ∉ S) : TabN W' b v Ps room :=
  ⟨hf.blk h.hd h1, own_fr h.own hf h2, h.nn, h.up, h.ids, h.lim⟩
theorem TabN.grow {W W' : World} {b : Nat} {v : Value} {Ps : List (Int × (Int))} {room : Int} (h : TabN W b v Ps room) (hf : Fr [] W W') : TabN W' b v Ps room := h.fr hf (by simp) (by simp)

theorem newN_no (w : World) (room : Int) (hr : room < 0 ∨ 65536 < room) : Calls Tryd.prog 107 #[.int .i64 room] w fun e w' => e = .returned (.tuple #[.pointer none, .int .i64 2]) ∧ Fr [] w w' := by
  by_cases h1 : room < 0
  · clear hr
    go_enter Tryd.func107, Tryd.ntmps107
    go_wp2
    refine bodyPost_ret (v := .tuple #[.pointer none, .int .i64 2]) (by simp [results, Tryd.results107, go_sem]) rfl ⟨rfl, Fr.refl _ _⟩
  · have h2 : 65536 < room := by omega
    clear hr
    go_enter Tryd.func107, Tryd.ntmps107
    go_wp2
    refine bodyPost_ret (v := .tuple #[.pointer none, .int .i64 2]) (by simp [results, Tryd.results107, go_sem]) rfl ⟨rfl, Fr.refl _ _⟩
def NewNPost (w : World) (room : Int) (e : Ending) (w' : World) : Prop :=
  ∃ b v, e = .returned (.tuple #[.pointer (some ⟨b, 0, none⟩), .int .i64 0]) ∧ TabN w' b v [] room ∧ w.heap.size ≤ b ∧ (∀ g, v.ownBlock = some g → w.heap.size ≤ g) ∧ Fr [] w w'
theorem newN_ok (w : World) (room : Int) (h0 : 0 ≤ room) (h6 : room ≤ 65536) : Calls Tryd.prog 107 #[.int .i64 room] w (NewNPost w room) := by
  have h1 : ¬ room < 0 := by omega
  have h2 : ¬ 65536 < room := by omega
  go_enter Tryd.func107, Tryd.ntmps107
  go_wp2
  refine bodyPost_ret (v := .tuple #[.pointer (some ⟨w.heap.size + 1, 0, none⟩), .int .i64 0]) (by simp [results, Tryd.results107, go_sem]) rfl ?_
  unfold NewNPost
  refine ⟨w.heap.size + 1, .slice (some ⟨w.heap.size, 0, none⟩) 0 0, rfl, ⟨Blk.new_at (by simp) _ _, ?_, by simp [Value.ownBlock], List.Pairwise.nil, by simp, by simp; omega⟩, by omega, by simp [Value.ownBlock], ((Fr.refl [] w).alloc _).alloc _⟩
  exact (World.ownsRow_made (base := 0) (e := 227) (size := 2) w #[] 0 (Nat.zero_le _) (Nat.zero_le _) rfl).alloc _

theorem liveN_any (w : World) (b : Nat) (v : Value) (Ps : List (Int × (Int))) (room : Int) (h : TabN w b v Ps room) : Calls Tryd.prog 152 #[.pointer (some ⟨b, 0, none⟩)] w fun e w' => e = .returned (.bool true) ∧ w = w' := by
  obtain ⟨g, cap, rfl, _, _, _, _⟩ := h.row
  have c1 := h.hd.at 1 (v := .slice (some ⟨g, 0, none⟩) Ps.length cap) rfl
  go_enter Tryd.func152, Tryd.ntmps152
  go_wp2
  go_ret
  exact ⟨rfl, rfl⟩

theorem cmpN_any (w : World) (p id : Int) (x : Int) (hp : U32 p) (hi : U32 id) : Calls Tryd.prog 165 #[.agg #[.int .u32 p, .int .i64 x], .int .u32 id] w fun e w' => e = .returned (.int .i64 (if p < id then -1 else if id < p then 1 else 0)) ∧ Fr [] w w' := by
  have hb := Blk.new w #[.int .u32 p, .int .i64 x] 227
  have c0 := hb.at 0 (v := .int .u32 p) rfl
  have HF := Lib.hid ((Fr.refl [] w).alloc (.cells #[.int .u32 p, .int .i64 x] 227))
  clear hb
  by_cases h1 : p < id
  · rw [if_pos h1]
    go_enter Tryd.func165, Tryd.ntmps165
    go_wp2
    go_ret
    exact ⟨rfl, HF.out⟩
  · by_cases h2 : id < p
    · rw [if_neg h1, if_pos h2]
      go_enter Tryd.func165, Tryd.ntmps165
      go_wp2
      go_ret
      exact ⟨rfl, HF.out⟩
    · rw [if_neg h1, if_neg h2]
      go_enter Tryd.func165, Tryd.ntmps165
      go_wp2
      go_ret
      exact ⟨rfl, HF.out⟩
end Go.Proofs.YtgoolkgjcmdilaaDoor
