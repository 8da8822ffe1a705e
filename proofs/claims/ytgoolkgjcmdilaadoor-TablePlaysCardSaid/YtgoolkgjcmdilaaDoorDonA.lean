/-
  Both tables: each call as one contract, with one answer for both.
-/
import Derived.Test.YtgoolkgjcmdilaaDoorPaiC
namespace Go.Proofs.YtgoolkgjcmdilaaDoor
open Go.RowKit
set_option linter.unusedVariables false
set_option linter.unusedSimpArgs false

def valAt (R : IPs) (id : Int) : Int := (R.getD (rank R id) (0, 0)).2
def putA (R : IPs) (room id : Int) : Int × Int := if hasId R id then (valAt R id, 0) else if room ≤ (R.length : Int) then (0, 5) else (0, 0)
def getA (R : IPs) (id : Int) : Int × Bool := if hasId R id then (valAt R id, true) else (0, false)
def vV (n : Int) : Value := .agg #[.int .i64 n, .string (sv n)]
theorem sv_zero : sv 0 = ⟨#[]⟩ := rfl
theorem has_val {R : IPs} (hu : Up R) {id : Int} (h : hasId R id = true) : R[rank R id]? = some (id, valAt R id) := by
  obtain ⟨x, hx⟩ := (has_at hu id).1 h
  unfold valAt
  rw [List.getD_eq_getElem?_getD, hx]
  rfl
/-- What a call that changes a table leaves. -/
def TChg (w : World) (b : Nat) (v : Value) (Qs : VPL) (room : Int) (a : Value) (e : Ending) (w' : World) : Prop :=
  e = .returned a ∧ ∃ v', TabV w' b v' Qs room ∧ (∀ g, v'.ownBlock = some g → v.ownBlock = some g ∨ w.heap.size ≤ g) ∧ Fr (b :: v.ownBlock.toList) w w'
theorem tput_any (w : World) (b : Nat) (v : Value) (R : IPs) (room id x : Int) (h : TabV w b v (mapV R) room) (hi : U32 id) (hu : Up R) :
    Calls Tryd.prog 13 #[.pointer (some ⟨b, 0, none⟩), .int .u32 id, vV x] w (TChg w b v (mapV (putR R room id x)) room (.tuple #[vV (putA R room id).1, .int .i64 (putA R room id).2])) := by
  unfold putR putA vV
  cases hh : hasId R id with
  | true =>
    rw [if_pos rfl, if_pos rfl]
    have hy := mapV_at (has_val hu hh)
    rw [← mapV_rank] at hy
    refine (putV_old w b v (mapV R) room id (x, sv x) _ h hi hy).mono fun e w' hp => ?_
    obtain ⟨he, v', h1, h2, h3⟩ := hp
    rw [mapV_rank, mapV_set] at h1
    refine ⟨he, v', h1, fun g hg => ?_, h3⟩
    rcases h2 with q | ⟨g', q, hge⟩
    · exact .inl (by rw [← q]; exact hg)
    · rw [q] at hg; cases hg; exact .inr hge
  | false =>
    simp only [Bool.false_eq_true, if_false]
    have hh' : hasId (mapV R) id = false := by rw [mapV_has]; exact hh
    by_cases hr : room ≤ (R.length : Int)
    · rw [if_pos hr, if_pos hr]
      refine (putV_full w b v (mapV R) room id (x, sv x) h hi hh' (by rw [mapV_len]; exact hr)).mono fun e w' hp => ?_
      obtain ⟨he, hf⟩ := hp
      exact ⟨he, v, h.grow hf, fun g hg => .inl hg, hf.mono (by simp)⟩
    · rw [if_neg hr, if_neg hr]
      refine (putV_new w b v (mapV R) room id (x, sv x) h hi hh' (by rw [mapV_len]; exact hr)).mono fun e w' hp => ?_
      obtain ⟨he, v', h1, h2, h3⟩ := hp
      rw [mapV_ins] at h1
      refine ⟨he, v', h1, fun g hg => ?_, h3⟩
      rcases h2 with q | ⟨g', q, hge⟩
      · exact .inl (by rw [← q]; exact hg)
      · rw [q] at hg; cases hg; exact .inr hge
theorem rput_any (w : World) (b : Nat) (v : Value) (R : IPs) (room id x : Int) (h : RefT w b v R room) (hi : U32 id) (hrm : room ≤ 65536) :
    Calls Tryd.prog 68 #[.pointer (some ⟨b, 0, none⟩), .int .u32 id, .int .i64 x] w (RChg w b v (putR R room id x) room (.tuple #[.int .i64 (putA R room id).1, .int .i64 (putA R room id).2])) := by
  unfold putR putA
  cases hh : hasId R id with
  | true =>
    rw [if_pos rfl, if_pos rfl]
    exact rput_old w b v R room id x _ h hi (has_val h.up hh)
  | false =>
    simp only [Bool.false_eq_true, if_false]
    by_cases hr : room ≤ (R.length : Int)
    · rw [if_pos hr, if_pos hr]
      refine (rput_full w b v R room id x h hi hh hr).mono fun e w' hp => ?_
      exact ⟨hp.1, v, h.grow hp.2, fun g hg => .inl hg, hp.2.mono (by simp)⟩
    · rw [if_neg hr, if_neg hr]
      exact rput_new w b v R room id x h hi hh hr hrm
theorem tget_any (w : World) (b : Nat) (v : Value) (R : IPs) (room id : Int) (h : TabV w b v (mapV R) room) (hi : U32 id) (hu : Up R) :
    Calls Tryd.prog 60 #[.pointer (some ⟨b, 0, none⟩), .int .u32 id] w fun e w' => e = .returned (.tuple #[vV (getA R id).1, .bool (getA R id).2]) ∧ Fr [] w w' := by
  unfold getA vV
  cases hh : hasId R id with
  | true =>
    rw [if_pos rfl]
    have hy := mapV_at (has_val hu hh)
    rw [← mapV_rank] at hy
    exact getV_yes w b v (mapV R) room id _ h hi hy
  | false =>
    rw [if_neg (by decide)]
    exact getV_no w b v (mapV R) room id h hi (by rw [mapV_has]; exact hh)
theorem rget_any (w : World) (b : Nat) (v : Value) (R : IPs) (room id : Int) (h : RefT w b v R room) (hi : U32 id) :
    Calls Tryd.prog 69 #[.pointer (some ⟨b, 0, none⟩), .int .u32 id] w fun e w' => e = .returned (.tuple #[.int .i64 (getA R id).1, .bool (getA R id).2]) ∧ Fr [] w w' := by
  unfold getA
  cases hh : hasId R id with
  | true =>
    rw [if_pos rfl]
    exact rget_yes w b v R room id _ h hi (has_val h.up hh)
  | false =>
    rw [if_neg (by decide)]
    exact rget_no w b v R room id h hi hh
theorem tdel_any (w : World) (b : Nat) (v : Value) (R : IPs) (room id : Int) (h : TabV w b v (mapV R) room) (hi : U32 id) (hu : Up R) :
    Calls Tryd.prog 16 #[.pointer (some ⟨b, 0, none⟩), .int .u32 id] w (TChg w b v (mapV (delR R id)) room (.tuple #[vV (getA R id).1, .bool (getA R id).2])) := by
  unfold delR getA vV
  cases hh : hasId R id with
  | true =>
    rw [if_pos rfl, if_pos rfl]
    have hy := mapV_at (has_val hu hh)
    rw [← mapV_rank] at hy
    refine (delV_yes w b v (mapV R) room id _ h hi hy).mono fun e w' hp => ?_
    obtain ⟨he, v', h1, h2, h3⟩ := hp
    rw [mapV_rank, mapV_erase] at h1
    exact ⟨he, v', h1, fun g hg => .inl (by rw [← h2]; exact hg), h3⟩
  | false =>
    simp only [Bool.false_eq_true, if_false]
    refine (delV_no w b v (mapV R) room id h hi (by rw [mapV_has]; exact hh)).mono fun e w' hp => ?_
    exact ⟨hp.1, v, h.grow hp.2, fun g hg => .inl hg, hp.2.mono (by simp)⟩
theorem rdel_any (w : World) (b : Nat) (v : Value) (R : IPs) (room id : Int) (h : RefT w b v R room) (hi : U32 id) :
    Calls Tryd.prog 70 #[.pointer (some ⟨b, 0, none⟩), .int .u32 id] w (RChg w b v (delR R id) room (.tuple #[.int .i64 (getA R id).1, .bool (getA R id).2])) := by
  unfold delR getA
  cases hh : hasId R id with
  | true =>
    rw [if_pos rfl, if_pos rfl]
    exact rdel_yes w b v R room id _ h hi (has_val h.up hh)
  | false =>
    simp only [Bool.false_eq_true, if_false]
    refine (rdel_no w b v R room id h hi hh).mono fun e w' hp => ?_
    exact ⟨hp.1, v, h.grow hp.2, fun g hg => .inl hg, hp.2.mono (by simp)⟩
def nextA (R : IPs) (id : Int) (all : Bool) : Int × Int × Bool := match R[nxtR R id all]? with | some q => (q.1, q.2, true) | none => (0, 0, false)
theorem tnext_any (w : World) (b : Nat) (v : Value) (R : IPs) (room id : Int) (all : Bool) (h : TabV w b v (mapV R) room) (hi : U32 id) (hu : Up R) :
    Calls Tryd.prog 15 #[.pointer (some ⟨b, 0, none⟩), .int .u32 id, .bool all] w fun e w' => e = .returned (.tuple #[.int .u32 (nextA R id all).1, vV (nextA R id all).2.1, .bool (nextA R id all).2.2]) ∧ Fr [] w w' := by
  unfold nextA vV
  cases hx : R[nxtR R id all]? with
  | some q =>
    have hy := mapV_at hx
    rw [← mapV_nxt] at hy
    exact nextV_yes w b v (mapV R) room id all _ _ h hi hy
  | none =>
    have h1 := nxtR_le R hu id all
    rw [List.getElem?_eq_none_iff] at hx
    exact nextV_no w b v (mapV R) room id all h hi (by rw [mapV_nxt, mapV_len]; omega)
theorem rnextA_any (w : World) (b : Nat) (v : Value) (R : IPs) (room id : Int) (all : Bool) (h : RefT w b v R room) :
    Calls Tryd.prog 71 #[.pointer (some ⟨b, 0, none⟩), .int .u32 id, .bool all] w fun e w' => e = .returned (.tuple #[.int .u32 (nextA R id all).1, .int .i64 (nextA R id all).2.1, .bool (nextA R id all).2.2]) ∧ Fr [] w w' := by
  refine (rnext_any w b v R room id all h).mono fun e w' hp => ⟨hp.1.trans ?_, hp.2⟩
  unfold nextA
  cases R[nxtR R id all]? <;> rfl
end Go.Proofs.YtgoolkgjcmdilaaDoor
