/-
  Plain laws: the document's pairs as pairs of the table; what a step makes of them.
-/
import Derived.Test.YtgoolkgjcmdilaaDoorPaiA
namespace Go.Proofs.YtgoolkgjcmdilaaDoor
open Go.RowKit
set_option linter.unusedVariables false
set_option linter.unusedSimpArgs false

theorem mapV_rank (R : IPs) (id : Int) : rank (mapV R) id = rank R id := by
  unfold rank mapV
  rw [List.countP_map]
  rfl
theorem mapV_has (R : IPs) (id : Int) : hasId (mapV R) id = hasId R id := by
  unfold hasId mapV
  rw [List.any_map]
  rfl
theorem mapV_set (R : IPs) (i : Nat) (id x : Int) : (mapV R).set i (id, (x, sv x)) = mapV (R.set i (id, x)) := by simp [mapV, List.map_set]
theorem mapV_ins (R : IPs) (id x : Int) : insAt (mapV R) id (x, sv x) = mapV (insAt R id x) := by
  unfold insAt
  rw [mapV_rank]
  simp [mapV, List.map_take, List.map_drop]
theorem mapV_erase (R : IPs) (i : Nat) : (mapV R).eraseIdx i = mapV (R.eraseIdx i) := by
  simp [mapV, List.eraseIdx_eq_take_drop_succ, List.map_take, List.map_drop]
theorem mapV_nxt (R : IPs) (id : Int) (all : Bool) : nxtV (mapV R) id all = nxtR R id all := by
  unfold nxtV nxtR
  rw [mapV_rank, mapV_has]

/-- A step on tables. -/
structure Stp where
  «do» : Int
  other : Bool
  id : Int
  val : Int
  all : Bool
def Stp.val' (x : Stp) : Value := .agg #[.int .i64 x.do, .bool x.other, .int .u32 x.id, .int .i64 x.val, .bool x.all]
def putR (R : IPs) (room id x : Int) : IPs := if hasId R id then R.set (rank R id) (id, x) else if room ≤ (R.length : Int) then R else insAt R id x
def delR (R : IPs) (id : Int) : IPs := if hasId R id then R.eraseIdx (rank R id) else R
/-- What a step makes of the pairs. -/
def stepR (R : IPs) (room : Int) (x : Stp) : IPs := if x.do = 0 then putR R room x.id x.val else if x.do = 2 then delR R x.id else R
theorem putR_len {R : IPs} {room id x : Int} (h : (R.length : Int) ≤ room) : ((putR R room id x).length : Int) ≤ room := by
  unfold putR
  split
  · simpa using h
  · split
    · exact h
    · have h1 := rank_le R id
      unfold insAt
      simp only [List.length_append, List.length_take, List.length_cons, List.length_drop]
      omega
theorem delR_len (R : IPs) (id : Int) : (delR R id).length ≤ R.length := by
  unfold delR
  split
  · rw [List.length_eraseIdx]; split <;> omega
  · exact Nat.le_refl _
end Go.Proofs.YtgoolkgjcmdilaaDoor
