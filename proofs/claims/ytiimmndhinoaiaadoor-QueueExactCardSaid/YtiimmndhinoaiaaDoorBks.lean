/-
  A line's books; a row of texts.
-/
import Derived.Test.YtiimmndhinoaiaaDoorRange
import Derived.Test.YtiimmndhinoaiaaDoorRangeIn
import Derived.Test.YtiimmndhinoaiaaDoorRows
import Derived.StillTailTactics
import Derived.Deep.RegionHeld3
import Derived.Deep.QuietTactic
import Derived.BigQuiet
import Derived.Shelf.Abstract
import Derived.Deep.RegionLaw
import Derived.Shelf.RegionOpen
import Derived.OwnWalkIn
import Derived.TacticsInMore
import Derived.LoopNIn
import Derived.LoopIn
import Derived.WalkMore
namespace Go.Proofs.YtiimmndhinoaiaaDoor
open Go.RowKit
set_option linter.unusedVariables false
/-- What was put, came, was lost, was doubled. -/
structure Bk where
  p : Int
  c : Int
  d : Int
  e : Int
def Bk.set (B : Bk) (i : Nat) (x : Int) : Bk := match i with
  | 2 => ⟨x, B.c, B.d, B.e⟩
  | 3 => ⟨B.p, x, B.d, B.e⟩
  | 4 => ⟨B.p, B.c, x, B.e⟩
  | _ => ⟨B.p, B.c, B.d, x⟩
def strs (xs : List ByteArray) : List Value := xs.map Value.string
theorem strs_len (xs : List ByteArray) : (strs xs).length = xs.length := by simp [strs]
theorem strs_one (xs : List ByteArray) : ∀ u ∈ strs xs, u.oneCell' = true := by
  intro u hu; simp only [strs, List.mem_map] at hu; obtain ⟨x, -, rfl⟩ := hu; rfl
end Go.Proofs.YtiimmndhinoaiaaDoor
