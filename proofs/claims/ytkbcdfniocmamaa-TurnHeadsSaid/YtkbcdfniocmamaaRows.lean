/-
  No cell of these rows narrows 'for every input' (looked for: loops, veiled, ifaces, maps, wideKeys, modest, calm, conditions, laid).
  DERIVED. THE GIVEN ROWS OF THIS SEAT. 6 by the template 'for every input the law returns true; each argument reads behind the call as it read before'; 0 by the template 'total and deterministic' (their statements: YtkbcdfniocmamaaTotals.lean).
  GIVEN WITH THE SEED: the statements are not yours to turn. If you find one false, say at which input.
  Laid BY PROGRAM, IN A SANDBOX (cutbox-rows.mjs): the forced cells as the released guide's own fill.sh prints them over the translation ae791749746663c7… (all of the seat's roots in one cut). By AI agents, Wed Nov 11 2026. No macro, syntax, notation, axiom, sorry.
-/
import Derived.Test.YtkbcdfniocmamaaChecked
import GoSem.Claim
import GoSem.ClaimJoined
import GoSem.ClaimMapViews
import Derived.JoinedTies
import Derived.KernelRfl
namespace Go.Proofs.Ytkbcdfniocmamaa
/- THE CELL 'sum', in the pinned program and in every row, IS THE sha256 OF THE DUMP (.gsa) THAT YtkbcdfniocmamaaProg.lean LOADS. Nothing in Lean hashes anything: it is a label: what it is worth is what the hold of that sum in a sandbox is worth. -/
noncomputable def Try.pinned : Pinned := { name := "ytkbcdfniocmamaa", sum := "ae791749746663c7f3c49ef5c0ca6f212855943a6842980aed900aecaf4710b7", checked := Try.checked }
namespace Rows
def none {H : Type} : Left H := { results := [], args := [] }

/-- 'paddocklaw08.TurnMaps': WHATEVER THE INPUT: true; the input reads as it did. -/
def turnMapsSpec : ChangeSpec := { name := "turnMaps", fn := fun _ => fun
  | [d1, d2, d3] => { results := [.lit (.bool true)], args := [d1, d2, d3] }
  | _ => none }
def turnMapsRow : OpenClaim := { program := "ytkbcdfniocmamaa", sum := "ae791749746663c7f3c49ef5c0ca6f212855943a6842980aed900aecaf4710b7", func := "paddock/paddocklaw08.TurnMaps", spec := "turnMaps", inPlace := ["math.Float64frombits", "math.Float64bits", "math.RoundToEven"], apart := false }
def TurnMapsSaid : Prop := turnMapsRow.holds Try.pinned (OpenSpec.ofChange turnMapsSpec)

/-- ITS FALSE NEIGHBOUR: 'it returns false'. Refute it at one input. -/
def turnMapsWrong : ChangeSpec := { name := "turnMaps", fn := fun _ => fun
  | [d1, d2, d3] => { results := [.lit (.bool false)], args := [d1, d2, d3] }
  | _ => none }
def TurnMapsWrongFalsely : Prop := turnMapsRow.holds Try.pinned (OpenSpec.ofChange turnMapsWrong)

/-- 'paddocklaw08.TurnWhole': WHATEVER THE INPUT: true; the input reads as it did. -/
def turnWholeSpec : ChangeSpec := { name := "turnWhole", fn := fun _ => fun
  | [d] => { results := [.lit (.bool true)], args := [d] }
  | _ => none }
def turnWholeRow : OpenClaim := { program := "ytkbcdfniocmamaa", sum := "ae791749746663c7f3c49ef5c0ca6f212855943a6842980aed900aecaf4710b7", func := "paddock/paddocklaw08.TurnWhole", spec := "turnWhole", inPlace := ["math.RoundToEven", "math.Float64bits", "math.Float64frombits"], apart := false }
def TurnWholeSaid : Prop := turnWholeRow.holds Try.pinned (OpenSpec.ofChange turnWholeSpec)

/-- ITS FALSE NEIGHBOUR: 'it returns false'. Refute it at one input. -/
def turnWholeWrong : ChangeSpec := { name := "turnWhole", fn := fun _ => fun
  | [d] => { results := [.lit (.bool false)], args := [d] }
  | _ => none }
def TurnWholeWrongFalsely : Prop := turnWholeRow.holds Try.pinned (OpenSpec.ofChange turnWholeWrong)

/-- 'paddocklaw08.TurnQuarters': WHATEVER THE INPUT: true; the input reads as it did. -/
def turnQuartersSpec : ChangeSpec := { name := "turnQuarters", fn := fun _ => fun
  | [d] => { results := [.lit (.bool true)], args := [d] }
  | _ => none }
def turnQuartersRow : OpenClaim := { program := "ytkbcdfniocmamaa", sum := "ae791749746663c7f3c49ef5c0ca6f212855943a6842980aed900aecaf4710b7", func := "paddock/paddocklaw08.TurnQuarters", spec := "turnQuarters", inPlace := ["math.RoundToEven", "math.Float64bits", "math.Float64frombits"], apart := false }
def TurnQuartersSaid : Prop := turnQuartersRow.holds Try.pinned (OpenSpec.ofChange turnQuartersSpec)

/-- ITS FALSE NEIGHBOUR: 'it returns false'. Refute it at one input. -/
def turnQuartersWrong : ChangeSpec := { name := "turnQuarters", fn := fun _ => fun
  | [d] => { results := [.lit (.bool false)], args := [d] }
  | _ => none }
def TurnQuartersWrongFalsely : Prop := turnQuartersRow.holds Try.pinned (OpenSpec.ofChange turnQuartersWrong)

/-- 'paddocklaw08.TurnMeans': WHATEVER THE INPUT: true; the input reads as it did. -/
def turnMeansSpec : ChangeSpec := { name := "turnMeans", fn := fun _ => fun
  | [d] => { results := [.lit (.bool true)], args := [d] }
  | _ => none }
def turnMeansRow : OpenClaim := { program := "ytkbcdfniocmamaa", sum := "ae791749746663c7f3c49ef5c0ca6f212855943a6842980aed900aecaf4710b7", func := "paddock/paddocklaw08.TurnMeans", spec := "turnMeans", inPlace := ["math.Float64frombits", "math.Float64bits", "math.sqrt", "math.RoundToEven"], apart := false }
def TurnMeansSaid : Prop := turnMeansRow.holds Try.pinned (OpenSpec.ofChange turnMeansSpec)

/-- ITS FALSE NEIGHBOUR: 'it returns false'. Refute it at one input. -/
def turnMeansWrong : ChangeSpec := { name := "turnMeans", fn := fun _ => fun
  | [d] => { results := [.lit (.bool false)], args := [d] }
  | _ => none }
def TurnMeansWrongFalsely : Prop := turnMeansRow.holds Try.pinned (OpenSpec.ofChange turnMeansWrong)

/-- 'paddocklaw08.TurnHeads': WHATEVER THE INPUT: true; the input reads as it did. -/
def turnHeadsSpec : ChangeSpec := { name := "turnHeads", fn := fun _ => fun
  | [d1, d2, d3] => { results := [.lit (.bool true)], args := [d1, d2, d3] }
  | _ => none }
def turnHeadsRow : OpenClaim := { program := "ytkbcdfniocmamaa", sum := "ae791749746663c7f3c49ef5c0ca6f212855943a6842980aed900aecaf4710b7", func := "paddock/paddocklaw08.TurnHeads", spec := "turnHeads", inPlace := ["math.Float64frombits", "math.sqrt", "math.RoundToEven", "math.Float64bits"], apart := false }
def TurnHeadsSaid : Prop := turnHeadsRow.holds Try.pinned (OpenSpec.ofChange turnHeadsSpec)

/-- ITS FALSE NEIGHBOUR: 'it returns false'. Refute it at one input. -/
def turnHeadsWrong : ChangeSpec := { name := "turnHeads", fn := fun _ => fun
  | [d1, d2, d3] => { results := [.lit (.bool false)], args := [d1, d2, d3] }
  | _ => none }
def TurnHeadsWrongFalsely : Prop := turnHeadsRow.holds Try.pinned (OpenSpec.ofChange turnHeadsWrong)

/-- 'paddocklaw08.TurnPlaces': WHATEVER THE INPUT: true; the input reads as it did. -/
def turnPlacesSpec : ChangeSpec := { name := "turnPlaces", fn := fun _ => fun
  | [d1, d2] => { results := [.lit (.bool true)], args := [d1, d2] }
  | _ => none }
def turnPlacesRow : OpenClaim := { program := "ytkbcdfniocmamaa", sum := "ae791749746663c7f3c49ef5c0ca6f212855943a6842980aed900aecaf4710b7", func := "paddock/paddocklaw08.TurnPlaces", spec := "turnPlaces", inPlace := ["math.Float64frombits", "math.RoundToEven", "math.sqrt", "math.Float64bits"], apart := false }
def TurnPlacesSaid : Prop := turnPlacesRow.holds Try.pinned (OpenSpec.ofChange turnPlacesSpec)

/-- ITS FALSE NEIGHBOUR: 'it returns false'. Refute it at one input. -/
def turnPlacesWrong : ChangeSpec := { name := "turnPlaces", fn := fun _ => fun
  | [d1, d2] => { results := [.lit (.bool false)], args := [d1, d2] }
  | _ => none }
def TurnPlacesWrongFalsely : Prop := turnPlacesRow.holds Try.pinned (OpenSpec.ofChange turnPlacesWrong)

/- THE SECOND FORM. 'bulk': how many values and letters a reading holds, each counted each time it is reached (what is shared counts as often as it is met; a slice's spare places count too). A statement '..UptoSaid' is the law's where the arguments, and the package variables that the reading takes, are together of bulk at most 1048576: NARROWER than '..Said'. Prove '..Said' where nothing that the law and all that it calls make is longer than what came in: it says more and counts as full. Else prove '..UptoSaid'. A law counts once. -/
mutual
def uptoBulk {H : Type} : DataW H → Nat
  | .lit (.string bytes) => bytes.length + 1
  | .lit _ => 1
  | .nil => 1
  | .ptr d => uptoBulk d + 1
  | .slice elems spare => uptoBulkAll elems + uptoBulkAll spare + 1
  | .agg parts => uptoBulkAll parts + 1
  | .iface _ d => uptoBulk d + 1
  | .map entries => uptoBulkEntries entries + 1
  | .held _ => 1
def uptoBulkAll {H : Type} : List (DataW H) → Nat
  | [] => 0
  | d :: r => uptoBulk d + uptoBulkAll r
def uptoBulkEntries {H : Type} : List (Lit × DataW H) → Nat
  | [] => 0
  | x :: r => uptoBulkEntry x + uptoBulkEntries r
def uptoBulkEntry {H : Type} : Lit × DataW H → Nat
  | (.string bytes, d) => bytes.length + uptoBulk d + 1
  | (_, d) => uptoBulk d + 1
 end
def uptoSmall : (H : Type) → List (DataW H) → Bool := fun _ ds => decide (uptoBulkAll ds ≤ 1048576)
def OpenSpec.upto (s : _root_.Go.ChangeSpec) : _root_.Go.OpenSpec := { _root_.Go.OpenSpec.ofChange s with cond := some uptoSmall }

/-- 'paddocklaw08.TurnMaps', WHERE WHAT IT READS IS OF BULK AT MOST 1048576: true; the input reads as it did. -/
def turnMapsUptoRow : OpenClaim := { program := "ytkbcdfniocmamaa", sum := "ae791749746663c7f3c49ef5c0ca6f212855943a6842980aed900aecaf4710b7", func := "paddock/paddocklaw08.TurnMaps", spec := "turnMaps", inPlace := ["math.Float64frombits", "math.Float64bits", "math.RoundToEven"], apart := false, narrowed := true }
def TurnMapsUptoSaid : Prop := turnMapsUptoRow.holds Try.pinned (OpenSpec.upto turnMapsSpec)

/-- 'paddocklaw08.TurnWhole', WHERE WHAT IT READS IS OF BULK AT MOST 1048576: true; the input reads as it did. -/
def turnWholeUptoRow : OpenClaim := { program := "ytkbcdfniocmamaa", sum := "ae791749746663c7f3c49ef5c0ca6f212855943a6842980aed900aecaf4710b7", func := "paddock/paddocklaw08.TurnWhole", spec := "turnWhole", inPlace := ["math.RoundToEven", "math.Float64bits", "math.Float64frombits"], apart := false, narrowed := true }
def TurnWholeUptoSaid : Prop := turnWholeUptoRow.holds Try.pinned (OpenSpec.upto turnWholeSpec)

/-- 'paddocklaw08.TurnQuarters', WHERE WHAT IT READS IS OF BULK AT MOST 1048576: true; the input reads as it did. -/
def turnQuartersUptoRow : OpenClaim := { program := "ytkbcdfniocmamaa", sum := "ae791749746663c7f3c49ef5c0ca6f212855943a6842980aed900aecaf4710b7", func := "paddock/paddocklaw08.TurnQuarters", spec := "turnQuarters", inPlace := ["math.RoundToEven", "math.Float64bits", "math.Float64frombits"], apart := false, narrowed := true }
def TurnQuartersUptoSaid : Prop := turnQuartersUptoRow.holds Try.pinned (OpenSpec.upto turnQuartersSpec)

/-- 'paddocklaw08.TurnMeans', WHERE WHAT IT READS IS OF BULK AT MOST 1048576: true; the input reads as it did. -/
def turnMeansUptoRow : OpenClaim := { program := "ytkbcdfniocmamaa", sum := "ae791749746663c7f3c49ef5c0ca6f212855943a6842980aed900aecaf4710b7", func := "paddock/paddocklaw08.TurnMeans", spec := "turnMeans", inPlace := ["math.Float64frombits", "math.Float64bits", "math.sqrt", "math.RoundToEven"], apart := false, narrowed := true }
def TurnMeansUptoSaid : Prop := turnMeansUptoRow.holds Try.pinned (OpenSpec.upto turnMeansSpec)

/-- 'paddocklaw08.TurnHeads', WHERE WHAT IT READS IS OF BULK AT MOST 1048576: true; the input reads as it did. -/
def turnHeadsUptoRow : OpenClaim := { program := "ytkbcdfniocmamaa", sum := "ae791749746663c7f3c49ef5c0ca6f212855943a6842980aed900aecaf4710b7", func := "paddock/paddocklaw08.TurnHeads", spec := "turnHeads", inPlace := ["math.Float64frombits", "math.sqrt", "math.RoundToEven", "math.Float64bits"], apart := false, narrowed := true }
def TurnHeadsUptoSaid : Prop := turnHeadsUptoRow.holds Try.pinned (OpenSpec.upto turnHeadsSpec)

/-- 'paddocklaw08.TurnPlaces', WHERE WHAT IT READS IS OF BULK AT MOST 1048576: true; the input reads as it did. -/
def turnPlacesUptoRow : OpenClaim := { program := "ytkbcdfniocmamaa", sum := "ae791749746663c7f3c49ef5c0ca6f212855943a6842980aed900aecaf4710b7", func := "paddock/paddocklaw08.TurnPlaces", spec := "turnPlaces", inPlace := ["math.Float64frombits", "math.RoundToEven", "math.sqrt", "math.Float64bits"], apart := false, narrowed := true }
def TurnPlacesUptoSaid : Prop := turnPlacesUptoRow.holds Try.pinned (OpenSpec.upto turnPlacesSpec)

end Rows
end Go.Proofs.Ytkbcdfniocmamaa
