/-
  No cell of these rows narrows 'for every input' (looked for: loops, veiled, ifaces, maps, wideKeys, modest, calm, conditions, laid).
  DERIVED. THE GIVEN ROWS OF THIS SEAT. 4 by the template 'for every input the law returns true; each argument reads behind the call as it read before'; 0 by the template 'total and deterministic' (their statements: YthagbhiblncpkaaTotals.lean).
  GIVEN WITH THE SEED: the statements are not yours to turn. If you find one false, say at which input.
  Laid BY PROGRAM, IN A SANDBOX (cutbox-rows.mjs): the forced cells as the released guide's own fill.sh prints them over the translation 89aae3395a313b7e… (all of the seat's roots in one cut). By AI agents, Wed Nov 11 2026. No macro, syntax, notation, axiom, sorry.
-/
import Derived.Test.YthagbhiblncpkaaChecked
import GoSem.Claim
import GoSem.ClaimJoined
import GoSem.ClaimMapViews
import Derived.JoinedTies
import Derived.KernelRfl
namespace Go.Proofs.Ythagbhiblncpkaa
/- THE CELL 'sum', in the pinned program and in every row, IS THE sha256 OF THE DUMP (.gsa) THAT YthagbhiblncpkaaProg.lean LOADS. Nothing in Lean hashes anything: it is a label: what it is worth is what the hold of that sum in a sandbox is worth. -/
noncomputable def Try.pinned : Pinned := { name := "ythagbhiblncpkaa", sum := "89aae3395a313b7e33018582674d15818a0806f8c251d81e834b483f394748e0", checked := Try.checked }
namespace Rows
def none {H : Type} : Left H := { results := [], args := [] }

/-- 'paddocklaw11.CellLines': WHATEVER THE INPUT: true; the input reads as it did. -/
def cellLinesSpec : ChangeSpec := { name := "cellLines", fn := fun _ => fun
  | [d1, d2, d3] => { results := [.lit (.bool true)], args := [d1, d2, d3] }
  | _ => none }
def cellLinesRow : OpenClaim := { program := "ythagbhiblncpkaa", sum := "89aae3395a313b7e33018582674d15818a0806f8c251d81e834b483f394748e0", func := "paddock/paddocklaw11.CellLines", spec := "cellLines", unfollowed := true, recurses := true, apart := false }
def CellLinesSaid : Prop := cellLinesRow.holds Try.pinned (OpenSpec.ofChange cellLinesSpec)

/-- ITS FALSE NEIGHBOUR: 'it returns false'. Refute it at one input. -/
def cellLinesWrong : ChangeSpec := { name := "cellLines", fn := fun _ => fun
  | [d1, d2, d3] => { results := [.lit (.bool false)], args := [d1, d2, d3] }
  | _ => none }
def CellLinesWrongFalsely : Prop := cellLinesRow.holds Try.pinned (OpenSpec.ofChange cellLinesWrong)

/-- 'paddocklaw11.CellCodes': WHATEVER THE INPUT: true; the input reads as it did. -/
def cellCodesSpec : ChangeSpec := { name := "cellCodes", fn := fun _ => fun
  | [d1, d2, d3] => { results := [.lit (.bool true)], args := [d1, d2, d3] }
  | _ => none }
def cellCodesRow : OpenClaim := { program := "ythagbhiblncpkaa", sum := "89aae3395a313b7e33018582674d15818a0806f8c251d81e834b483f394748e0", func := "paddock/paddocklaw11.CellCodes", spec := "cellCodes", unfollowed := true, recurses := true, apart := false }
def CellCodesSaid : Prop := cellCodesRow.holds Try.pinned (OpenSpec.ofChange cellCodesSpec)

/-- ITS FALSE NEIGHBOUR: 'it returns false'. Refute it at one input. -/
def cellCodesWrong : ChangeSpec := { name := "cellCodes", fn := fun _ => fun
  | [d1, d2, d3] => { results := [.lit (.bool false)], args := [d1, d2, d3] }
  | _ => none }
def CellCodesWrongFalsely : Prop := cellCodesRow.holds Try.pinned (OpenSpec.ofChange cellCodesWrong)

/-- 'paddocklaw11.CellCovers': WHATEVER THE INPUT: true; the input reads as it did. -/
def cellCoversSpec : ChangeSpec := { name := "cellCovers", fn := fun _ => fun
  | [d1, d2] => { results := [.lit (.bool true)], args := [d1, d2] }
  | _ => none }
def cellCoversRow : OpenClaim := { program := "ythagbhiblncpkaa", sum := "89aae3395a313b7e33018582674d15818a0806f8c251d81e834b483f394748e0", func := "paddock/paddocklaw11.CellCovers", spec := "cellCovers", unfollowed := true, recurses := true, apart := false }
def CellCoversSaid : Prop := cellCoversRow.holds Try.pinned (OpenSpec.ofChange cellCoversSpec)

/-- ITS FALSE NEIGHBOUR: 'it returns false'. Refute it at one input. -/
def cellCoversWrong : ChangeSpec := { name := "cellCovers", fn := fun _ => fun
  | [d1, d2] => { results := [.lit (.bool false)], args := [d1, d2] }
  | _ => none }
def CellCoversWrongFalsely : Prop := cellCoversRow.holds Try.pinned (OpenSpec.ofChange cellCoversWrong)

/-- 'paddocklaw11.CellAll': WHATEVER THE INPUT: true; the input reads as it did. -/
def cellAllSpec : ChangeSpec := { name := "cellAll", fn := fun _ => fun
  | [d1, d2] => { results := [.lit (.bool true)], args := [d1, d2] }
  | _ => none }
def cellAllRow : OpenClaim := { program := "ythagbhiblncpkaa", sum := "89aae3395a313b7e33018582674d15818a0806f8c251d81e834b483f394748e0", func := "paddock/paddocklaw11.CellAll", spec := "cellAll", unfollowed := true, recurses := true, apart := false }
def CellAllSaid : Prop := cellAllRow.holds Try.pinned (OpenSpec.ofChange cellAllSpec)

/-- ITS FALSE NEIGHBOUR: 'it returns false'. Refute it at one input. -/
def cellAllWrong : ChangeSpec := { name := "cellAll", fn := fun _ => fun
  | [d1, d2] => { results := [.lit (.bool false)], args := [d1, d2] }
  | _ => none }
def CellAllWrongFalsely : Prop := cellAllRow.holds Try.pinned (OpenSpec.ofChange cellAllWrong)

/- THE SECOND FORM. 'bulk': how many values and letters a reading holds, each counted each time it is reached (what is shared counts as often as it is met; a slice's spare places count too). A statement '..UptoSaid' is the law's where the arguments, and the package variables that the reading takes, are together of bulk at most 1048576: NARROWER than '..Said'. Prove '..Said' where nothing that the law and all that it calls make is longer than what came in: it says more and counts as full. Else prove '..UptoSaid'. A law counts once. -/
mutual
def uptoBulk {H : Type} : DataW H → Nat
  | .lit (.string bytes) => bytes.length + 1
  | .lit _ => 1
  | .nil => 1
  | .ptr d => uptoBulk d + 1
  | .slice elems spare => uptoBulkAll elems + uptoBulkAll spare + 1
  | .agg parts => uptoBulkAll parts + 1
  | .iface _ d => uptoBulk d + 1
  | .map entries => uptoBulkEntries entries + 1
  | .held _ => 1
def uptoBulkAll {H : Type} : List (DataW H) → Nat
  | [] => 0
  | d :: r => uptoBulk d + uptoBulkAll r
def uptoBulkEntries {H : Type} : List (Lit × DataW H) → Nat
  | [] => 0
  | x :: r => uptoBulkEntry x + uptoBulkEntries r
def uptoBulkEntry {H : Type} : Lit × DataW H → Nat
  | (.string bytes, d) => bytes.length + uptoBulk d + 1
  | (_, d) => uptoBulk d + 1
 end
def uptoSmall : (H : Type) → List (DataW H) → Bool := fun _ ds => decide (uptoBulkAll ds ≤ 1048576)
def OpenSpec.upto (s : _root_.Go.ChangeSpec) : _root_.Go.OpenSpec := { _root_.Go.OpenSpec.ofChange s with cond := some uptoSmall }

/-- 'paddocklaw11.CellLines', WHERE WHAT IT READS IS OF BULK AT MOST 1048576: true; the input reads as it did. -/
def cellLinesUptoRow : OpenClaim := { program := "ythagbhiblncpkaa", sum := "89aae3395a313b7e33018582674d15818a0806f8c251d81e834b483f394748e0", func := "paddock/paddocklaw11.CellLines", spec := "cellLines", unfollowed := true, recurses := true, apart := false, narrowed := true }
def CellLinesUptoSaid : Prop := cellLinesUptoRow.holds Try.pinned (OpenSpec.upto cellLinesSpec)

/-- 'paddocklaw11.CellCodes', WHERE WHAT IT READS IS OF BULK AT MOST 1048576: true; the input reads as it did. -/
def cellCodesUptoRow : OpenClaim := { program := "ythagbhiblncpkaa", sum := "89aae3395a313b7e33018582674d15818a0806f8c251d81e834b483f394748e0", func := "paddock/paddocklaw11.CellCodes", spec := "cellCodes", unfollowed := true, recurses := true, apart := false, narrowed := true }
def CellCodesUptoSaid : Prop := cellCodesUptoRow.holds Try.pinned (OpenSpec.upto cellCodesSpec)

/-- 'paddocklaw11.CellCovers', WHERE WHAT IT READS IS OF BULK AT MOST 1048576: true; the input reads as it did. -/
def cellCoversUptoRow : OpenClaim := { program := "ythagbhiblncpkaa", sum := "89aae3395a313b7e33018582674d15818a0806f8c251d81e834b483f394748e0", func := "paddock/paddocklaw11.CellCovers", spec := "cellCovers", unfollowed := true, recurses := true, apart := false, narrowed := true }
def CellCoversUptoSaid : Prop := cellCoversUptoRow.holds Try.pinned (OpenSpec.upto cellCoversSpec)

/-- 'paddocklaw11.CellAll', WHERE WHAT IT READS IS OF BULK AT MOST 1048576: true; the input reads as it did. -/
def cellAllUptoRow : OpenClaim := { program := "ythagbhiblncpkaa", sum := "89aae3395a313b7e33018582674d15818a0806f8c251d81e834b483f394748e0", func := "paddock/paddocklaw11.CellAll", spec := "cellAll", unfollowed := true, recurses := true, apart := false, narrowed := true }
def CellAllUptoSaid : Prop := cellAllUptoRow.holds Try.pinned (OpenSpec.upto cellAllSpec)

end Rows
end Go.Proofs.Ythagbhiblncpkaa
