/-
  No cell of these rows narrows 'for every input' (looked for: loops, veiled, ifaces, maps, wideKeys, modest, calm, conditions, laid).
  DERIVED. THE GIVEN ROWS OF THIS SEAT. 6 by the template 'for every input the law returns true; each argument reads behind the call as it read before'; 0 by the template 'total and deterministic' (their statements: YtehdhdocalbfpaaTotals.lean).
  GIVEN WITH THE SEED: the statements are not yours to turn. If you find one false, say at which input.
  Laid BY PROGRAM, IN A SANDBOX (cutbox-rows.mjs): the forced cells as the released guide's own fill.sh prints them over the translation 7fa9bfec1aa946e8… (all of the seat's roots in one cut). By AI agents, Wed Nov 11 2026. No macro, syntax, notation, axiom, sorry.
-/
import Derived.Test.YtehdhdocalbfpaaChecked
import GoSem.Claim
import GoSem.ClaimJoined
import GoSem.ClaimMapViews
import Derived.JoinedTies
import Derived.KernelRfl
namespace Go.Proofs.Ytehdhdocalbfpaa
/- THE CELL 'sum', in the pinned program and in every row, IS THE sha256 OF THE DUMP (.gsa) THAT YtehdhdocalbfpaaProg.lean LOADS. Nothing in Lean hashes anything: it is a label: what it is worth is what the hold of that sum in a sandbox is worth. -/
noncomputable def Try.pinned : Pinned := { name := "ytehdhdocalbfpaa", sum := "7fa9bfec1aa946e81fc4bbc8f682d8f648fdf2593ff7e6b809004008e9572588", checked := Try.checked }
namespace Rows
def none {H : Type} : Left H := { results := [], args := [] }

/-- 'paddocklaw15.QueueOrder': WHATEVER THE INPUT: true; the input reads as it did. -/
def queueOrderSpec : ChangeSpec := { name := "queueOrder", fn := fun _ => fun
  | [d1, d2] => { results := [.lit (.bool true)], args := [d1, d2] }
  | _ => none }
def queueOrderRow : OpenClaim := { program := "ytehdhdocalbfpaa", sum := "7fa9bfec1aa946e81fc4bbc8f682d8f648fdf2593ff7e6b809004008e9572588", func := "paddock/paddocklaw15.QueueOrder", spec := "queueOrder", apart := false }
def QueueOrderSaid : Prop := queueOrderRow.holds Try.pinned (OpenSpec.ofChange queueOrderSpec)

/-- ITS FALSE NEIGHBOUR: 'it returns false'. Refute it at one input. -/
def queueOrderWrong : ChangeSpec := { name := "queueOrder", fn := fun _ => fun
  | [d1, d2] => { results := [.lit (.bool false)], args := [d1, d2] }
  | _ => none }
def QueueOrderWrongFalsely : Prop := queueOrderRow.holds Try.pinned (OpenSpec.ofChange queueOrderWrong)

/-- 'paddocklaw15.QueueNil': WHATEVER THE INPUT: true; the input reads as it did. -/
def queueNilSpec : ChangeSpec := { name := "queueNil", fn := fun _ => fun
  | [d] => { results := [.lit (.bool true)], args := [d] }
  | _ => none }
def queueNilRow : OpenClaim := { program := "ytehdhdocalbfpaa", sum := "7fa9bfec1aa946e81fc4bbc8f682d8f648fdf2593ff7e6b809004008e9572588", func := "paddock/paddocklaw15.QueueNil", spec := "queueNil", unfollowed := true, recurses := true, apart := false }
def QueueNilSaid : Prop := queueNilRow.holds Try.pinned (OpenSpec.ofChange queueNilSpec)

/-- ITS FALSE NEIGHBOUR: 'it returns false'. Refute it at one input. -/
def queueNilWrong : ChangeSpec := { name := "queueNil", fn := fun _ => fun
  | [d] => { results := [.lit (.bool false)], args := [d] }
  | _ => none }
def QueueNilWrongFalsely : Prop := queueNilRow.holds Try.pinned (OpenSpec.ofChange queueNilWrong)

/-- 'paddocklaw22.SendNumbers': WHATEVER THE INPUT: true; the input reads as it did. -/
def sendNumbersSpec : ChangeSpec := { name := "sendNumbers", fn := fun _ => fun
  | [d1, d2] => { results := [.lit (.bool true)], args := [d1, d2] }
  | _ => none }
def sendNumbersRow : OpenClaim := { program := "ytehdhdocalbfpaa", sum := "7fa9bfec1aa946e81fc4bbc8f682d8f648fdf2593ff7e6b809004008e9572588", func := "paddock/paddocklaw22.SendNumbers", spec := "sendNumbers", unfollowed := true, recurses := true, apart := false }
def SendNumbersSaid : Prop := sendNumbersRow.holds Try.pinned (OpenSpec.ofChange sendNumbersSpec)

/-- ITS FALSE NEIGHBOUR: 'it returns false'. Refute it at one input. -/
def sendNumbersWrong : ChangeSpec := { name := "sendNumbers", fn := fun _ => fun
  | [d1, d2] => { results := [.lit (.bool false)], args := [d1, d2] }
  | _ => none }
def SendNumbersWrongFalsely : Prop := sendNumbersRow.holds Try.pinned (OpenSpec.ofChange sendNumbersWrong)

/-- 'paddocklaw22.SendNil': WHATEVER THE INPUT: true; the input reads as it did. -/
def sendNilSpec : ChangeSpec := { name := "sendNil", fn := fun _ => fun
  | [d] => { results := [.lit (.bool true)], args := [d] }
  | _ => none }
def sendNilRow : OpenClaim := { program := "ytehdhdocalbfpaa", sum := "7fa9bfec1aa946e81fc4bbc8f682d8f648fdf2593ff7e6b809004008e9572588", func := "paddock/paddocklaw22.SendNil", spec := "sendNil", unfollowed := true, recurses := true, apart := false }
def SendNilSaid : Prop := sendNilRow.holds Try.pinned (OpenSpec.ofChange sendNilSpec)

/-- ITS FALSE NEIGHBOUR: 'it returns false'. Refute it at one input. -/
def sendNilWrong : ChangeSpec := { name := "sendNil", fn := fun _ => fun
  | [d] => { results := [.lit (.bool false)], args := [d] }
  | _ => none }
def SendNilWrongFalsely : Prop := sendNilRow.holds Try.pinned (OpenSpec.ofChange sendNilWrong)

/-- 'paddocklaw22.SendAll': WHATEVER THE INPUT: true; the input reads as it did. -/
def sendAllSpec : ChangeSpec := { name := "sendAll", fn := fun _ => fun
  | [d] => { results := [.lit (.bool true)], args := [d] }
  | _ => none }
def sendAllRow : OpenClaim := { program := "ytehdhdocalbfpaa", sum := "7fa9bfec1aa946e81fc4bbc8f682d8f648fdf2593ff7e6b809004008e9572588", func := "paddock/paddocklaw22.SendAll", spec := "sendAll", unfollowed := true, recurses := true, apart := false }
def SendAllSaid : Prop := sendAllRow.holds Try.pinned (OpenSpec.ofChange sendAllSpec)

/-- ITS FALSE NEIGHBOUR: 'it returns false'. Refute it at one input. -/
def sendAllWrong : ChangeSpec := { name := "sendAll", fn := fun _ => fun
  | [d] => { results := [.lit (.bool false)], args := [d] }
  | _ => none }
def SendAllWrongFalsely : Prop := sendAllRow.holds Try.pinned (OpenSpec.ofChange sendAllWrong)

/-- 'paddocklaw22.SendPlays': WHATEVER THE INPUT: true; the input reads as it did. -/
def sendPlaysSpec : ChangeSpec := { name := "sendPlays", fn := fun _ => fun
  | [d1, d2] => { results := [.lit (.bool true)], args := [d1, d2] }
  | _ => none }
def sendPlaysRow : OpenClaim := { program := "ytehdhdocalbfpaa", sum := "7fa9bfec1aa946e81fc4bbc8f682d8f648fdf2593ff7e6b809004008e9572588", func := "paddock/paddocklaw22.SendPlays", spec := "sendPlays", unfollowed := true, recurses := true, apart := false }
def SendPlaysSaid : Prop := sendPlaysRow.holds Try.pinned (OpenSpec.ofChange sendPlaysSpec)

/-- ITS FALSE NEIGHBOUR: 'it returns false'. Refute it at one input. -/
def sendPlaysWrong : ChangeSpec := { name := "sendPlays", fn := fun _ => fun
  | [d1, d2] => { results := [.lit (.bool false)], args := [d1, d2] }
  | _ => none }
def SendPlaysWrongFalsely : Prop := sendPlaysRow.holds Try.pinned (OpenSpec.ofChange sendPlaysWrong)

/- THE SECOND FORM. 'bulk': how many values and letters a reading holds, each counted each time it is reached (what is shared counts as often as it is met; a slice's spare places count too). A statement '..UptoSaid' is the law's where the arguments, and the package variables that the reading takes, are together of bulk at most 1048576: NARROWER than '..Said'. Prove '..Said' where nothing that the law and all that it calls make is longer than what came in: it says more and counts as full. Else prove '..UptoSaid'. A law counts once. -/
mutual
def uptoBulk {H : Type} : DataW H → Nat
  | .lit (.string bytes) => bytes.length + 1
  | .lit _ => 1
  | .nil => 1
  | .ptr d => uptoBulk d + 1
  | .slice elems spare => uptoBulkAll elems + uptoBulkAll spare + 1
  | .agg parts => uptoBulkAll parts + 1
  | .iface _ d => uptoBulk d + 1
  | .map entries => uptoBulkEntries entries + 1
  | .held _ => 1
def uptoBulkAll {H : Type} : List (DataW H) → Nat
  | [] => 0
  | d :: r => uptoBulk d + uptoBulkAll r
def uptoBulkEntries {H : Type} : List (Lit × DataW H) → Nat
  | [] => 0
  | x :: r => uptoBulkEntry x + uptoBulkEntries r
def uptoBulkEntry {H : Type} : Lit × DataW H → Nat
  | (.string bytes, d) => bytes.length + uptoBulk d + 1
  | (_, d) => uptoBulk d + 1
 end
def uptoSmall : (H : Type) → List (DataW H) → Bool := fun _ ds => decide (uptoBulkAll ds ≤ 1048576)
def OpenSpec.upto (s : _root_.Go.ChangeSpec) : _root_.Go.OpenSpec := { _root_.Go.OpenSpec.ofChange s with cond := some uptoSmall }

/-- 'paddocklaw15.QueueOrder', WHERE WHAT IT READS IS OF BULK AT MOST 1048576: true; the input reads as it did. -/
def queueOrderUptoRow : OpenClaim := { program := "ytehdhdocalbfpaa", sum := "7fa9bfec1aa946e81fc4bbc8f682d8f648fdf2593ff7e6b809004008e9572588", func := "paddock/paddocklaw15.QueueOrder", spec := "queueOrder", apart := false, narrowed := true }
def QueueOrderUptoSaid : Prop := queueOrderUptoRow.holds Try.pinned (OpenSpec.upto queueOrderSpec)

/-- 'paddocklaw15.QueueNil', WHERE WHAT IT READS IS OF BULK AT MOST 1048576: true; the input reads as it did. -/
def queueNilUptoRow : OpenClaim := { program := "ytehdhdocalbfpaa", sum := "7fa9bfec1aa946e81fc4bbc8f682d8f648fdf2593ff7e6b809004008e9572588", func := "paddock/paddocklaw15.QueueNil", spec := "queueNil", unfollowed := true, recurses := true, apart := false, narrowed := true }
def QueueNilUptoSaid : Prop := queueNilUptoRow.holds Try.pinned (OpenSpec.upto queueNilSpec)

/-- 'paddocklaw22.SendNumbers', WHERE WHAT IT READS IS OF BULK AT MOST 1048576: true; the input reads as it did. -/
def sendNumbersUptoRow : OpenClaim := { program := "ytehdhdocalbfpaa", sum := "7fa9bfec1aa946e81fc4bbc8f682d8f648fdf2593ff7e6b809004008e9572588", func := "paddock/paddocklaw22.SendNumbers", spec := "sendNumbers", unfollowed := true, recurses := true, apart := false, narrowed := true }
def SendNumbersUptoSaid : Prop := sendNumbersUptoRow.holds Try.pinned (OpenSpec.upto sendNumbersSpec)

/-- 'paddocklaw22.SendNil', WHERE WHAT IT READS IS OF BULK AT MOST 1048576: true; the input reads as it did. -/
def sendNilUptoRow : OpenClaim := { program := "ytehdhdocalbfpaa", sum := "7fa9bfec1aa946e81fc4bbc8f682d8f648fdf2593ff7e6b809004008e9572588", func := "paddock/paddocklaw22.SendNil", spec := "sendNil", unfollowed := true, recurses := true, apart := false, narrowed := true }
def SendNilUptoSaid : Prop := sendNilUptoRow.holds Try.pinned (OpenSpec.upto sendNilSpec)

/-- 'paddocklaw22.SendAll', WHERE WHAT IT READS IS OF BULK AT MOST 1048576: true; the input reads as it did. -/
def sendAllUptoRow : OpenClaim := { program := "ytehdhdocalbfpaa", sum := "7fa9bfec1aa946e81fc4bbc8f682d8f648fdf2593ff7e6b809004008e9572588", func := "paddock/paddocklaw22.SendAll", spec := "sendAll", unfollowed := true, recurses := true, apart := false, narrowed := true }
def SendAllUptoSaid : Prop := sendAllUptoRow.holds Try.pinned (OpenSpec.upto sendAllSpec)

/-- 'paddocklaw22.SendPlays', WHERE WHAT IT READS IS OF BULK AT MOST 1048576: true; the input reads as it did. -/
def sendPlaysUptoRow : OpenClaim := { program := "ytehdhdocalbfpaa", sum := "7fa9bfec1aa946e81fc4bbc8f682d8f648fdf2593ff7e6b809004008e9572588", func := "paddock/paddocklaw22.SendPlays", spec := "sendPlays", unfollowed := true, recurses := true, apart := false, narrowed := true }
def SendPlaysUptoSaid : Prop := sendPlaysUptoRow.holds Try.pinned (OpenSpec.upto sendPlaysSpec)

end Rows
end Go.Proofs.Ytehdhdocalbfpaa
