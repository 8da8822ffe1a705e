/-
  No cell of these rows narrows 'for every input' (looked for: loops, veiled, ifaces, maps, wideKeys, modest, calm, conditions, laid).
  DERIVED. THE GIVEN ROWS OF THIS SEAT. 7 by the template 'for every input the law returns true; each argument reads behind the call as it read before'; 0 by the template 'total and deterministic' (their statements: YtjinppoecdbloaaTotals.lean).
  GIVEN WITH THE SEED: the statements are not yours to turn. If you find one false, say at which input.
  Laid BY PROGRAM, IN A SANDBOX (cutbox-rows.mjs): the forced cells as the released guide's own fill.sh prints them over the translation b4488f5540159017… (all of the seat's roots in one cut). By AI agents, Wed Nov 11 2026. No macro, syntax, notation, axiom, sorry.
-/
import Derived.Test.YtjinppoecdbloaaChecked
import GoSem.Claim
import GoSem.ClaimJoined
import GoSem.ClaimMapViews
import Derived.JoinedTies
import Derived.KernelRfl
namespace Go.Proofs.Ytjinppoecdbloaa
/- THE CELL 'sum', in the pinned program and in every row, IS THE sha256 OF THE DUMP (.gsa) THAT YtjinppoecdbloaaProg.lean LOADS. Nothing in Lean hashes anything: it is a label: what it is worth is what the hold of that sum in a sandbox is worth. -/
noncomputable def Try.pinned : Pinned := { name := "ytjinppoecdbloaa", sum := "b4488f55401590178cc7fd76b49d99a270dc688a75f06c76ac002b7ebc76a147", checked := Try.checked }
namespace Rows
def none {H : Type} : Left H := { results := [], args := [] }

/-- 'paddocklaw18.TrackNames': WHATEVER THE INPUT: true; the input reads as it did. -/
def trackNamesSpec : ChangeSpec := { name := "trackNames", fn := fun _ => fun
  | [] => { results := [.lit (.bool true)], args := [] }
  | _ => none }
def trackNamesRow : OpenClaim := { program := "ytjinppoecdbloaa", sum := "b4488f55401590178cc7fd76b49d99a270dc688a75f06c76ac002b7ebc76a147", func := "paddock/paddocklaw18.TrackNames", spec := "trackNames", apart := false }
def TrackNamesSaid : Prop := trackNamesRow.holds Try.pinned (OpenSpec.ofChange trackNamesSpec)

/-- ITS FALSE NEIGHBOUR: 'it returns false'. Refute it at one input. -/
def trackNamesWrong : ChangeSpec := { name := "trackNames", fn := fun _ => fun
  | [] => { results := [.lit (.bool false)], args := [] }
  | _ => none }
def TrackNamesWrongFalsely : Prop := trackNamesRow.holds Try.pinned (OpenSpec.ofChange trackNamesWrong)

/-- 'paddocklaw22.SendNames': WHATEVER THE INPUT: true; the input reads as it did. -/
def sendNamesSpec : ChangeSpec := { name := "sendNames", fn := fun _ => fun
  | [] => { results := [.lit (.bool true)], args := [] }
  | _ => none }
def sendNamesRow : OpenClaim := { program := "ytjinppoecdbloaa", sum := "b4488f55401590178cc7fd76b49d99a270dc688a75f06c76ac002b7ebc76a147", func := "paddock/paddocklaw22.SendNames", spec := "sendNames", apart := false }
def SendNamesSaid : Prop := sendNamesRow.holds Try.pinned (OpenSpec.ofChange sendNamesSpec)

/-- ITS FALSE NEIGHBOUR: 'it returns false'. Refute it at one input. -/
def sendNamesWrong : ChangeSpec := { name := "sendNames", fn := fun _ => fun
  | [] => { results := [.lit (.bool false)], args := [] }
  | _ => none }
def SendNamesWrongFalsely : Prop := sendNamesRow.holds Try.pinned (OpenSpec.ofChange sendNamesWrong)

/-- 'paddocklaw28.ScriptNames': WHATEVER THE INPUT: true; the input reads as it did. -/
def scriptNamesSpec : ChangeSpec := { name := "scriptNames", fn := fun _ => fun
  | [] => { results := [.lit (.bool true)], args := [] }
  | _ => none }
def scriptNamesRow : OpenClaim := { program := "ytjinppoecdbloaa", sum := "b4488f55401590178cc7fd76b49d99a270dc688a75f06c76ac002b7ebc76a147", func := "paddock/paddocklaw28.ScriptNames", spec := "scriptNames", apart := false }
def ScriptNamesSaid : Prop := scriptNamesRow.holds Try.pinned (OpenSpec.ofChange scriptNamesSpec)

/-- ITS FALSE NEIGHBOUR: 'it returns false'. Refute it at one input. -/
def scriptNamesWrong : ChangeSpec := { name := "scriptNames", fn := fun _ => fun
  | [] => { results := [.lit (.bool false)], args := [] }
  | _ => none }
def ScriptNamesWrongFalsely : Prop := scriptNamesRow.holds Try.pinned (OpenSpec.ofChange scriptNamesWrong)

/-- 'paddocklaw25.TurnsNames': WHATEVER THE INPUT: true; the input reads as it did. -/
def turnsNamesSpec : ChangeSpec := { name := "turnsNames", fn := fun _ => fun
  | [] => { results := [.lit (.bool true)], args := [] }
  | _ => none }
def turnsNamesRow : OpenClaim := { program := "ytjinppoecdbloaa", sum := "b4488f55401590178cc7fd76b49d99a270dc688a75f06c76ac002b7ebc76a147", func := "paddock/paddocklaw25.TurnsNames", spec := "turnsNames", apart := false }
def TurnsNamesSaid : Prop := turnsNamesRow.holds Try.pinned (OpenSpec.ofChange turnsNamesSpec)

/-- ITS FALSE NEIGHBOUR: 'it returns false'. Refute it at one input. -/
def turnsNamesWrong : ChangeSpec := { name := "turnsNames", fn := fun _ => fun
  | [] => { results := [.lit (.bool false)], args := [] }
  | _ => none }
def TurnsNamesWrongFalsely : Prop := turnsNamesRow.holds Try.pinned (OpenSpec.ofChange turnsNamesWrong)

/-- 'paddocklaw25.TurnsNil': WHATEVER THE INPUT: true; the input reads as it did. -/
def turnsNilSpec : ChangeSpec := { name := "turnsNil", fn := fun _ => fun
  | [] => { results := [.lit (.bool true)], args := [] }
  | _ => none }
def turnsNilRow : OpenClaim := { program := "ytjinppoecdbloaa", sum := "b4488f55401590178cc7fd76b49d99a270dc688a75f06c76ac002b7ebc76a147", func := "paddock/paddocklaw25.TurnsNil", spec := "turnsNil", unfollowed := true, recurses := true, apart := false }
def TurnsNilSaid : Prop := turnsNilRow.holds Try.pinned (OpenSpec.ofChange turnsNilSpec)

/-- ITS FALSE NEIGHBOUR: 'it returns false'. Refute it at one input. -/
def turnsNilWrong : ChangeSpec := { name := "turnsNil", fn := fun _ => fun
  | [] => { results := [.lit (.bool false)], args := [] }
  | _ => none }
def TurnsNilWrongFalsely : Prop := turnsNilRow.holds Try.pinned (OpenSpec.ofChange turnsNilWrong)

/-- 'paddocklaw25.TurnsFair': WHATEVER THE INPUT: true; the input reads as it did. -/
def turnsFairSpec : ChangeSpec := { name := "turnsFair", fn := fun _ => fun
  | [d] => { results := [.lit (.bool true)], args := [d] }
  | _ => none }
def turnsFairRow : OpenClaim := { program := "ytjinppoecdbloaa", sum := "b4488f55401590178cc7fd76b49d99a270dc688a75f06c76ac002b7ebc76a147", func := "paddock/paddocklaw25.TurnsFair", spec := "turnsFair", unfollowed := true, recurses := true, apart := false }
def TurnsFairSaid : Prop := turnsFairRow.holds Try.pinned (OpenSpec.ofChange turnsFairSpec)

/-- ITS FALSE NEIGHBOUR: 'it returns false'. Refute it at one input. -/
def turnsFairWrong : ChangeSpec := { name := "turnsFair", fn := fun _ => fun
  | [d] => { results := [.lit (.bool false)], args := [d] }
  | _ => none }
def TurnsFairWrongFalsely : Prop := turnsFairRow.holds Try.pinned (OpenSpec.ofChange turnsFairWrong)

/-- 'paddocklaw25.TurnsPlays': WHATEVER THE INPUT: true; the input reads as it did. -/
def turnsPlaysSpec : ChangeSpec := { name := "turnsPlays", fn := fun _ => fun
  | [d1, d2, d3] => { results := [.lit (.bool true)], args := [d1, d2, d3] }
  | _ => none }
def turnsPlaysRow : OpenClaim := { program := "ytjinppoecdbloaa", sum := "b4488f55401590178cc7fd76b49d99a270dc688a75f06c76ac002b7ebc76a147", func := "paddock/paddocklaw25.TurnsPlays", spec := "turnsPlays", unfollowed := true, recurses := true, apart := false }
def TurnsPlaysSaid : Prop := turnsPlaysRow.holds Try.pinned (OpenSpec.ofChange turnsPlaysSpec)

/-- ITS FALSE NEIGHBOUR: 'it returns false'. Refute it at one input. -/
def turnsPlaysWrong : ChangeSpec := { name := "turnsPlays", fn := fun _ => fun
  | [d1, d2, d3] => { results := [.lit (.bool false)], args := [d1, d2, d3] }
  | _ => none }
def TurnsPlaysWrongFalsely : Prop := turnsPlaysRow.holds Try.pinned (OpenSpec.ofChange turnsPlaysWrong)

/- THE SECOND FORM. 'bulk': how many values and letters a reading holds, each counted each time it is reached (what is shared counts as often as it is met; a slice's spare places count too). A statement '..UptoSaid' is the law's where the arguments, and the package variables that the reading takes, are together of bulk at most 1048576: NARROWER than '..Said'. Prove '..Said' where nothing that the law and all that it calls make is longer than what came in: it says more and counts as full. Else prove '..UptoSaid'. A law counts once. -/
mutual
def uptoBulk {H : Type} : DataW H → Nat
  | .lit (.string bytes) => bytes.length + 1
  | .lit _ => 1
  | .nil => 1
  | .ptr d => uptoBulk d + 1
  | .slice elems spare => uptoBulkAll elems + uptoBulkAll spare + 1
  | .agg parts => uptoBulkAll parts + 1
  | .iface _ d => uptoBulk d + 1
  | .map entries => uptoBulkEntries entries + 1
  | .held _ => 1
def uptoBulkAll {H : Type} : List (DataW H) → Nat
  | [] => 0
  | d :: r => uptoBulk d + uptoBulkAll r
def uptoBulkEntries {H : Type} : List (Lit × DataW H) → Nat
  | [] => 0
  | x :: r => uptoBulkEntry x + uptoBulkEntries r
def uptoBulkEntry {H : Type} : Lit × DataW H → Nat
  | (.string bytes, d) => bytes.length + uptoBulk d + 1
  | (_, d) => uptoBulk d + 1
 end
def uptoSmall : (H : Type) → List (DataW H) → Bool := fun _ ds => decide (uptoBulkAll ds ≤ 1048576)
def OpenSpec.upto (s : _root_.Go.ChangeSpec) : _root_.Go.OpenSpec := { _root_.Go.OpenSpec.ofChange s with cond := some uptoSmall }

/-- 'paddocklaw18.TrackNames', WHERE WHAT IT READS IS OF BULK AT MOST 1048576: true; the input reads as it did. -/
def trackNamesUptoRow : OpenClaim := { program := "ytjinppoecdbloaa", sum := "b4488f55401590178cc7fd76b49d99a270dc688a75f06c76ac002b7ebc76a147", func := "paddock/paddocklaw18.TrackNames", spec := "trackNames", apart := false, narrowed := true }
def TrackNamesUptoSaid : Prop := trackNamesUptoRow.holds Try.pinned (OpenSpec.upto trackNamesSpec)

/-- 'paddocklaw22.SendNames', WHERE WHAT IT READS IS OF BULK AT MOST 1048576: true; the input reads as it did. -/
def sendNamesUptoRow : OpenClaim := { program := "ytjinppoecdbloaa", sum := "b4488f55401590178cc7fd76b49d99a270dc688a75f06c76ac002b7ebc76a147", func := "paddock/paddocklaw22.SendNames", spec := "sendNames", apart := false, narrowed := true }
def SendNamesUptoSaid : Prop := sendNamesUptoRow.holds Try.pinned (OpenSpec.upto sendNamesSpec)

/-- 'paddocklaw28.ScriptNames', WHERE WHAT IT READS IS OF BULK AT MOST 1048576: true; the input reads as it did. -/
def scriptNamesUptoRow : OpenClaim := { program := "ytjinppoecdbloaa", sum := "b4488f55401590178cc7fd76b49d99a270dc688a75f06c76ac002b7ebc76a147", func := "paddock/paddocklaw28.ScriptNames", spec := "scriptNames", apart := false, narrowed := true }
def ScriptNamesUptoSaid : Prop := scriptNamesUptoRow.holds Try.pinned (OpenSpec.upto scriptNamesSpec)

/-- 'paddocklaw25.TurnsNames', WHERE WHAT IT READS IS OF BULK AT MOST 1048576: true; the input reads as it did. -/
def turnsNamesUptoRow : OpenClaim := { program := "ytjinppoecdbloaa", sum := "b4488f55401590178cc7fd76b49d99a270dc688a75f06c76ac002b7ebc76a147", func := "paddock/paddocklaw25.TurnsNames", spec := "turnsNames", apart := false, narrowed := true }
def TurnsNamesUptoSaid : Prop := turnsNamesUptoRow.holds Try.pinned (OpenSpec.upto turnsNamesSpec)

/-- 'paddocklaw25.TurnsNil', WHERE WHAT IT READS IS OF BULK AT MOST 1048576: true; the input reads as it did. -/
def turnsNilUptoRow : OpenClaim := { program := "ytjinppoecdbloaa", sum := "b4488f55401590178cc7fd76b49d99a270dc688a75f06c76ac002b7ebc76a147", func := "paddock/paddocklaw25.TurnsNil", spec := "turnsNil", unfollowed := true, recurses := true, apart := false, narrowed := true }
def TurnsNilUptoSaid : Prop := turnsNilUptoRow.holds Try.pinned (OpenSpec.upto turnsNilSpec)

/-- 'paddocklaw25.TurnsFair', WHERE WHAT IT READS IS OF BULK AT MOST 1048576: true; the input reads as it did. -/
def turnsFairUptoRow : OpenClaim := { program := "ytjinppoecdbloaa", sum := "b4488f55401590178cc7fd76b49d99a270dc688a75f06c76ac002b7ebc76a147", func := "paddock/paddocklaw25.TurnsFair", spec := "turnsFair", unfollowed := true, recurses := true, apart := false, narrowed := true }
def TurnsFairUptoSaid : Prop := turnsFairUptoRow.holds Try.pinned (OpenSpec.upto turnsFairSpec)

/-- 'paddocklaw25.TurnsPlays', WHERE WHAT IT READS IS OF BULK AT MOST 1048576: true; the input reads as it did. -/
def turnsPlaysUptoRow : OpenClaim := { program := "ytjinppoecdbloaa", sum := "b4488f55401590178cc7fd76b49d99a270dc688a75f06c76ac002b7ebc76a147", func := "paddock/paddocklaw25.TurnsPlays", spec := "turnsPlays", unfollowed := true, recurses := true, apart := false, narrowed := true }
def TurnsPlaysUptoSaid : Prop := turnsPlaysUptoRow.holds Try.pinned (OpenSpec.upto turnsPlaysSpec)

end Rows
end Go.Proofs.Ytjinppoecdbloaa
