/-
  NARROWER THAN 'FOR EVERY INPUT', by the rows' own cells (each row's printed sentence says how): TableWalks: laid · TablePlays: laid · TableBits: laid · TrackSpeeds: laid · TrackTurns: laid · TrackReckons: laid · TrackBooks: laid · TrackNil: laid.
  DERIVED. THE GIVEN ROWS OF THIS SEAT. 8 by the template 'for every input the law returns true; each argument reads behind the call as it read before'; 0 by the template 'total and deterministic' (their statements: YtgoolkgjcmdilaaDoorTotals.lean).
  GIVEN WITH THE SEED: the statements are not yours to turn. If you find one false, say at which input.
  Laid BY PROGRAM, IN A SANDBOX (cutbox-rows.mjs): the forced cells as the released guide's own fill.sh prints them over the translation 64e8ca5825115a35… (all of the seat's roots in one cut). By AI agents, Wed Nov 11 2026. No macro, syntax, notation, axiom, sorry.
-/
import Derived.Test.YtgoolkgjcmdilaaDoorChecked
import GoSem.Claim
import GoSem.ClaimJoined
import GoSem.ClaimMapViews
import Derived.JoinedTies
import Derived.KernelRfl
namespace Go.Proofs.YtgoolkgjcmdilaaDoor
/- THE CELL 'sum', in the pinned program and in every row, IS THE sha256 OF THE DUMP (.gsa) THAT YtgoolkgjcmdilaaDoorProg.lean LOADS. Nothing in Lean hashes anything: it is a label: what it is worth is what the hold of that sum in a sandbox is worth. -/
noncomputable def Tryd.pinned : Pinned := { name := "ytgoolkgjcmdilaadoor", sum := "64e8ca5825115a35157a735cc5961049f66140ac542560832ad0c2962d25c4a1", checked := Tryd.checked }
namespace Rows
def none {H : Type} : Left H := { results := [], args := [] }

/- WHAT THE LISTED PACKAGE-LEVEL VARIABLES READ AS WHEN THE CALL BEGINS. Each datum BY PROGRAM (the guide's laid-datum.mjs) off the statement by which the dump's own 'gosem.cut.vars' lays the variable. In a bare row this is a premise. The card (YtgoolkgjcmdilaaDoorCards.lean) ties it to the program's text. -/
def laid_math_bits_deBruijn64tab {H : Type} : DataW H := .agg [.lit (.int .u8 0), .lit (.int .u8 1), .lit (.int .u8 56), .lit (.int .u8 2), .lit (.int .u8 57), .lit (.int .u8 49), .lit (.int .u8 28), .lit (.int .u8 3), .lit (.int .u8 61), .lit (.int .u8 58), .lit (.int .u8 42), .lit (.int .u8 50), .lit (.int .u8 38), .lit (.int .u8 29), .lit (.int .u8 17), .lit (.int .u8 4), .lit (.int .u8 62), .lit (.int .u8 47), .lit (.int .u8 59), .lit (.int .u8 36), .lit (.int .u8 45), .lit (.int .u8 43), .lit (.int .u8 51), .lit (.int .u8 22), .lit (.int .u8 53), .lit (.int .u8 39), .lit (.int .u8 33), .lit (.int .u8 30), .lit (.int .u8 24), .lit (.int .u8 18), .lit (.int .u8 12), .lit (.int .u8 5), .lit (.int .u8 63), .lit (.int .u8 55), .lit (.int .u8 48), .lit (.int .u8 27), .lit (.int .u8 60), .lit (.int .u8 41), .lit (.int .u8 37), .lit (.int .u8 16), .lit (.int .u8 46), .lit (.int .u8 35), .lit (.int .u8 44), .lit (.int .u8 21), .lit (.int .u8 52), .lit (.int .u8 32), .lit (.int .u8 23), .lit (.int .u8 11), .lit (.int .u8 54), .lit (.int .u8 26), .lit (.int .u8 40), .lit (.int .u8 15), .lit (.int .u8 34), .lit (.int .u8 20), .lit (.int .u8 31), .lit (.int .u8 10), .lit (.int .u8 25), .lit (.int .u8 14), .lit (.int .u8 19), .lit (.int .u8 9), .lit (.int .u8 13), .lit (.int .u8 8), .lit (.int .u8 7), .lit (.int .u8 6)]

/-- 'paddocklaw17.TableWalks': WHATEVER THE INPUT: true; the input reads as it did. -/
def tableWalksSpec : ChangeSpec := { name := "tableWalks", fn := fun _ => fun
  | [d1, d2] => { results := [.lit (.bool true)], args := [d1, d2] }
  | _ => none }
def tableWalksRow : OpenClaim := { program := "ytgoolkgjcmdilaadoor", sum := "64e8ca5825115a35157a735cc5961049f66140ac542560832ad0c2962d25c4a1", func := "paddock/paddocklaw17.TableWalks", spec := "tableWalks", inPlace := ["slices.overlaps[paddock/table.pair[paddock/paddocklaw17.Val]]"], unfollowed := true, recurses := true, named := ["math/bits.deBruijn64tab"], apart := false, laid := [("math/bits.deBruijn64tab", laid_math_bits_deBruijn64tab)] }
def TableWalksSaid : Prop := tableWalksRow.holds Tryd.pinned (OpenSpec.ofChange tableWalksSpec)

/-- ITS FALSE NEIGHBOUR: 'it returns false'. Refute it at one input. -/
def tableWalksWrong : ChangeSpec := { name := "tableWalks", fn := fun _ => fun
  | [d1, d2] => { results := [.lit (.bool false)], args := [d1, d2] }
  | _ => none }
def TableWalksWrongFalsely : Prop := tableWalksRow.holds Tryd.pinned (OpenSpec.ofChange tableWalksWrong)

/-- 'paddocklaw17.TablePlays': WHATEVER THE INPUT: true; the input reads as it did. -/
def tablePlaysSpec : ChangeSpec := { name := "tablePlays", fn := fun _ => fun
  | [d1, d2] => { results := [.lit (.bool true)], args := [d1, d2] }
  | _ => none }
def tablePlaysRow : OpenClaim := { program := "ytgoolkgjcmdilaadoor", sum := "64e8ca5825115a35157a735cc5961049f66140ac542560832ad0c2962d25c4a1", func := "paddock/paddocklaw17.TablePlays", spec := "tablePlays", inPlace := ["slices.overlaps[paddock/table.pair[paddock/paddocklaw17.Val]]"], unfollowed := true, recurses := true, named := ["math/bits.deBruijn64tab"], apart := false, laid := [("math/bits.deBruijn64tab", laid_math_bits_deBruijn64tab)] }
def TablePlaysSaid : Prop := tablePlaysRow.holds Tryd.pinned (OpenSpec.ofChange tablePlaysSpec)

/-- ITS FALSE NEIGHBOUR: 'it returns false'. Refute it at one input. -/
def tablePlaysWrong : ChangeSpec := { name := "tablePlays", fn := fun _ => fun
  | [d1, d2] => { results := [.lit (.bool false)], args := [d1, d2] }
  | _ => none }
def TablePlaysWrongFalsely : Prop := tablePlaysRow.holds Tryd.pinned (OpenSpec.ofChange tablePlaysWrong)

/-- 'paddocklaw17.TableBits': WHATEVER THE INPUT: true; the input reads as it did. -/
def tableBitsSpec : ChangeSpec := { name := "tableBits", fn := fun _ => fun
  | [d1, d2] => { results := [.lit (.bool true)], args := [d1, d2] }
  | _ => none }
def tableBitsRow : OpenClaim := { program := "ytgoolkgjcmdilaadoor", sum := "64e8ca5825115a35157a735cc5961049f66140ac542560832ad0c2962d25c4a1", func := "paddock/paddocklaw17.TableBits", spec := "tableBits", inPlace := ["slices.overlaps[paddock/table.pair[paddock/paddocklaw17.Val]]"], unfollowed := true, recurses := true, named := ["math/bits.deBruijn64tab"], apart := false, laid := [("math/bits.deBruijn64tab", laid_math_bits_deBruijn64tab)] }
def TableBitsSaid : Prop := tableBitsRow.holds Tryd.pinned (OpenSpec.ofChange tableBitsSpec)

/-- ITS FALSE NEIGHBOUR: 'it returns false'. Refute it at one input. -/
def tableBitsWrong : ChangeSpec := { name := "tableBits", fn := fun _ => fun
  | [d1, d2] => { results := [.lit (.bool false)], args := [d1, d2] }
  | _ => none }
def TableBitsWrongFalsely : Prop := tableBitsRow.holds Tryd.pinned (OpenSpec.ofChange tableBitsWrong)

/-- 'paddocklaw18.TrackSpeeds': WHATEVER THE INPUT: true; the input reads as it did. -/
def trackSpeedsSpec : ChangeSpec := { name := "trackSpeeds", fn := fun _ => fun
  | [d] => { results := [.lit (.bool true)], args := [d] }
  | _ => none }
def trackSpeedsRow : OpenClaim := { program := "ytgoolkgjcmdilaadoor", sum := "64e8ca5825115a35157a735cc5961049f66140ac542560832ad0c2962d25c4a1", func := "paddock/paddocklaw18.TrackSpeeds", spec := "trackSpeeds", inPlace := ["math.Float64frombits", "math/bits.Add64", "math.sqrt", "slices.overlaps[paddock/table.pair[*paddock/track.object]]", "slices.overlaps[paddock/table.pair[int]]"], unfollowed := true, recurses := true, named := ["math/bits.deBruijn64tab"], apart := false, laid := [("math/bits.deBruijn64tab", laid_math_bits_deBruijn64tab)] }
def TrackSpeedsSaid : Prop := trackSpeedsRow.holds Tryd.pinned (OpenSpec.ofChange trackSpeedsSpec)

/-- ITS FALSE NEIGHBOUR: 'it returns false'. Refute it at one input. -/
def trackSpeedsWrong : ChangeSpec := { name := "trackSpeeds", fn := fun _ => fun
  | [d] => { results := [.lit (.bool false)], args := [d] }
  | _ => none }
def TrackSpeedsWrongFalsely : Prop := trackSpeedsRow.holds Tryd.pinned (OpenSpec.ofChange trackSpeedsWrong)

/-- 'paddocklaw18.TrackTurns': WHATEVER THE INPUT: true; the input reads as it did. -/
def trackTurnsSpec : ChangeSpec := { name := "trackTurns", fn := fun _ => fun
  | [d1, d2] => { results := [.lit (.bool true)], args := [d1, d2] }
  | _ => none }
def trackTurnsRow : OpenClaim := { program := "ytgoolkgjcmdilaadoor", sum := "64e8ca5825115a35157a735cc5961049f66140ac542560832ad0c2962d25c4a1", func := "paddock/paddocklaw18.TrackTurns", spec := "trackTurns", inPlace := ["math/bits.Add64", "math.sqrt", "slices.overlaps[paddock/table.pair[*paddock/track.object]]", "slices.overlaps[paddock/table.pair[int]]"], unfollowed := true, recurses := true, named := ["math/bits.deBruijn64tab"], apart := false, laid := [("math/bits.deBruijn64tab", laid_math_bits_deBruijn64tab)] }
def TrackTurnsSaid : Prop := trackTurnsRow.holds Tryd.pinned (OpenSpec.ofChange trackTurnsSpec)

/-- ITS FALSE NEIGHBOUR: 'it returns false'. Refute it at one input. -/
def trackTurnsWrong : ChangeSpec := { name := "trackTurns", fn := fun _ => fun
  | [d1, d2] => { results := [.lit (.bool false)], args := [d1, d2] }
  | _ => none }
def TrackTurnsWrongFalsely : Prop := trackTurnsRow.holds Tryd.pinned (OpenSpec.ofChange trackTurnsWrong)

/-- 'paddocklaw18.TrackReckons': WHATEVER THE INPUT: true; the input reads as it did. -/
def trackReckonsSpec : ChangeSpec := { name := "trackReckons", fn := fun _ => fun
  | [d] => { results := [.lit (.bool true)], args := [d] }
  | _ => none }
def trackReckonsRow : OpenClaim := { program := "ytgoolkgjcmdilaadoor", sum := "64e8ca5825115a35157a735cc5961049f66140ac542560832ad0c2962d25c4a1", func := "paddock/paddocklaw18.TrackReckons", spec := "trackReckons", inPlace := ["math.Float64frombits", "math/bits.Add64", "math.sqrt", "slices.overlaps[paddock/table.pair[*paddock/track.object]]", "slices.overlaps[paddock/table.pair[int]]"], unfollowed := true, recurses := true, named := ["math/bits.deBruijn64tab"], apart := false, laid := [("math/bits.deBruijn64tab", laid_math_bits_deBruijn64tab)] }
def TrackReckonsSaid : Prop := trackReckonsRow.holds Tryd.pinned (OpenSpec.ofChange trackReckonsSpec)

/-- ITS FALSE NEIGHBOUR: 'it returns false'. Refute it at one input. -/
def trackReckonsWrong : ChangeSpec := { name := "trackReckons", fn := fun _ => fun
  | [d] => { results := [.lit (.bool false)], args := [d] }
  | _ => none }
def TrackReckonsWrongFalsely : Prop := trackReckonsRow.holds Tryd.pinned (OpenSpec.ofChange trackReckonsWrong)

/-- 'paddocklaw18.TrackBooks': WHATEVER THE INPUT: true; the input reads as it did. -/
def trackBooksSpec : ChangeSpec := { name := "trackBooks", fn := fun _ => fun
  | [d1, d2, d3] => { results := [.lit (.bool true)], args := [d1, d2, d3] }
  | _ => none }
def trackBooksRow : OpenClaim := { program := "ytgoolkgjcmdilaadoor", sum := "64e8ca5825115a35157a735cc5961049f66140ac542560832ad0c2962d25c4a1", func := "paddock/paddocklaw18.TrackBooks", spec := "trackBooks", inPlace := ["math/bits.Add64", "math.sqrt", "slices.overlaps[paddock/table.pair[*paddock/track.object]]", "slices.overlaps[paddock/table.pair[int]]"], unfollowed := true, recurses := true, named := ["math/bits.deBruijn64tab"], apart := false, laid := [("math/bits.deBruijn64tab", laid_math_bits_deBruijn64tab)] }
def TrackBooksSaid : Prop := trackBooksRow.holds Tryd.pinned (OpenSpec.ofChange trackBooksSpec)

/-- ITS FALSE NEIGHBOUR: 'it returns false'. Refute it at one input. -/
def trackBooksWrong : ChangeSpec := { name := "trackBooks", fn := fun _ => fun
  | [d1, d2, d3] => { results := [.lit (.bool false)], args := [d1, d2, d3] }
  | _ => none }
def TrackBooksWrongFalsely : Prop := trackBooksRow.holds Tryd.pinned (OpenSpec.ofChange trackBooksWrong)

/-- 'paddocklaw18.TrackNil': WHATEVER THE INPUT: true; the input reads as it did. -/
def trackNilSpec : ChangeSpec := { name := "trackNil", fn := fun _ => fun
  | [d] => { results := [.lit (.bool true)], args := [d] }
  | _ => none }
def trackNilRow : OpenClaim := { program := "ytgoolkgjcmdilaadoor", sum := "64e8ca5825115a35157a735cc5961049f66140ac542560832ad0c2962d25c4a1", func := "paddock/paddocklaw18.TrackNil", spec := "trackNil", inPlace := ["slices.overlaps[paddock/table.pair[*paddock/track.object]]", "math/bits.Add64", "math.sqrt", "slices.overlaps[paddock/table.pair[int]]"], unfollowed := true, recurses := true, named := ["math/bits.deBruijn64tab"], apart := false, laid := [("math/bits.deBruijn64tab", laid_math_bits_deBruijn64tab)] }
def TrackNilSaid : Prop := trackNilRow.holds Tryd.pinned (OpenSpec.ofChange trackNilSpec)

/-- ITS FALSE NEIGHBOUR: 'it returns false'. Refute it at one input. -/
def trackNilWrong : ChangeSpec := { name := "trackNil", fn := fun _ => fun
  | [d] => { results := [.lit (.bool false)], args := [d] }
  | _ => none }
def TrackNilWrongFalsely : Prop := trackNilRow.holds Tryd.pinned (OpenSpec.ofChange trackNilWrong)

/- THE SECOND FORM. 'bulk': how many values and letters a reading holds, each counted each time it is reached (what is shared counts as often as it is met; a slice's spare places count too). A statement '..UptoSaid' is the law's where the arguments, and the package variables that the reading takes, are together of bulk at most 1048576: NARROWER than '..Said'. Prove '..Said' where nothing that the law and all that it calls make is longer than what came in: it says more and counts as full. Else prove '..UptoSaid'. A law counts once. -/
mutual
def uptoBulk {H : Type} : DataW H → Nat
  | .lit (.string bytes) => bytes.length + 1
  | .lit _ => 1
  | .nil => 1
  | .ptr d => uptoBulk d + 1
  | .slice elems spare => uptoBulkAll elems + uptoBulkAll spare + 1
  | .agg parts => uptoBulkAll parts + 1
  | .iface _ d => uptoBulk d + 1
  | .map entries => uptoBulkEntries entries + 1
  | .held _ => 1
def uptoBulkAll {H : Type} : List (DataW H) → Nat
  | [] => 0
  | d :: r => uptoBulk d + uptoBulkAll r
def uptoBulkEntries {H : Type} : List (Lit × DataW H) → Nat
  | [] => 0
  | x :: r => uptoBulkEntry x + uptoBulkEntries r
def uptoBulkEntry {H : Type} : Lit × DataW H → Nat
  | (.string bytes, d) => bytes.length + uptoBulk d + 1
  | (_, d) => uptoBulk d + 1
 end
def uptoSmall : (H : Type) → List (DataW H) → Bool := fun _ ds => decide (uptoBulkAll ds ≤ 1048576)
def OpenSpec.upto (s : _root_.Go.ChangeSpec) : _root_.Go.OpenSpec := { _root_.Go.OpenSpec.ofChange s with cond := some uptoSmall }

/-- 'paddocklaw17.TableWalks', WHERE WHAT IT READS IS OF BULK AT MOST 1048576: true; the input reads as it did. -/
def tableWalksUptoRow : OpenClaim := { program := "ytgoolkgjcmdilaadoor", sum := "64e8ca5825115a35157a735cc5961049f66140ac542560832ad0c2962d25c4a1", func := "paddock/paddocklaw17.TableWalks", spec := "tableWalks", inPlace := ["slices.overlaps[paddock/table.pair[paddock/paddocklaw17.Val]]"], unfollowed := true, recurses := true, named := ["math/bits.deBruijn64tab"], apart := false, laid := [("math/bits.deBruijn64tab", laid_math_bits_deBruijn64tab)], narrowed := true }
def TableWalksUptoSaid : Prop := tableWalksUptoRow.holds Tryd.pinned (OpenSpec.upto tableWalksSpec)

/-- 'paddocklaw17.TablePlays', WHERE WHAT IT READS IS OF BULK AT MOST 1048576: true; the input reads as it did. -/
def tablePlaysUptoRow : OpenClaim := { program := "ytgoolkgjcmdilaadoor", sum := "64e8ca5825115a35157a735cc5961049f66140ac542560832ad0c2962d25c4a1", func := "paddock/paddocklaw17.TablePlays", spec := "tablePlays", inPlace := ["slices.overlaps[paddock/table.pair[paddock/paddocklaw17.Val]]"], unfollowed := true, recurses := true, named := ["math/bits.deBruijn64tab"], apart := false, laid := [("math/bits.deBruijn64tab", laid_math_bits_deBruijn64tab)], narrowed := true }
def TablePlaysUptoSaid : Prop := tablePlaysUptoRow.holds Tryd.pinned (OpenSpec.upto tablePlaysSpec)

/-- 'paddocklaw17.TableBits', WHERE WHAT IT READS IS OF BULK AT MOST 1048576: true; the input reads as it did. -/
def tableBitsUptoRow : OpenClaim := { program := "ytgoolkgjcmdilaadoor", sum := "64e8ca5825115a35157a735cc5961049f66140ac542560832ad0c2962d25c4a1", func := "paddock/paddocklaw17.TableBits", spec := "tableBits", inPlace := ["slices.overlaps[paddock/table.pair[paddock/paddocklaw17.Val]]"], unfollowed := true, recurses := true, named := ["math/bits.deBruijn64tab"], apart := false, laid := [("math/bits.deBruijn64tab", laid_math_bits_deBruijn64tab)], narrowed := true }
def TableBitsUptoSaid : Prop := tableBitsUptoRow.holds Tryd.pinned (OpenSpec.upto tableBitsSpec)

/-- 'paddocklaw18.TrackSpeeds', WHERE WHAT IT READS IS OF BULK AT MOST 1048576: true; the input reads as it did. -/
def trackSpeedsUptoRow : OpenClaim := { program := "ytgoolkgjcmdilaadoor", sum := "64e8ca5825115a35157a735cc5961049f66140ac542560832ad0c2962d25c4a1", func := "paddock/paddocklaw18.TrackSpeeds", spec := "trackSpeeds", inPlace := ["math.Float64frombits", "math/bits.Add64", "math.sqrt", "slices.overlaps[paddock/table.pair[*paddock/track.object]]", "slices.overlaps[paddock/table.pair[int]]"], unfollowed := true, recurses := true, named := ["math/bits.deBruijn64tab"], apart := false, laid := [("math/bits.deBruijn64tab", laid_math_bits_deBruijn64tab)], narrowed := true }
def TrackSpeedsUptoSaid : Prop := trackSpeedsUptoRow.holds Tryd.pinned (OpenSpec.upto trackSpeedsSpec)

/-- 'paddocklaw18.TrackTurns', WHERE WHAT IT READS IS OF BULK AT MOST 1048576: true; the input reads as it did. -/
def trackTurnsUptoRow : OpenClaim := { program := "ytgoolkgjcmdilaadoor", sum := "64e8ca5825115a35157a735cc5961049f66140ac542560832ad0c2962d25c4a1", func := "paddock/paddocklaw18.TrackTurns", spec := "trackTurns", inPlace := ["math/bits.Add64", "math.sqrt", "slices.overlaps[paddock/table.pair[*paddock/track.object]]", "slices.overlaps[paddock/table.pair[int]]"], unfollowed := true, recurses := true, named := ["math/bits.deBruijn64tab"], apart := false, laid := [("math/bits.deBruijn64tab", laid_math_bits_deBruijn64tab)], narrowed := true }
def TrackTurnsUptoSaid : Prop := trackTurnsUptoRow.holds Tryd.pinned (OpenSpec.upto trackTurnsSpec)

/-- 'paddocklaw18.TrackReckons', WHERE WHAT IT READS IS OF BULK AT MOST 1048576: true; the input reads as it did. -/
def trackReckonsUptoRow : OpenClaim := { program := "ytgoolkgjcmdilaadoor", sum := "64e8ca5825115a35157a735cc5961049f66140ac542560832ad0c2962d25c4a1", func := "paddock/paddocklaw18.TrackReckons", spec := "trackReckons", inPlace := ["math.Float64frombits", "math/bits.Add64", "math.sqrt", "slices.overlaps[paddock/table.pair[*paddock/track.object]]", "slices.overlaps[paddock/table.pair[int]]"], unfollowed := true, recurses := true, named := ["math/bits.deBruijn64tab"], apart := false, laid := [("math/bits.deBruijn64tab", laid_math_bits_deBruijn64tab)], narrowed := true }
def TrackReckonsUptoSaid : Prop := trackReckonsUptoRow.holds Tryd.pinned (OpenSpec.upto trackReckonsSpec)

/-- 'paddocklaw18.TrackBooks', WHERE WHAT IT READS IS OF BULK AT MOST 1048576: true; the input reads as it did. -/
def trackBooksUptoRow : OpenClaim := { program := "ytgoolkgjcmdilaadoor", sum := "64e8ca5825115a35157a735cc5961049f66140ac542560832ad0c2962d25c4a1", func := "paddock/paddocklaw18.TrackBooks", spec := "trackBooks", inPlace := ["math/bits.Add64", "math.sqrt", "slices.overlaps[paddock/table.pair[*paddock/track.object]]", "slices.overlaps[paddock/table.pair[int]]"], unfollowed := true, recurses := true, named := ["math/bits.deBruijn64tab"], apart := false, laid := [("math/bits.deBruijn64tab", laid_math_bits_deBruijn64tab)], narrowed := true }
def TrackBooksUptoSaid : Prop := trackBooksUptoRow.holds Tryd.pinned (OpenSpec.upto trackBooksSpec)

/-- 'paddocklaw18.TrackNil', WHERE WHAT IT READS IS OF BULK AT MOST 1048576: true; the input reads as it did. -/
def trackNilUptoRow : OpenClaim := { program := "ytgoolkgjcmdilaadoor", sum := "64e8ca5825115a35157a735cc5961049f66140ac542560832ad0c2962d25c4a1", func := "paddock/paddocklaw18.TrackNil", spec := "trackNil", inPlace := ["slices.overlaps[paddock/table.pair[*paddock/track.object]]", "math/bits.Add64", "math.sqrt", "slices.overlaps[paddock/table.pair[int]]"], unfollowed := true, recurses := true, named := ["math/bits.deBruijn64tab"], apart := false, laid := [("math/bits.deBruijn64tab", laid_math_bits_deBruijn64tab)], narrowed := true }
def TrackNilUptoSaid : Prop := trackNilUptoRow.holds Tryd.pinned (OpenSpec.upto trackNilSpec)

end Rows
end Go.Proofs.YtgoolkgjcmdilaaDoor
