/-
  DERIVED. GIVEN WITH THE SEED: THE CARDS: each row of YtgoolkgjcmdilaaDoorRows.lean that lists a variable, with what it lists TIED to the program's text (the seventh form; the later family's looks); each row that meets fmt, with fmt's text TOLD by the authors' own Lean function (tested against real Go, not proved from fmt's source: count such statements apart). THE CARD IS WHAT COUNTS. Prove the row's statement (the work); the ties are given (YtgoolkgjcmdilaaDoorTie.lean); close each card by the builder's one call (the guide's Derived/Test/ToyasCard.lean, 'card_holds'). Laid BY PROGRAM, IN A SANDBOX (cutbox-door.mjs). By AI agents, Wed Nov 11 2026. No macro, syntax, notation, axiom, sorry.
-/
import Derived.Test.YtgoolkgjcmdilaaDoorRows
import GoSem.ClaimSeven
namespace Go.Proofs.YtgoolkgjcmdilaaDoor
namespace Rows

/-- THE TIED CARD OF 'paddocklaw17.TableWalks'. -/
def tableWalksCard : Claim7 := { stood := { row := tableWalksRow, standIns := [], harness := (true, "b6f3be07e088d36f4577610d73e1dcfdbb7476eff3468039bc419583dd7ef9f1"), looks := false }, kinds := [], alts := [], laidByText := true, laidKinds := [.data], laidTests := true, laidLooks := .later }
def TableWalksCardSaid : Prop := Claim7.holds Tryd.pinned (.plain (OpenSpec.ofChange tableWalksSpec)) tableWalksCard

/-- THE TIED CARD OF 'paddocklaw17.TablePlays'. -/
def tablePlaysCard : Claim7 := { stood := { row := tablePlaysRow, standIns := [], harness := (true, "b6f3be07e088d36f4577610d73e1dcfdbb7476eff3468039bc419583dd7ef9f1"), looks := false }, kinds := [], alts := [], laidByText := true, laidKinds := [.data], laidTests := true, laidLooks := .later }
def TablePlaysCardSaid : Prop := Claim7.holds Tryd.pinned (.plain (OpenSpec.ofChange tablePlaysSpec)) tablePlaysCard

/-- THE TIED CARD OF 'paddocklaw17.TableBits'. -/
def tableBitsCard : Claim7 := { stood := { row := tableBitsRow, standIns := [], harness := (true, "b6f3be07e088d36f4577610d73e1dcfdbb7476eff3468039bc419583dd7ef9f1"), looks := false }, kinds := [], alts := [], laidByText := true, laidKinds := [.data], laidTests := true, laidLooks := .later }
def TableBitsCardSaid : Prop := Claim7.holds Tryd.pinned (.plain (OpenSpec.ofChange tableBitsSpec)) tableBitsCard

/-- THE TIED CARD OF 'paddocklaw18.TrackSpeeds'. -/
def trackSpeedsCard : Claim7 := { stood := { row := trackSpeedsRow, standIns := [], harness := (true, "b6f3be07e088d36f4577610d73e1dcfdbb7476eff3468039bc419583dd7ef9f1"), looks := false }, kinds := [], alts := [], laidByText := true, laidKinds := [.data], laidTests := true, laidLooks := .later }
def TrackSpeedsCardSaid : Prop := Claim7.holds Tryd.pinned (.plain (OpenSpec.ofChange trackSpeedsSpec)) trackSpeedsCard

/-- THE TIED CARD OF 'paddocklaw18.TrackTurns'. -/
def trackTurnsCard : Claim7 := { stood := { row := trackTurnsRow, standIns := [], harness := (true, "b6f3be07e088d36f4577610d73e1dcfdbb7476eff3468039bc419583dd7ef9f1"), looks := false }, kinds := [], alts := [], laidByText := true, laidKinds := [.data], laidTests := true, laidLooks := .later }
def TrackTurnsCardSaid : Prop := Claim7.holds Tryd.pinned (.plain (OpenSpec.ofChange trackTurnsSpec)) trackTurnsCard

/-- THE TIED CARD OF 'paddocklaw18.TrackReckons'. -/
def trackReckonsCard : Claim7 := { stood := { row := trackReckonsRow, standIns := [], harness := (true, "b6f3be07e088d36f4577610d73e1dcfdbb7476eff3468039bc419583dd7ef9f1"), looks := false }, kinds := [], alts := [], laidByText := true, laidKinds := [.data], laidTests := true, laidLooks := .later }
def TrackReckonsCardSaid : Prop := Claim7.holds Tryd.pinned (.plain (OpenSpec.ofChange trackReckonsSpec)) trackReckonsCard

/-- THE TIED CARD OF 'paddocklaw18.TrackBooks'. -/
def trackBooksCard : Claim7 := { stood := { row := trackBooksRow, standIns := [], harness := (true, "b6f3be07e088d36f4577610d73e1dcfdbb7476eff3468039bc419583dd7ef9f1"), looks := false }, kinds := [], alts := [], laidByText := true, laidKinds := [.data], laidTests := true, laidLooks := .later }
def TrackBooksCardSaid : Prop := Claim7.holds Tryd.pinned (.plain (OpenSpec.ofChange trackBooksSpec)) trackBooksCard

/-- THE TIED CARD OF 'paddocklaw18.TrackNil'. -/
def trackNilCard : Claim7 := { stood := { row := trackNilRow, standIns := [], harness := (true, "b6f3be07e088d36f4577610d73e1dcfdbb7476eff3468039bc419583dd7ef9f1"), looks := false }, kinds := [], alts := [], laidByText := true, laidKinds := [.data], laidTests := true, laidLooks := .later }
def TrackNilCardSaid : Prop := Claim7.holds Tryd.pinned (.plain (OpenSpec.ofChange trackNilSpec)) trackNilCard

/-- THE SECOND FORM's CARD OF 'paddocklaw17.TableWalks'. -/
def tableWalksUptoCard : Claim7 := { stood := { row := tableWalksUptoRow, standIns := [], harness := (true, "b6f3be07e088d36f4577610d73e1dcfdbb7476eff3468039bc419583dd7ef9f1"), looks := false }, kinds := [], alts := [], laidByText := true, laidKinds := [.data], laidTests := true, laidLooks := .later }
def TableWalksUptoCardSaid : Prop := Claim7.holds Tryd.pinned (.plain (OpenSpec.upto tableWalksSpec)) tableWalksUptoCard

/-- THE SECOND FORM's CARD OF 'paddocklaw17.TablePlays'. -/
def tablePlaysUptoCard : Claim7 := { stood := { row := tablePlaysUptoRow, standIns := [], harness := (true, "b6f3be07e088d36f4577610d73e1dcfdbb7476eff3468039bc419583dd7ef9f1"), looks := false }, kinds := [], alts := [], laidByText := true, laidKinds := [.data], laidTests := true, laidLooks := .later }
def TablePlaysUptoCardSaid : Prop := Claim7.holds Tryd.pinned (.plain (OpenSpec.upto tablePlaysSpec)) tablePlaysUptoCard

/-- THE SECOND FORM's CARD OF 'paddocklaw17.TableBits'. -/
def tableBitsUptoCard : Claim7 := { stood := { row := tableBitsUptoRow, standIns := [], harness := (true, "b6f3be07e088d36f4577610d73e1dcfdbb7476eff3468039bc419583dd7ef9f1"), looks := false }, kinds := [], alts := [], laidByText := true, laidKinds := [.data], laidTests := true, laidLooks := .later }
def TableBitsUptoCardSaid : Prop := Claim7.holds Tryd.pinned (.plain (OpenSpec.upto tableBitsSpec)) tableBitsUptoCard

/-- THE SECOND FORM's CARD OF 'paddocklaw18.TrackSpeeds'. -/
def trackSpeedsUptoCard : Claim7 := { stood := { row := trackSpeedsUptoRow, standIns := [], harness := (true, "b6f3be07e088d36f4577610d73e1dcfdbb7476eff3468039bc419583dd7ef9f1"), looks := false }, kinds := [], alts := [], laidByText := true, laidKinds := [.data], laidTests := true, laidLooks := .later }
def TrackSpeedsUptoCardSaid : Prop := Claim7.holds Tryd.pinned (.plain (OpenSpec.upto trackSpeedsSpec)) trackSpeedsUptoCard

/-- THE SECOND FORM's CARD OF 'paddocklaw18.TrackTurns'. -/
def trackTurnsUptoCard : Claim7 := { stood := { row := trackTurnsUptoRow, standIns := [], harness := (true, "b6f3be07e088d36f4577610d73e1dcfdbb7476eff3468039bc419583dd7ef9f1"), looks := false }, kinds := [], alts := [], laidByText := true, laidKinds := [.data], laidTests := true, laidLooks := .later }
def TrackTurnsUptoCardSaid : Prop := Claim7.holds Tryd.pinned (.plain (OpenSpec.upto trackTurnsSpec)) trackTurnsUptoCard

/-- THE SECOND FORM's CARD OF 'paddocklaw18.TrackReckons'. -/
def trackReckonsUptoCard : Claim7 := { stood := { row := trackReckonsUptoRow, standIns := [], harness := (true, "b6f3be07e088d36f4577610d73e1dcfdbb7476eff3468039bc419583dd7ef9f1"), looks := false }, kinds := [], alts := [], laidByText := true, laidKinds := [.data], laidTests := true, laidLooks := .later }
def TrackReckonsUptoCardSaid : Prop := Claim7.holds Tryd.pinned (.plain (OpenSpec.upto trackReckonsSpec)) trackReckonsUptoCard

/-- THE SECOND FORM's CARD OF 'paddocklaw18.TrackBooks'. -/
def trackBooksUptoCard : Claim7 := { stood := { row := trackBooksUptoRow, standIns := [], harness := (true, "b6f3be07e088d36f4577610d73e1dcfdbb7476eff3468039bc419583dd7ef9f1"), looks := false }, kinds := [], alts := [], laidByText := true, laidKinds := [.data], laidTests := true, laidLooks := .later }
def TrackBooksUptoCardSaid : Prop := Claim7.holds Tryd.pinned (.plain (OpenSpec.upto trackBooksSpec)) trackBooksUptoCard

/-- THE SECOND FORM's CARD OF 'paddocklaw18.TrackNil'. -/
def trackNilUptoCard : Claim7 := { stood := { row := trackNilUptoRow, standIns := [], harness := (true, "b6f3be07e088d36f4577610d73e1dcfdbb7476eff3468039bc419583dd7ef9f1"), looks := false }, kinds := [], alts := [], laidByText := true, laidKinds := [.data], laidTests := true, laidLooks := .later }
def TrackNilUptoCardSaid : Prop := Claim7.holds Tryd.pinned (.plain (OpenSpec.upto trackNilSpec)) trackNilUptoCard
end Rows
end Go.Proofs.YtgoolkgjcmdilaaDoor
