/-
  DERIVED. GIVEN WITH THE SEED: THE CARDS: each row of YtiimmndhinoaiaaDoorRows.lean that lists a variable, with what it lists TIED to the program's text (the seventh form; the later family's looks); each row that meets fmt, with fmt's text TOLD by the authors' own Lean function (tested against real Go, not proved from fmt's source: count such statements apart). THE CARD IS WHAT COUNTS. Prove the row's statement (the work); the ties are given (YtiimmndhinoaiaaDoorTie.lean); close each card by the builder's one call (the guide's Derived/Test/ToyasCard.lean, 'card_holds'). Laid BY PROGRAM, IN A SANDBOX (cutbox-door.mjs). By AI agents, Wed Nov 11 2026. No macro, syntax, notation, axiom, sorry.
-/
import Derived.Test.YtiimmndhinoaiaaDoorRows
import GoSem.ClaimSeven
namespace Go.Proofs.YtiimmndhinoaiaaDoor
namespace Rows

/-- THE TIED CARD OF 'paddocklaw24.LinkExact'. -/
def linkExactCard : Claim7 := { stood := { row := linkExactRow, standIns := [], harness := (true, "754fa79e968d8f68e01233214e2054c5d83be7e4711fe0ed7396410912579223"), looks := false }, kinds := [], alts := [], laidByText := true, laidKinds := [.data, .data, .data], laidTests := true, laidLooks := .later }
def LinkExactCardSaid : Prop := Claim7.holds Tryd.pinned (.plain (OpenSpec.ofChange linkExactSpec)) linkExactCard

/-- THE TIED CARD OF 'paddocklaw15.QueueExact'. -/
def queueExactCard : Claim7 := { stood := { row := queueExactRow, standIns := [], harness := (true, "754fa79e968d8f68e01233214e2054c5d83be7e4711fe0ed7396410912579223"), looks := false }, kinds := [], alts := [], laidByText := true, laidKinds := [.data, .data, .data], laidTests := true, laidLooks := .later }
def QueueExactCardSaid : Prop := Claim7.holds Tryd.pinned (.plain (OpenSpec.ofChange queueExactSpec)) queueExactCard

/-- THE SECOND FORM's CARD OF 'paddocklaw24.LinkExact'. -/
def linkExactUptoCard : Claim7 := { stood := { row := linkExactUptoRow, standIns := [], harness := (true, "754fa79e968d8f68e01233214e2054c5d83be7e4711fe0ed7396410912579223"), looks := false }, kinds := [], alts := [], laidByText := true, laidKinds := [.data, .data, .data], laidTests := true, laidLooks := .later }
def LinkExactUptoCardSaid : Prop := Claim7.holds Tryd.pinned (.plain (OpenSpec.upto linkExactSpec)) linkExactUptoCard

/-- THE SECOND FORM's CARD OF 'paddocklaw15.QueueExact'. -/
def queueExactUptoCard : Claim7 := { stood := { row := queueExactUptoRow, standIns := [], harness := (true, "754fa79e968d8f68e01233214e2054c5d83be7e4711fe0ed7396410912579223"), looks := false }, kinds := [], alts := [], laidByText := true, laidKinds := [.data, .data, .data], laidTests := true, laidLooks := .later }
def QueueExactUptoCardSaid : Prop := Claim7.holds Tryd.pinned (.plain (OpenSpec.upto queueExactSpec)) queueExactUptoCard
end Rows
end Go.Proofs.YtiimmndhinoaiaaDoor
