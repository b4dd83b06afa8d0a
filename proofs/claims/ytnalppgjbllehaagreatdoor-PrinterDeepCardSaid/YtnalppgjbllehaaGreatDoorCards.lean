/-
  DERIVED. GIVEN WITH THE SEED: THE CARDS: each row of YtnalppgjbllehaaGreatDoorRows.lean that lists a variable, with what it lists TIED to the program's text (the seventh form; the later family's looks); each row that meets fmt, with fmt's text TOLD by the authors' own Lean function (tested against real Go, not proved from fmt's source: count such statements apart). THE CARD IS WHAT COUNTS. Prove the row's statement (the work); the ties are given (YtnalppgjbllehaaGreatDoorTie.lean); close each card by the builder's one call (the guide's Derived/Test/ToyasCard.lean, 'card_holds'). Laid BY PROGRAM, IN A SANDBOX (cutbox-door.mjs). By AI agents, Wed Nov 11 2026. No macro, syntax, notation, axiom, sorry.
-/
import Derived.Test.YtnalppgjbllehaaGreatDoorRows
import GoSem.ClaimSeven
namespace Go.Proofs.YtnalppgjbllehaaGreatDoor
namespace Rows

/-- THE TIED CARD OF 'platenlaw14.PrinterLits'. -/
def printerLitsCard : Claim7 := { stood := { row := printerLitsRow, standIns := [], harness := (true, "64683b780938099b14a5c08c680f6944452450151a2f799ad6971889380d8fab"), looks := true }, kinds := [], alts := [], laidByText := true, laidKinds := [.data, .pinned, .pinned], laidTests := true, laidLooks := .later }
def PrinterLitsCardSaid : Prop := Claim7.holds Tryz.pinned (.plain (OpenSpec.ofChange printerLitsSpec)) printerLitsCard

/-- THE TIED CARD OF 'platenlaw14.PrinterDeep'. -/
def printerDeepCard : Claim7 := { stood := { row := printerDeepRow, standIns := [], harness := (true, "64683b780938099b14a5c08c680f6944452450151a2f799ad6971889380d8fab"), looks := true }, kinds := [], alts := [], laidByText := true, laidKinds := [.data, .pinned, .pinned], laidTests := true, laidLooks := .later }
def PrinterDeepCardSaid : Prop := Claim7.holds Tryz.pinned (.plain (OpenSpec.ofChange printerDeepSpec)) printerDeepCard

/-- THE SECOND FORM's CARD OF 'platenlaw14.PrinterLits'. -/
def printerLitsUptoCard : Claim7 := { stood := { row := printerLitsUptoRow, standIns := [], harness := (true, "64683b780938099b14a5c08c680f6944452450151a2f799ad6971889380d8fab"), looks := true }, kinds := [], alts := [], laidByText := true, laidKinds := [.data, .pinned, .pinned], laidTests := true, laidLooks := .later }
def PrinterLitsUptoCardSaid : Prop := Claim7.holds Tryz.pinned (.plain (OpenSpec.upto printerLitsSpec)) printerLitsUptoCard

/-- THE SECOND FORM's CARD OF 'platenlaw14.PrinterDeep'. -/
def printerDeepUptoCard : Claim7 := { stood := { row := printerDeepUptoRow, standIns := [], harness := (true, "64683b780938099b14a5c08c680f6944452450151a2f799ad6971889380d8fab"), looks := true }, kinds := [], alts := [], laidByText := true, laidKinds := [.data, .pinned, .pinned], laidTests := true, laidLooks := .later }
def PrinterDeepUptoCardSaid : Prop := Claim7.holds Tryz.pinned (.plain (OpenSpec.upto printerDeepSpec)) printerDeepUptoCard
end Rows
end Go.Proofs.YtnalppgjbllehaaGreatDoor
