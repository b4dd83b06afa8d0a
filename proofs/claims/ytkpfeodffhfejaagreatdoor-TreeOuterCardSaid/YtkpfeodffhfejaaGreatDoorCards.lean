/-
  DERIVED. GIVEN WITH THE SEED: THE CARDS: each row of YtkpfeodffhfejaaGreatDoorRows.lean that lists a variable, with what it lists TIED to the program's text (the seventh form; the later family's looks); each row that meets fmt, with fmt's text TOLD by the authors' own Lean function (tested against real Go, not proved from fmt's source: count such statements apart). THE CARD IS WHAT COUNTS. Prove the row's statement (the work); the ties are given (YtkpfeodffhfejaaGreatDoorTie.lean); close each card by the builder's one call (the guide's Derived/Test/ToyasCard.lean, 'card_holds'). Laid BY PROGRAM, IN A SANDBOX (cutbox-door.mjs). By AI agents, Wed Nov 11 2026. No macro, syntax, notation, axiom, sorry.
-/
import Derived.Test.YtkpfeodffhfejaaGreatDoorRows
import GoSem.ClaimSeven
namespace Go.Proofs.YtkpfeodffhfejaaGreatDoor
namespace Rows

/-- THE TIED CARD OF 'platenlaw12.TreeTypes'. -/
def treeTypesCard : Claim7 := { stood := { row := treeTypesRow, standIns := [], harness := (true, "b30329980a297c9dd49f11a2cd5ba8d52dcc5960b76499fbcb015be09fa56220"), looks := true }, kinds := [], alts := [], laidByText := true, laidKinds := [.data, .pinned, .pinned], laidTests := true, laidLooks := .later }
def TreeTypesCardSaid : Prop := Claim7.holds Tryz.pinned (.plain (OpenSpec.ofChange treeTypesSpec)) treeTypesCard

/-- THE TIED CARD OF 'platenlaw12.TreeOuter'. -/
def treeOuterCard : Claim7 := { stood := { row := treeOuterRow, standIns := [], harness := (true, "b30329980a297c9dd49f11a2cd5ba8d52dcc5960b76499fbcb015be09fa56220"), looks := true }, kinds := [], alts := [], laidByText := true, laidKinds := [.data, .pinned, .pinned], laidTests := true, laidLooks := .later }
def TreeOuterCardSaid : Prop := Claim7.holds Tryz.pinned (.plain (OpenSpec.ofChange treeOuterSpec)) treeOuterCard

/-- THE TIED CARD OF 'platenlaw12.TreeLists'. -/
def treeListsCard : Claim7 := { stood := { row := treeListsRow, standIns := [], harness := (true, "b30329980a297c9dd49f11a2cd5ba8d52dcc5960b76499fbcb015be09fa56220"), looks := true }, kinds := [], alts := [], laidByText := true, laidKinds := [.data, .pinned, .pinned], laidTests := true, laidLooks := .later }
def TreeListsCardSaid : Prop := Claim7.holds Tryz.pinned (.plain (OpenSpec.ofChange treeListsSpec)) treeListsCard

/-- THE TIED CARD OF 'platenlaw12.TreeStructs'. -/
def treeStructsCard : Claim7 := { stood := { row := treeStructsRow, standIns := [], harness := (true, "b30329980a297c9dd49f11a2cd5ba8d52dcc5960b76499fbcb015be09fa56220"), looks := true }, kinds := [], alts := [], laidByText := true, laidKinds := [.data, .pinned, .pinned], laidTests := true, laidLooks := .later }
def TreeStructsCardSaid : Prop := Claim7.holds Tryz.pinned (.plain (OpenSpec.ofChange treeStructsSpec)) treeStructsCard

/-- THE TIED CARD OF 'platenlaw12.TreePtrs'. -/
def treePtrsCard : Claim7 := { stood := { row := treePtrsRow, standIns := [], harness := (true, "b30329980a297c9dd49f11a2cd5ba8d52dcc5960b76499fbcb015be09fa56220"), looks := true }, kinds := [], alts := [], laidByText := true, laidKinds := [.data, .pinned, .pinned], laidTests := true, laidLooks := .later }
def TreePtrsCardSaid : Prop := Claim7.holds Tryz.pinned (.plain (OpenSpec.ofChange treePtrsSpec)) treePtrsCard

/-- THE TIED CARD OF 'platenlaw12.TreeQuiet'. -/
def treeQuietCard : Claim7 := { stood := { row := treeQuietRow, standIns := [], harness := (true, "b30329980a297c9dd49f11a2cd5ba8d52dcc5960b76499fbcb015be09fa56220"), looks := true }, kinds := [], alts := [], laidByText := true, laidKinds := [.data, .pinned, .pinned], laidTests := true, laidLooks := .later }
def TreeQuietCardSaid : Prop := Claim7.holds Tryz.pinned (.plain (OpenSpec.ofChange treeQuietSpec)) treeQuietCard

/-- THE SECOND FORM's CARD OF 'platenlaw12.TreeTypes'. -/
def treeTypesUptoCard : Claim7 := { stood := { row := treeTypesUptoRow, standIns := [], harness := (true, "b30329980a297c9dd49f11a2cd5ba8d52dcc5960b76499fbcb015be09fa56220"), looks := true }, kinds := [], alts := [], laidByText := true, laidKinds := [.data, .pinned, .pinned], laidTests := true, laidLooks := .later }
def TreeTypesUptoCardSaid : Prop := Claim7.holds Tryz.pinned (.plain (OpenSpec.upto treeTypesSpec)) treeTypesUptoCard

/-- THE SECOND FORM's CARD OF 'platenlaw12.TreeOuter'. -/
def treeOuterUptoCard : Claim7 := { stood := { row := treeOuterUptoRow, standIns := [], harness := (true, "b30329980a297c9dd49f11a2cd5ba8d52dcc5960b76499fbcb015be09fa56220"), looks := true }, kinds := [], alts := [], laidByText := true, laidKinds := [.data, .pinned, .pinned], laidTests := true, laidLooks := .later }
def TreeOuterUptoCardSaid : Prop := Claim7.holds Tryz.pinned (.plain (OpenSpec.upto treeOuterSpec)) treeOuterUptoCard

/-- THE SECOND FORM's CARD OF 'platenlaw12.TreeLists'. -/
def treeListsUptoCard : Claim7 := { stood := { row := treeListsUptoRow, standIns := [], harness := (true, "b30329980a297c9dd49f11a2cd5ba8d52dcc5960b76499fbcb015be09fa56220"), looks := true }, kinds := [], alts := [], laidByText := true, laidKinds := [.data, .pinned, .pinned], laidTests := true, laidLooks := .later }
def TreeListsUptoCardSaid : Prop := Claim7.holds Tryz.pinned (.plain (OpenSpec.upto treeListsSpec)) treeListsUptoCard

/-- THE SECOND FORM's CARD OF 'platenlaw12.TreeStructs'. -/
def treeStructsUptoCard : Claim7 := { stood := { row := treeStructsUptoRow, standIns := [], harness := (true, "b30329980a297c9dd49f11a2cd5ba8d52dcc5960b76499fbcb015be09fa56220"), looks := true }, kinds := [], alts := [], laidByText := true, laidKinds := [.data, .pinned, .pinned], laidTests := true, laidLooks := .later }
def TreeStructsUptoCardSaid : Prop := Claim7.holds Tryz.pinned (.plain (OpenSpec.upto treeStructsSpec)) treeStructsUptoCard

/-- THE SECOND FORM's CARD OF 'platenlaw12.TreePtrs'. -/
def treePtrsUptoCard : Claim7 := { stood := { row := treePtrsUptoRow, standIns := [], harness := (true, "b30329980a297c9dd49f11a2cd5ba8d52dcc5960b76499fbcb015be09fa56220"), looks := true }, kinds := [], alts := [], laidByText := true, laidKinds := [.data, .pinned, .pinned], laidTests := true, laidLooks := .later }
def TreePtrsUptoCardSaid : Prop := Claim7.holds Tryz.pinned (.plain (OpenSpec.upto treePtrsSpec)) treePtrsUptoCard

/-- THE SECOND FORM's CARD OF 'platenlaw12.TreeQuiet'. -/
def treeQuietUptoCard : Claim7 := { stood := { row := treeQuietUptoRow, standIns := [], harness := (true, "b30329980a297c9dd49f11a2cd5ba8d52dcc5960b76499fbcb015be09fa56220"), looks := true }, kinds := [], alts := [], laidByText := true, laidKinds := [.data, .pinned, .pinned], laidTests := true, laidLooks := .later }
def TreeQuietUptoCardSaid : Prop := Claim7.holds Tryz.pinned (.plain (OpenSpec.upto treeQuietSpec)) treeQuietUptoCard
end Rows
end Go.Proofs.YtkpfeodffhfejaaGreatDoor
