/-
  DERIVED. GIVEN WITH THE SEED: THE CARDS: each row of YtopocbcekabkoaaGreatDoorRows.lean that lists a variable, with what it lists TIED to the program's text (the seventh form; the later family's looks); each row that meets fmt, with fmt's text TOLD by the authors' own Lean function (tested against real Go, not proved from fmt's source: count such statements apart). THE CARD IS WHAT COUNTS. Prove the row's statement (the work); the ties are given (YtopocbcekabkoaaGreatDoorTie.lean); close each card by the builder's one call (the guide's Derived/Test/ToyasCard.lean, 'card_holds'). Laid BY PROGRAM, IN A SANDBOX (cutbox-door.mjs). By AI agents, Wed Nov 11 2026. No macro, syntax, notation, axiom, sorry.
-/
import Derived.Test.YtopocbcekabkoaaGreatDoorRows
import GoSem.ClaimSeven
namespace Go.Proofs.YtopocbcekabkoaaGreatDoor
namespace Rows

/-- THE TIED CARD OF 'scriptoriumtop.TopSearchRights'. -/
def topSearchRightsCard : Claim7 := { stood := { row := topSearchRightsRow, standIns := [], harness := (true, "7f6f1dd5336f425c1df767e00b1252380e9b245443159fdd932b48d402ea1136"), looks := false }, kinds := [], alts := [], laidByText := true, laidKinds := [.data, .data, .data, .data, .pinned], laidTests := true, laidLooks := .later }
def TopSearchRightsCardSaid : Prop := Claim7.holds Tryz.pinned (.plain (OpenSpec.ofChange topSearchRightsSpec)) topSearchRightsCard

/-- THE SECOND FORM's CARD OF 'scriptoriumtop.TopSearchRights'. -/
def topSearchRightsUptoCard : Claim7 := { stood := { row := topSearchRightsUptoRow, standIns := [], harness := (true, "7f6f1dd5336f425c1df767e00b1252380e9b245443159fdd932b48d402ea1136"), looks := false }, kinds := [], alts := [], laidByText := true, laidKinds := [.data, .data, .data, .data, .pinned], laidTests := true, laidLooks := .later }
def TopSearchRightsUptoCardSaid : Prop := Claim7.holds Tryz.pinned (.plain (OpenSpec.upto topSearchRightsSpec)) topSearchRightsUptoCard
end Rows
end Go.Proofs.YtopocbcekabkoaaGreatDoor
