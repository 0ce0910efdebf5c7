/-
  DERIVED. GIVEN WITH THE SEED: THE CARDS: each row of YtnmkjjgmnbmmnaaGreatDoorRows.lean that lists a variable, with what it lists TIED to the program's text (the seventh form; the later family's looks); each row that meets fmt, with fmt's text TOLD by the authors' own Lean function (tested against real Go, not proved from fmt's source: count such statements apart). THE CARD IS WHAT COUNTS. Prove the row's statement (the work); the ties are given (YtnmkjjgmnbmmnaaGreatDoorTie.lean); close each card by the builder's one call (the guide's Derived/Test/ToyasCard.lean, 'card_holds'). Laid BY PROGRAM, IN A SANDBOX (cutbox-door.mjs). By AI agents, Wed Nov 11 2026. No macro, syntax, notation, axiom, sorry.
-/
import Derived.Test.YtnmkjjgmnbmmnaaGreatDoorRows
import GoSem.ClaimSeven
namespace Go.Proofs.YtnmkjjgmnbmmnaaGreatDoor
namespace Rows

/-- THE TIED CARD OF 'scriptoriumtop.TopPicturesDescribed'. -/
def topPicturesDescribedCard : Claim7 := { stood := { row := topPicturesDescribedRow, standIns := [], harness := (true, "ae40d24b29bcac1393a8d4625c8d9b60492621b03c048dc3a280a5f4863294e8"), looks := true }, kinds := [], alts := [], laidByText := true, laidKinds := [.data, .data, .data, .data, .sentinel, .sentinel, .listed, .data, .pinned], laidTests := true, laidLooks := .later }
def TopPicturesDescribedCardSaid : Prop := Claim7.holds Tryz.pinned (.plain (OpenSpec.ofChange topPicturesDescribedSpec)) topPicturesDescribedCard

/-- THE SECOND FORM's CARD OF 'scriptoriumtop.TopPicturesDescribed'. -/
def topPicturesDescribedUptoCard : Claim7 := { stood := { row := topPicturesDescribedUptoRow, standIns := [], harness := (true, "ae40d24b29bcac1393a8d4625c8d9b60492621b03c048dc3a280a5f4863294e8"), looks := true }, kinds := [], alts := [], laidByText := true, laidKinds := [.data, .data, .data, .data, .sentinel, .sentinel, .listed, .data, .pinned], laidTests := true, laidLooks := .later }
def TopPicturesDescribedUptoCardSaid : Prop := Claim7.holds Tryz.pinned (.plain (OpenSpec.upto topPicturesDescribedSpec)) topPicturesDescribedUptoCard
end Rows
end Go.Proofs.YtnmkjjgmnbmmnaaGreatDoor
