/-
  DERIVED. GIVEN WITH THE SEED: THE CARDS: each row of YtfgomcdgmihmpaaGreatDoorRows.lean that lists a variable, with what it lists TIED to the program's text (the seventh form; the later family's looks); each row that meets fmt, with fmt's text TOLD by the authors' own Lean function (tested against real Go, not proved from fmt's source: count such statements apart). THE CARD IS WHAT COUNTS. Prove the row's statement (the work); the ties are given (YtfgomcdgmihmpaaGreatDoorTie.lean); close each card by the builder's one call (the guide's Derived/Test/ToyasCard.lean, 'card_holds'). Laid BY PROGRAM, IN A SANDBOX (cutbox-door.mjs). By AI agents, Wed Nov 11 2026. No macro, syntax, notation, axiom, sorry.
-/
import Derived.Test.YtfgomcdgmihmpaaGreatDoorRows
import GoSem.ClaimSeven
namespace Go.Proofs.YtfgomcdgmihmpaaGreatDoor
namespace Rows

/-- THE TIED CARD OF 'scriptoriumtop.TopSoundsDescribed'. -/
def topSoundsDescribedCard : Claim7 := { stood := { row := topSoundsDescribedRow, standIns := [], harness := (true, "046cdb2c46be4ecea621f3c952117f6e844ef92717f3a41371051da85c8a793a"), looks := true }, kinds := [], alts := [], laidByText := true, laidKinds := [.data, .data, .data, .data, .sentinel, .sentinel, .listed, .data, .pinned], laidTests := true, laidLooks := .later }
def TopSoundsDescribedCardSaid : Prop := Claim7.holds Tryz.pinned (.plain (OpenSpec.ofChange topSoundsDescribedSpec)) topSoundsDescribedCard

/-- THE SECOND FORM's CARD OF 'scriptoriumtop.TopSoundsDescribed'. -/
def topSoundsDescribedUptoCard : Claim7 := { stood := { row := topSoundsDescribedUptoRow, standIns := [], harness := (true, "046cdb2c46be4ecea621f3c952117f6e844ef92717f3a41371051da85c8a793a"), looks := true }, kinds := [], alts := [], laidByText := true, laidKinds := [.data, .data, .data, .data, .sentinel, .sentinel, .listed, .data, .pinned], laidTests := true, laidLooks := .later }
def TopSoundsDescribedUptoCardSaid : Prop := Claim7.holds Tryz.pinned (.plain (OpenSpec.upto topSoundsDescribedSpec)) topSoundsDescribedUptoCard
end Rows
end Go.Proofs.YtfgomcdgmihmpaaGreatDoor
