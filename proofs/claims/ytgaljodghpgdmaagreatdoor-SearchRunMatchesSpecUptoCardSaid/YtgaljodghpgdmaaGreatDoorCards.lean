/-
  DERIVED. GIVEN WITH THE SEED: THE CARDS: each row of YtgaljodghpgdmaaGreatDoorRows.lean that lists a variable, with what it lists TIED to the program's text (the seventh form; the later family's looks); each row that meets fmt, with fmt's text TOLD by the authors' own Lean function (tested against real Go, not proved from fmt's source: count such statements apart). THE CARD IS WHAT COUNTS. Prove the row's statement (the work); the ties are given (YtgaljodghpgdmaaGreatDoorTie.lean); close each card by the builder's one call (the guide's Derived/Test/ToyasCard.lean, 'card_holds'). Laid BY PROGRAM, IN A SANDBOX (cutbox-door.mjs). By AI agents, Wed Nov 11 2026. No macro, syntax, notation, axiom, sorry.
-/
import Derived.Test.YtgaljodghpgdmaaGreatDoorRows
import GoSem.ClaimSeven
namespace Go.Proofs.YtgaljodghpgdmaaGreatDoor
namespace Rows

/-- THE TIED CARD OF 'scriptoriumlaw4.SearchRunMatchesSpec'. -/
def searchRunMatchesSpecCard : Claim7 := { stood := { row := searchRunMatchesSpecRow, standIns := [], harness := (true, "789f7a74421f54c4541d1935c9d1e4e888a1ba8e0ff352b14a42de003a2bb56b"), looks := true }, kinds := [], alts := [], laidByText := true, laidKinds := [.data, .data, .data, .data, .sentinel, .sentinel, .pinned], laidTests := true, laidLooks := .later }
def SearchRunMatchesSpecCardSaid : Prop := Claim7.holds Tryz.pinned (.plain (OpenSpec.ofChange searchRunMatchesSpecSpec)) searchRunMatchesSpecCard

/-- THE SECOND FORM's CARD OF 'scriptoriumlaw4.SearchRunMatchesSpec'. -/
def searchRunMatchesSpecUptoCard : Claim7 := { stood := { row := searchRunMatchesSpecUptoRow, standIns := [], harness := (true, "789f7a74421f54c4541d1935c9d1e4e888a1ba8e0ff352b14a42de003a2bb56b"), looks := true }, kinds := [], alts := [], laidByText := true, laidKinds := [.data, .data, .data, .data, .sentinel, .sentinel, .pinned], laidTests := true, laidLooks := .later }
def SearchRunMatchesSpecUptoCardSaid : Prop := Claim7.holds Tryz.pinned (.plain (OpenSpec.upto searchRunMatchesSpecSpec)) searchRunMatchesSpecUptoCard
end Rows
end Go.Proofs.YtgaljodghpgdmaaGreatDoor
