/-
  DERIVED. GIVEN WITH THE SEED: THE CARDS: each row of YtekmbcbgknmhiaaGreatDoorRows.lean that lists a variable, with what it lists TIED to the program's text (the seventh form; the later family's looks); each row that meets fmt, with fmt's text TOLD by the authors' own Lean function (tested against real Go, not proved from fmt's source: count such statements apart). THE CARD IS WHAT COUNTS. Prove the row's statement (the work); the ties are given (YtekmbcbgknmhiaaGreatDoorTie.lean); close each card by the builder's one call (the guide's Derived/Test/ToyasCard.lean, 'card_holds'). Laid BY PROGRAM, IN A SANDBOX (cutbox-door.mjs). By AI agents, Wed Nov 11 2026. No macro, syntax, notation, axiom, sorry.
-/
import Derived.Test.YtekmbcbgknmhiaaGreatDoorRows
import GoSem.ClaimSeven
namespace Go.Proofs.YtekmbcbgknmhiaaGreatDoor
namespace Rows

/-- THE TIED CARD OF 'scriptoriumlaw4.SearchPrintMatchesSpec'. -/
def searchPrintMatchesSpecCard : Claim7 := { stood := { row := searchPrintMatchesSpecRow, standIns := [], harness := (true, "bb28d5bab7c35a9b9d7b00c772b4e9890dfb41217e2c8bbe2440bd1cc94b2bbf"), looks := true }, kinds := [], alts := [], laidByText := true, laidKinds := [.data, .data, .data, .data, .sentinel, .sentinel, .pinned], laidTests := true, laidLooks := .later }
def SearchPrintMatchesSpecCardSaid : Prop := Claim7.holds Tryz.pinned (.plain (OpenSpec.ofChange searchPrintMatchesSpecSpec)) searchPrintMatchesSpecCard

/-- THE TIED CARD OF 'scriptoriumlaw4.SearchParseMatchesSpec'. -/
def searchParseMatchesSpecCard : Claim7 := { stood := { row := searchParseMatchesSpecRow, standIns := [], harness := (true, "bb28d5bab7c35a9b9d7b00c772b4e9890dfb41217e2c8bbe2440bd1cc94b2bbf"), looks := true }, kinds := [], alts := [], laidByText := true, laidKinds := [.data, .data, .data, .data, .sentinel, .sentinel, .pinned], laidTests := true, laidLooks := .later }
def SearchParseMatchesSpecCardSaid : Prop := Claim7.holds Tryz.pinned (.plain (OpenSpec.ofChange searchParseMatchesSpecSpec)) searchParseMatchesSpecCard

/-- THE TIED CARD OF 'scriptoriumlaw4.SearchRunMatchesSpec'. -/
def searchRunMatchesSpecCard : Claim7 := { stood := { row := searchRunMatchesSpecRow, standIns := [], harness := (true, "bb28d5bab7c35a9b9d7b00c772b4e9890dfb41217e2c8bbe2440bd1cc94b2bbf"), looks := true }, kinds := [], alts := [], laidByText := true, laidKinds := [.data, .data, .data, .data, .sentinel, .sentinel, .pinned], laidTests := true, laidLooks := .later }
def SearchRunMatchesSpecCardSaid : Prop := Claim7.holds Tryz.pinned (.plain (OpenSpec.ofChange searchRunMatchesSpecSpec)) searchRunMatchesSpecCard

/-- THE TIED CARD OF 'scriptoriumlaw4.SearchTellsNothing'. -/
def searchTellsNothingCard : Claim7 := { stood := { row := searchTellsNothingRow, standIns := [], harness := (true, "bb28d5bab7c35a9b9d7b00c772b4e9890dfb41217e2c8bbe2440bd1cc94b2bbf"), looks := true }, kinds := [], alts := [], laidByText := true, laidKinds := [.data, .data, .data, .data, .sentinel, .sentinel, .pinned], laidTests := true, laidLooks := .later }
def SearchTellsNothingCardSaid : Prop := Claim7.holds Tryz.pinned (.plain (OpenSpec.ofChange searchTellsNothingSpec)) searchTellsNothingCard

/-- THE TIED CARD OF 'scriptoriumlaw4.SearchOppositesDivide'. -/
def searchOppositesDivideCard : Claim7 := { stood := { row := searchOppositesDivideRow, standIns := [], harness := (true, "bb28d5bab7c35a9b9d7b00c772b4e9890dfb41217e2c8bbe2440bd1cc94b2bbf"), looks := true }, kinds := [], alts := [], laidByText := true, laidKinds := [.data, .data, .data, .data, .sentinel, .sentinel, .pinned], laidTests := true, laidLooks := .later }
def SearchOppositesDivideCardSaid : Prop := Claim7.holds Tryz.pinned (.plain (OpenSpec.ofChange searchOppositesDivideSpec)) searchOppositesDivideCard

/-- THE TIED CARD OF 'scriptoriumlaw4.SearchNormalMatchesSpec'. -/
def searchNormalMatchesSpecCard : Claim7 := { stood := { row := searchNormalMatchesSpecRow, standIns := [], harness := (true, "bb28d5bab7c35a9b9d7b00c772b4e9890dfb41217e2c8bbe2440bd1cc94b2bbf"), looks := true }, kinds := [], alts := [], laidByText := true, laidKinds := [.data, .data, .data, .data, .sentinel, .sentinel, .pinned], laidTests := true, laidLooks := .later }
def SearchNormalMatchesSpecCardSaid : Prop := Claim7.holds Tryz.pinned (.plain (OpenSpec.ofChange searchNormalMatchesSpecSpec)) searchNormalMatchesSpecCard

/-- THE TIED CARD OF 'scriptoriumlaw4.SearchNormalMeansTheSame'. -/
def searchNormalMeansTheSameCard : Claim7 := { stood := { row := searchNormalMeansTheSameRow, standIns := [], harness := (true, "bb28d5bab7c35a9b9d7b00c772b4e9890dfb41217e2c8bbe2440bd1cc94b2bbf"), looks := true }, kinds := [], alts := [], laidByText := true, laidKinds := [.data, .data, .data, .data, .sentinel, .sentinel, .pinned], laidTests := true, laidLooks := .later }
def SearchNormalMeansTheSameCardSaid : Prop := Claim7.holds Tryz.pinned (.plain (OpenSpec.ofChange searchNormalMeansTheSameSpec)) searchNormalMeansTheSameCard

/-- THE TIED CARD OF 'scriptoriumlaw4.SearchShowMatchesSpec'. -/
def searchShowMatchesSpecCard : Claim7 := { stood := { row := searchShowMatchesSpecRow, standIns := [], harness := (true, "bb28d5bab7c35a9b9d7b00c772b4e9890dfb41217e2c8bbe2440bd1cc94b2bbf"), looks := true }, kinds := [], alts := [], laidByText := true, laidKinds := [.data, .data, .data, .data, .sentinel, .sentinel, .pinned], laidTests := true, laidLooks := .later }
def SearchShowMatchesSpecCardSaid : Prop := Claim7.holds Tryz.pinned (.plain (OpenSpec.ofChange searchShowMatchesSpecSpec)) searchShowMatchesSpecCard

/-- THE SECOND FORM's CARD OF 'scriptoriumlaw4.SearchPrintMatchesSpec'. -/
def searchPrintMatchesSpecUptoCard : Claim7 := { stood := { row := searchPrintMatchesSpecUptoRow, standIns := [], harness := (true, "bb28d5bab7c35a9b9d7b00c772b4e9890dfb41217e2c8bbe2440bd1cc94b2bbf"), looks := true }, kinds := [], alts := [], laidByText := true, laidKinds := [.data, .data, .data, .data, .sentinel, .sentinel, .pinned], laidTests := true, laidLooks := .later }
def SearchPrintMatchesSpecUptoCardSaid : Prop := Claim7.holds Tryz.pinned (.plain (OpenSpec.upto searchPrintMatchesSpecSpec)) searchPrintMatchesSpecUptoCard

/-- THE SECOND FORM's CARD OF 'scriptoriumlaw4.SearchParseMatchesSpec'. -/
def searchParseMatchesSpecUptoCard : Claim7 := { stood := { row := searchParseMatchesSpecUptoRow, standIns := [], harness := (true, "bb28d5bab7c35a9b9d7b00c772b4e9890dfb41217e2c8bbe2440bd1cc94b2bbf"), looks := true }, kinds := [], alts := [], laidByText := true, laidKinds := [.data, .data, .data, .data, .sentinel, .sentinel, .pinned], laidTests := true, laidLooks := .later }
def SearchParseMatchesSpecUptoCardSaid : Prop := Claim7.holds Tryz.pinned (.plain (OpenSpec.upto searchParseMatchesSpecSpec)) searchParseMatchesSpecUptoCard

/-- THE SECOND FORM's CARD OF 'scriptoriumlaw4.SearchRunMatchesSpec'. -/
def searchRunMatchesSpecUptoCard : Claim7 := { stood := { row := searchRunMatchesSpecUptoRow, standIns := [], harness := (true, "bb28d5bab7c35a9b9d7b00c772b4e9890dfb41217e2c8bbe2440bd1cc94b2bbf"), looks := true }, kinds := [], alts := [], laidByText := true, laidKinds := [.data, .data, .data, .data, .sentinel, .sentinel, .pinned], laidTests := true, laidLooks := .later }
def SearchRunMatchesSpecUptoCardSaid : Prop := Claim7.holds Tryz.pinned (.plain (OpenSpec.upto searchRunMatchesSpecSpec)) searchRunMatchesSpecUptoCard

/-- THE SECOND FORM's CARD OF 'scriptoriumlaw4.SearchTellsNothing'. -/
def searchTellsNothingUptoCard : Claim7 := { stood := { row := searchTellsNothingUptoRow, standIns := [], harness := (true, "bb28d5bab7c35a9b9d7b00c772b4e9890dfb41217e2c8bbe2440bd1cc94b2bbf"), looks := true }, kinds := [], alts := [], laidByText := true, laidKinds := [.data, .data, .data, .data, .sentinel, .sentinel, .pinned], laidTests := true, laidLooks := .later }
def SearchTellsNothingUptoCardSaid : Prop := Claim7.holds Tryz.pinned (.plain (OpenSpec.upto searchTellsNothingSpec)) searchTellsNothingUptoCard

/-- THE SECOND FORM's CARD OF 'scriptoriumlaw4.SearchOppositesDivide'. -/
def searchOppositesDivideUptoCard : Claim7 := { stood := { row := searchOppositesDivideUptoRow, standIns := [], harness := (true, "bb28d5bab7c35a9b9d7b00c772b4e9890dfb41217e2c8bbe2440bd1cc94b2bbf"), looks := true }, kinds := [], alts := [], laidByText := true, laidKinds := [.data, .data, .data, .data, .sentinel, .sentinel, .pinned], laidTests := true, laidLooks := .later }
def SearchOppositesDivideUptoCardSaid : Prop := Claim7.holds Tryz.pinned (.plain (OpenSpec.upto searchOppositesDivideSpec)) searchOppositesDivideUptoCard

/-- THE SECOND FORM's CARD OF 'scriptoriumlaw4.SearchNormalMatchesSpec'. -/
def searchNormalMatchesSpecUptoCard : Claim7 := { stood := { row := searchNormalMatchesSpecUptoRow, standIns := [], harness := (true, "bb28d5bab7c35a9b9d7b00c772b4e9890dfb41217e2c8bbe2440bd1cc94b2bbf"), looks := true }, kinds := [], alts := [], laidByText := true, laidKinds := [.data, .data, .data, .data, .sentinel, .sentinel, .pinned], laidTests := true, laidLooks := .later }
def SearchNormalMatchesSpecUptoCardSaid : Prop := Claim7.holds Tryz.pinned (.plain (OpenSpec.upto searchNormalMatchesSpecSpec)) searchNormalMatchesSpecUptoCard

/-- THE SECOND FORM's CARD OF 'scriptoriumlaw4.SearchNormalMeansTheSame'. -/
def searchNormalMeansTheSameUptoCard : Claim7 := { stood := { row := searchNormalMeansTheSameUptoRow, standIns := [], harness := (true, "bb28d5bab7c35a9b9d7b00c772b4e9890dfb41217e2c8bbe2440bd1cc94b2bbf"), looks := true }, kinds := [], alts := [], laidByText := true, laidKinds := [.data, .data, .data, .data, .sentinel, .sentinel, .pinned], laidTests := true, laidLooks := .later }
def SearchNormalMeansTheSameUptoCardSaid : Prop := Claim7.holds Tryz.pinned (.plain (OpenSpec.upto searchNormalMeansTheSameSpec)) searchNormalMeansTheSameUptoCard

/-- THE SECOND FORM's CARD OF 'scriptoriumlaw4.SearchShowMatchesSpec'. -/
def searchShowMatchesSpecUptoCard : Claim7 := { stood := { row := searchShowMatchesSpecUptoRow, standIns := [], harness := (true, "bb28d5bab7c35a9b9d7b00c772b4e9890dfb41217e2c8bbe2440bd1cc94b2bbf"), looks := true }, kinds := [], alts := [], laidByText := true, laidKinds := [.data, .data, .data, .data, .sentinel, .sentinel, .pinned], laidTests := true, laidLooks := .later }
def SearchShowMatchesSpecUptoCardSaid : Prop := Claim7.holds Tryz.pinned (.plain (OpenSpec.upto searchShowMatchesSpecSpec)) searchShowMatchesSpecUptoCard
end Rows
end Go.Proofs.YtekmbcbgknmhiaaGreatDoor
