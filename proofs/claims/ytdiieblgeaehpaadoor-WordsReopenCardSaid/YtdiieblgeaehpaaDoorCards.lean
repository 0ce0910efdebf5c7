/-
  DERIVED. GIVEN WITH THE SEED: THE CARDS: each row of YtdiieblgeaehpaaDoorRows.lean that lists a variable, with what it lists TIED to the program's text (the seventh form; the later family's looks); each row that meets fmt, with fmt's text TOLD by the authors' own Lean function (tested against real Go, not proved from fmt's source: count such statements apart). THE CARD IS WHAT COUNTS. Prove the row's statement (the work); the ties are given (YtdiieblgeaehpaaDoorTie.lean); close each card by the builder's one call (the guide's Derived/Test/ToyasCard.lean, 'card_holds'). Laid BY PROGRAM, IN A SANDBOX (cutbox-door.mjs). By AI agents, Wed Nov 11 2026. No macro, syntax, notation, axiom, sorry.
-/
import Derived.Test.YtdiieblgeaehpaaDoorRows
import GoSem.ClaimSeven
namespace Go.Proofs.YtdiieblgeaehpaaDoor
namespace Rows

/-- THE TIED CARD OF 'scriptoriumlaw4.WordsSplitMatchesSpec'. -/
def wordsSplitMatchesSpecCard : Claim7 := { stood := { row := wordsSplitMatchesSpecRow, standIns := [], harness := (true, "5d69a1391fdc96e3c7500099634da8594fbfecb000823245a155717521dd4ef2"), looks := false }, kinds := [], alts := [], laidByText := true, laidKinds := [.data, .pinned], laidTests := true, laidLooks := .later }
def WordsSplitMatchesSpecCardSaid : Prop := Claim7.holds Tryd.pinned (.plain (OpenSpec.ofChange wordsSplitMatchesSpecSpec)) wordsSplitMatchesSpecCard

/-- THE TIED CARD OF 'scriptoriumlaw4.WordsAreLowerCase'. -/
def wordsAreLowerCaseCard : Claim7 := { stood := { row := wordsAreLowerCaseRow, standIns := [], harness := (true, "5d69a1391fdc96e3c7500099634da8594fbfecb000823245a155717521dd4ef2"), looks := false }, kinds := [], alts := [], laidByText := true, laidKinds := [.data, .pinned], laidTests := true, laidLooks := .later }
def WordsAreLowerCaseCardSaid : Prop := Claim7.holds Tryd.pinned (.plain (OpenSpec.ofChange wordsAreLowerCaseSpec)) wordsAreLowerCaseCard

/-- THE TIED CARD OF 'scriptoriumlaw4.WordsPhrasesMatchSpec'. -/
def wordsPhrasesMatchSpecCard : Claim7 := { stood := { row := wordsPhrasesMatchSpecRow, standIns := [], harness := (true, "5d69a1391fdc96e3c7500099634da8594fbfecb000823245a155717521dd4ef2"), looks := false }, kinds := [], alts := [], laidByText := true, laidKinds := [.data, .pinned], laidTests := true, laidLooks := .later }
def WordsPhrasesMatchSpecCardSaid : Prop := Claim7.holds Tryd.pinned (.plain (OpenSpec.ofChange wordsPhrasesMatchSpecSpec)) wordsPhrasesMatchSpecCard

/-- THE TIED CARD OF 'scriptoriumlaw4.WordsNearIsMutual'. -/
def wordsNearIsMutualCard : Claim7 := { stood := { row := wordsNearIsMutualRow, standIns := [], harness := (true, "5d69a1391fdc96e3c7500099634da8594fbfecb000823245a155717521dd4ef2"), looks := false }, kinds := [], alts := [], laidByText := true, laidKinds := [.data, .pinned], laidTests := true, laidLooks := .later }
def WordsNearIsMutualCardSaid : Prop := Claim7.holds Tryd.pinned (.plain (OpenSpec.ofChange wordsNearIsMutualSpec)) wordsNearIsMutualCard

/-- THE TIED CARD OF 'scriptoriumlaw4.WordsReopen'. -/
def wordsReopenCard : Claim7 := { stood := { row := wordsReopenRow, standIns := [], harness := (true, "5d69a1391fdc96e3c7500099634da8594fbfecb000823245a155717521dd4ef2"), looks := false }, kinds := [], alts := [], laidByText := true, laidKinds := [.data, .pinned], laidTests := true, laidLooks := .later }
def WordsReopenCardSaid : Prop := Claim7.holds Tryd.pinned (.plain (OpenSpec.ofChange wordsReopenSpec)) wordsReopenCard

/-- THE TIED CARD OF 'scriptoriumlaw4.WordsFindMatchesSpec'. -/
def wordsFindMatchesSpecCard : Claim7 := { stood := { row := wordsFindMatchesSpecRow, standIns := [], harness := (true, "5d69a1391fdc96e3c7500099634da8594fbfecb000823245a155717521dd4ef2"), looks := false }, kinds := [], alts := [], laidByText := true, laidKinds := [.data, .pinned], laidTests := true, laidLooks := .later }
def WordsFindMatchesSpecCardSaid : Prop := Claim7.holds Tryd.pinned (.plain (OpenSpec.ofChange wordsFindMatchesSpecSpec)) wordsFindMatchesSpecCard

/-- THE SECOND FORM's CARD OF 'scriptoriumlaw4.WordsSplitMatchesSpec'. -/
def wordsSplitMatchesSpecUptoCard : Claim7 := { stood := { row := wordsSplitMatchesSpecUptoRow, standIns := [], harness := (true, "5d69a1391fdc96e3c7500099634da8594fbfecb000823245a155717521dd4ef2"), looks := false }, kinds := [], alts := [], laidByText := true, laidKinds := [.data, .pinned], laidTests := true, laidLooks := .later }
def WordsSplitMatchesSpecUptoCardSaid : Prop := Claim7.holds Tryd.pinned (.plain (OpenSpec.upto wordsSplitMatchesSpecSpec)) wordsSplitMatchesSpecUptoCard

/-- THE SECOND FORM's CARD OF 'scriptoriumlaw4.WordsAreLowerCase'. -/
def wordsAreLowerCaseUptoCard : Claim7 := { stood := { row := wordsAreLowerCaseUptoRow, standIns := [], harness := (true, "5d69a1391fdc96e3c7500099634da8594fbfecb000823245a155717521dd4ef2"), looks := false }, kinds := [], alts := [], laidByText := true, laidKinds := [.data, .pinned], laidTests := true, laidLooks := .later }
def WordsAreLowerCaseUptoCardSaid : Prop := Claim7.holds Tryd.pinned (.plain (OpenSpec.upto wordsAreLowerCaseSpec)) wordsAreLowerCaseUptoCard

/-- THE SECOND FORM's CARD OF 'scriptoriumlaw4.WordsPhrasesMatchSpec'. -/
def wordsPhrasesMatchSpecUptoCard : Claim7 := { stood := { row := wordsPhrasesMatchSpecUptoRow, standIns := [], harness := (true, "5d69a1391fdc96e3c7500099634da8594fbfecb000823245a155717521dd4ef2"), looks := false }, kinds := [], alts := [], laidByText := true, laidKinds := [.data, .pinned], laidTests := true, laidLooks := .later }
def WordsPhrasesMatchSpecUptoCardSaid : Prop := Claim7.holds Tryd.pinned (.plain (OpenSpec.upto wordsPhrasesMatchSpecSpec)) wordsPhrasesMatchSpecUptoCard

/-- THE SECOND FORM's CARD OF 'scriptoriumlaw4.WordsNearIsMutual'. -/
def wordsNearIsMutualUptoCard : Claim7 := { stood := { row := wordsNearIsMutualUptoRow, standIns := [], harness := (true, "5d69a1391fdc96e3c7500099634da8594fbfecb000823245a155717521dd4ef2"), looks := false }, kinds := [], alts := [], laidByText := true, laidKinds := [.data, .pinned], laidTests := true, laidLooks := .later }
def WordsNearIsMutualUptoCardSaid : Prop := Claim7.holds Tryd.pinned (.plain (OpenSpec.upto wordsNearIsMutualSpec)) wordsNearIsMutualUptoCard

/-- THE SECOND FORM's CARD OF 'scriptoriumlaw4.WordsReopen'. -/
def wordsReopenUptoCard : Claim7 := { stood := { row := wordsReopenUptoRow, standIns := [], harness := (true, "5d69a1391fdc96e3c7500099634da8594fbfecb000823245a155717521dd4ef2"), looks := false }, kinds := [], alts := [], laidByText := true, laidKinds := [.data, .pinned], laidTests := true, laidLooks := .later }
def WordsReopenUptoCardSaid : Prop := Claim7.holds Tryd.pinned (.plain (OpenSpec.upto wordsReopenSpec)) wordsReopenUptoCard

/-- THE SECOND FORM's CARD OF 'scriptoriumlaw4.WordsFindMatchesSpec'. -/
def wordsFindMatchesSpecUptoCard : Claim7 := { stood := { row := wordsFindMatchesSpecUptoRow, standIns := [], harness := (true, "5d69a1391fdc96e3c7500099634da8594fbfecb000823245a155717521dd4ef2"), looks := false }, kinds := [], alts := [], laidByText := true, laidKinds := [.data, .pinned], laidTests := true, laidLooks := .later }
def WordsFindMatchesSpecUptoCardSaid : Prop := Claim7.holds Tryd.pinned (.plain (OpenSpec.upto wordsFindMatchesSpecSpec)) wordsFindMatchesSpecUptoCard
end Rows
end Go.Proofs.YtdiieblgeaehpaaDoor
