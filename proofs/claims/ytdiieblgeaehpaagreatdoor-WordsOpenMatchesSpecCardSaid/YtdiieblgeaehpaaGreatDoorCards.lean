/-
  DERIVED. GIVEN WITH THE SEED: THE CARDS: each row of YtdiieblgeaehpaaGreatDoorRows.lean that lists a variable, with what it lists TIED to the program's text (the seventh form; the later family's looks); each row that meets fmt, with fmt's text TOLD by the authors' own Lean function (tested against real Go, not proved from fmt's source: count such statements apart). THE CARD IS WHAT COUNTS. Prove the row's statement (the work); the ties are given (YtdiieblgeaehpaaGreatDoorTie.lean); close each card by the builder's one call (the guide's Derived/Test/ToyasCard.lean, 'card_holds'). Laid BY PROGRAM, IN A SANDBOX (cutbox-door.mjs). By AI agents, Wed Nov 11 2026. No macro, syntax, notation, axiom, sorry.
-/
import Derived.Test.YtdiieblgeaehpaaGreatDoorRows
import GoSem.ClaimSeven
namespace Go.Proofs.YtdiieblgeaehpaaGreatDoor
namespace Rows

/-- THE TIED CARD OF 'scriptoriumlaw4.WordsOpenMatchesSpec'. -/
def wordsOpenMatchesSpecCard : Claim7 := { stood := { row := wordsOpenMatchesSpecRow, standIns := [], harness := (true, "f89fb553c81ddb3b41f49f3516dbb3dcd026f9ef6fa2f65e0cd4a0c0bef07b78"), looks := false }, kinds := [], alts := [], laidByText := true, laidKinds := [.data, .pinned], laidTests := true, laidLooks := .later }
def WordsOpenMatchesSpecCardSaid : Prop := Claim7.holds Tryz.pinned (.plain (OpenSpec.ofChange wordsOpenMatchesSpecSpec)) wordsOpenMatchesSpecCard

/-- THE TIED CARD OF 'scriptoriumlaw4.WordsMergeIsBuild'. -/
def wordsMergeIsBuildCard : Claim7 := { stood := { row := wordsMergeIsBuildRow, standIns := [], harness := (true, "f89fb553c81ddb3b41f49f3516dbb3dcd026f9ef6fa2f65e0cd4a0c0bef07b78"), looks := false }, kinds := [], alts := [], laidByText := true, laidKinds := [.data, .pinned], laidTests := true, laidLooks := .later }
def WordsMergeIsBuildCardSaid : Prop := Claim7.holds Tryz.pinned (.plain (OpenSpec.ofChange wordsMergeIsBuildSpec)) wordsMergeIsBuildCard

/-- THE SECOND FORM's CARD OF 'scriptoriumlaw4.WordsOpenMatchesSpec'. -/
def wordsOpenMatchesSpecUptoCard : Claim7 := { stood := { row := wordsOpenMatchesSpecUptoRow, standIns := [], harness := (true, "f89fb553c81ddb3b41f49f3516dbb3dcd026f9ef6fa2f65e0cd4a0c0bef07b78"), looks := false }, kinds := [], alts := [], laidByText := true, laidKinds := [.data, .pinned], laidTests := true, laidLooks := .later }
def WordsOpenMatchesSpecUptoCardSaid : Prop := Claim7.holds Tryz.pinned (.plain (OpenSpec.upto wordsOpenMatchesSpecSpec)) wordsOpenMatchesSpecUptoCard

/-- THE SECOND FORM's CARD OF 'scriptoriumlaw4.WordsMergeIsBuild'. -/
def wordsMergeIsBuildUptoCard : Claim7 := { stood := { row := wordsMergeIsBuildUptoRow, standIns := [], harness := (true, "f89fb553c81ddb3b41f49f3516dbb3dcd026f9ef6fa2f65e0cd4a0c0bef07b78"), looks := false }, kinds := [], alts := [], laidByText := true, laidKinds := [.data, .pinned], laidTests := true, laidLooks := .later }
def WordsMergeIsBuildUptoCardSaid : Prop := Claim7.holds Tryz.pinned (.plain (OpenSpec.upto wordsMergeIsBuildSpec)) wordsMergeIsBuildUptoCard
end Rows
end Go.Proofs.YtdiieblgeaehpaaGreatDoor
