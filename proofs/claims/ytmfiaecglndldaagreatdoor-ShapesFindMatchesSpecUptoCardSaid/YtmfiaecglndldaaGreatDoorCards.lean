/-
  DERIVED. GIVEN WITH THE SEED: THE CARDS: each row of YtmfiaecglndldaaGreatDoorRows.lean that lists a variable, with what it lists TIED to the program's text (the seventh form; the later family's looks); each row that meets fmt, with fmt's text TOLD by the authors' own Lean function (tested against real Go, not proved from fmt's source: count such statements apart). THE CARD IS WHAT COUNTS. Prove the row's statement (the work); the ties are given (YtmfiaecglndldaaGreatDoorTie.lean); close each card by the builder's one call (the guide's Derived/Test/ToyasCard.lean, 'card_holds'). Laid BY PROGRAM, IN A SANDBOX (cutbox-door.mjs). By AI agents, Wed Nov 11 2026. No macro, syntax, notation, axiom, sorry.
-/
import Derived.Test.YtmfiaecglndldaaGreatDoorRows
import GoSem.ClaimSeven
namespace Go.Proofs.YtmfiaecglndldaaGreatDoor
namespace Rows

/-- THE TIED CARD OF 'scriptoriumlaw4.ShapesMatchMatchesSpec'. -/
def shapesMatchMatchesSpecCard : Claim7 := { stood := { row := shapesMatchMatchesSpecRow, standIns := [], harness := (true, "bb0fd5868a9d994e5910b44f43318f8f590b835eb1fecc8dba79a756a1917fc2"), looks := false }, kinds := [], alts := [], laidByText := true, laidKinds := [.data, .pinned], laidTests := true, laidLooks := .later }
def ShapesMatchMatchesSpecCardSaid : Prop := Claim7.holds Tryz.pinned (.plain (OpenSpec.ofChange shapesMatchMatchesSpecSpec)) shapesMatchMatchesSpecCard

/-- THE TIED CARD OF 'scriptoriumlaw4.ShapesWildcards'. -/
def shapesWildcardsCard : Claim7 := { stood := { row := shapesWildcardsRow, standIns := [], harness := (true, "bb0fd5868a9d994e5910b44f43318f8f590b835eb1fecc8dba79a756a1917fc2"), looks := false }, kinds := [], alts := [], laidByText := true, laidKinds := [.data, .pinned], laidTests := true, laidLooks := .later }
def ShapesWildcardsCardSaid : Prop := Claim7.holds Tryz.pinned (.plain (OpenSpec.ofChange shapesWildcardsSpec)) shapesWildcardsCard

/-- THE TIED CARD OF 'scriptoriumlaw4.ShapesPathsMatchSpec'. -/
def shapesPathsMatchSpecCard : Claim7 := { stood := { row := shapesPathsMatchSpecRow, standIns := [], harness := (true, "bb0fd5868a9d994e5910b44f43318f8f590b835eb1fecc8dba79a756a1917fc2"), looks := false }, kinds := [], alts := [], laidByText := true, laidKinds := [.data, .pinned], laidTests := true, laidLooks := .later }
def ShapesPathsMatchSpecCardSaid : Prop := Claim7.holds Tryz.pinned (.plain (OpenSpec.ofChange shapesPathsMatchSpecSpec)) shapesPathsMatchSpecCard

/-- THE TIED CARD OF 'scriptoriumlaw4.ShapesFindMatchesSpec'. -/
def shapesFindMatchesSpecCard : Claim7 := { stood := { row := shapesFindMatchesSpecRow, standIns := [], harness := (true, "bb0fd5868a9d994e5910b44f43318f8f590b835eb1fecc8dba79a756a1917fc2"), looks := false }, kinds := [], alts := [], laidByText := true, laidKinds := [.data, .pinned], laidTests := true, laidLooks := .later }
def ShapesFindMatchesSpecCardSaid : Prop := Claim7.holds Tryz.pinned (.plain (OpenSpec.ofChange shapesFindMatchesSpecSpec)) shapesFindMatchesSpecCard

/-- THE TIED CARD OF 'scriptoriumlaw4.ShapesFormMatchesSpec'. -/
def shapesFormMatchesSpecCard : Claim7 := { stood := { row := shapesFormMatchesSpecRow, standIns := [], harness := (true, "bb0fd5868a9d994e5910b44f43318f8f590b835eb1fecc8dba79a756a1917fc2"), looks := false }, kinds := [], alts := [], laidByText := true, laidKinds := [.data, .pinned], laidTests := true, laidLooks := .later }
def ShapesFormMatchesSpecCardSaid : Prop := Claim7.holds Tryz.pinned (.plain (OpenSpec.ofChange shapesFormMatchesSpecSpec)) shapesFormMatchesSpecCard

/-- THE TIED CARD OF 'scriptoriumlaw4.ShapesOpenMatchesSpec'. -/
def shapesOpenMatchesSpecCard : Claim7 := { stood := { row := shapesOpenMatchesSpecRow, standIns := [], harness := (true, "bb0fd5868a9d994e5910b44f43318f8f590b835eb1fecc8dba79a756a1917fc2"), looks := false }, kinds := [], alts := [], laidByText := true, laidKinds := [.data, .pinned], laidTests := true, laidLooks := .later }
def ShapesOpenMatchesSpecCardSaid : Prop := Claim7.holds Tryz.pinned (.plain (OpenSpec.ofChange shapesOpenMatchesSpecSpec)) shapesOpenMatchesSpecCard

/-- THE TIED CARD OF 'scriptoriumlaw4.ShapesOpenRefusesChanges'. -/
def shapesOpenRefusesChangesCard : Claim7 := { stood := { row := shapesOpenRefusesChangesRow, standIns := [], harness := (true, "bb0fd5868a9d994e5910b44f43318f8f590b835eb1fecc8dba79a756a1917fc2"), looks := false }, kinds := [], alts := [], laidByText := true, laidKinds := [.data, .pinned], laidTests := true, laidLooks := .later }
def ShapesOpenRefusesChangesCardSaid : Prop := Claim7.holds Tryz.pinned (.plain (OpenSpec.ofChange shapesOpenRefusesChangesSpec)) shapesOpenRefusesChangesCard

/-- THE TIED CARD OF 'scriptoriumlaw4.ShapesOpenIsCanonical'. -/
def shapesOpenIsCanonicalCard : Claim7 := { stood := { row := shapesOpenIsCanonicalRow, standIns := [], harness := (true, "bb0fd5868a9d994e5910b44f43318f8f590b835eb1fecc8dba79a756a1917fc2"), looks := false }, kinds := [], alts := [], laidByText := true, laidKinds := [.data, .pinned], laidTests := true, laidLooks := .later }
def ShapesOpenIsCanonicalCardSaid : Prop := Claim7.holds Tryz.pinned (.plain (OpenSpec.ofChange shapesOpenIsCanonicalSpec)) shapesOpenIsCanonicalCard

/-- THE TIED CARD OF 'scriptoriumlaw4.ShapesMergeIsBuild'. -/
def shapesMergeIsBuildCard : Claim7 := { stood := { row := shapesMergeIsBuildRow, standIns := [], harness := (true, "bb0fd5868a9d994e5910b44f43318f8f590b835eb1fecc8dba79a756a1917fc2"), looks := false }, kinds := [], alts := [], laidByText := true, laidKinds := [.data, .pinned], laidTests := true, laidLooks := .later }
def ShapesMergeIsBuildCardSaid : Prop := Claim7.holds Tryz.pinned (.plain (OpenSpec.ofChange shapesMergeIsBuildSpec)) shapesMergeIsBuildCard

/-- THE SECOND FORM's CARD OF 'scriptoriumlaw4.ShapesMatchMatchesSpec'. -/
def shapesMatchMatchesSpecUptoCard : Claim7 := { stood := { row := shapesMatchMatchesSpecUptoRow, standIns := [], harness := (true, "bb0fd5868a9d994e5910b44f43318f8f590b835eb1fecc8dba79a756a1917fc2"), looks := false }, kinds := [], alts := [], laidByText := true, laidKinds := [.data, .pinned], laidTests := true, laidLooks := .later }
def ShapesMatchMatchesSpecUptoCardSaid : Prop := Claim7.holds Tryz.pinned (.plain (OpenSpec.upto shapesMatchMatchesSpecSpec)) shapesMatchMatchesSpecUptoCard

/-- THE SECOND FORM's CARD OF 'scriptoriumlaw4.ShapesWildcards'. -/
def shapesWildcardsUptoCard : Claim7 := { stood := { row := shapesWildcardsUptoRow, standIns := [], harness := (true, "bb0fd5868a9d994e5910b44f43318f8f590b835eb1fecc8dba79a756a1917fc2"), looks := false }, kinds := [], alts := [], laidByText := true, laidKinds := [.data, .pinned], laidTests := true, laidLooks := .later }
def ShapesWildcardsUptoCardSaid : Prop := Claim7.holds Tryz.pinned (.plain (OpenSpec.upto shapesWildcardsSpec)) shapesWildcardsUptoCard

/-- THE SECOND FORM's CARD OF 'scriptoriumlaw4.ShapesPathsMatchSpec'. -/
def shapesPathsMatchSpecUptoCard : Claim7 := { stood := { row := shapesPathsMatchSpecUptoRow, standIns := [], harness := (true, "bb0fd5868a9d994e5910b44f43318f8f590b835eb1fecc8dba79a756a1917fc2"), looks := false }, kinds := [], alts := [], laidByText := true, laidKinds := [.data, .pinned], laidTests := true, laidLooks := .later }
def ShapesPathsMatchSpecUptoCardSaid : Prop := Claim7.holds Tryz.pinned (.plain (OpenSpec.upto shapesPathsMatchSpecSpec)) shapesPathsMatchSpecUptoCard

/-- THE SECOND FORM's CARD OF 'scriptoriumlaw4.ShapesFindMatchesSpec'. -/
def shapesFindMatchesSpecUptoCard : Claim7 := { stood := { row := shapesFindMatchesSpecUptoRow, standIns := [], harness := (true, "bb0fd5868a9d994e5910b44f43318f8f590b835eb1fecc8dba79a756a1917fc2"), looks := false }, kinds := [], alts := [], laidByText := true, laidKinds := [.data, .pinned], laidTests := true, laidLooks := .later }
def ShapesFindMatchesSpecUptoCardSaid : Prop := Claim7.holds Tryz.pinned (.plain (OpenSpec.upto shapesFindMatchesSpecSpec)) shapesFindMatchesSpecUptoCard

/-- THE SECOND FORM's CARD OF 'scriptoriumlaw4.ShapesFormMatchesSpec'. -/
def shapesFormMatchesSpecUptoCard : Claim7 := { stood := { row := shapesFormMatchesSpecUptoRow, standIns := [], harness := (true, "bb0fd5868a9d994e5910b44f43318f8f590b835eb1fecc8dba79a756a1917fc2"), looks := false }, kinds := [], alts := [], laidByText := true, laidKinds := [.data, .pinned], laidTests := true, laidLooks := .later }
def ShapesFormMatchesSpecUptoCardSaid : Prop := Claim7.holds Tryz.pinned (.plain (OpenSpec.upto shapesFormMatchesSpecSpec)) shapesFormMatchesSpecUptoCard

/-- THE SECOND FORM's CARD OF 'scriptoriumlaw4.ShapesOpenMatchesSpec'. -/
def shapesOpenMatchesSpecUptoCard : Claim7 := { stood := { row := shapesOpenMatchesSpecUptoRow, standIns := [], harness := (true, "bb0fd5868a9d994e5910b44f43318f8f590b835eb1fecc8dba79a756a1917fc2"), looks := false }, kinds := [], alts := [], laidByText := true, laidKinds := [.data, .pinned], laidTests := true, laidLooks := .later }
def ShapesOpenMatchesSpecUptoCardSaid : Prop := Claim7.holds Tryz.pinned (.plain (OpenSpec.upto shapesOpenMatchesSpecSpec)) shapesOpenMatchesSpecUptoCard

/-- THE SECOND FORM's CARD OF 'scriptoriumlaw4.ShapesOpenRefusesChanges'. -/
def shapesOpenRefusesChangesUptoCard : Claim7 := { stood := { row := shapesOpenRefusesChangesUptoRow, standIns := [], harness := (true, "bb0fd5868a9d994e5910b44f43318f8f590b835eb1fecc8dba79a756a1917fc2"), looks := false }, kinds := [], alts := [], laidByText := true, laidKinds := [.data, .pinned], laidTests := true, laidLooks := .later }
def ShapesOpenRefusesChangesUptoCardSaid : Prop := Claim7.holds Tryz.pinned (.plain (OpenSpec.upto shapesOpenRefusesChangesSpec)) shapesOpenRefusesChangesUptoCard

/-- THE SECOND FORM's CARD OF 'scriptoriumlaw4.ShapesOpenIsCanonical'. -/
def shapesOpenIsCanonicalUptoCard : Claim7 := { stood := { row := shapesOpenIsCanonicalUptoRow, standIns := [], harness := (true, "bb0fd5868a9d994e5910b44f43318f8f590b835eb1fecc8dba79a756a1917fc2"), looks := false }, kinds := [], alts := [], laidByText := true, laidKinds := [.data, .pinned], laidTests := true, laidLooks := .later }
def ShapesOpenIsCanonicalUptoCardSaid : Prop := Claim7.holds Tryz.pinned (.plain (OpenSpec.upto shapesOpenIsCanonicalSpec)) shapesOpenIsCanonicalUptoCard

/-- THE SECOND FORM's CARD OF 'scriptoriumlaw4.ShapesMergeIsBuild'. -/
def shapesMergeIsBuildUptoCard : Claim7 := { stood := { row := shapesMergeIsBuildUptoRow, standIns := [], harness := (true, "bb0fd5868a9d994e5910b44f43318f8f590b835eb1fecc8dba79a756a1917fc2"), looks := false }, kinds := [], alts := [], laidByText := true, laidKinds := [.data, .pinned], laidTests := true, laidLooks := .later }
def ShapesMergeIsBuildUptoCardSaid : Prop := Claim7.holds Tryz.pinned (.plain (OpenSpec.upto shapesMergeIsBuildSpec)) shapesMergeIsBuildUptoCard
end Rows
end Go.Proofs.YtmfiaecglndldaaGreatDoor
