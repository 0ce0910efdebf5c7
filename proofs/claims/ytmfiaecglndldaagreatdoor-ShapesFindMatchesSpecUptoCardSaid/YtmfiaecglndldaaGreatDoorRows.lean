/-
  NARROWER THAN 'FOR EVERY INPUT', by the rows' own cells (each row's printed sentence says how): ShapesMatchMatchesSpec: laid · ShapesWildcards: laid · ShapesPathsMatchSpec: loops, laid · ShapesFindMatchesSpec: loops, laid · ShapesFormMatchesSpec: loops, laid · ShapesOpenMatchesSpec: laid · ShapesOpenRefusesChanges: loops, laid · ShapesOpenIsCanonical: laid · ShapesMergeIsBuild: loops, laid.
  DERIVED. THE GIVEN ROWS OF THIS SEAT. 9 by the template 'for every input the law returns true; each argument reads behind the call as it read before'; 0 by the template 'total and deterministic' (their statements: YtmfiaecglndldaaGreatDoorTotals.lean).
  GIVEN WITH THE SEED: the statements are not yours to turn. If you find one false, say at which input.
  Laid BY PROGRAM, IN A SANDBOX (cutbox-rows.mjs): the forced cells as the released guide's own fill.sh prints them over the translation c02caad821da9178… (all of the seat's roots in one cut). By AI agents, Wed Nov 11 2026. No macro, syntax, notation, axiom, sorry.
-/
import Derived.Test.YtmfiaecglndldaaGreatDoorChecked
import GoSem.PinnedTables
import GoSem.Claim
import GoSem.ClaimJoined
import GoSem.ClaimMapViews
import Derived.JoinedTies
import Derived.KernelRfl
namespace Go.Proofs.YtmfiaecglndldaaGreatDoor
/- THE CELL 'sum', in the pinned program and in every row, IS THE sha256 OF THE DUMP (.gsa) THAT YtmfiaecglndldaaGreatDoorProg.lean LOADS. Nothing in Lean hashes anything: it is a label: what it is worth is what the hold of that sum in a sandbox is worth. -/
noncomputable def Tryz.pinned : Pinned := { name := "ytmfiaecglndldaagreatdoor", sum := "c02caad821da91785366716a82977555ec4a60360a8eef157064f205793390d6", checked := Tryz.checked }
namespace Rows
def none {H : Type} : Left H := { results := [], args := [] }

/- WHAT THE LISTED PACKAGE-LEVEL VARIABLES READ AS WHEN THE CALL BEGINS. Each datum BY PROGRAM (the guide's laid-datum.mjs) off the statement by which the dump's own 'gosem.cut.vars' lays the variable. In a bare row this is a premise. The card (YtmfiaecglndldaaGreatDoorCards.lean) ties it to the program's text. -/
def laid_unicode_utf8_acceptRanges {H : Type} : DataW H := .agg [.agg [.lit (.int .u8 128), .lit (.int .u8 191)], .agg [.lit (.int .u8 160), .lit (.int .u8 191)], .agg [.lit (.int .u8 128), .lit (.int .u8 159)], .agg [.lit (.int .u8 144), .lit (.int .u8 191)], .agg [.lit (.int .u8 128), .lit (.int .u8 143)], .agg [.lit (.int .u8 0), .lit (.int .u8 0)], .agg [.lit (.int .u8 0), .lit (.int .u8 0)], .agg [.lit (.int .u8 0), .lit (.int .u8 0)], .agg [.lit (.int .u8 0), .lit (.int .u8 0)], .agg [.lit (.int .u8 0), .lit (.int .u8 0)], .agg [.lit (.int .u8 0), .lit (.int .u8 0)], .agg [.lit (.int .u8 0), .lit (.int .u8 0)], .agg [.lit (.int .u8 0), .lit (.int .u8 0)], .agg [.lit (.int .u8 0), .lit (.int .u8 0)], .agg [.lit (.int .u8 0), .lit (.int .u8 0)], .agg [.lit (.int .u8 0), .lit (.int .u8 0)]]
/-- One of Go's own tables, pinned by name: the form's constant. -/
def laid_unicode_utf8_first : DataW Unit := Go.Pinned.utf8First

/-- 'scriptoriumlaw4.ShapesMatchMatchesSpec': WHATEVER THE INPUT: true; the input reads as it did. -/
def shapesMatchMatchesSpecSpec : ChangeSpec := { name := "shapesMatchMatchesSpec", fn := fun _ => fun
  | [d1, d2] => { results := [.lit (.bool true)], args := [d1, d2] }
  | _ => none }
def shapesMatchMatchesSpecRow : OpenClaim := { program := "ytmfiaecglndldaagreatdoor", sum := "c02caad821da91785366716a82977555ec4a60360a8eef157064f205793390d6", func := "scriptorium/scriptoriumlaw4.ShapesMatchMatchesSpec", spec := "shapesMatchMatchesSpec", inPlace := ["internal/bytealg.CountString", "internal/bytealg.IndexByteString", "internal/bytealg.IndexString", "internal/abi.NoEscape", "internal/bytealg.MakeNoZero", "internal/bytealg.abigen_runtime_cmpstring"], unfollowed := true, recurses := true, named := ["unicode/utf8.first", "unicode/utf8.acceptRanges", "internal/bytealg.MaxLen"], plainKeys := false, apart := false, laid := [("unicode/utf8.acceptRanges", laid_unicode_utf8_acceptRanges), ("unicode/utf8.first", laid_unicode_utf8_first)] }
def ShapesMatchMatchesSpecSaid : Prop := shapesMatchMatchesSpecRow.holds Tryz.pinned (OpenSpec.ofChange shapesMatchMatchesSpecSpec)

/-- ITS FALSE NEIGHBOUR: 'it returns false'. Refute it at one input. -/
def shapesMatchMatchesSpecWrong : ChangeSpec := { name := "shapesMatchMatchesSpec", fn := fun _ => fun
  | [d1, d2] => { results := [.lit (.bool false)], args := [d1, d2] }
  | _ => none }
def ShapesMatchMatchesSpecWrongFalsely : Prop := shapesMatchMatchesSpecRow.holds Tryz.pinned (OpenSpec.ofChange shapesMatchMatchesSpecWrong)

/-- 'scriptoriumlaw4.ShapesWildcards': WHATEVER THE INPUT: true; the input reads as it did. -/
def shapesWildcardsSpec : ChangeSpec := { name := "shapesWildcards", fn := fun _ => fun
  | [d1, d2] => { results := [.lit (.bool true)], args := [d1, d2] }
  | _ => none }
def shapesWildcardsRow : OpenClaim := { program := "ytmfiaecglndldaagreatdoor", sum := "c02caad821da91785366716a82977555ec4a60360a8eef157064f205793390d6", func := "scriptorium/scriptoriumlaw4.ShapesWildcards", spec := "shapesWildcards", inPlace := ["internal/bytealg.CountString", "internal/bytealg.IndexByteString", "internal/bytealg.IndexString", "internal/abi.NoEscape", "internal/bytealg.MakeNoZero", "internal/bytealg.abigen_runtime_cmpstring"], unfollowed := true, recurses := true, named := ["unicode/utf8.first", "unicode/utf8.acceptRanges", "internal/bytealg.MaxLen"], plainKeys := false, apart := false, laid := [("unicode/utf8.acceptRanges", laid_unicode_utf8_acceptRanges), ("unicode/utf8.first", laid_unicode_utf8_first)] }
def ShapesWildcardsSaid : Prop := shapesWildcardsRow.holds Tryz.pinned (OpenSpec.ofChange shapesWildcardsSpec)

/-- ITS FALSE NEIGHBOUR: 'it returns false'. Refute it at one input. -/
def shapesWildcardsWrong : ChangeSpec := { name := "shapesWildcards", fn := fun _ => fun
  | [d1, d2] => { results := [.lit (.bool false)], args := [d1, d2] }
  | _ => none }
def ShapesWildcardsWrongFalsely : Prop := shapesWildcardsRow.holds Tryz.pinned (OpenSpec.ofChange shapesWildcardsWrong)

/-- 'scriptoriumlaw4.ShapesPathsMatchSpec': WHATEVER THE INPUT: true; the input reads as it did. -/
def shapesPathsMatchSpecSpec : ChangeSpec := { name := "shapesPathsMatchSpec", fn := fun _ => fun
  | [d] => { results := [.lit (.bool true)], args := [d] }
  | _ => none }
def shapesPathsMatchSpecRow : OpenClaim := { program := "ytmfiaecglndldaagreatdoor", sum := "c02caad821da91785366716a82977555ec4a60360a8eef157064f205793390d6", func := "scriptorium/scriptoriumlaw4.ShapesPathsMatchSpec", spec := "shapesPathsMatchSpec", inPlace := ["internal/bytealg.IndexByteString", "internal/bytealg.IndexString", "internal/abi.NoEscape", "internal/bytealg.MakeNoZero", "internal/bytealg.CountString", "internal/bytealg.abigen_runtime_cmpstring"], unfollowed := true, recurses := true, named := ["unicode/utf8.first", "unicode/utf8.acceptRanges", "internal/bytealg.MaxLen"], loops := true, plainKeys := false, apart := false, laid := [("unicode/utf8.acceptRanges", laid_unicode_utf8_acceptRanges), ("unicode/utf8.first", laid_unicode_utf8_first)] }
def ShapesPathsMatchSpecSaid : Prop := shapesPathsMatchSpecRow.holds Tryz.pinned (OpenSpec.ofChange shapesPathsMatchSpecSpec)

/-- ITS FALSE NEIGHBOUR: 'it returns false'. Refute it at one input. -/
def shapesPathsMatchSpecWrong : ChangeSpec := { name := "shapesPathsMatchSpec", fn := fun _ => fun
  | [d] => { results := [.lit (.bool false)], args := [d] }
  | _ => none }
def ShapesPathsMatchSpecWrongFalsely : Prop := shapesPathsMatchSpecRow.holds Tryz.pinned (OpenSpec.ofChange shapesPathsMatchSpecWrong)

/-- 'scriptoriumlaw4.ShapesFindMatchesSpec': WHATEVER THE INPUT: true; the input reads as it did. -/
def shapesFindMatchesSpecSpec : ChangeSpec := { name := "shapesFindMatchesSpec", fn := fun _ => fun
  | [d1, d2, d3, d4, d5] => { results := [.lit (.bool true)], args := [d1, d2, d3, d4, d5] }
  | _ => none }
def shapesFindMatchesSpecRow : OpenClaim := { program := "ytmfiaecglndldaagreatdoor", sum := "c02caad821da91785366716a82977555ec4a60360a8eef157064f205793390d6", func := "scriptorium/scriptoriumlaw4.ShapesFindMatchesSpec", spec := "shapesFindMatchesSpec", inPlace := ["internal/bytealg.IndexByteString", "internal/bytealg.IndexString", "internal/abi.NoEscape", "internal/bytealg.MakeNoZero", "internal/bytealg.abigen_runtime_cmpstring", "internal/bytealg.CountString"], unfollowed := true, recurses := true, named := ["unicode/utf8.first", "unicode/utf8.acceptRanges", "internal/bytealg.MaxLen"], loops := true, plainKeys := false, apart := false, laid := [("unicode/utf8.acceptRanges", laid_unicode_utf8_acceptRanges), ("unicode/utf8.first", laid_unicode_utf8_first)] }
def ShapesFindMatchesSpecSaid : Prop := shapesFindMatchesSpecRow.holds Tryz.pinned (OpenSpec.ofChange shapesFindMatchesSpecSpec)

/-- ITS FALSE NEIGHBOUR: 'it returns false'. Refute it at one input. -/
def shapesFindMatchesSpecWrong : ChangeSpec := { name := "shapesFindMatchesSpec", fn := fun _ => fun
  | [d1, d2, d3, d4, d5] => { results := [.lit (.bool false)], args := [d1, d2, d3, d4, d5] }
  | _ => none }
def ShapesFindMatchesSpecWrongFalsely : Prop := shapesFindMatchesSpecRow.holds Tryz.pinned (OpenSpec.ofChange shapesFindMatchesSpecWrong)

/-- 'scriptoriumlaw4.ShapesFormMatchesSpec': WHATEVER THE INPUT: true; the input reads as it did. -/
def shapesFormMatchesSpecSpec : ChangeSpec := { name := "shapesFormMatchesSpec", fn := fun _ => fun
  | [d] => { results := [.lit (.bool true)], args := [d] }
  | _ => none }
def shapesFormMatchesSpecRow : OpenClaim := { program := "ytmfiaecglndldaagreatdoor", sum := "c02caad821da91785366716a82977555ec4a60360a8eef157064f205793390d6", func := "scriptorium/scriptoriumlaw4.ShapesFormMatchesSpec", spec := "shapesFormMatchesSpec", inPlace := ["internal/bytealg.IndexByteString", "internal/bytealg.IndexString", "internal/abi.NoEscape", "internal/bytealg.MakeNoZero", "internal/bytealg.abigen_runtime_cmpstring", "internal/bytealg.CountString"], unfollowed := true, recurses := true, named := ["unicode/utf8.first", "unicode/utf8.acceptRanges", "internal/bytealg.MaxLen"], loops := true, plainKeys := false, apart := false, laid := [("unicode/utf8.acceptRanges", laid_unicode_utf8_acceptRanges), ("unicode/utf8.first", laid_unicode_utf8_first)] }
def ShapesFormMatchesSpecSaid : Prop := shapesFormMatchesSpecRow.holds Tryz.pinned (OpenSpec.ofChange shapesFormMatchesSpecSpec)

/-- ITS FALSE NEIGHBOUR: 'it returns false'. Refute it at one input. -/
def shapesFormMatchesSpecWrong : ChangeSpec := { name := "shapesFormMatchesSpec", fn := fun _ => fun
  | [d] => { results := [.lit (.bool false)], args := [d] }
  | _ => none }
def ShapesFormMatchesSpecWrongFalsely : Prop := shapesFormMatchesSpecRow.holds Tryz.pinned (OpenSpec.ofChange shapesFormMatchesSpecWrong)

/-- 'scriptoriumlaw4.ShapesOpenMatchesSpec': WHATEVER THE INPUT: true; the input reads as it did. -/
def shapesOpenMatchesSpecSpec : ChangeSpec := { name := "shapesOpenMatchesSpec", fn := fun _ => fun
  | [d1, d2, d3, d4] => { results := [.lit (.bool true)], args := [d1, d2, d3, d4] }
  | _ => none }
def shapesOpenMatchesSpecRow : OpenClaim := { program := "ytmfiaecglndldaagreatdoor", sum := "c02caad821da91785366716a82977555ec4a60360a8eef157064f205793390d6", func := "scriptorium/scriptoriumlaw4.ShapesOpenMatchesSpec", spec := "shapesOpenMatchesSpec", inPlace := ["internal/bytealg.CountString", "internal/bytealg.IndexByteString", "internal/bytealg.IndexString", "internal/bytealg.abigen_runtime_cmpstring", "internal/abi.NoEscape", "internal/bytealg.MakeNoZero"], unfollowed := true, recurses := true, named := ["unicode/utf8.first", "unicode/utf8.acceptRanges", "internal/bytealg.MaxLen"], plainKeys := false, apart := false, laid := [("unicode/utf8.acceptRanges", laid_unicode_utf8_acceptRanges), ("unicode/utf8.first", laid_unicode_utf8_first)] }
def ShapesOpenMatchesSpecSaid : Prop := shapesOpenMatchesSpecRow.holds Tryz.pinned (OpenSpec.ofChange shapesOpenMatchesSpecSpec)

/-- ITS FALSE NEIGHBOUR: 'it returns false'. Refute it at one input. -/
def shapesOpenMatchesSpecWrong : ChangeSpec := { name := "shapesOpenMatchesSpec", fn := fun _ => fun
  | [d1, d2, d3, d4] => { results := [.lit (.bool false)], args := [d1, d2, d3, d4] }
  | _ => none }
def ShapesOpenMatchesSpecWrongFalsely : Prop := shapesOpenMatchesSpecRow.holds Tryz.pinned (OpenSpec.ofChange shapesOpenMatchesSpecWrong)

/-- 'scriptoriumlaw4.ShapesOpenRefusesChanges': WHATEVER THE INPUT: true; the input reads as it did. -/
def shapesOpenRefusesChangesSpec : ChangeSpec := { name := "shapesOpenRefusesChanges", fn := fun _ => fun
  | [d1, d2, d3] => { results := [.lit (.bool true)], args := [d1, d2, d3] }
  | _ => none }
def shapesOpenRefusesChangesRow : OpenClaim := { program := "ytmfiaecglndldaagreatdoor", sum := "c02caad821da91785366716a82977555ec4a60360a8eef157064f205793390d6", func := "scriptorium/scriptoriumlaw4.ShapesOpenRefusesChanges", spec := "shapesOpenRefusesChanges", inPlace := ["internal/bytealg.IndexByteString", "internal/bytealg.IndexString", "internal/abi.NoEscape", "internal/bytealg.MakeNoZero", "internal/bytealg.abigen_runtime_cmpstring", "internal/bytealg.CountString"], unfollowed := true, recurses := true, named := ["unicode/utf8.first", "unicode/utf8.acceptRanges", "internal/bytealg.MaxLen"], loops := true, plainKeys := false, apart := false, laid := [("unicode/utf8.acceptRanges", laid_unicode_utf8_acceptRanges), ("unicode/utf8.first", laid_unicode_utf8_first)] }
def ShapesOpenRefusesChangesSaid : Prop := shapesOpenRefusesChangesRow.holds Tryz.pinned (OpenSpec.ofChange shapesOpenRefusesChangesSpec)

/-- ITS FALSE NEIGHBOUR: 'it returns false'. Refute it at one input. -/
def shapesOpenRefusesChangesWrong : ChangeSpec := { name := "shapesOpenRefusesChanges", fn := fun _ => fun
  | [d1, d2, d3] => { results := [.lit (.bool false)], args := [d1, d2, d3] }
  | _ => none }
def ShapesOpenRefusesChangesWrongFalsely : Prop := shapesOpenRefusesChangesRow.holds Tryz.pinned (OpenSpec.ofChange shapesOpenRefusesChangesWrong)

/-- 'scriptoriumlaw4.ShapesOpenIsCanonical': WHATEVER THE INPUT: true; the input reads as it did. -/
def shapesOpenIsCanonicalSpec : ChangeSpec := { name := "shapesOpenIsCanonical", fn := fun _ => fun
  | [d] => { results := [.lit (.bool true)], args := [d] }
  | _ => none }
def shapesOpenIsCanonicalRow : OpenClaim := { program := "ytmfiaecglndldaagreatdoor", sum := "c02caad821da91785366716a82977555ec4a60360a8eef157064f205793390d6", func := "scriptorium/scriptoriumlaw4.ShapesOpenIsCanonical", spec := "shapesOpenIsCanonical", inPlace := ["internal/bytealg.CountString", "internal/bytealg.IndexByteString", "internal/bytealg.IndexString", "internal/bytealg.abigen_runtime_cmpstring", "internal/abi.NoEscape", "internal/bytealg.MakeNoZero"], unfollowed := true, recurses := true, named := ["unicode/utf8.first", "unicode/utf8.acceptRanges", "internal/bytealg.MaxLen"], plainKeys := false, apart := false, laid := [("unicode/utf8.acceptRanges", laid_unicode_utf8_acceptRanges), ("unicode/utf8.first", laid_unicode_utf8_first)] }
def ShapesOpenIsCanonicalSaid : Prop := shapesOpenIsCanonicalRow.holds Tryz.pinned (OpenSpec.ofChange shapesOpenIsCanonicalSpec)

/-- ITS FALSE NEIGHBOUR: 'it returns false'. Refute it at one input. -/
def shapesOpenIsCanonicalWrong : ChangeSpec := { name := "shapesOpenIsCanonical", fn := fun _ => fun
  | [d] => { results := [.lit (.bool false)], args := [d] }
  | _ => none }
def ShapesOpenIsCanonicalWrongFalsely : Prop := shapesOpenIsCanonicalRow.holds Tryz.pinned (OpenSpec.ofChange shapesOpenIsCanonicalWrong)

/-- 'scriptoriumlaw4.ShapesMergeIsBuild': WHATEVER THE INPUT: true; the input reads as it did. -/
def shapesMergeIsBuildSpec : ChangeSpec := { name := "shapesMergeIsBuild", fn := fun _ => fun
  | [d1, d2] => { results := [.lit (.bool true)], args := [d1, d2] }
  | _ => none }
def shapesMergeIsBuildRow : OpenClaim := { program := "ytmfiaecglndldaagreatdoor", sum := "c02caad821da91785366716a82977555ec4a60360a8eef157064f205793390d6", func := "scriptorium/scriptoriumlaw4.ShapesMergeIsBuild", spec := "shapesMergeIsBuild", inPlace := ["internal/bytealg.IndexByteString", "internal/bytealg.IndexString", "internal/abi.NoEscape", "internal/bytealg.MakeNoZero", "internal/bytealg.abigen_runtime_cmpstring", "internal/bytealg.CountString"], unfollowed := true, recurses := true, named := ["unicode/utf8.first", "unicode/utf8.acceptRanges", "internal/bytealg.MaxLen"], loops := true, plainKeys := false, apart := false, laid := [("unicode/utf8.acceptRanges", laid_unicode_utf8_acceptRanges), ("unicode/utf8.first", laid_unicode_utf8_first)] }
def ShapesMergeIsBuildSaid : Prop := shapesMergeIsBuildRow.holds Tryz.pinned (OpenSpec.ofChange shapesMergeIsBuildSpec)

/-- ITS FALSE NEIGHBOUR: 'it returns false'. Refute it at one input. -/
def shapesMergeIsBuildWrong : ChangeSpec := { name := "shapesMergeIsBuild", fn := fun _ => fun
  | [d1, d2] => { results := [.lit (.bool false)], args := [d1, d2] }
  | _ => none }
def ShapesMergeIsBuildWrongFalsely : Prop := shapesMergeIsBuildRow.holds Tryz.pinned (OpenSpec.ofChange shapesMergeIsBuildWrong)

/- THE SECOND FORM. 'bulk': how many values and letters a reading holds, each counted each time it is reached (what is shared counts as often as it is met; a slice's spare places count too). A statement '..UptoSaid' is the law's where the arguments, and the package variables that the reading takes, are together of bulk at most 1048576: NARROWER than '..Said'. Prove '..Said' where nothing that the law and all that it calls make is longer than what came in: it says more and counts as full. Else prove '..UptoSaid'. A law counts once. -/
mutual
def uptoBulk {H : Type} : DataW H → Nat
  | .lit (.string bytes) => bytes.length + 1
  | .lit _ => 1
  | .nil => 1
  | .ptr d => uptoBulk d + 1
  | .slice elems spare => uptoBulkAll elems + uptoBulkAll spare + 1
  | .agg parts => uptoBulkAll parts + 1
  | .iface _ d => uptoBulk d + 1
  | .map entries => uptoBulkEntries entries + 1
  | .held _ => 1
def uptoBulkAll {H : Type} : List (DataW H) → Nat
  | [] => 0
  | d :: r => uptoBulk d + uptoBulkAll r
def uptoBulkEntries {H : Type} : List (Lit × DataW H) → Nat
  | [] => 0
  | x :: r => uptoBulkEntry x + uptoBulkEntries r
def uptoBulkEntry {H : Type} : Lit × DataW H → Nat
  | (.string bytes, d) => bytes.length + uptoBulk d + 1
  | (_, d) => uptoBulk d + 1
 end
def uptoSmall : (H : Type) → List (DataW H) → Bool := fun _ ds => decide (uptoBulkAll ds ≤ 1048576)
def OpenSpec.upto (s : _root_.Go.ChangeSpec) : _root_.Go.OpenSpec := { _root_.Go.OpenSpec.ofChange s with cond := some uptoSmall }

/-- 'scriptoriumlaw4.ShapesMatchMatchesSpec', WHERE WHAT IT READS IS OF BULK AT MOST 1048576: true; the input reads as it did. -/
def shapesMatchMatchesSpecUptoRow : OpenClaim := { program := "ytmfiaecglndldaagreatdoor", sum := "c02caad821da91785366716a82977555ec4a60360a8eef157064f205793390d6", func := "scriptorium/scriptoriumlaw4.ShapesMatchMatchesSpec", spec := "shapesMatchMatchesSpec", inPlace := ["internal/bytealg.CountString", "internal/bytealg.IndexByteString", "internal/bytealg.IndexString", "internal/abi.NoEscape", "internal/bytealg.MakeNoZero", "internal/bytealg.abigen_runtime_cmpstring"], unfollowed := true, recurses := true, named := ["unicode/utf8.first", "unicode/utf8.acceptRanges", "internal/bytealg.MaxLen"], plainKeys := false, apart := false, laid := [("unicode/utf8.acceptRanges", laid_unicode_utf8_acceptRanges), ("unicode/utf8.first", laid_unicode_utf8_first)], narrowed := true }
def ShapesMatchMatchesSpecUptoSaid : Prop := shapesMatchMatchesSpecUptoRow.holds Tryz.pinned (OpenSpec.upto shapesMatchMatchesSpecSpec)

/-- 'scriptoriumlaw4.ShapesWildcards', WHERE WHAT IT READS IS OF BULK AT MOST 1048576: true; the input reads as it did. -/
def shapesWildcardsUptoRow : OpenClaim := { program := "ytmfiaecglndldaagreatdoor", sum := "c02caad821da91785366716a82977555ec4a60360a8eef157064f205793390d6", func := "scriptorium/scriptoriumlaw4.ShapesWildcards", spec := "shapesWildcards", inPlace := ["internal/bytealg.CountString", "internal/bytealg.IndexByteString", "internal/bytealg.IndexString", "internal/abi.NoEscape", "internal/bytealg.MakeNoZero", "internal/bytealg.abigen_runtime_cmpstring"], unfollowed := true, recurses := true, named := ["unicode/utf8.first", "unicode/utf8.acceptRanges", "internal/bytealg.MaxLen"], plainKeys := false, apart := false, laid := [("unicode/utf8.acceptRanges", laid_unicode_utf8_acceptRanges), ("unicode/utf8.first", laid_unicode_utf8_first)], narrowed := true }
def ShapesWildcardsUptoSaid : Prop := shapesWildcardsUptoRow.holds Tryz.pinned (OpenSpec.upto shapesWildcardsSpec)

/-- 'scriptoriumlaw4.ShapesPathsMatchSpec', WHERE WHAT IT READS IS OF BULK AT MOST 1048576: true; the input reads as it did. -/
def shapesPathsMatchSpecUptoRow : OpenClaim := { program := "ytmfiaecglndldaagreatdoor", sum := "c02caad821da91785366716a82977555ec4a60360a8eef157064f205793390d6", func := "scriptorium/scriptoriumlaw4.ShapesPathsMatchSpec", spec := "shapesPathsMatchSpec", inPlace := ["internal/bytealg.IndexByteString", "internal/bytealg.IndexString", "internal/abi.NoEscape", "internal/bytealg.MakeNoZero", "internal/bytealg.CountString", "internal/bytealg.abigen_runtime_cmpstring"], unfollowed := true, recurses := true, named := ["unicode/utf8.first", "unicode/utf8.acceptRanges", "internal/bytealg.MaxLen"], loops := true, plainKeys := false, apart := false, laid := [("unicode/utf8.acceptRanges", laid_unicode_utf8_acceptRanges), ("unicode/utf8.first", laid_unicode_utf8_first)], narrowed := true }
def ShapesPathsMatchSpecUptoSaid : Prop := shapesPathsMatchSpecUptoRow.holds Tryz.pinned (OpenSpec.upto shapesPathsMatchSpecSpec)

/-- 'scriptoriumlaw4.ShapesFindMatchesSpec', WHERE WHAT IT READS IS OF BULK AT MOST 1048576: true; the input reads as it did. -/
def shapesFindMatchesSpecUptoRow : OpenClaim := { program := "ytmfiaecglndldaagreatdoor", sum := "c02caad821da91785366716a82977555ec4a60360a8eef157064f205793390d6", func := "scriptorium/scriptoriumlaw4.ShapesFindMatchesSpec", spec := "shapesFindMatchesSpec", inPlace := ["internal/bytealg.IndexByteString", "internal/bytealg.IndexString", "internal/abi.NoEscape", "internal/bytealg.MakeNoZero", "internal/bytealg.abigen_runtime_cmpstring", "internal/bytealg.CountString"], unfollowed := true, recurses := true, named := ["unicode/utf8.first", "unicode/utf8.acceptRanges", "internal/bytealg.MaxLen"], loops := true, plainKeys := false, apart := false, laid := [("unicode/utf8.acceptRanges", laid_unicode_utf8_acceptRanges), ("unicode/utf8.first", laid_unicode_utf8_first)], narrowed := true }
def ShapesFindMatchesSpecUptoSaid : Prop := shapesFindMatchesSpecUptoRow.holds Tryz.pinned (OpenSpec.upto shapesFindMatchesSpecSpec)

/-- 'scriptoriumlaw4.ShapesFormMatchesSpec', WHERE WHAT IT READS IS OF BULK AT MOST 1048576: true; the input reads as it did. -/
def shapesFormMatchesSpecUptoRow : OpenClaim := { program := "ytmfiaecglndldaagreatdoor", sum := "c02caad821da91785366716a82977555ec4a60360a8eef157064f205793390d6", func := "scriptorium/scriptoriumlaw4.ShapesFormMatchesSpec", spec := "shapesFormMatchesSpec", inPlace := ["internal/bytealg.IndexByteString", "internal/bytealg.IndexString", "internal/abi.NoEscape", "internal/bytealg.MakeNoZero", "internal/bytealg.abigen_runtime_cmpstring", "internal/bytealg.CountString"], unfollowed := true, recurses := true, named := ["unicode/utf8.first", "unicode/utf8.acceptRanges", "internal/bytealg.MaxLen"], loops := true, plainKeys := false, apart := false, laid := [("unicode/utf8.acceptRanges", laid_unicode_utf8_acceptRanges), ("unicode/utf8.first", laid_unicode_utf8_first)], narrowed := true }
def ShapesFormMatchesSpecUptoSaid : Prop := shapesFormMatchesSpecUptoRow.holds Tryz.pinned (OpenSpec.upto shapesFormMatchesSpecSpec)

/-- 'scriptoriumlaw4.ShapesOpenMatchesSpec', WHERE WHAT IT READS IS OF BULK AT MOST 1048576: true; the input reads as it did. -/
def shapesOpenMatchesSpecUptoRow : OpenClaim := { program := "ytmfiaecglndldaagreatdoor", sum := "c02caad821da91785366716a82977555ec4a60360a8eef157064f205793390d6", func := "scriptorium/scriptoriumlaw4.ShapesOpenMatchesSpec", spec := "shapesOpenMatchesSpec", inPlace := ["internal/bytealg.CountString", "internal/bytealg.IndexByteString", "internal/bytealg.IndexString", "internal/bytealg.abigen_runtime_cmpstring", "internal/abi.NoEscape", "internal/bytealg.MakeNoZero"], unfollowed := true, recurses := true, named := ["unicode/utf8.first", "unicode/utf8.acceptRanges", "internal/bytealg.MaxLen"], plainKeys := false, apart := false, laid := [("unicode/utf8.acceptRanges", laid_unicode_utf8_acceptRanges), ("unicode/utf8.first", laid_unicode_utf8_first)], narrowed := true }
def ShapesOpenMatchesSpecUptoSaid : Prop := shapesOpenMatchesSpecUptoRow.holds Tryz.pinned (OpenSpec.upto shapesOpenMatchesSpecSpec)

/-- 'scriptoriumlaw4.ShapesOpenRefusesChanges', WHERE WHAT IT READS IS OF BULK AT MOST 1048576: true; the input reads as it did. -/
def shapesOpenRefusesChangesUptoRow : OpenClaim := { program := "ytmfiaecglndldaagreatdoor", sum := "c02caad821da91785366716a82977555ec4a60360a8eef157064f205793390d6", func := "scriptorium/scriptoriumlaw4.ShapesOpenRefusesChanges", spec := "shapesOpenRefusesChanges", inPlace := ["internal/bytealg.IndexByteString", "internal/bytealg.IndexString", "internal/abi.NoEscape", "internal/bytealg.MakeNoZero", "internal/bytealg.abigen_runtime_cmpstring", "internal/bytealg.CountString"], unfollowed := true, recurses := true, named := ["unicode/utf8.first", "unicode/utf8.acceptRanges", "internal/bytealg.MaxLen"], loops := true, plainKeys := false, apart := false, laid := [("unicode/utf8.acceptRanges", laid_unicode_utf8_acceptRanges), ("unicode/utf8.first", laid_unicode_utf8_first)], narrowed := true }
def ShapesOpenRefusesChangesUptoSaid : Prop := shapesOpenRefusesChangesUptoRow.holds Tryz.pinned (OpenSpec.upto shapesOpenRefusesChangesSpec)

/-- 'scriptoriumlaw4.ShapesOpenIsCanonical', WHERE WHAT IT READS IS OF BULK AT MOST 1048576: true; the input reads as it did. -/
def shapesOpenIsCanonicalUptoRow : OpenClaim := { program := "ytmfiaecglndldaagreatdoor", sum := "c02caad821da91785366716a82977555ec4a60360a8eef157064f205793390d6", func := "scriptorium/scriptoriumlaw4.ShapesOpenIsCanonical", spec := "shapesOpenIsCanonical", inPlace := ["internal/bytealg.CountString", "internal/bytealg.IndexByteString", "internal/bytealg.IndexString", "internal/bytealg.abigen_runtime_cmpstring", "internal/abi.NoEscape", "internal/bytealg.MakeNoZero"], unfollowed := true, recurses := true, named := ["unicode/utf8.first", "unicode/utf8.acceptRanges", "internal/bytealg.MaxLen"], plainKeys := false, apart := false, laid := [("unicode/utf8.acceptRanges", laid_unicode_utf8_acceptRanges), ("unicode/utf8.first", laid_unicode_utf8_first)], narrowed := true }
def ShapesOpenIsCanonicalUptoSaid : Prop := shapesOpenIsCanonicalUptoRow.holds Tryz.pinned (OpenSpec.upto shapesOpenIsCanonicalSpec)

/-- 'scriptoriumlaw4.ShapesMergeIsBuild', WHERE WHAT IT READS IS OF BULK AT MOST 1048576: true; the input reads as it did. -/
def shapesMergeIsBuildUptoRow : OpenClaim := { program := "ytmfiaecglndldaagreatdoor", sum := "c02caad821da91785366716a82977555ec4a60360a8eef157064f205793390d6", func := "scriptorium/scriptoriumlaw4.ShapesMergeIsBuild", spec := "shapesMergeIsBuild", inPlace := ["internal/bytealg.IndexByteString", "internal/bytealg.IndexString", "internal/abi.NoEscape", "internal/bytealg.MakeNoZero", "internal/bytealg.abigen_runtime_cmpstring", "internal/bytealg.CountString"], unfollowed := true, recurses := true, named := ["unicode/utf8.first", "unicode/utf8.acceptRanges", "internal/bytealg.MaxLen"], loops := true, plainKeys := false, apart := false, laid := [("unicode/utf8.acceptRanges", laid_unicode_utf8_acceptRanges), ("unicode/utf8.first", laid_unicode_utf8_first)], narrowed := true }
def ShapesMergeIsBuildUptoSaid : Prop := shapesMergeIsBuildUptoRow.holds Tryz.pinned (OpenSpec.upto shapesMergeIsBuildSpec)

end Rows
end Go.Proofs.YtmfiaecglndldaaGreatDoor
