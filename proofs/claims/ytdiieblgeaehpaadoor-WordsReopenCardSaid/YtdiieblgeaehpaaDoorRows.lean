/-
  NARROWER THAN 'FOR EVERY INPUT', by the rows' own cells (each row's printed sentence says how): WordsSplitMatchesSpec: laid · WordsAreLowerCase: laid · WordsPhrasesMatchSpec: laid · WordsNearIsMutual: laid · WordsReopen: laid · WordsFindMatchesSpec: laid.
  DERIVED. THE GIVEN ROWS OF THIS SEAT. 6 by the template 'for every input the law returns true; each argument reads behind the call as it read before'; 0 by the template 'total and deterministic' (their statements: YtdiieblgeaehpaaDoorTotals.lean).
  GIVEN WITH THE SEED: the statements are not yours to turn. If you find one false, say at which input.
  Laid BY PROGRAM, IN A SANDBOX (cutbox-rows.mjs): the forced cells as the released guide's own fill.sh prints them over the translation e46a359d99632eee… (all of the seat's roots in one cut). By AI agents, Wed Nov 11 2026. No macro, syntax, notation, axiom, sorry.
-/
import Derived.Test.YtdiieblgeaehpaaDoorChecked
import GoSem.PinnedTables
import GoSem.Claim
import GoSem.ClaimJoined
import GoSem.ClaimMapViews
import Derived.JoinedTies
import Derived.KernelRfl
namespace Go.Proofs.YtdiieblgeaehpaaDoor
/- THE CELL 'sum', in the pinned program and in every row, IS THE sha256 OF THE DUMP (.gsa) THAT YtdiieblgeaehpaaDoorProg.lean LOADS. Nothing in Lean hashes anything: it is a label: what it is worth is what the hold of that sum in a sandbox is worth. -/
noncomputable def Tryd.pinned : Pinned := { name := "ytdiieblgeaehpaadoor", sum := "e46a359d99632eee028d7af8402b67f4523403df7912dd6d69309b9a1e3c62a7", checked := Tryd.checked }
namespace Rows
def none {H : Type} : Left H := { results := [], args := [] }

/- WHAT THE LISTED PACKAGE-LEVEL VARIABLES READ AS WHEN THE CALL BEGINS. Each datum BY PROGRAM (the guide's laid-datum.mjs) off the statement by which the dump's own 'gosem.cut.vars' lays the variable. In a bare row this is a premise. The card (YtdiieblgeaehpaaDoorCards.lean) ties it to the program's text. -/
def laid_unicode_utf8_acceptRanges {H : Type} : DataW H := .agg [.agg [.lit (.int .u8 128), .lit (.int .u8 191)], .agg [.lit (.int .u8 160), .lit (.int .u8 191)], .agg [.lit (.int .u8 128), .lit (.int .u8 159)], .agg [.lit (.int .u8 144), .lit (.int .u8 191)], .agg [.lit (.int .u8 128), .lit (.int .u8 143)], .agg [.lit (.int .u8 0), .lit (.int .u8 0)], .agg [.lit (.int .u8 0), .lit (.int .u8 0)], .agg [.lit (.int .u8 0), .lit (.int .u8 0)], .agg [.lit (.int .u8 0), .lit (.int .u8 0)], .agg [.lit (.int .u8 0), .lit (.int .u8 0)], .agg [.lit (.int .u8 0), .lit (.int .u8 0)], .agg [.lit (.int .u8 0), .lit (.int .u8 0)], .agg [.lit (.int .u8 0), .lit (.int .u8 0)], .agg [.lit (.int .u8 0), .lit (.int .u8 0)], .agg [.lit (.int .u8 0), .lit (.int .u8 0)], .agg [.lit (.int .u8 0), .lit (.int .u8 0)]]
/-- One of Go's own tables, pinned by name: the form's constant. -/
def laid_unicode_utf8_first : DataW Unit := Go.Pinned.utf8First

/-- 'scriptoriumlaw4.WordsSplitMatchesSpec': WHATEVER THE INPUT: true; the input reads as it did. -/
def wordsSplitMatchesSpecSpec : ChangeSpec := { name := "wordsSplitMatchesSpec", fn := fun _ => fun
  | [d] => { results := [.lit (.bool true)], args := [d] }
  | _ => none }
def wordsSplitMatchesSpecRow : OpenClaim := { program := "ytdiieblgeaehpaadoor", sum := "e46a359d99632eee028d7af8402b67f4523403df7912dd6d69309b9a1e3c62a7", func := "scriptorium/scriptoriumlaw4.WordsSplitMatchesSpec", spec := "wordsSplitMatchesSpec", inPlace := ["internal/bytealg.abigen_runtime_cmpstring", "internal/abi.NoEscape"], unfollowed := true, recurses := true, named := ["unicode/utf8.first", "unicode/utf8.acceptRanges"], plainKeys := false, apart := false, laid := [("unicode/utf8.acceptRanges", laid_unicode_utf8_acceptRanges), ("unicode/utf8.first", laid_unicode_utf8_first)] }
def WordsSplitMatchesSpecSaid : Prop := wordsSplitMatchesSpecRow.holds Tryd.pinned (OpenSpec.ofChange wordsSplitMatchesSpecSpec)

/-- ITS FALSE NEIGHBOUR: 'it returns false'. Refute it at one input. -/
def wordsSplitMatchesSpecWrong : ChangeSpec := { name := "wordsSplitMatchesSpec", fn := fun _ => fun
  | [d] => { results := [.lit (.bool false)], args := [d] }
  | _ => none }
def WordsSplitMatchesSpecWrongFalsely : Prop := wordsSplitMatchesSpecRow.holds Tryd.pinned (OpenSpec.ofChange wordsSplitMatchesSpecWrong)

/-- 'scriptoriumlaw4.WordsAreLowerCase': WHATEVER THE INPUT: true; the input reads as it did. -/
def wordsAreLowerCaseSpec : ChangeSpec := { name := "wordsAreLowerCase", fn := fun _ => fun
  | [d1, d2] => { results := [.lit (.bool true)], args := [d1, d2] }
  | _ => none }
def wordsAreLowerCaseRow : OpenClaim := { program := "ytdiieblgeaehpaadoor", sum := "e46a359d99632eee028d7af8402b67f4523403df7912dd6d69309b9a1e3c62a7", func := "scriptorium/scriptoriumlaw4.WordsAreLowerCase", spec := "wordsAreLowerCase", inPlace := ["internal/bytealg.abigen_runtime_cmpstring", "internal/abi.NoEscape"], unfollowed := true, recurses := true, named := ["unicode/utf8.first", "unicode/utf8.acceptRanges"], plainKeys := false, apart := false, laid := [("unicode/utf8.acceptRanges", laid_unicode_utf8_acceptRanges), ("unicode/utf8.first", laid_unicode_utf8_first)] }
def WordsAreLowerCaseSaid : Prop := wordsAreLowerCaseRow.holds Tryd.pinned (OpenSpec.ofChange wordsAreLowerCaseSpec)

/-- ITS FALSE NEIGHBOUR: 'it returns false'. Refute it at one input. -/
def wordsAreLowerCaseWrong : ChangeSpec := { name := "wordsAreLowerCase", fn := fun _ => fun
  | [d1, d2] => { results := [.lit (.bool false)], args := [d1, d2] }
  | _ => none }
def WordsAreLowerCaseWrongFalsely : Prop := wordsAreLowerCaseRow.holds Tryd.pinned (OpenSpec.ofChange wordsAreLowerCaseWrong)

/-- 'scriptoriumlaw4.WordsPhrasesMatchSpec': WHATEVER THE INPUT: true; the input reads as it did. -/
def wordsPhrasesMatchSpecSpec : ChangeSpec := { name := "wordsPhrasesMatchSpec", fn := fun _ => fun
  | [d1, d2, d3] => { results := [.lit (.bool true)], args := [d1, d2, d3] }
  | _ => none }
def wordsPhrasesMatchSpecRow : OpenClaim := { program := "ytdiieblgeaehpaadoor", sum := "e46a359d99632eee028d7af8402b67f4523403df7912dd6d69309b9a1e3c62a7", func := "scriptorium/scriptoriumlaw4.WordsPhrasesMatchSpec", spec := "wordsPhrasesMatchSpec", inPlace := ["internal/bytealg.abigen_runtime_cmpstring", "internal/abi.NoEscape"], unfollowed := true, recurses := true, named := ["unicode/utf8.first", "unicode/utf8.acceptRanges"], plainKeys := false, apart := false, laid := [("unicode/utf8.acceptRanges", laid_unicode_utf8_acceptRanges), ("unicode/utf8.first", laid_unicode_utf8_first)] }
def WordsPhrasesMatchSpecSaid : Prop := wordsPhrasesMatchSpecRow.holds Tryd.pinned (OpenSpec.ofChange wordsPhrasesMatchSpecSpec)

/-- ITS FALSE NEIGHBOUR: 'it returns false'. Refute it at one input. -/
def wordsPhrasesMatchSpecWrong : ChangeSpec := { name := "wordsPhrasesMatchSpec", fn := fun _ => fun
  | [d1, d2, d3] => { results := [.lit (.bool false)], args := [d1, d2, d3] }
  | _ => none }
def WordsPhrasesMatchSpecWrongFalsely : Prop := wordsPhrasesMatchSpecRow.holds Tryd.pinned (OpenSpec.ofChange wordsPhrasesMatchSpecWrong)

/-- 'scriptoriumlaw4.WordsNearIsMutual': WHATEVER THE INPUT: true; the input reads as it did. -/
def wordsNearIsMutualSpec : ChangeSpec := { name := "wordsNearIsMutual", fn := fun _ => fun
  | [d1, d2, d3, d4, d5] => { results := [.lit (.bool true)], args := [d1, d2, d3, d4, d5] }
  | _ => none }
def wordsNearIsMutualRow : OpenClaim := { program := "ytdiieblgeaehpaadoor", sum := "e46a359d99632eee028d7af8402b67f4523403df7912dd6d69309b9a1e3c62a7", func := "scriptorium/scriptoriumlaw4.WordsNearIsMutual", spec := "wordsNearIsMutual", inPlace := ["internal/bytealg.abigen_runtime_cmpstring", "internal/abi.NoEscape"], unfollowed := true, recurses := true, named := ["unicode/utf8.first", "unicode/utf8.acceptRanges"], plainKeys := false, apart := false, laid := [("unicode/utf8.acceptRanges", laid_unicode_utf8_acceptRanges), ("unicode/utf8.first", laid_unicode_utf8_first)] }
def WordsNearIsMutualSaid : Prop := wordsNearIsMutualRow.holds Tryd.pinned (OpenSpec.ofChange wordsNearIsMutualSpec)

/-- ITS FALSE NEIGHBOUR: 'it returns false'. Refute it at one input. -/
def wordsNearIsMutualWrong : ChangeSpec := { name := "wordsNearIsMutual", fn := fun _ => fun
  | [d1, d2, d3, d4, d5] => { results := [.lit (.bool false)], args := [d1, d2, d3, d4, d5] }
  | _ => none }
def WordsNearIsMutualWrongFalsely : Prop := wordsNearIsMutualRow.holds Tryd.pinned (OpenSpec.ofChange wordsNearIsMutualWrong)

/-- 'scriptoriumlaw4.WordsReopen': WHATEVER THE INPUT: true; the input reads as it did. -/
def wordsReopenSpec : ChangeSpec := { name := "wordsReopen", fn := fun _ => fun
  | [d1, d2] => { results := [.lit (.bool true)], args := [d1, d2] }
  | _ => none }
def wordsReopenRow : OpenClaim := { program := "ytdiieblgeaehpaadoor", sum := "e46a359d99632eee028d7af8402b67f4523403df7912dd6d69309b9a1e3c62a7", func := "scriptorium/scriptoriumlaw4.WordsReopen", spec := "wordsReopen", inPlace := ["internal/bytealg.abigen_runtime_cmpstring", "internal/abi.NoEscape"], unfollowed := true, recurses := true, named := ["unicode/utf8.first", "unicode/utf8.acceptRanges"], plainKeys := false, apart := false, laid := [("unicode/utf8.acceptRanges", laid_unicode_utf8_acceptRanges), ("unicode/utf8.first", laid_unicode_utf8_first)] }
def WordsReopenSaid : Prop := wordsReopenRow.holds Tryd.pinned (OpenSpec.ofChange wordsReopenSpec)

/-- ITS FALSE NEIGHBOUR: 'it returns false'. Refute it at one input. -/
def wordsReopenWrong : ChangeSpec := { name := "wordsReopen", fn := fun _ => fun
  | [d1, d2] => { results := [.lit (.bool false)], args := [d1, d2] }
  | _ => none }
def WordsReopenWrongFalsely : Prop := wordsReopenRow.holds Tryd.pinned (OpenSpec.ofChange wordsReopenWrong)

/-- 'scriptoriumlaw4.WordsFindMatchesSpec': WHATEVER THE INPUT: true; the input reads as it did. -/
def wordsFindMatchesSpecSpec : ChangeSpec := { name := "wordsFindMatchesSpec", fn := fun _ => fun
  | [d1, d2] => { results := [.lit (.bool true)], args := [d1, d2] }
  | _ => none }
def wordsFindMatchesSpecRow : OpenClaim := { program := "ytdiieblgeaehpaadoor", sum := "e46a359d99632eee028d7af8402b67f4523403df7912dd6d69309b9a1e3c62a7", func := "scriptorium/scriptoriumlaw4.WordsFindMatchesSpec", spec := "wordsFindMatchesSpec", inPlace := ["internal/bytealg.abigen_runtime_cmpstring", "internal/abi.NoEscape"], unfollowed := true, recurses := true, named := ["unicode/utf8.first", "unicode/utf8.acceptRanges"], plainKeys := false, apart := false, laid := [("unicode/utf8.acceptRanges", laid_unicode_utf8_acceptRanges), ("unicode/utf8.first", laid_unicode_utf8_first)] }
def WordsFindMatchesSpecSaid : Prop := wordsFindMatchesSpecRow.holds Tryd.pinned (OpenSpec.ofChange wordsFindMatchesSpecSpec)

/-- ITS FALSE NEIGHBOUR: 'it returns false'. Refute it at one input. -/
def wordsFindMatchesSpecWrong : ChangeSpec := { name := "wordsFindMatchesSpec", fn := fun _ => fun
  | [d1, d2] => { results := [.lit (.bool false)], args := [d1, d2] }
  | _ => none }
def WordsFindMatchesSpecWrongFalsely : Prop := wordsFindMatchesSpecRow.holds Tryd.pinned (OpenSpec.ofChange wordsFindMatchesSpecWrong)

/- THE SECOND FORM. 'bulk': how many values and letters a reading holds, each counted each time it is reached (what is shared counts as often as it is met; a slice's spare places count too). A statement '..UptoSaid' is the law's where the arguments, and the package variables that the reading takes, are together of bulk at most 1048576: NARROWER than '..Said'. Prove '..Said' where nothing that the law and all that it calls make is longer than what came in: it says more and counts as full. Else prove '..UptoSaid'. A law counts once. -/
mutual
def uptoBulk {H : Type} : DataW H → Nat
  | .lit (.string bytes) => bytes.length + 1
  | .lit _ => 1
  | .nil => 1
  | .ptr d => uptoBulk d + 1
  | .slice elems spare => uptoBulkAll elems + uptoBulkAll spare + 1
  | .agg parts => uptoBulkAll parts + 1
  | .iface _ d => uptoBulk d + 1
  | .map entries => uptoBulkEntries entries + 1
  | .held _ => 1
def uptoBulkAll {H : Type} : List (DataW H) → Nat
  | [] => 0
  | d :: r => uptoBulk d + uptoBulkAll r
def uptoBulkEntries {H : Type} : List (Lit × DataW H) → Nat
  | [] => 0
  | x :: r => uptoBulkEntry x + uptoBulkEntries r
def uptoBulkEntry {H : Type} : Lit × DataW H → Nat
  | (.string bytes, d) => bytes.length + uptoBulk d + 1
  | (_, d) => uptoBulk d + 1
 end
def uptoSmall : (H : Type) → List (DataW H) → Bool := fun _ ds => decide (uptoBulkAll ds ≤ 1048576)
def OpenSpec.upto (s : _root_.Go.ChangeSpec) : _root_.Go.OpenSpec := { _root_.Go.OpenSpec.ofChange s with cond := some uptoSmall }

/-- 'scriptoriumlaw4.WordsSplitMatchesSpec', WHERE WHAT IT READS IS OF BULK AT MOST 1048576: true; the input reads as it did. -/
def wordsSplitMatchesSpecUptoRow : OpenClaim := { program := "ytdiieblgeaehpaadoor", sum := "e46a359d99632eee028d7af8402b67f4523403df7912dd6d69309b9a1e3c62a7", func := "scriptorium/scriptoriumlaw4.WordsSplitMatchesSpec", spec := "wordsSplitMatchesSpec", inPlace := ["internal/bytealg.abigen_runtime_cmpstring", "internal/abi.NoEscape"], unfollowed := true, recurses := true, named := ["unicode/utf8.first", "unicode/utf8.acceptRanges"], plainKeys := false, apart := false, laid := [("unicode/utf8.acceptRanges", laid_unicode_utf8_acceptRanges), ("unicode/utf8.first", laid_unicode_utf8_first)], narrowed := true }
def WordsSplitMatchesSpecUptoSaid : Prop := wordsSplitMatchesSpecUptoRow.holds Tryd.pinned (OpenSpec.upto wordsSplitMatchesSpecSpec)

/-- 'scriptoriumlaw4.WordsAreLowerCase', WHERE WHAT IT READS IS OF BULK AT MOST 1048576: true; the input reads as it did. -/
def wordsAreLowerCaseUptoRow : OpenClaim := { program := "ytdiieblgeaehpaadoor", sum := "e46a359d99632eee028d7af8402b67f4523403df7912dd6d69309b9a1e3c62a7", func := "scriptorium/scriptoriumlaw4.WordsAreLowerCase", spec := "wordsAreLowerCase", inPlace := ["internal/bytealg.abigen_runtime_cmpstring", "internal/abi.NoEscape"], unfollowed := true, recurses := true, named := ["unicode/utf8.first", "unicode/utf8.acceptRanges"], plainKeys := false, apart := false, laid := [("unicode/utf8.acceptRanges", laid_unicode_utf8_acceptRanges), ("unicode/utf8.first", laid_unicode_utf8_first)], narrowed := true }
def WordsAreLowerCaseUptoSaid : Prop := wordsAreLowerCaseUptoRow.holds Tryd.pinned (OpenSpec.upto wordsAreLowerCaseSpec)

/-- 'scriptoriumlaw4.WordsPhrasesMatchSpec', WHERE WHAT IT READS IS OF BULK AT MOST 1048576: true; the input reads as it did. -/
def wordsPhrasesMatchSpecUptoRow : OpenClaim := { program := "ytdiieblgeaehpaadoor", sum := "e46a359d99632eee028d7af8402b67f4523403df7912dd6d69309b9a1e3c62a7", func := "scriptorium/scriptoriumlaw4.WordsPhrasesMatchSpec", spec := "wordsPhrasesMatchSpec", inPlace := ["internal/bytealg.abigen_runtime_cmpstring", "internal/abi.NoEscape"], unfollowed := true, recurses := true, named := ["unicode/utf8.first", "unicode/utf8.acceptRanges"], plainKeys := false, apart := false, laid := [("unicode/utf8.acceptRanges", laid_unicode_utf8_acceptRanges), ("unicode/utf8.first", laid_unicode_utf8_first)], narrowed := true }
def WordsPhrasesMatchSpecUptoSaid : Prop := wordsPhrasesMatchSpecUptoRow.holds Tryd.pinned (OpenSpec.upto wordsPhrasesMatchSpecSpec)

/-- 'scriptoriumlaw4.WordsNearIsMutual', WHERE WHAT IT READS IS OF BULK AT MOST 1048576: true; the input reads as it did. -/
def wordsNearIsMutualUptoRow : OpenClaim := { program := "ytdiieblgeaehpaadoor", sum := "e46a359d99632eee028d7af8402b67f4523403df7912dd6d69309b9a1e3c62a7", func := "scriptorium/scriptoriumlaw4.WordsNearIsMutual", spec := "wordsNearIsMutual", inPlace := ["internal/bytealg.abigen_runtime_cmpstring", "internal/abi.NoEscape"], unfollowed := true, recurses := true, named := ["unicode/utf8.first", "unicode/utf8.acceptRanges"], plainKeys := false, apart := false, laid := [("unicode/utf8.acceptRanges", laid_unicode_utf8_acceptRanges), ("unicode/utf8.first", laid_unicode_utf8_first)], narrowed := true }
def WordsNearIsMutualUptoSaid : Prop := wordsNearIsMutualUptoRow.holds Tryd.pinned (OpenSpec.upto wordsNearIsMutualSpec)

/-- 'scriptoriumlaw4.WordsReopen', WHERE WHAT IT READS IS OF BULK AT MOST 1048576: true; the input reads as it did. -/
def wordsReopenUptoRow : OpenClaim := { program := "ytdiieblgeaehpaadoor", sum := "e46a359d99632eee028d7af8402b67f4523403df7912dd6d69309b9a1e3c62a7", func := "scriptorium/scriptoriumlaw4.WordsReopen", spec := "wordsReopen", inPlace := ["internal/bytealg.abigen_runtime_cmpstring", "internal/abi.NoEscape"], unfollowed := true, recurses := true, named := ["unicode/utf8.first", "unicode/utf8.acceptRanges"], plainKeys := false, apart := false, laid := [("unicode/utf8.acceptRanges", laid_unicode_utf8_acceptRanges), ("unicode/utf8.first", laid_unicode_utf8_first)], narrowed := true }
def WordsReopenUptoSaid : Prop := wordsReopenUptoRow.holds Tryd.pinned (OpenSpec.upto wordsReopenSpec)

/-- 'scriptoriumlaw4.WordsFindMatchesSpec', WHERE WHAT IT READS IS OF BULK AT MOST 1048576: true; the input reads as it did. -/
def wordsFindMatchesSpecUptoRow : OpenClaim := { program := "ytdiieblgeaehpaadoor", sum := "e46a359d99632eee028d7af8402b67f4523403df7912dd6d69309b9a1e3c62a7", func := "scriptorium/scriptoriumlaw4.WordsFindMatchesSpec", spec := "wordsFindMatchesSpec", inPlace := ["internal/bytealg.abigen_runtime_cmpstring", "internal/abi.NoEscape"], unfollowed := true, recurses := true, named := ["unicode/utf8.first", "unicode/utf8.acceptRanges"], plainKeys := false, apart := false, laid := [("unicode/utf8.acceptRanges", laid_unicode_utf8_acceptRanges), ("unicode/utf8.first", laid_unicode_utf8_first)], narrowed := true }
def WordsFindMatchesSpecUptoSaid : Prop := wordsFindMatchesSpecUptoRow.holds Tryd.pinned (OpenSpec.upto wordsFindMatchesSpecSpec)

end Rows
end Go.Proofs.YtdiieblgeaehpaaDoor
