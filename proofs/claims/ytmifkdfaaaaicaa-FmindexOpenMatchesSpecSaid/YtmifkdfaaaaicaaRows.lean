/-
  No cell of these rows narrows 'for every input' (looked for: loops, veiled, ifaces, maps, wideKeys, modest, calm, conditions, laid).
  DERIVED. THE GIVEN ROWS OF THIS SEAT. 11 by the template 'for every input the law returns true; each argument reads behind the call as it read before'; 0 by the template 'total and deterministic' (their statements: YtmifkdfaaaaicaaTotals.lean).
  GIVEN WITH THE SEED: the statements are not yours to turn. If you find one false, say at which input.
  Laid BY PROGRAM, IN A SANDBOX (cutbox-rows.mjs): the forced cells as the released guide's own fill.sh prints them over the translation 9b6f1aa5e6f71c89… (all of the seat's roots in one cut). By AI agents, Wed Nov 11 2026. No macro, syntax, notation, axiom, sorry.
-/
import Derived.Test.YtmifkdfaaaaicaaChecked
import GoSem.Claim
import GoSem.ClaimJoined
import GoSem.ClaimMapViews
import Derived.JoinedTies
import Derived.KernelRfl
namespace Go.Proofs.Ytmifkdfaaaaicaa
/- THE CELL 'sum', in the pinned program and in every row, IS THE sha256 OF THE DUMP (.gsa) THAT YtmifkdfaaaaicaaProg.lean LOADS. Nothing in Lean hashes anything: it is a label: what it is worth is what the hold of that sum in a sandbox is worth. -/
noncomputable def Try.pinned : Pinned := { name := "ytmifkdfaaaaicaa", sum := "9b6f1aa5e6f71c8937544ea814568a37eee2e7646e3bb7d59f4c6dae296d4541", checked := Try.checked }
namespace Rows
def none {H : Type} : Left H := { results := [], args := [] }

/-- 'scriptoriumlaw4.SuffixArrayMatchesSpec': WHATEVER THE INPUT: true; the input reads as it did. -/
def suffixArrayMatchesSpecSpec : ChangeSpec := { name := "suffixArrayMatchesSpec", fn := fun _ => fun
  | [d] => { results := [.lit (.bool true)], args := [d] }
  | _ => none }
def suffixArrayMatchesSpecRow : OpenClaim := { program := "ytmifkdfaaaaicaa", sum := "9b6f1aa5e6f71c8937544ea814568a37eee2e7646e3bb7d59f4c6dae296d4541", func := "scriptorium/scriptoriumlaw4.SuffixArrayMatchesSpec", spec := "suffixArrayMatchesSpec", inPlace := ["internal/bytealg.Compare"], unfollowed := true, recurses := true, apart := false }
def SuffixArrayMatchesSpecSaid : Prop := suffixArrayMatchesSpecRow.holds Try.pinned (OpenSpec.ofChange suffixArrayMatchesSpecSpec)

/-- ITS FALSE NEIGHBOUR: 'it returns false'. Refute it at one input. -/
def suffixArrayMatchesSpecWrong : ChangeSpec := { name := "suffixArrayMatchesSpec", fn := fun _ => fun
  | [d] => { results := [.lit (.bool false)], args := [d] }
  | _ => none }
def SuffixArrayMatchesSpecWrongFalsely : Prop := suffixArrayMatchesSpecRow.holds Try.pinned (OpenSpec.ofChange suffixArrayMatchesSpecWrong)

/-- 'scriptoriumlaw4.SuffixArrayIsSorted': WHATEVER THE INPUT: true; the input reads as it did. -/
def suffixArrayIsSortedSpec : ChangeSpec := { name := "suffixArrayIsSorted", fn := fun _ => fun
  | [d] => { results := [.lit (.bool true)], args := [d] }
  | _ => none }
def suffixArrayIsSortedRow : OpenClaim := { program := "ytmifkdfaaaaicaa", sum := "9b6f1aa5e6f71c8937544ea814568a37eee2e7646e3bb7d59f4c6dae296d4541", func := "scriptorium/scriptoriumlaw4.SuffixArrayIsSorted", spec := "suffixArrayIsSorted", inPlace := ["internal/bytealg.Compare"], unfollowed := true, recurses := true, apart := false }
def SuffixArrayIsSortedSaid : Prop := suffixArrayIsSortedRow.holds Try.pinned (OpenSpec.ofChange suffixArrayIsSortedSpec)

/-- ITS FALSE NEIGHBOUR: 'it returns false'. Refute it at one input. -/
def suffixArrayIsSortedWrong : ChangeSpec := { name := "suffixArrayIsSorted", fn := fun _ => fun
  | [d] => { results := [.lit (.bool false)], args := [d] }
  | _ => none }
def SuffixArrayIsSortedWrongFalsely : Prop := suffixArrayIsSortedRow.holds Try.pinned (OpenSpec.ofChange suffixArrayIsSortedWrong)

/-- 'scriptoriumlaw4.SuffixFindMatchesSpec': WHATEVER THE INPUT: true; the input reads as it did. -/
def suffixFindMatchesSpecSpec : ChangeSpec := { name := "suffixFindMatchesSpec", fn := fun _ => fun
  | [d1, d2] => { results := [.lit (.bool true)], args := [d1, d2] }
  | _ => none }
def suffixFindMatchesSpecRow : OpenClaim := { program := "ytmifkdfaaaaicaa", sum := "9b6f1aa5e6f71c8937544ea814568a37eee2e7646e3bb7d59f4c6dae296d4541", func := "scriptorium/scriptoriumlaw4.SuffixFindMatchesSpec", spec := "suffixFindMatchesSpec", inPlace := ["internal/bytealg.Compare"], unfollowed := true, recurses := true, apart := false }
def SuffixFindMatchesSpecSaid : Prop := suffixFindMatchesSpecRow.holds Try.pinned (OpenSpec.ofChange suffixFindMatchesSpecSpec)

/-- ITS FALSE NEIGHBOUR: 'it returns false'. Refute it at one input. -/
def suffixFindMatchesSpecWrong : ChangeSpec := { name := "suffixFindMatchesSpec", fn := fun _ => fun
  | [d1, d2] => { results := [.lit (.bool false)], args := [d1, d2] }
  | _ => none }
def SuffixFindMatchesSpecWrongFalsely : Prop := suffixFindMatchesSpecRow.holds Try.pinned (OpenSpec.ofChange suffixFindMatchesSpecWrong)

/-- 'scriptoriumlaw4.SuffixFoundAreOccurrences': WHATEVER THE INPUT: true; the input reads as it did. -/
def suffixFoundAreOccurrencesSpec : ChangeSpec := { name := "suffixFoundAreOccurrences", fn := fun _ => fun
  | [d1, d2, d3] => { results := [.lit (.bool true)], args := [d1, d2, d3] }
  | _ => none }
def suffixFoundAreOccurrencesRow : OpenClaim := { program := "ytmifkdfaaaaicaa", sum := "9b6f1aa5e6f71c8937544ea814568a37eee2e7646e3bb7d59f4c6dae296d4541", func := "scriptorium/scriptoriumlaw4.SuffixFoundAreOccurrences", spec := "suffixFoundAreOccurrences", inPlace := ["internal/bytealg.Compare"], unfollowed := true, recurses := true, apart := false }
def SuffixFoundAreOccurrencesSaid : Prop := suffixFoundAreOccurrencesRow.holds Try.pinned (OpenSpec.ofChange suffixFoundAreOccurrencesSpec)

/-- ITS FALSE NEIGHBOUR: 'it returns false'. Refute it at one input. -/
def suffixFoundAreOccurrencesWrong : ChangeSpec := { name := "suffixFoundAreOccurrences", fn := fun _ => fun
  | [d1, d2, d3] => { results := [.lit (.bool false)], args := [d1, d2, d3] }
  | _ => none }
def SuffixFoundAreOccurrencesWrongFalsely : Prop := suffixFoundAreOccurrencesRow.holds Try.pinned (OpenSpec.ofChange suffixFoundAreOccurrencesWrong)

/-- 'scriptoriumlaw4.SuffixRepeatedMatchesSpec': WHATEVER THE INPUT: true; the input reads as it did. -/
def suffixRepeatedMatchesSpecSpec : ChangeSpec := { name := "suffixRepeatedMatchesSpec", fn := fun _ => fun
  | [d] => { results := [.lit (.bool true)], args := [d] }
  | _ => none }
def suffixRepeatedMatchesSpecRow : OpenClaim := { program := "ytmifkdfaaaaicaa", sum := "9b6f1aa5e6f71c8937544ea814568a37eee2e7646e3bb7d59f4c6dae296d4541", func := "scriptorium/scriptoriumlaw4.SuffixRepeatedMatchesSpec", spec := "suffixRepeatedMatchesSpec", inPlace := ["internal/bytealg.Compare"], unfollowed := true, recurses := true, apart := false }
def SuffixRepeatedMatchesSpecSaid : Prop := suffixRepeatedMatchesSpecRow.holds Try.pinned (OpenSpec.ofChange suffixRepeatedMatchesSpecSpec)

/-- ITS FALSE NEIGHBOUR: 'it returns false'. Refute it at one input. -/
def suffixRepeatedMatchesSpecWrong : ChangeSpec := { name := "suffixRepeatedMatchesSpec", fn := fun _ => fun
  | [d] => { results := [.lit (.bool false)], args := [d] }
  | _ => none }
def SuffixRepeatedMatchesSpecWrongFalsely : Prop := suffixRepeatedMatchesSpecRow.holds Try.pinned (OpenSpec.ofChange suffixRepeatedMatchesSpecWrong)

/-- 'scriptoriumlaw4.FmindexFindsMatchSpec': WHATEVER THE INPUT: true; the input reads as it did. -/
def fmindexFindsMatchSpecSpec : ChangeSpec := { name := "fmindexFindsMatchSpec", fn := fun _ => fun
  | [d1, d2] => { results := [.lit (.bool true)], args := [d1, d2] }
  | _ => none }
def fmindexFindsMatchSpecRow : OpenClaim := { program := "ytmifkdfaaaaicaa", sum := "9b6f1aa5e6f71c8937544ea814568a37eee2e7646e3bb7d59f4c6dae296d4541", func := "scriptorium/scriptoriumlaw4.FmindexFindsMatchSpec", spec := "fmindexFindsMatchSpec", inPlace := ["internal/bytealg.Compare", "slices.overlaps[int]"], unfollowed := true, recurses := true, apart := false }
def FmindexFindsMatchSpecSaid : Prop := fmindexFindsMatchSpecRow.holds Try.pinned (OpenSpec.ofChange fmindexFindsMatchSpecSpec)

/-- ITS FALSE NEIGHBOUR: 'it returns false'. Refute it at one input. -/
def fmindexFindsMatchSpecWrong : ChangeSpec := { name := "fmindexFindsMatchSpec", fn := fun _ => fun
  | [d1, d2] => { results := [.lit (.bool false)], args := [d1, d2] }
  | _ => none }
def FmindexFindsMatchSpecWrongFalsely : Prop := fmindexFindsMatchSpecRow.holds Try.pinned (OpenSpec.ofChange fmindexFindsMatchSpecWrong)

/-- 'scriptoriumlaw4.FmindexExtractMatchesSpec': WHATEVER THE INPUT: true; the input reads as it did. -/
def fmindexExtractMatchesSpecSpec : ChangeSpec := { name := "fmindexExtractMatchesSpec", fn := fun _ => fun
  | [d1, d2, d3] => { results := [.lit (.bool true)], args := [d1, d2, d3] }
  | _ => none }
def fmindexExtractMatchesSpecRow : OpenClaim := { program := "ytmifkdfaaaaicaa", sum := "9b6f1aa5e6f71c8937544ea814568a37eee2e7646e3bb7d59f4c6dae296d4541", func := "scriptorium/scriptoriumlaw4.FmindexExtractMatchesSpec", spec := "fmindexExtractMatchesSpec", inPlace := ["internal/bytealg.Compare", "slices.overlaps[int]"], unfollowed := true, recurses := true, apart := false }
def FmindexExtractMatchesSpecSaid : Prop := fmindexExtractMatchesSpecRow.holds Try.pinned (OpenSpec.ofChange fmindexExtractMatchesSpecSpec)

/-- ITS FALSE NEIGHBOUR: 'it returns false'. Refute it at one input. -/
def fmindexExtractMatchesSpecWrong : ChangeSpec := { name := "fmindexExtractMatchesSpec", fn := fun _ => fun
  | [d1, d2, d3] => { results := [.lit (.bool false)], args := [d1, d2, d3] }
  | _ => none }
def FmindexExtractMatchesSpecWrongFalsely : Prop := fmindexExtractMatchesSpecRow.holds Try.pinned (OpenSpec.ofChange fmindexExtractMatchesSpecWrong)

/-- 'scriptoriumlaw4.FmindexFormMatchesSpec': WHATEVER THE INPUT: true; the input reads as it did. -/
def fmindexFormMatchesSpecSpec : ChangeSpec := { name := "fmindexFormMatchesSpec", fn := fun _ => fun
  | [d] => { results := [.lit (.bool true)], args := [d] }
  | _ => none }
def fmindexFormMatchesSpecRow : OpenClaim := { program := "ytmifkdfaaaaicaa", sum := "9b6f1aa5e6f71c8937544ea814568a37eee2e7646e3bb7d59f4c6dae296d4541", func := "scriptorium/scriptoriumlaw4.FmindexFormMatchesSpec", spec := "fmindexFormMatchesSpec", inPlace := ["internal/bytealg.Compare", "slices.overlaps[int]"], unfollowed := true, recurses := true, apart := false }
def FmindexFormMatchesSpecSaid : Prop := fmindexFormMatchesSpecRow.holds Try.pinned (OpenSpec.ofChange fmindexFormMatchesSpecSpec)

/-- ITS FALSE NEIGHBOUR: 'it returns false'. Refute it at one input. -/
def fmindexFormMatchesSpecWrong : ChangeSpec := { name := "fmindexFormMatchesSpec", fn := fun _ => fun
  | [d] => { results := [.lit (.bool false)], args := [d] }
  | _ => none }
def FmindexFormMatchesSpecWrongFalsely : Prop := fmindexFormMatchesSpecRow.holds Try.pinned (OpenSpec.ofChange fmindexFormMatchesSpecWrong)

/-- 'scriptoriumlaw4.FmindexOpenMatchesSpec': WHATEVER THE INPUT: true; the input reads as it did. -/
def fmindexOpenMatchesSpecSpec : ChangeSpec := { name := "fmindexOpenMatchesSpec", fn := fun _ => fun
  | [d] => { results := [.lit (.bool true)], args := [d] }
  | _ => none }
def fmindexOpenMatchesSpecRow : OpenClaim := { program := "ytmifkdfaaaaicaa", sum := "9b6f1aa5e6f71c8937544ea814568a37eee2e7646e3bb7d59f4c6dae296d4541", func := "scriptorium/scriptoriumlaw4.FmindexOpenMatchesSpec", spec := "fmindexOpenMatchesSpec", inPlace := ["slices.overlaps[int]", "internal/bytealg.Compare"], unfollowed := true, recurses := true, apart := false }
def FmindexOpenMatchesSpecSaid : Prop := fmindexOpenMatchesSpecRow.holds Try.pinned (OpenSpec.ofChange fmindexOpenMatchesSpecSpec)

/-- ITS FALSE NEIGHBOUR: 'it returns false'. Refute it at one input. -/
def fmindexOpenMatchesSpecWrong : ChangeSpec := { name := "fmindexOpenMatchesSpec", fn := fun _ => fun
  | [d] => { results := [.lit (.bool false)], args := [d] }
  | _ => none }
def FmindexOpenMatchesSpecWrongFalsely : Prop := fmindexOpenMatchesSpecRow.holds Try.pinned (OpenSpec.ofChange fmindexOpenMatchesSpecWrong)

/-- 'scriptoriumlaw4.FmindexReopens': WHATEVER THE INPUT: true; the input reads as it did. -/
def fmindexReopensSpec : ChangeSpec := { name := "fmindexReopens", fn := fun _ => fun
  | [d1, d2] => { results := [.lit (.bool true)], args := [d1, d2] }
  | _ => none }
def fmindexReopensRow : OpenClaim := { program := "ytmifkdfaaaaicaa", sum := "9b6f1aa5e6f71c8937544ea814568a37eee2e7646e3bb7d59f4c6dae296d4541", func := "scriptorium/scriptoriumlaw4.FmindexReopens", spec := "fmindexReopens", inPlace := ["internal/bytealg.Compare", "slices.overlaps[int]"], unfollowed := true, recurses := true, apart := false }
def FmindexReopensSaid : Prop := fmindexReopensRow.holds Try.pinned (OpenSpec.ofChange fmindexReopensSpec)

/-- ITS FALSE NEIGHBOUR: 'it returns false'. Refute it at one input. -/
def fmindexReopensWrong : ChangeSpec := { name := "fmindexReopens", fn := fun _ => fun
  | [d1, d2] => { results := [.lit (.bool false)], args := [d1, d2] }
  | _ => none }
def FmindexReopensWrongFalsely : Prop := fmindexReopensRow.holds Try.pinned (OpenSpec.ofChange fmindexReopensWrong)

/-- 'scriptoriumlaw4.FmindexAgreesWithOrder': WHATEVER THE INPUT: true; the input reads as it did. -/
def fmindexAgreesWithOrderSpec : ChangeSpec := { name := "fmindexAgreesWithOrder", fn := fun _ => fun
  | [d1, d2] => { results := [.lit (.bool true)], args := [d1, d2] }
  | _ => none }
def fmindexAgreesWithOrderRow : OpenClaim := { program := "ytmifkdfaaaaicaa", sum := "9b6f1aa5e6f71c8937544ea814568a37eee2e7646e3bb7d59f4c6dae296d4541", func := "scriptorium/scriptoriumlaw4.FmindexAgreesWithOrder", spec := "fmindexAgreesWithOrder", inPlace := ["internal/bytealg.Compare", "slices.overlaps[int]"], unfollowed := true, recurses := true, apart := false }
def FmindexAgreesWithOrderSaid : Prop := fmindexAgreesWithOrderRow.holds Try.pinned (OpenSpec.ofChange fmindexAgreesWithOrderSpec)

/-- ITS FALSE NEIGHBOUR: 'it returns false'. Refute it at one input. -/
def fmindexAgreesWithOrderWrong : ChangeSpec := { name := "fmindexAgreesWithOrder", fn := fun _ => fun
  | [d1, d2] => { results := [.lit (.bool false)], args := [d1, d2] }
  | _ => none }
def FmindexAgreesWithOrderWrongFalsely : Prop := fmindexAgreesWithOrderRow.holds Try.pinned (OpenSpec.ofChange fmindexAgreesWithOrderWrong)

/- THE SECOND FORM. 'bulk': how many values and letters a reading holds, each counted each time it is reached (what is shared counts as often as it is met; a slice's spare places count too). A statement '..UptoSaid' is the law's where the arguments, and the package variables that the reading takes, are together of bulk at most 1048576: NARROWER than '..Said'. Prove '..Said' where nothing that the law and all that it calls make is longer than what came in: it says more and counts as full. Else prove '..UptoSaid'. A law counts once. -/
mutual
def uptoBulk {H : Type} : DataW H → Nat
  | .lit (.string bytes) => bytes.length + 1
  | .lit _ => 1
  | .nil => 1
  | .ptr d => uptoBulk d + 1
  | .slice elems spare => uptoBulkAll elems + uptoBulkAll spare + 1
  | .agg parts => uptoBulkAll parts + 1
  | .iface _ d => uptoBulk d + 1
  | .map entries => uptoBulkEntries entries + 1
  | .held _ => 1
def uptoBulkAll {H : Type} : List (DataW H) → Nat
  | [] => 0
  | d :: r => uptoBulk d + uptoBulkAll r
def uptoBulkEntries {H : Type} : List (Lit × DataW H) → Nat
  | [] => 0
  | x :: r => uptoBulkEntry x + uptoBulkEntries r
def uptoBulkEntry {H : Type} : Lit × DataW H → Nat
  | (.string bytes, d) => bytes.length + uptoBulk d + 1
  | (_, d) => uptoBulk d + 1
 end
def uptoSmall : (H : Type) → List (DataW H) → Bool := fun _ ds => decide (uptoBulkAll ds ≤ 1048576)
def OpenSpec.upto (s : _root_.Go.ChangeSpec) : _root_.Go.OpenSpec := { _root_.Go.OpenSpec.ofChange s with cond := some uptoSmall }

/-- 'scriptoriumlaw4.SuffixArrayMatchesSpec', WHERE WHAT IT READS IS OF BULK AT MOST 1048576: true; the input reads as it did. -/
def suffixArrayMatchesSpecUptoRow : OpenClaim := { program := "ytmifkdfaaaaicaa", sum := "9b6f1aa5e6f71c8937544ea814568a37eee2e7646e3bb7d59f4c6dae296d4541", func := "scriptorium/scriptoriumlaw4.SuffixArrayMatchesSpec", spec := "suffixArrayMatchesSpec", inPlace := ["internal/bytealg.Compare"], unfollowed := true, recurses := true, apart := false, narrowed := true }
def SuffixArrayMatchesSpecUptoSaid : Prop := suffixArrayMatchesSpecUptoRow.holds Try.pinned (OpenSpec.upto suffixArrayMatchesSpecSpec)

/-- 'scriptoriumlaw4.SuffixArrayIsSorted', WHERE WHAT IT READS IS OF BULK AT MOST 1048576: true; the input reads as it did. -/
def suffixArrayIsSortedUptoRow : OpenClaim := { program := "ytmifkdfaaaaicaa", sum := "9b6f1aa5e6f71c8937544ea814568a37eee2e7646e3bb7d59f4c6dae296d4541", func := "scriptorium/scriptoriumlaw4.SuffixArrayIsSorted", spec := "suffixArrayIsSorted", inPlace := ["internal/bytealg.Compare"], unfollowed := true, recurses := true, apart := false, narrowed := true }
def SuffixArrayIsSortedUptoSaid : Prop := suffixArrayIsSortedUptoRow.holds Try.pinned (OpenSpec.upto suffixArrayIsSortedSpec)

/-- 'scriptoriumlaw4.SuffixFindMatchesSpec', WHERE WHAT IT READS IS OF BULK AT MOST 1048576: true; the input reads as it did. -/
def suffixFindMatchesSpecUptoRow : OpenClaim := { program := "ytmifkdfaaaaicaa", sum := "9b6f1aa5e6f71c8937544ea814568a37eee2e7646e3bb7d59f4c6dae296d4541", func := "scriptorium/scriptoriumlaw4.SuffixFindMatchesSpec", spec := "suffixFindMatchesSpec", inPlace := ["internal/bytealg.Compare"], unfollowed := true, recurses := true, apart := false, narrowed := true }
def SuffixFindMatchesSpecUptoSaid : Prop := suffixFindMatchesSpecUptoRow.holds Try.pinned (OpenSpec.upto suffixFindMatchesSpecSpec)

/-- 'scriptoriumlaw4.SuffixFoundAreOccurrences', WHERE WHAT IT READS IS OF BULK AT MOST 1048576: true; the input reads as it did. -/
def suffixFoundAreOccurrencesUptoRow : OpenClaim := { program := "ytmifkdfaaaaicaa", sum := "9b6f1aa5e6f71c8937544ea814568a37eee2e7646e3bb7d59f4c6dae296d4541", func := "scriptorium/scriptoriumlaw4.SuffixFoundAreOccurrences", spec := "suffixFoundAreOccurrences", inPlace := ["internal/bytealg.Compare"], unfollowed := true, recurses := true, apart := false, narrowed := true }
def SuffixFoundAreOccurrencesUptoSaid : Prop := suffixFoundAreOccurrencesUptoRow.holds Try.pinned (OpenSpec.upto suffixFoundAreOccurrencesSpec)

/-- 'scriptoriumlaw4.SuffixRepeatedMatchesSpec', WHERE WHAT IT READS IS OF BULK AT MOST 1048576: true; the input reads as it did. -/
def suffixRepeatedMatchesSpecUptoRow : OpenClaim := { program := "ytmifkdfaaaaicaa", sum := "9b6f1aa5e6f71c8937544ea814568a37eee2e7646e3bb7d59f4c6dae296d4541", func := "scriptorium/scriptoriumlaw4.SuffixRepeatedMatchesSpec", spec := "suffixRepeatedMatchesSpec", inPlace := ["internal/bytealg.Compare"], unfollowed := true, recurses := true, apart := false, narrowed := true }
def SuffixRepeatedMatchesSpecUptoSaid : Prop := suffixRepeatedMatchesSpecUptoRow.holds Try.pinned (OpenSpec.upto suffixRepeatedMatchesSpecSpec)

/-- 'scriptoriumlaw4.FmindexFindsMatchSpec', WHERE WHAT IT READS IS OF BULK AT MOST 1048576: true; the input reads as it did. -/
def fmindexFindsMatchSpecUptoRow : OpenClaim := { program := "ytmifkdfaaaaicaa", sum := "9b6f1aa5e6f71c8937544ea814568a37eee2e7646e3bb7d59f4c6dae296d4541", func := "scriptorium/scriptoriumlaw4.FmindexFindsMatchSpec", spec := "fmindexFindsMatchSpec", inPlace := ["internal/bytealg.Compare", "slices.overlaps[int]"], unfollowed := true, recurses := true, apart := false, narrowed := true }
def FmindexFindsMatchSpecUptoSaid : Prop := fmindexFindsMatchSpecUptoRow.holds Try.pinned (OpenSpec.upto fmindexFindsMatchSpecSpec)

/-- 'scriptoriumlaw4.FmindexExtractMatchesSpec', WHERE WHAT IT READS IS OF BULK AT MOST 1048576: true; the input reads as it did. -/
def fmindexExtractMatchesSpecUptoRow : OpenClaim := { program := "ytmifkdfaaaaicaa", sum := "9b6f1aa5e6f71c8937544ea814568a37eee2e7646e3bb7d59f4c6dae296d4541", func := "scriptorium/scriptoriumlaw4.FmindexExtractMatchesSpec", spec := "fmindexExtractMatchesSpec", inPlace := ["internal/bytealg.Compare", "slices.overlaps[int]"], unfollowed := true, recurses := true, apart := false, narrowed := true }
def FmindexExtractMatchesSpecUptoSaid : Prop := fmindexExtractMatchesSpecUptoRow.holds Try.pinned (OpenSpec.upto fmindexExtractMatchesSpecSpec)

/-- 'scriptoriumlaw4.FmindexFormMatchesSpec', WHERE WHAT IT READS IS OF BULK AT MOST 1048576: true; the input reads as it did. -/
def fmindexFormMatchesSpecUptoRow : OpenClaim := { program := "ytmifkdfaaaaicaa", sum := "9b6f1aa5e6f71c8937544ea814568a37eee2e7646e3bb7d59f4c6dae296d4541", func := "scriptorium/scriptoriumlaw4.FmindexFormMatchesSpec", spec := "fmindexFormMatchesSpec", inPlace := ["internal/bytealg.Compare", "slices.overlaps[int]"], unfollowed := true, recurses := true, apart := false, narrowed := true }
def FmindexFormMatchesSpecUptoSaid : Prop := fmindexFormMatchesSpecUptoRow.holds Try.pinned (OpenSpec.upto fmindexFormMatchesSpecSpec)

/-- 'scriptoriumlaw4.FmindexOpenMatchesSpec', WHERE WHAT IT READS IS OF BULK AT MOST 1048576: true; the input reads as it did. -/
def fmindexOpenMatchesSpecUptoRow : OpenClaim := { program := "ytmifkdfaaaaicaa", sum := "9b6f1aa5e6f71c8937544ea814568a37eee2e7646e3bb7d59f4c6dae296d4541", func := "scriptorium/scriptoriumlaw4.FmindexOpenMatchesSpec", spec := "fmindexOpenMatchesSpec", inPlace := ["slices.overlaps[int]", "internal/bytealg.Compare"], unfollowed := true, recurses := true, apart := false, narrowed := true }
def FmindexOpenMatchesSpecUptoSaid : Prop := fmindexOpenMatchesSpecUptoRow.holds Try.pinned (OpenSpec.upto fmindexOpenMatchesSpecSpec)

/-- 'scriptoriumlaw4.FmindexReopens', WHERE WHAT IT READS IS OF BULK AT MOST 1048576: true; the input reads as it did. -/
def fmindexReopensUptoRow : OpenClaim := { program := "ytmifkdfaaaaicaa", sum := "9b6f1aa5e6f71c8937544ea814568a37eee2e7646e3bb7d59f4c6dae296d4541", func := "scriptorium/scriptoriumlaw4.FmindexReopens", spec := "fmindexReopens", inPlace := ["internal/bytealg.Compare", "slices.overlaps[int]"], unfollowed := true, recurses := true, apart := false, narrowed := true }
def FmindexReopensUptoSaid : Prop := fmindexReopensUptoRow.holds Try.pinned (OpenSpec.upto fmindexReopensSpec)

/-- 'scriptoriumlaw4.FmindexAgreesWithOrder', WHERE WHAT IT READS IS OF BULK AT MOST 1048576: true; the input reads as it did. -/
def fmindexAgreesWithOrderUptoRow : OpenClaim := { program := "ytmifkdfaaaaicaa", sum := "9b6f1aa5e6f71c8937544ea814568a37eee2e7646e3bb7d59f4c6dae296d4541", func := "scriptorium/scriptoriumlaw4.FmindexAgreesWithOrder", spec := "fmindexAgreesWithOrder", inPlace := ["internal/bytealg.Compare", "slices.overlaps[int]"], unfollowed := true, recurses := true, apart := false, narrowed := true }
def FmindexAgreesWithOrderUptoSaid : Prop := fmindexAgreesWithOrderUptoRow.holds Try.pinned (OpenSpec.upto fmindexAgreesWithOrderSpec)

end Rows
end Go.Proofs.Ytmifkdfaaaaicaa
