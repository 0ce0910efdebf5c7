/-
  No cell of these rows narrows 'for every input' (looked for: loops, veiled, ifaces, maps, wideKeys, modest, calm, conditions, laid).
  DERIVED. THE GIVEN ROWS OF THIS SEAT. 9 by the template 'for every input the law returns true; each argument reads behind the call as it read before'; 0 by the template 'total and deterministic' (their statements: YtidedcbaahiplaaTotals.lean).
  GIVEN WITH THE SEED: the statements are not yours to turn. If you find one false, say at which input.
  Laid BY PROGRAM, IN A SANDBOX (cutbox-rows.mjs): the forced cells as the released guide's own fill.sh prints them over the translation daae7c9a3a25115f… (all of the seat's roots in one cut). By AI agents, Wed Nov 11 2026. No macro, syntax, notation, axiom, sorry.
-/
import Derived.Test.YtidedcbaahiplaaChecked
import GoSem.Claim
import GoSem.ClaimJoined
import GoSem.ClaimMapViews
import Derived.JoinedTies
import Derived.KernelRfl
namespace Go.Proofs.Ytidedcbaahiplaa
/- THE CELL 'sum', in the pinned program and in every row, IS THE sha256 OF THE DUMP (.gsa) THAT YtidedcbaahiplaaProg.lean LOADS. Nothing in Lean hashes anything: it is a label: what it is worth is what the hold of that sum in a sandbox is worth. -/
noncomputable def Try.pinned : Pinned := { name := "ytidedcbaahiplaa", sum := "daae7c9a3a25115fd596500ef518bafd94a9f80809355419de2e95251d520893", checked := Try.checked }
namespace Rows
def none {H : Type} : Left H := { results := [], args := [] }

/-- 'scriptoriumlaw4.SharesSplitMatchesSpec': WHATEVER THE INPUT: true; the input reads as it did. -/
def sharesSplitMatchesSpecSpec : ChangeSpec := { name := "sharesSplitMatchesSpec", fn := fun _ => fun
  | [d1, d2, d3, d4] => { results := [.lit (.bool true)], args := [d1, d2, d3, d4] }
  | _ => none }
def sharesSplitMatchesSpecRow : OpenClaim := { program := "ytidedcbaahiplaa", sum := "daae7c9a3a25115fd596500ef518bafd94a9f80809355419de2e95251d520893", func := "scriptorium/scriptoriumlaw4.SharesSplitMatchesSpec", spec := "sharesSplitMatchesSpec", unfollowed := true, recurses := true, apart := false }
def SharesSplitMatchesSpecSaid : Prop := sharesSplitMatchesSpecRow.holds Try.pinned (OpenSpec.ofChange sharesSplitMatchesSpecSpec)

/-- ITS FALSE NEIGHBOUR: 'it returns false'. Refute it at one input. -/
def sharesSplitMatchesSpecWrong : ChangeSpec := { name := "sharesSplitMatchesSpec", fn := fun _ => fun
  | [d1, d2, d3, d4] => { results := [.lit (.bool false)], args := [d1, d2, d3, d4] }
  | _ => none }
def SharesSplitMatchesSpecWrongFalsely : Prop := sharesSplitMatchesSpecRow.holds Try.pinned (OpenSpec.ofChange sharesSplitMatchesSpecWrong)

/-- 'scriptoriumlaw4.SharesJoinMatchesSpec': WHATEVER THE INPUT: true; the input reads as it did. -/
def sharesJoinMatchesSpecSpec : ChangeSpec := { name := "sharesJoinMatchesSpec", fn := fun _ => fun
  | [d1, d2, d3] => { results := [.lit (.bool true)], args := [d1, d2, d3] }
  | _ => none }
def sharesJoinMatchesSpecRow : OpenClaim := { program := "ytidedcbaahiplaa", sum := "daae7c9a3a25115fd596500ef518bafd94a9f80809355419de2e95251d520893", func := "scriptorium/scriptoriumlaw4.SharesJoinMatchesSpec", spec := "sharesJoinMatchesSpec", unfollowed := true, recurses := true, apart := false }
def SharesJoinMatchesSpecSaid : Prop := sharesJoinMatchesSpecRow.holds Try.pinned (OpenSpec.ofChange sharesJoinMatchesSpecSpec)

/-- ITS FALSE NEIGHBOUR: 'it returns false'. Refute it at one input. -/
def sharesJoinMatchesSpecWrong : ChangeSpec := { name := "sharesJoinMatchesSpec", fn := fun _ => fun
  | [d1, d2, d3] => { results := [.lit (.bool false)], args := [d1, d2, d3] }
  | _ => none }
def SharesJoinMatchesSpecWrongFalsely : Prop := sharesJoinMatchesSpecRow.holds Try.pinned (OpenSpec.ofChange sharesJoinMatchesSpecWrong)

/-- 'scriptoriumlaw4.SharesAnyOpen': WHATEVER THE INPUT: true; the input reads as it did. -/
def sharesAnyOpenSpec : ChangeSpec := { name := "sharesAnyOpen", fn := fun _ => fun
  | [d1, d2, d3, d4, d5] => { results := [.lit (.bool true)], args := [d1, d2, d3, d4, d5] }
  | _ => none }
def sharesAnyOpenRow : OpenClaim := { program := "ytidedcbaahiplaa", sum := "daae7c9a3a25115fd596500ef518bafd94a9f80809355419de2e95251d520893", func := "scriptorium/scriptoriumlaw4.SharesAnyOpen", spec := "sharesAnyOpen", unfollowed := true, recurses := true, apart := false }
def SharesAnyOpenSaid : Prop := sharesAnyOpenRow.holds Try.pinned (OpenSpec.ofChange sharesAnyOpenSpec)

/-- ITS FALSE NEIGHBOUR: 'it returns false'. Refute it at one input. -/
def sharesAnyOpenWrong : ChangeSpec := { name := "sharesAnyOpen", fn := fun _ => fun
  | [d1, d2, d3, d4, d5] => { results := [.lit (.bool false)], args := [d1, d2, d3, d4, d5] }
  | _ => none }
def SharesAnyOpenWrongFalsely : Prop := sharesAnyOpenRow.holds Try.pinned (OpenSpec.ofChange sharesAnyOpenWrong)

/-- 'scriptoriumlaw4.SharesOneForgedIsSeen': WHATEVER THE INPUT: true; the input reads as it did. -/
def sharesOneForgedIsSeenSpec : ChangeSpec := { name := "sharesOneForgedIsSeen", fn := fun _ => fun
  | [d1, d2, d3, d4, d5, d6, d7] => { results := [.lit (.bool true)], args := [d1, d2, d3, d4, d5, d6, d7] }
  | _ => none }
def sharesOneForgedIsSeenRow : OpenClaim := { program := "ytidedcbaahiplaa", sum := "daae7c9a3a25115fd596500ef518bafd94a9f80809355419de2e95251d520893", func := "scriptorium/scriptoriumlaw4.SharesOneForgedIsSeen", spec := "sharesOneForgedIsSeen", unfollowed := true, recurses := true, apart := false }
def SharesOneForgedIsSeenSaid : Prop := sharesOneForgedIsSeenRow.holds Try.pinned (OpenSpec.ofChange sharesOneForgedIsSeenSpec)

/-- ITS FALSE NEIGHBOUR: 'it returns false'. Refute it at one input. -/
def sharesOneForgedIsSeenWrong : ChangeSpec := { name := "sharesOneForgedIsSeen", fn := fun _ => fun
  | [d1, d2, d3, d4, d5, d6, d7] => { results := [.lit (.bool false)], args := [d1, d2, d3, d4, d5, d6, d7] }
  | _ => none }
def SharesOneForgedIsSeenWrongFalsely : Prop := sharesOneForgedIsSeenRow.holds Try.pinned (OpenSpec.ofChange sharesOneForgedIsSeenWrong)

/-- 'scriptoriumlaw4.SharesMendNamesForgers': WHATEVER THE INPUT: true; the input reads as it did. -/
def sharesMendNamesForgersSpec : ChangeSpec := { name := "sharesMendNamesForgers", fn := fun _ => fun
  | [d1, d2, d3, d4, d5, d6] => { results := [.lit (.bool true)], args := [d1, d2, d3, d4, d5, d6] }
  | _ => none }
def sharesMendNamesForgersRow : OpenClaim := { program := "ytidedcbaahiplaa", sum := "daae7c9a3a25115fd596500ef518bafd94a9f80809355419de2e95251d520893", func := "scriptorium/scriptoriumlaw4.SharesMendNamesForgers", spec := "sharesMendNamesForgers", unfollowed := true, recurses := true, apart := false }
def SharesMendNamesForgersSaid : Prop := sharesMendNamesForgersRow.holds Try.pinned (OpenSpec.ofChange sharesMendNamesForgersSpec)

/-- ITS FALSE NEIGHBOUR: 'it returns false'. Refute it at one input. -/
def sharesMendNamesForgersWrong : ChangeSpec := { name := "sharesMendNamesForgers", fn := fun _ => fun
  | [d1, d2, d3, d4, d5, d6] => { results := [.lit (.bool false)], args := [d1, d2, d3, d4, d5, d6] }
  | _ => none }
def SharesMendNamesForgersWrongFalsely : Prop := sharesMendNamesForgersRow.holds Try.pinned (OpenSpec.ofChange sharesMendNamesForgersWrong)

/-- 'scriptoriumlaw4.SharesMendMatchesSpec': WHATEVER THE INPUT: true; the input reads as it did. -/
def sharesMendMatchesSpecSpec : ChangeSpec := { name := "sharesMendMatchesSpec", fn := fun _ => fun
  | [d1, d2] => { results := [.lit (.bool true)], args := [d1, d2] }
  | _ => none }
def sharesMendMatchesSpecRow : OpenClaim := { program := "ytidedcbaahiplaa", sum := "daae7c9a3a25115fd596500ef518bafd94a9f80809355419de2e95251d520893", func := "scriptorium/scriptoriumlaw4.SharesMendMatchesSpec", spec := "sharesMendMatchesSpec", unfollowed := true, recurses := true, apart := false }
def SharesMendMatchesSpecSaid : Prop := sharesMendMatchesSpecRow.holds Try.pinned (OpenSpec.ofChange sharesMendMatchesSpecSpec)

/-- ITS FALSE NEIGHBOUR: 'it returns false'. Refute it at one input. -/
def sharesMendMatchesSpecWrong : ChangeSpec := { name := "sharesMendMatchesSpec", fn := fun _ => fun
  | [d1, d2] => { results := [.lit (.bool false)], args := [d1, d2] }
  | _ => none }
def SharesMendMatchesSpecWrongFalsely : Prop := sharesMendMatchesSpecRow.holds Try.pinned (OpenSpec.ofChange sharesMendMatchesSpecWrong)

/-- 'scriptoriumlaw4.SharesRenewMatchesSpec': WHATEVER THE INPUT: true; the input reads as it did. -/
def sharesRenewMatchesSpecSpec : ChangeSpec := { name := "sharesRenewMatchesSpec", fn := fun _ => fun
  | [d1, d2, d3] => { results := [.lit (.bool true)], args := [d1, d2, d3] }
  | _ => none }
def sharesRenewMatchesSpecRow : OpenClaim := { program := "ytidedcbaahiplaa", sum := "daae7c9a3a25115fd596500ef518bafd94a9f80809355419de2e95251d520893", func := "scriptorium/scriptoriumlaw4.SharesRenewMatchesSpec", spec := "sharesRenewMatchesSpec", unfollowed := true, recurses := true, apart := false }
def SharesRenewMatchesSpecSaid : Prop := sharesRenewMatchesSpecRow.holds Try.pinned (OpenSpec.ofChange sharesRenewMatchesSpecSpec)

/-- ITS FALSE NEIGHBOUR: 'it returns false'. Refute it at one input. -/
def sharesRenewMatchesSpecWrong : ChangeSpec := { name := "sharesRenewMatchesSpec", fn := fun _ => fun
  | [d1, d2, d3] => { results := [.lit (.bool false)], args := [d1, d2, d3] }
  | _ => none }
def SharesRenewMatchesSpecWrongFalsely : Prop := sharesRenewMatchesSpecRow.holds Try.pinned (OpenSpec.ofChange sharesRenewMatchesSpecWrong)

/-- 'scriptoriumlaw4.SharesExplainMatchesSpec': WHATEVER THE INPUT: true; the input reads as it did. -/
def sharesExplainMatchesSpecSpec : ChangeSpec := { name := "sharesExplainMatchesSpec", fn := fun _ => fun
  | [d1, d2, d3] => { results := [.lit (.bool true)], args := [d1, d2, d3] }
  | _ => none }
def sharesExplainMatchesSpecRow : OpenClaim := { program := "ytidedcbaahiplaa", sum := "daae7c9a3a25115fd596500ef518bafd94a9f80809355419de2e95251d520893", func := "scriptorium/scriptoriumlaw4.SharesExplainMatchesSpec", spec := "sharesExplainMatchesSpec", unfollowed := true, recurses := true, apart := false }
def SharesExplainMatchesSpecSaid : Prop := sharesExplainMatchesSpecRow.holds Try.pinned (OpenSpec.ofChange sharesExplainMatchesSpecSpec)

/-- ITS FALSE NEIGHBOUR: 'it returns false'. Refute it at one input. -/
def sharesExplainMatchesSpecWrong : ChangeSpec := { name := "sharesExplainMatchesSpec", fn := fun _ => fun
  | [d1, d2, d3] => { results := [.lit (.bool false)], args := [d1, d2, d3] }
  | _ => none }
def SharesExplainMatchesSpecWrongFalsely : Prop := sharesExplainMatchesSpecRow.holds Try.pinned (OpenSpec.ofChange sharesExplainMatchesSpecWrong)

/-- 'scriptoriumlaw4.SharesExplainIsUnique': WHATEVER THE INPUT: true; the input reads as it did. -/
def sharesExplainIsUniqueSpec : ChangeSpec := { name := "sharesExplainIsUnique", fn := fun _ => fun
  | [d1, d2, d3, d4] => { results := [.lit (.bool true)], args := [d1, d2, d3, d4] }
  | _ => none }
def sharesExplainIsUniqueRow : OpenClaim := { program := "ytidedcbaahiplaa", sum := "daae7c9a3a25115fd596500ef518bafd94a9f80809355419de2e95251d520893", func := "scriptorium/scriptoriumlaw4.SharesExplainIsUnique", spec := "sharesExplainIsUnique", unfollowed := true, recurses := true, apart := false }
def SharesExplainIsUniqueSaid : Prop := sharesExplainIsUniqueRow.holds Try.pinned (OpenSpec.ofChange sharesExplainIsUniqueSpec)

/-- ITS FALSE NEIGHBOUR: 'it returns false'. Refute it at one input. -/
def sharesExplainIsUniqueWrong : ChangeSpec := { name := "sharesExplainIsUnique", fn := fun _ => fun
  | [d1, d2, d3, d4] => { results := [.lit (.bool false)], args := [d1, d2, d3, d4] }
  | _ => none }
def SharesExplainIsUniqueWrongFalsely : Prop := sharesExplainIsUniqueRow.holds Try.pinned (OpenSpec.ofChange sharesExplainIsUniqueWrong)

/- THE SECOND FORM. 'bulk': how many values and letters a reading holds, each counted each time it is reached (what is shared counts as often as it is met; a slice's spare places count too). A statement '..UptoSaid' is the law's where the arguments, and the package variables that the reading takes, are together of bulk at most 1048576: NARROWER than '..Said'. Prove '..Said' where nothing that the law and all that it calls make is longer than what came in: it says more and counts as full. Else prove '..UptoSaid'. A law counts once. -/
mutual
def uptoBulk {H : Type} : DataW H → Nat
  | .lit (.string bytes) => bytes.length + 1
  | .lit _ => 1
  | .nil => 1
  | .ptr d => uptoBulk d + 1
  | .slice elems spare => uptoBulkAll elems + uptoBulkAll spare + 1
  | .agg parts => uptoBulkAll parts + 1
  | .iface _ d => uptoBulk d + 1
  | .map entries => uptoBulkEntries entries + 1
  | .held _ => 1
def uptoBulkAll {H : Type} : List (DataW H) → Nat
  | [] => 0
  | d :: r => uptoBulk d + uptoBulkAll r
def uptoBulkEntries {H : Type} : List (Lit × DataW H) → Nat
  | [] => 0
  | x :: r => uptoBulkEntry x + uptoBulkEntries r
def uptoBulkEntry {H : Type} : Lit × DataW H → Nat
  | (.string bytes, d) => bytes.length + uptoBulk d + 1
  | (_, d) => uptoBulk d + 1
 end
def uptoSmall : (H : Type) → List (DataW H) → Bool := fun _ ds => decide (uptoBulkAll ds ≤ 1048576)
def OpenSpec.upto (s : _root_.Go.ChangeSpec) : _root_.Go.OpenSpec := { _root_.Go.OpenSpec.ofChange s with cond := some uptoSmall }

/-- 'scriptoriumlaw4.SharesSplitMatchesSpec', WHERE WHAT IT READS IS OF BULK AT MOST 1048576: true; the input reads as it did. -/
def sharesSplitMatchesSpecUptoRow : OpenClaim := { program := "ytidedcbaahiplaa", sum := "daae7c9a3a25115fd596500ef518bafd94a9f80809355419de2e95251d520893", func := "scriptorium/scriptoriumlaw4.SharesSplitMatchesSpec", spec := "sharesSplitMatchesSpec", unfollowed := true, recurses := true, apart := false, narrowed := true }
def SharesSplitMatchesSpecUptoSaid : Prop := sharesSplitMatchesSpecUptoRow.holds Try.pinned (OpenSpec.upto sharesSplitMatchesSpecSpec)

/-- 'scriptoriumlaw4.SharesJoinMatchesSpec', WHERE WHAT IT READS IS OF BULK AT MOST 1048576: true; the input reads as it did. -/
def sharesJoinMatchesSpecUptoRow : OpenClaim := { program := "ytidedcbaahiplaa", sum := "daae7c9a3a25115fd596500ef518bafd94a9f80809355419de2e95251d520893", func := "scriptorium/scriptoriumlaw4.SharesJoinMatchesSpec", spec := "sharesJoinMatchesSpec", unfollowed := true, recurses := true, apart := false, narrowed := true }
def SharesJoinMatchesSpecUptoSaid : Prop := sharesJoinMatchesSpecUptoRow.holds Try.pinned (OpenSpec.upto sharesJoinMatchesSpecSpec)

/-- 'scriptoriumlaw4.SharesAnyOpen', WHERE WHAT IT READS IS OF BULK AT MOST 1048576: true; the input reads as it did. -/
def sharesAnyOpenUptoRow : OpenClaim := { program := "ytidedcbaahiplaa", sum := "daae7c9a3a25115fd596500ef518bafd94a9f80809355419de2e95251d520893", func := "scriptorium/scriptoriumlaw4.SharesAnyOpen", spec := "sharesAnyOpen", unfollowed := true, recurses := true, apart := false, narrowed := true }
def SharesAnyOpenUptoSaid : Prop := sharesAnyOpenUptoRow.holds Try.pinned (OpenSpec.upto sharesAnyOpenSpec)

/-- 'scriptoriumlaw4.SharesOneForgedIsSeen', WHERE WHAT IT READS IS OF BULK AT MOST 1048576: true; the input reads as it did. -/
def sharesOneForgedIsSeenUptoRow : OpenClaim := { program := "ytidedcbaahiplaa", sum := "daae7c9a3a25115fd596500ef518bafd94a9f80809355419de2e95251d520893", func := "scriptorium/scriptoriumlaw4.SharesOneForgedIsSeen", spec := "sharesOneForgedIsSeen", unfollowed := true, recurses := true, apart := false, narrowed := true }
def SharesOneForgedIsSeenUptoSaid : Prop := sharesOneForgedIsSeenUptoRow.holds Try.pinned (OpenSpec.upto sharesOneForgedIsSeenSpec)

/-- 'scriptoriumlaw4.SharesMendNamesForgers', WHERE WHAT IT READS IS OF BULK AT MOST 1048576: true; the input reads as it did. -/
def sharesMendNamesForgersUptoRow : OpenClaim := { program := "ytidedcbaahiplaa", sum := "daae7c9a3a25115fd596500ef518bafd94a9f80809355419de2e95251d520893", func := "scriptorium/scriptoriumlaw4.SharesMendNamesForgers", spec := "sharesMendNamesForgers", unfollowed := true, recurses := true, apart := false, narrowed := true }
def SharesMendNamesForgersUptoSaid : Prop := sharesMendNamesForgersUptoRow.holds Try.pinned (OpenSpec.upto sharesMendNamesForgersSpec)

/-- 'scriptoriumlaw4.SharesMendMatchesSpec', WHERE WHAT IT READS IS OF BULK AT MOST 1048576: true; the input reads as it did. -/
def sharesMendMatchesSpecUptoRow : OpenClaim := { program := "ytidedcbaahiplaa", sum := "daae7c9a3a25115fd596500ef518bafd94a9f80809355419de2e95251d520893", func := "scriptorium/scriptoriumlaw4.SharesMendMatchesSpec", spec := "sharesMendMatchesSpec", unfollowed := true, recurses := true, apart := false, narrowed := true }
def SharesMendMatchesSpecUptoSaid : Prop := sharesMendMatchesSpecUptoRow.holds Try.pinned (OpenSpec.upto sharesMendMatchesSpecSpec)

/-- 'scriptoriumlaw4.SharesRenewMatchesSpec', WHERE WHAT IT READS IS OF BULK AT MOST 1048576: true; the input reads as it did. -/
def sharesRenewMatchesSpecUptoRow : OpenClaim := { program := "ytidedcbaahiplaa", sum := "daae7c9a3a25115fd596500ef518bafd94a9f80809355419de2e95251d520893", func := "scriptorium/scriptoriumlaw4.SharesRenewMatchesSpec", spec := "sharesRenewMatchesSpec", unfollowed := true, recurses := true, apart := false, narrowed := true }
def SharesRenewMatchesSpecUptoSaid : Prop := sharesRenewMatchesSpecUptoRow.holds Try.pinned (OpenSpec.upto sharesRenewMatchesSpecSpec)

/-- 'scriptoriumlaw4.SharesExplainMatchesSpec', WHERE WHAT IT READS IS OF BULK AT MOST 1048576: true; the input reads as it did. -/
def sharesExplainMatchesSpecUptoRow : OpenClaim := { program := "ytidedcbaahiplaa", sum := "daae7c9a3a25115fd596500ef518bafd94a9f80809355419de2e95251d520893", func := "scriptorium/scriptoriumlaw4.SharesExplainMatchesSpec", spec := "sharesExplainMatchesSpec", unfollowed := true, recurses := true, apart := false, narrowed := true }
def SharesExplainMatchesSpecUptoSaid : Prop := sharesExplainMatchesSpecUptoRow.holds Try.pinned (OpenSpec.upto sharesExplainMatchesSpecSpec)

/-- 'scriptoriumlaw4.SharesExplainIsUnique', WHERE WHAT IT READS IS OF BULK AT MOST 1048576: true; the input reads as it did. -/
def sharesExplainIsUniqueUptoRow : OpenClaim := { program := "ytidedcbaahiplaa", sum := "daae7c9a3a25115fd596500ef518bafd94a9f80809355419de2e95251d520893", func := "scriptorium/scriptoriumlaw4.SharesExplainIsUnique", spec := "sharesExplainIsUnique", unfollowed := true, recurses := true, apart := false, narrowed := true }
def SharesExplainIsUniqueUptoSaid : Prop := sharesExplainIsUniqueUptoRow.holds Try.pinned (OpenSpec.upto sharesExplainIsUniqueSpec)

end Rows
end Go.Proofs.Ytidedcbaahiplaa
