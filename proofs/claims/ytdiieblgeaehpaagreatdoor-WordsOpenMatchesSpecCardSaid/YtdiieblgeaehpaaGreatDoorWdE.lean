/- The map of hits that Build makes, plainly. -/
import Derived.Test.YtdiieblgeaehpaaGreatDoorWdC
import Derived.Test.YtdiieblgeaehpaaGreatDoorP6
namespace Go.L
open Go Go.Proofs.YtdiieblgeaehpaaGreatDoor
abbrev Hit := Int × Int
abbrev HM := List (List UInt8 × List Hit)
section
variable {κ β : Type} [DecidableEq κ]
theorem mget_mput (d : β) (k k' : κ) (y : β) : ∀ M : List (κ × β), mget d k' (mput k y M) = if k' = k then y else mget d k' M
  | [] => by
    unfold mput mget
    by_cases h : k' = k
    · rw [if_pos h, if_pos h]
    · rw [if_neg h, if_neg h]; rfl
  | (a, z) :: l => by
    unfold mput
    by_cases h : k = a
    · rw [if_pos h]
      subst h
      by_cases h1 : k' = k
      · simp only [mget]; rw [if_pos h1, if_pos h1]
      · simp only [mget]; rw [if_neg h1, if_neg h1, if_neg h1]
    · rw [if_neg h]
      simp only [mget]
      rw [mget_mput d k k' y l]
      by_cases h1 : k' = a
      · rw [if_pos h1, if_pos h1, if_neg (fun e => h (e.symm.trans h1))]
      · rw [if_neg h1, if_neg h1]
theorem mget_none (d : β) (k : κ) : ∀ M : List (κ × β), k ∉ M.map Prod.fst → mget d k M = d
  | [], _ => rfl
  | (a, z) :: l, h => by
    simp only [List.map_cons, List.mem_cons, not_or] at h
    unfold mget
    rw [if_neg h.1]
    exact mget_none d k l h.2
end
/-- One more hit of a word. -/
def addH (M : HM) (p : List UInt8 × Hit) : HM := mput p.1 (mget [] p.1 M ++ [p.2]) M
/-- The hits of an item's words. -/
def pairsAt (i : Int) (l : List W) : List (List UInt8 × Hit) := (l.zipIdx).map fun x => (x.1.1, (i, ((x.2 : Nat) : Int)))
/-- The hits of all items, as Build meets them. -/
def pairs : Nat → List (List UInt8) → List (List UInt8 × Hit)
  | _, [] => []
  | i, t :: r => pairsAt (i : Int) (wds t) ++ pairs (i + 1) r
end Go.L
namespace Go.L
end Go.L
namespace Go.Proofs.YtdiieblgeaehpaaGreatDoor
open Go Go.L
end Go.Proofs.YtdiieblgeaehpaaGreatDoor
