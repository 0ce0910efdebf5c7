/- The index that Build makes: its entries, the size of its form. -/
import Derived.Test.YtdiieblgeaehpaaGreatDoorWdN
import Derived.Test.YtdiieblgeaehpaaGreatDoorWdJ
import Derived.Test.YtdiieblgeaehpaaGreatDoorWdH
namespace Go.L
open Go Go.Proofs.YtdiieblgeaehpaaGreatDoor
/-- The entries of the index of items. -/
def E (items : List (List UInt8)) : HM := ents ((pairs 0 items).foldl addH [])
/-- The size of the codes of numbers. -/
def gs (l : List Int) : Nat := (l.map fun n => gz n.toNat).sum
theorem gs_cons (n : Int) (l : List Int) : gs (n :: l) = gz n.toNat + gs l := by simp [gs]
theorem gs_app (l r : List Int) : gs (l ++ r) = gs l + gs r := by simp [gs]
theorem hitsN_len : ∀ (p : Hit) (l : List Hit), (hitsN p l).length = 2 * l.length
  | _, [] => rfl
  | p, h :: r => by
    unfold hitsN
    rw [List.length_append, hitsN_len h r, List.length_cons]
    split <;> simp <;> omega
end Go.L
namespace Go.Proofs.YtdiieblgeaehpaaGreatDoor
open Go Go.L
theorem gz_max {n : Int} (hn : n < 16777216) : gz n.toNat ≤ 47 := gz_le (k := 24) (by omega) (by decide)
end Go.Proofs.YtdiieblgeaehpaaGreatDoor
namespace Go.L
open Go Go.Proofs.YtdiieblgeaehpaaGreatDoor
theorem mget_of_mem : ∀ (M : HM), (M.map Prod.fst).Nodup → ∀ e ∈ M, mget [] e.1 M = e.2
  | [], _, e, h => by cases h
  | (a, z) :: l, hnd, e, h => by
    rw [List.map_cons, List.nodup_cons] at hnd
    rcases List.mem_cons.1 h with rfl | h
    · show (if a = a then z else _) = z
      rw [if_pos rfl]
    · have hm : e.1 ∈ l.map Prod.fst := List.mem_map_of_mem h
      have : e.1 ≠ a := fun x => hnd.1 (by rw [x] at hm; exact hm)
      show (if e.1 = a then z else mget [] e.1 l) = e.2
      rw [if_neg this]
      exact mget_of_mem l hnd.2 e h
end Go.L
