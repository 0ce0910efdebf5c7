/- The reference: the hits of a sequence of words; the vocabulary. -/
import Derived.Test.YtdiieblgeaehpaaGreatDoorWdI
namespace Go.L
open Go Go.Proofs.YtdiieblgeaehpaaGreatDoor
theorem getD_drop {α : Type} [Inhabited α] {l : List α} {i : Nat} {x : α} {r : List α} (h : l.drop i = x :: r) : l.getD i default = x ∧ l.drop (i + 1) = r ∧ i < l.length := by
  have hlen := congrArg List.length h
  rw [List.length_drop, List.length_cons] at hlen
  refine ⟨?_, by rw [← List.drop_drop, h]; rfl, by omega⟩
  have := congrArg (·[0]?) h
  simp only [List.getElem?_drop, List.getElem?_cons_zero, Nat.add_zero] at this
  rw [List.getD_eq_getElem?_getD, this]
  rfl
theorem len_drop {α : Type} {l : List α} {i : Nat} (h : l.drop i = []) : l.length ≤ i := by
  have hlen := congrArg List.length h
  rw [List.length_drop, List.length_nil] at hlen
  omega
theorem snoc_cases {α : Type} (l : List α) : l = [] ∨ ∃ L b, l = L ++ [b] := by
  rcases List.eq_nil_or_concat l with h | ⟨L, b, h⟩
  · exact .inl h
  · exact .inr ⟨L, b, by rw [h, List.concat_eq_append]⟩
end Go.L
namespace Go.Proofs.YtdiieblgeaehpaaGreatDoor
open Go Go.L
end Go.Proofs.YtdiieblgeaehpaaGreatDoor
namespace Go.L
open Go Go.Proofs.YtdiieblgeaehpaaGreatDoor
end Go.L
