/- Closed examples: a plain function with its loops cut off after so many rounds. What it yields, the function itself yields. -/
import Derived.Test.YtdiieblgeaehpaaGreatDoorEngT
import Derived.Test.YtdiieblgeaehpaaGreatDoorKeys
namespace Go.L
/-- What m yields, m' yields. -/
def Ap {α : Type} (m m' : Option α) : Prop := ∀ r, m = some r → m' = some r
theorem apR {α : Type} (m : Option α) : Ap m m := fun _ h => h
theorem apB {α β : Type} {m m' : Option α} {f f' : α → Option β} (h : Ap m m') (k : ∀ x, Ap (f x) (f' x)) : Ap (Option.bind m f) (Option.bind m' f') := fun r e => by
  obtain ⟨x, h1, h2⟩ := bind_some e
  rw [h x h1, Option.bind_some]
  exact k x r h2
theorem apC {α : Type} {p : Prop} [Decidable p] {m m' : Option α} (h : Ap m m') : Ap (Go.L.chk p m) (Go.L.chk p m') := fun r e => by
  obtain ⟨h1, h2⟩ := chk_some e
  rw [chk_pos h1]
  exact h r h2
theorem apI {α : Type} {p : Prop} [Decidable p] {a b a' b' : Option α} (h : Ap a a') (k : Ap b b') : Ap (if p then a else b) (if p then a' else b') := fun r e => by
  by_cases hp : p
  · rw [if_pos hp] at e ⊢; exact h r e
  · rw [if_neg hp] at e ⊢; exact k r e
theorem apM {α β : Type} {f : α → β} {m m' : Option α} (h : Ap m m') : Ap (Option.map f m) (Option.map f m') := fun r e => by
  cases m with
  | none => cases e
  | some x => rw [h x rfl]; exact e
theorem apO {α β : Type} {x : Option α} {ex ex' : Option β} {k k' : α → Option β} (h : Ap ex ex') (hk : ∀ y, Ap (k y) (k' y)) : Ap (Go.L.onX x ex k) (Go.L.onX x ex' k') := by
  cases x with
  | none => exact h
  | some y => exact hk y
theorem Ap.itr {σ ρ : Type} {b b' : σ → Option (σ ⊕ ρ)} (h : ∀ s, Ap (b s) (b' s)) : ∀ (n : Nat) (s : σ), Ap (itr b n s) (itr b' n s)
  | 0, _ => fun _ e => by cases e
  | n + 1, s => fun r e => by
    obtain ⟨m, x, hm, h1, h2⟩ := itr_some e
    obtain rfl : n = m := by omega
    rw [Go.L.itr, h s x h1]
    cases x with
    | inl s' => exact Ap.itr h n s' r h2
    | inr y => exact congrArg some h2
theorem Ap.run {σ ρ : Type} {b b' : σ → Option (σ ⊕ ρ)} (h : ∀ s, Ap (b s) (b' s)) (n : Nat) (s : σ) : Ap (Go.L.itr b n s) (Go.L.run b' s) := fun r e => run_of (Ap.itr h n s r e)
/-- A computation with its loops cut off. -/
class Mi {α : Type} (m : Option α) where
  c : Option α
  h : Ap c m
instance {α : Type} (x : α) : Mi (some x) := ⟨some x, apR _⟩
instance {α : Type} : Mi (none : Option α) := ⟨none, apR _⟩
instance iB {α β : Type} (m : Option α) (f : α → Option β) [i : Mi m] [j : ∀ x, Mi (f x)] : Mi (Option.bind m f) := ⟨Option.bind i.c fun x => (j x).c, apB i.h fun x => (j x).h⟩
instance iC {α : Type} (p : Prop) [Decidable p] (m : Option α) [i : Mi m] : Mi (Go.L.chk p m) := ⟨Go.L.chk p i.c, apC i.h⟩
instance iI {α : Type} (p : Prop) [Decidable p] (a b : Option α) [i : Mi a] [j : Mi b] : Mi (if p then a else b) := ⟨if p then i.c else j.c, apI i.h j.h⟩
instance {α β : Type} (f : α → β) (m : Option α) [i : Mi m] : Mi (Option.map f m) := ⟨Option.map f i.c, apM i.h⟩
instance {α β : Type} (x : Option α) (ex : Option β) (k : α → Option β) [i : Mi ex] [j : ∀ y, Mi (k y)] : Mi (Go.L.onX x ex k) := ⟨Go.L.onX x i.c fun y => (j y).c, apO i.h fun y => (j y).h⟩
instance {σ ρ : Type} (b : σ → Option (σ ⊕ ρ)) (s : σ) [i : ∀ s, Mi (b s)] : Mi (Go.L.run b s) := ⟨Go.L.itr (fun s => (i s).c) 200 s, Ap.run (fun s => (i s).h) 200 s⟩
end Go.L
namespace Go.Proofs.YtdiieblgeaehpaaGreatDoor
open Go Go.E Go.RowKit
def sortedKeysC {β : Type} (l : List (List UInt8 × β)) : Option (List (List UInt8)) :=
  match l.map Prod.fst with
  | [] => some []
  | [a] => if a.length < 1000 then some [a] else none
  | [a, b] => if a.length < 1000 ∧ b.length < 1000 ∧ a ≠ b then some (if leB a b then [a, b] else [b, a]) else none
  | _ => none
theorem sortedKeys_ap {β : Type} (l : List (List UInt8 × β)) : Go.L.Ap (sortedKeysC l) (sortedKeys l) := by
  intro r h
  have hm : (1000 : Nat) ≤ maxLen := by decide
  have hl : (l.map Prod.fst).length = l.length := List.length_map ..
  suffices key : KeysFit l ∧ some ((l.map Prod.fst).mergeSort leB) = some r by
    unfold sortedKeys
    rw [Go.L.chk_pos key.1]
    exact key.2
  unfold KeysFit
  rw [← hl]
  unfold sortedKeysC at h
  generalize l.map Prod.fst = k at *
  match k, h with
  | [], h =>
    cases h
    exact ⟨⟨List.nodup_nil, fun x hx => (by cases hx), by decide⟩, by simp⟩
  | [a], h =>
    simp only at h
    split at h
    · rename_i ha
      cases h
      exact ⟨⟨by simp, fun x hx => (by rw [List.mem_singleton.1 hx]; omega), by simp⟩, by simp⟩
    · cases h
  | [a, b], h =>
    simp only at h
    split at h
    · rename_i ha
      obtain ⟨h1, h2, h3⟩ := ha
      cases h
      refine ⟨⟨by simp [h3], fun x hx => ?_, by simp⟩, ?_⟩
      · rcases List.mem_cons.1 hx with rfl | hx
        · omega
        · rw [List.mem_singleton.1 hx]; omega
      · simp [List.mergeSort, List.merge, List.MergeSort.Internal.splitInTwo]
    · cases h
  | _ :: _ :: _ :: _, h => cases h
instance {β : Type} (l : List (List UInt8 × β)) : Go.L.Mi (sortedKeys l) := ⟨sortedKeysC l, sortedKeys_ap l⟩
end Go.Proofs.YtdiieblgeaehpaaGreatDoor
