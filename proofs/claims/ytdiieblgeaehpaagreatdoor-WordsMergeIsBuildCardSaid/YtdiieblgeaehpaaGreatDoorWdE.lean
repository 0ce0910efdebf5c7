/- The map of hits that Build makes, plainly. -/
import Derived.Test.YtdiieblgeaehpaaGreatDoorWdC
import Derived.Test.YtdiieblgeaehpaaGreatDoorP6
namespace Go.L
open Go Go.Proofs.YtdiieblgeaehpaaGreatDoor
abbrev Hit := Int × Int
abbrev HM := List (List UInt8 × List Hit)
section
variable {κ β : Type} [DecidableEq κ]
theorem mget_mput (d : β) (k k' : κ) (y : β) : ∀ M : List (κ × β), mget d k' (mput k y M) = if k' = k then y else mget d k' M
  | [] => by
    unfold mput mget
    by_cases h : k' = k
    · rw [if_pos h, if_pos h]
    · rw [if_neg h, if_neg h]; rfl
  | (a, z) :: l => by
    unfold mput
    by_cases h : k = a
    · rw [if_pos h]
      subst h
      by_cases h1 : k' = k
      · simp only [mget]; rw [if_pos h1, if_pos h1]
      · simp only [mget]; rw [if_neg h1, if_neg h1, if_neg h1]
    · rw [if_neg h]
      simp only [mget]
      rw [mget_mput d k k' y l]
      by_cases h1 : k' = a
      · rw [if_pos h1, if_pos h1, if_neg (fun e => h (e.symm.trans h1))]
      · rw [if_neg h1, if_neg h1]
theorem mput_keys (k : κ) (y : β) : ∀ M : List (κ × β), (mput k y M).map Prod.fst = if k ∈ M.map Prod.fst then M.map Prod.fst else M.map Prod.fst ++ [k]
  | [] => by simp [mput]
  | (a, z) :: l => by
    unfold mput
    by_cases h : k = a
    · rw [if_pos h]; simp [h]
    · rw [if_neg h, List.map_cons, mput_keys k y l, List.map_cons]
      by_cases h1 : k ∈ l.map Prod.fst
      · rw [if_pos h1, if_pos (List.mem_cons_of_mem _ h1)]
      · rw [if_neg h1, if_neg (by simp only [List.mem_cons, not_or]; exact ⟨h, h1⟩)]
        rfl
theorem mget_none (d : β) (k : κ) : ∀ M : List (κ × β), k ∉ M.map Prod.fst → mget d k M = d
  | [], _ => rfl
  | (a, z) :: l, h => by
    simp only [List.map_cons, List.mem_cons, not_or] at h
    unfold mget
    rw [if_neg h.1]
    exact mget_none d k l h.2
end
/-- One more hit of a word. -/
def addH (M : HM) (p : List UInt8 × Hit) : HM := mput p.1 (mget [] p.1 M ++ [p.2]) M
def hitsIn (P : List (List UInt8 × Hit)) (w : List UInt8) : List Hit := (P.filter fun p => p.1 = w).map Prod.snd
theorem add_get (w : List UInt8) : ∀ (P : List (List UInt8 × Hit)) (M : HM), mget [] w (P.foldl addH M) = mget [] w M ++ hitsIn P w
  | [], M => by simp [hitsIn]
  | p :: P, M => by
    rw [List.foldl_cons, add_get w P]
    unfold addH
    rw [mget_mput]
    unfold hitsIn
    by_cases h : w = p.1
    · subst h; simp
    · rw [if_neg h]
      rw [List.filter_cons_of_neg (by simpa using fun e => h e.symm)]
theorem add_keys : ∀ (P : List (List UInt8 × Hit)) (M : HM) (k : List UInt8), k ∈ (P.foldl addH M).map Prod.fst ↔ k ∈ M.map Prod.fst ∨ k ∈ P.map Prod.fst
  | [], M, k => by simp
  | p :: P, M, k => by
    rw [List.foldl_cons, add_keys P]
    unfold addH
    rw [mput_keys]
    by_cases h : p.1 ∈ M.map Prod.fst
    · rw [if_pos h, List.map_cons, List.mem_cons]
      constructor
      · rintro (h1 | h1)
        · exact .inl h1
        · exact .inr (.inr h1)
      · rintro (h1 | h1 | h1)
        · exact .inl h1
        · exact .inl (h1 ▸ h)
        · exact .inr h1
    · rw [if_neg h, List.map_cons, List.mem_cons, List.mem_append, List.mem_singleton]
      constructor
      · rintro ((h1 | h1) | h1)
        · exact .inl h1
        · exact .inr (.inl h1)
        · exact .inr (.inr h1)
      · rintro (h1 | h1 | h1)
        · exact .inl (.inl h1)
        · exact .inl (.inr h1)
        · exact .inr h1
theorem add_nodup : ∀ (P : List (List UInt8 × Hit)) (M : HM), (M.map Prod.fst).Nodup → ((P.foldl addH M).map Prod.fst).Nodup
  | [], _, h => h
  | p :: P, M, h => by
    rw [List.foldl_cons]
    refine add_nodup P _ ?_
    unfold addH
    rw [mput_keys]
    by_cases h1 : p.1 ∈ M.map Prod.fst
    · rw [if_pos h1]; exact h
    · rw [if_neg h1]
      refine List.nodup_append.2 ⟨h, by simp, fun a ha b hb e => ?_⟩
      rw [List.mem_singleton] at hb
      exact h1 (hb ▸ e ▸ ha)
theorem hitsIn_len (P : List (List UInt8 × Hit)) (w : List UInt8) : (hitsIn P w).length ≤ P.length := by
  unfold hitsIn
  rw [List.length_map]
  exact List.length_filter_le _ _
/-- The hits of an item's words. -/
def pairsAt (i : Int) (l : List W) : List (List UInt8 × Hit) := (l.zipIdx).map fun x => (x.1.1, (i, ((x.2 : Nat) : Int)))
theorem pairsAt_len (i : Int) (l : List W) : (pairsAt i l).length = l.length := by unfold pairsAt; rw [List.length_map, List.length_zipIdx]
theorem pairsAt_get (i : Int) (l : List W) (k : Nat) (hk : k < l.length) : (pairsAt i l)[k]? = some ((l.getD k default).1, (i, (k : Int))) := by
  unfold pairsAt
  rw [List.getElem?_map, List.getElem?_zipIdx, List.getElem?_eq_getElem hk, List.getD_eq_getElem?_getD, List.getElem?_eq_getElem hk]
  simp
theorem pairsAt_step (i : Int) (l : List W) (k : Nat) (hk : k < l.length) (M : HM) : ((pairsAt i l).take (k + 1)).foldl addH M = addH (((pairsAt i l).take k).foldl addH M) ((l.getD k default).1, (i, (k : Int))) := by
  rw [List.take_add_one, pairsAt_get i l k hk, List.foldl_append]
  rfl
/-- The hits of all items, as Build meets them. -/
def pairs : Nat → List (List UInt8) → List (List UInt8 × Hit)
  | _, [] => []
  | i, t :: r => pairsAt (i : Int) (wds t) ++ pairs (i + 1) r
theorem pairs_len : ∀ (i : Nat) (r : List (List UInt8)), (∀ t ∈ r, t.length ≤ 2048) → (pairs i r).length ≤ r.length * 2049
  | _, [], _ => by simp [pairs]
  | i, t :: r, h => by
    unfold pairs
    rw [List.length_append, pairsAt_len, List.length_cons]
    have h1 := wds_len t
    have h2 := pairs_len (i + 1) r (fun x hx => h x (List.mem_cons_of_mem _ hx))
    have h3 := h t (List.mem_cons_self ..)
    omega
end Go.L
namespace Go.L
def tooLong : Nat → List (List UInt8) → Option Nat
  | _, [] => none
  | i, t :: r => if 2048 < t.length then some i else tooLong (i + 1) r
end Go.L
namespace Go.Proofs.YtdiieblgeaehpaaGreatDoor
open Go Go.L
theorem build_in (i : Nat) (l : List W) (M : HM) (hl : l.length ≤ 3000) (hi : i ≤ 100) (hM : ∀ w, (mget [] w M).length ≤ 1000000) :
    words_Build_l4 (i : Int) (l, (0, 0)) (M, 0) = some (.inl ((pairsAt (i : Int) l).foldl addH M, ((i + 1 : Nat) : Int))) := by
  unfold words_Build_l4
  have key := run_count (b := words_Build_bl4 (i : Int) (l, (0, 0))) (m := some (.inl ((pairsAt (i : Int) l).foldl addH M, ((i + 1 : Nat) : Int)))) (fun k => (((pairsAt (i : Int) l).take k).foldl addH M, ((k : Nat) : Int))) l.length (fun k hk => by
    unfold words_Build_bl4
    simp only
    have h1 : (mget [] (l.getD k default).1 (((pairsAt (i : Int) l).take k).foldl addH M)).length ≤ 1003000 := by
      rw [add_get, List.length_append]
      have h2 := hitsIn_len ((pairsAt (i : Int) l).take k) (l.getD k default).1
      rw [List.length_take, pairsAt_len] at h2
      have h3 := hM (l.getD k default).1
      omega
    rw [if_pos (by omega), chk_pos ⟨by omega, by omega⟩, Int.toNat_natCast, chk_pos (by constructor <;> omega), chk_pos (by constructor <;> omega), pairsAt_step (i : Int) l k hk M]
    rfl) (by
    unfold words_Build_bl4 words_Build_k3
    simp only
    rw [if_neg (by omega), chk_pos (by constructor <;> omega), List.take_of_length_le (by rw [pairsAt_len]; exact Nat.le_refl _)]
    congr 3) 0 (by omega)
  exact key
theorem build_out (items : List (List UInt8)) (hn : items.length ≤ 64) : ∀ (r : List (List UInt8)) (i : Nat) (M : HM), items.drop i = r → i ≤ items.length → (∀ w, (mget [] w M).length ≤ i * 3000) →
    run (words_Build_bl2 items) (M, (i : Int)) = match tooLong i r with | some j => some ((0, []), (3, (j : Int))) | none => words_Build_k1 items ((pairs i r).foldl addH M)
  | [], i, M, hd, hi, hM => by
    have hlen := congrArg List.length hd
    rw [List.length_drop, List.length_nil] at hlen
    unfold tooLong pairs
    refine run_inr ?_
    unfold words_Build_bl2
    simp only
    rw [if_neg (by omega)]
    rfl
  | t :: r, i, M, hd, hi, hM => by
    have hlen := congrArg List.length hd
    rw [List.length_drop, List.length_cons] at hlen
    have hg : items.getD i default = t := by
      have := congrArg (·[0]?) hd
      simp only [List.getElem?_drop, List.getElem?_cons_zero, Nat.add_zero] at this
      rw [List.getD_eq_getElem?_getD, this]
      rfl
    have hd' : items.drop (i + 1) = r := by rw [← List.drop_drop, hd]; rfl
    unfold tooLong
    by_cases h : 2048 < t.length
    · rw [if_pos h]
      refine run_inr ?_
      unfold words_Build_bl2
      simp only
      rw [if_pos (by omega), chk_pos ⟨by omega, by omega⟩, Int.toNat_natCast, hg, split_long h, Option.bind_some, if_neg (by simp)]
      rfl
    · rw [if_neg h]
      have hw := wds_len t
      have hb : words_Build_bl2 items (M, (i : Int)) = some (.inl ((pairsAt (i : Int) (wds t)).foldl addH M, ((i + 1 : Nat) : Int))) := by
        unfold words_Build_bl2
        simp only
        rw [if_pos (by omega), chk_pos ⟨by omega, by omega⟩, Int.toNat_natCast, hg, split_eq (by omega), Option.bind_some, if_pos ⟨rfl, rfl⟩]
        exact build_in i (wds t) M (by omega) (by omega) (fun w => by have := hM w; omega)
      rw [run_inl hb, build_out items hn r (i + 1) _ hd' (by omega) (fun w => by
        rw [add_get, List.length_append]
        have h1 := hitsIn_len (pairsAt (i : Int) (wds t)) w
        rw [pairsAt_len] at h1
        have h2 := hM w
        omega)]
      have e : (pairs i (t :: r)).foldl addH M = (pairs (i + 1) r).foldl addH ((pairsAt (i : Int) (wds t)).foldl addH M) := by
        rw [pairs, List.foldl_append]
      rw [e]
theorem build_all (items : List (List UInt8)) : words_Build items = if 64 < items.length then some ((0, []), (2, -1)) else match tooLong 0 items with | some j => some ((0, []), (3, (j : Int))) | none => words_Build_k1 items ((pairs 0 items).foldl addH []) := by
  unfold words_Build
  by_cases h : 64 < items.length
  · rw [if_pos (by omega), if_pos h]
    rfl
  · rw [if_neg (by omega), if_neg h]
    exact build_out items (by omega) items 0 [] rfl (by omega) (fun w => by simp [mget])
end Go.Proofs.YtdiieblgeaehpaaGreatDoor
