/- The law WordsFindMatchesSpec, plainly. -/
import Derived.Test.YtdiieblgeaehpaaDoorWdK
import Derived.Test.YtdiieblgeaehpaaDoorMir
import Derived.Test.YtdiieblgeaehpaaDoorP9FindMatchesSpec
namespace Go.Proofs.YtdiieblgeaehpaaDoor
open Go Go.L
theorem find_eq {n : Int} {es : HM} (hn : es.length ≤ 1000000000) (hs : Inc (es.map Prod.fst)) (w : List UInt8) (hh : (mget [] w es).length ≤ 1000000000) : words_Index_Find (n, es) w = some (if wf w = (0, 0) then mget [] w es else [], wf w) := by
  unfold words_Index_Find
  rw [check_eq, Option.bind_some]
  by_cases h : wf w = (0, 0)
  · rw [if_pos h, if_pos (by rw [h]; exact ⟨rfl, rfl⟩)]
    simp only
    rw [hits_eq hn w hs, Option.bind_some]
    unfold slices_Clone_api_Hit_api_Hit
    rw [chk_pos (by rw [List.length_nil]; constructor <;> omega), Option.bind_some, List.nil_append, h]
  · rw [if_neg h, if_neg (fun x => h (Prod.ext x.1 x.2))]
theorem tooLong_some : ∀ (i : Nat) (r : List (List UInt8)) (j : Nat), tooLong i r = some j → ¬ ∀ t ∈ r, t.length ≤ 2048
  | _, [], _, h => by cases h
  | i, x :: r, j, h => by
    unfold tooLong at h
    intro hall
    split at h
    · rename_i h1
      have := hall x (List.mem_cons_self ..)
      omega
    · exact tooLong_some (i + 1) r j h (fun t ht => hall t (List.mem_cons_of_mem _ ht))
/-- The vocabulary of items is that of their index. -/
theorem voc_E {items : List (List UInt8)} (hn : items.length ≤ 64) (ht : ∀ t ∈ items, t.length ≤ 2048) : ref4_Vocabulary items = some ((E items).map Prod.fst) := by
  obtain ⟨V, h1, h2, h3, _⟩ := ref_vocabulary hn ht
  rw [h1, inc_eq h2 (E_inc items) (fun x => by rw [h3, E_mem])]
theorem find_matches (items : List (List UInt8)) (w : List UInt8) : law4_WordsFindMatchesSpec items w = some true := by
  unfold law4_WordsFindMatchesSpec
  rw [items_fault]
  by_cases hn : 64 < items.length
  · rw [build_all, if_pos hn, Option.bind_some, if_pos hn, Option.bind_some, speaks_true, Option.bind_some, if_neg (by decide), if_neg (by decide), Option.bind_some, if_pos rfl, if_pos ⟨rfl, rfl⟩]
    rfl
  cases hl : tooLong 0 items with
  | some j =>
    rw [build_all, if_neg hn, hl]
    simp only
    rw [Option.bind_some, if_neg hn, Option.bind_some, speaks_true, Option.bind_some, if_neg (by decide), if_neg (show ¬ (3 : Int) = 0 by decide), Option.bind_some, if_pos rfl, if_pos ⟨rfl, rfl⟩]
    rfl
  | none =>
    have ht := tooLong_none 0 items hl
    have hp := pairs_fit (by omega) ht
    have he := E_len items
    rw [build_ok (by omega) ht hl]
    by_cases hs : 131072 < gs (numsI ((items.length : Int), E items))
    · have htot : 1000 < total items := by
        rcases Nat.lt_or_ge 1000 (total items) with h | h
        · exact h
        · have := small_fits (items := items) (by omega) h
          omega
      rw [if_pos hs, Option.bind_some, if_neg hn, Option.bind_some, speaks_true, Option.bind_some, if_neg (by decide)]
      simp only
      rw [if_pos trivial, if_neg (by decide), at_eq, Option.bind_some, if_pos ⟨rfl, rfl⟩, total_eq items (by omega), if_pos htot]
      rfl
    · rw [if_neg hs, Option.bind_some, if_neg hn, Option.bind_some, speaks_true, Option.bind_some, if_neg (by decide)]
      simp only
      have hh : (mget [] w (E items)).length ≤ 1000000000 := by
        rw [E_get]
        have := hitsIn_len (pairs 0 items) w
        omega
      rw [if_pos trivial, if_pos trivial, find_eq (by omega) (E_inc items) w hh, Option.bind_some, wordFault_eq, Option.bind_some, if_pos ⟨rfl, rfl⟩]
      have hit : words_Index_Items ((items.length : Int), E items) = some (items.length : Int) := rfl
      rw [hit, Option.bind_some, if_pos rfl, words_eq _ (by omega), Option.bind_some, voc_E (by omega) ht, Option.bind_some, texts_self _ (by rw [List.length_map]; omega), Option.bind_some, if_neg (by decide)]
      by_cases hw : wf w = (0, 0)
      · rw [if_pos hw, if_pos (by rw [hw]), if_pos (by rw [hw]), ref_hits (by omega) (by simp) ht, Option.bind_some, hitsAll_one, E_get, hits_self _ (by rw [← E_get]; exact hh), Option.bind_some]
      · have h1 : (wf w).1 ≠ 0 := by
          unfold wf at hw ⊢
          split
          · decide
          · split
            · rename_i h1 h2
              rw [if_neg h1, if_pos h2] at hw
              exact absurd rfl hw
            · decide
        rw [if_neg hw, if_neg h1]
        rfl
end Go.Proofs.YtdiieblgeaehpaaDoor
