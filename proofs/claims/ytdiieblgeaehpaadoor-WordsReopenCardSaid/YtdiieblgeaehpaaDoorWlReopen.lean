/- The law WordsReopen, plainly. -/
import Derived.Test.YtdiieblgeaehpaaDoorWdT
import Derived.Test.YtdiieblgeaehpaaDoorWdQ
import Derived.Test.YtdiieblgeaehpaaDoorMir
import Derived.Test.YtdiieblgeaehpaaDoorP9Reopen
namespace Go.Proofs.YtdiieblgeaehpaaDoor
open Go Go.L
theorem reopen (items l : List (List UInt8)) : law4_WordsReopen items l = some true := by
  unfold law4_WordsReopen
  rcases build_cases items with ⟨f, hb, hf⟩ | ⟨hb, hn, ht, hs⟩
  · rw [hb, Option.bind_some, speaks_true, Option.bind_some, if_neg (by decide), if_neg hf, Option.bind_some, if_pos rfl]
    rfl
  have hx := XW_E hn ht hs
  obtain ⟨D, d1, _, _⟩ := bytes_eq hx
  have ho := open_form hx d1
  have hp := phrase_eq (n := (items.length : Int)) (XOk.of_E hn ht) l
  have hpf := pairs_fit hn ht
  have he := E_len items
  rw [hb, Option.bind_some, speaks_true, Option.bind_some, if_neg (by decide), if_pos rfl]
  simp only
  rw [d1, Option.bind_some, ho, Option.bind_some]
  simp only
  rw [hp, Option.bind_some, Option.bind_some, if_pos trivial]
  have hit : words_Index_Items ((items.length : Int), E items) = some (items.length : Int) := rfl
  rw [hit, Option.bind_some, if_pos rfl, words_eq _ (by omega), Option.bind_some, Option.bind_some, texts_self _ (by rw [List.length_map]; omega), Option.bind_some, if_pos rfl, if_pos ⟨rfl, rfl⟩, hits_self, Option.bind_some]
  · rfl
  · split
    · simp
    · split
      · simp
      · split
        · simp
        · have h1 := List.length_filter_le (fun h => decide (FollowsX (E items) l h)) (mget [] (l.getD 0 default) (E items))
          have h2 := hitsIn_len (pairs 0 items) (l.getD 0 default)
          rw [E_get] at h1
          simp only
          rw [E_get]
          omega
end Go.Proofs.YtdiieblgeaehpaaDoor
