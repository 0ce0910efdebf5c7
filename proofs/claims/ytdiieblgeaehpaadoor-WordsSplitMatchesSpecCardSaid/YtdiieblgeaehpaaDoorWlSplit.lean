/- The law WordsSplitMatchesSpec, plainly. -/
import Derived.Test.YtdiieblgeaehpaaDoorWdC
import Derived.Test.YtdiieblgeaehpaaDoorMir
import Derived.Test.YtdiieblgeaehpaaDoorP9SplitMatchesSpec
namespace Go.Proofs.YtdiieblgeaehpaaDoor
open Go Go.L
theorem split_matches (a : List UInt8) : law4_WordsSplitMatchesSpec a = some true := by
  unfold law4_WordsSplitMatchesSpec law4_textFault
  by_cases h : a.length ≤ 2048
  · rw [split_eq h, Option.bind_some, if_neg (by omega), Option.bind_some, speaks_true, Option.bind_some, if_neg (by decide), if_pos ⟨rfl, rfl⟩, check_eq, Option.bind_some, wordFault_eq, Option.bind_some, if_pos ⟨rfl, rfl⟩, if_pos rfl, ref_words (by omega), Option.bind_some, if_pos rfl]
    have hl := wds_len a
    unfold law4_WordsSplitMatchesSpec_l2
    refine run_count (b := law4_WordsSplitMatchesSpec_bl2 (wds a, (0, 0)) (wds a)) (m := some true) (fun i => ((i : Nat) : Int)) (wds a).length (fun i hi => ?_) ?_ 0 (by omega)
    · unfold law4_WordsSplitMatchesSpec_bl2
      simp only
      rw [if_pos (by omega), chk_pos ⟨by omega, by omega⟩, chk_pos ⟨by omega, by omega⟩, if_pos ⟨trivial, trivial, trivial⟩, chk_pos (by constructor <;> omega)]
      rfl
    · unfold law4_WordsSplitMatchesSpec_bl2 law4_WordsSplitMatchesSpec_k1
      simp only
      rw [if_neg (by omega)]
  · rw [split_long (by omega), Option.bind_some, if_pos (by omega), at_eq, Option.bind_some, Option.bind_some, speaks_true, Option.bind_some, if_neg (by decide), if_pos ⟨rfl, rfl⟩, check_eq, Option.bind_some, wordFault_eq, Option.bind_some, if_pos ⟨rfl, rfl⟩, if_neg (by decide)]
    rfl
end Go.Proofs.YtdiieblgeaehpaaDoor
