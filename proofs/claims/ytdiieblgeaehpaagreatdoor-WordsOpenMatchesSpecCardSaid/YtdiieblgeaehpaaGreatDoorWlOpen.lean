/- The law WordsOpenMatchesSpec, plainly. -/
import Derived.Test.YtdiieblgeaehpaaGreatDoorWeE
import Derived.Test.YtdiieblgeaehpaaGreatDoorMir
import Derived.Test.YtdiieblgeaehpaaGreatDoorP9OpenMatchesSpec
namespace Go.Proofs.YtdiieblgeaehpaaGreatDoor
open Go Go.L
theorem find_eq {n : Int} {es : HM} (hn : es.length ≤ 1000000000) (hs : Inc (es.map Prod.fst)) (w : List UInt8) (hh : (mget [] w es).length ≤ 1000000000) : words_Index_Find (n, es) w = some (if wf w = (0, 0) then mget [] w es else [], wf w) := by
  unfold words_Index_Find
  rw [check_eq, Option.bind_some]
  by_cases h : wf w = (0, 0)
  · rw [if_pos h, if_pos (by rw [h]; exact ⟨rfl, rfl⟩)]
    simp only
    rw [hits_eq hn w hs, Option.bind_some]
    unfold slices_Clone_api_Hit_api_Hit
    rw [chk_pos (by rw [List.length_nil]; constructor <;> omega), Option.bind_some, List.nil_append, h]
  · rw [if_neg h, if_neg (fun x => h (Prod.ext x.1 x.2))]
theorem open_law (b : List UInt8) : law4_WordsOpenMatchesSpec b = some true := by
  have hit : ∀ x : Int × HM, words_Index_Items x = some x.1 := fun _ => rfl
  unfold law4_WordsOpenMatchesSpec
  by_cases hb : 16384 < b.length
  · have ho : words_Open b = some ((0, []), (3, -1)) := by
      unfold words_Open
      rw [if_pos (by omega)]
      rfl
    rw [ho, Option.bind_some, speaks_true, Option.bind_some, if_neg (by decide), if_pos (by omega), at_eq, Option.bind_some, if_pos ⟨rfl, rfl⟩, hit, Option.bind_some]
    rfl
  have hF : Full b := by
    unfold Full
    omega
  rcases open_any hF with ho | ⟨x, hX, hB, ho⟩
  · rcases ref_any hF with ⟨y, r1, r2⟩ | ⟨x, hX, hP, _⟩
    · rw [ho, Option.bind_some, speaks_true, Option.bind_some, if_neg (by decide), if_neg (by omega), r1, Option.bind_some, r2, if_pos (by rfl), at_eq, Option.bind_some, if_pos ⟨rfl, rfl⟩, hit, Option.bind_some]
      rfl
    · obtain ⟨D, d1, d2, _⟩ := bytes_eq hX
      rw [packed_one d2 hP] at d1
      have := ho.symm.trans (open_form hX d1)
      exact absurd (congrArg (fun o : Option ((Int × HM) × (Int × Int)) => o.map fun p => p.2.1) this) (by simp)
  · obtain ⟨D, d1, d2, _⟩ := bytes_eq hX
    have hDb : D = b := Option.some.inj (d1.symm.trans hB)
    rw [hDb] at d2
    have hx2 := hX.len
    have same : ∀ l : List UInt8, ref3_SameBytes l l = some true := fun l => by
      unfold ref3_SameBytes
      rw [decide_eq_true rfl]
    rw [ho, Option.bind_some, speaks_true, Option.bind_some, if_neg (by decide), if_neg (by omega), ref_form hF hX d2, Option.bind_some, if_neg (show ¬ (!(x.1, x.2, true).2.2) = true from Bool.false_ne_true)]
    simp only
    rw [words_eq _ (by omega), Option.bind_some, if_pos trivial, hit, Option.bind_some, if_pos rfl, List.length_map, if_pos rfl, show (x.1, x.2) = x from rfl, hB, Option.bind_some, same, Option.bind_some, if_neg (by decide)]
    unfold law4_WordsOpenMatchesSpec_l2
    have hnd : (x.2.map Prod.fst).Nodup := hX.inc.nodup
    have key := run_count (b := law4_WordsOpenMatchesSpec_bl2 (x, (0, 0)) (x.1, x.2, true) (x.2.map Prod.fst)) (m := some true) (fun i => ((i : Nat) : Int)) x.2.length (fun i hi => by
      have hg : ∃ e, e ∈ x.2 ∧ x.2.getD i default = e ∧ (x.2.map Prod.fst).getD i default = e.1 := by
        refine ⟨x.2[i], List.getElem_mem hi, ?_, ?_⟩
        · rw [List.getD_eq_getElem?_getD, List.getElem?_eq_getElem hi]
          rfl
        · rw [List.getD_eq_getElem?_getD, List.getElem?_map, List.getElem?_eq_getElem hi]
          rfl
      obtain ⟨e, he, g1, g2⟩ := hg
      obtain ⟨e1, e2, e3, e4, e5, e6⟩ := hX.ents e he
      have hm : mget [] e.1 x.2 = e.2 := mget_of_mem x.2 hnd e he
      unfold law4_WordsOpenMatchesSpec_bl2 law4_WordsOpenMatchesSpec_k3
      simp only
      rw [if_pos (by omega), chk_pos ⟨by omega, by omega⟩, Int.toNat_natCast, g1, find_eq (by omega) hX.inc _ (by rw [hm]; omega), Option.bind_some]
      simp only
      rw [chk_pos ⟨by omega, by rw [List.length_map]; omega⟩, chk_pos ⟨by omega, by omega⟩, g2, if_pos rfl, chk_pos ⟨by omega, by omega⟩]
      by_cases h64 : (e.1.length : Int) ≤ 64
      · have hwf : wf e.1 = (0, 0) := by
          unfold wf
          rw [if_neg (by omega), if_pos (wds_one e1 e2)]
        rw [if_pos h64, hwf, if_pos rfl, if_pos rfl, chk_pos ⟨by omega, by omega⟩, hm, hits_self _ (by omega), Option.bind_some, if_neg (by decide), chk_pos (by constructor <;> omega)]
        rfl
      · rw [if_neg h64, chk_pos (by constructor <;> omega)]
        rfl) (by
      unfold law4_WordsOpenMatchesSpec_bl2 law4_WordsOpenMatchesSpec_k1
      simp only
      rw [if_neg (by omega)]) 0 (Nat.zero_le _)
    exact key
end Go.Proofs.YtdiieblgeaehpaaGreatDoor
