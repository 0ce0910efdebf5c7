/- The law WordsAreLowerCase, plainly. -/
import Derived.Test.YtdiieblgeaehpaaDoorWdH
import Derived.Test.YtdiieblgeaehpaaDoorMir
import Derived.Test.YtdiieblgeaehpaaDoorP9AreLowerCase
namespace Go.Proofs.YtdiieblgeaehpaaDoor
open Go Go.L
theorem are_lower (a b : List UInt8) (ha : a.length ≤ 1048576) (hb : b.length ≤ 1048576) : law4_WordsAreLowerCase a b = some true := by
  unfold law4_WordsAreLowerCase
  have e : (([] ++ a) ++ [32]) ++ b = a ++ 32 :: b := by rw [List.nil_append, List.append_assoc]; rfl
  have hl : (a ++ 32 :: b).length = a.length + 1 + b.length := by rw [List.length_append, List.length_cons]; omega
  rw [e]
  have c1 : Go.E.Cap 1 (([] : List UInt8).length + a.length) := by constructor <;> (rw [List.length_nil]; omega)
  have c2 : Go.E.Cap 1 ((([] : List UInt8) ++ a).length + ([(32 : UInt8)]).length) := by rw [List.nil_append, List.length_singleton]; constructor <;> omega
  have c3 : Go.E.Cap 1 (((([] : List UInt8) ++ a) ++ [(32 : UInt8)]).length + b.length) := by rw [List.nil_append, List.length_append, List.length_singleton]; constructor <;> omega
  have spl : ∀ x : List UInt8, words_Split x = some (if 2048 < x.length then ([], (3, -1)) else (wds x, (0, 0))) := fun x => by
    by_cases h : 2048 < x.length
    · rw [if_pos h, split_long h]
    · rw [if_neg h, split_eq (by omega)]
  rw [spl a, Option.bind_some, spl b, Option.bind_some, chk_pos c1, chk_pos c2, chk_pos c3, spl (a ++ 32 :: b), Option.bind_some, speaks_true, Option.bind_some, if_neg (by decide)]
  -- where one of them is too long
  have bad : ∀ z : List UInt8, (Option.bind (some true) fun x59 => if x59 = true then if (if 2048 < z.length then (([] : List W), ((3 : Int), (-1 : Int))) else (wds z, (0, 0))).2.1 = (0 : Int) then some true else some (decide ((((if 2048 < z.length then (([] : List W), ((3 : Int), (-1 : Int))) else (wds z, (0, 0))).1.length : Nat) : Int) = (0 : Int))) else some false) = some true := fun z => by
    by_cases h : 2048 < z.length
    · rw [if_pos h]; rfl
    · rw [if_neg h]; rfl
  by_cases h1 : 2048 < a.length
  · rw [if_pos h1, if_neg (by decide)]
    exact bad _
  rw [if_neg h1, if_pos rfl]
  by_cases h2 : 2048 < b.length
  · rw [if_pos h2, if_neg (by decide)]
    exact bad _
  rw [if_neg h2, if_pos rfl]
  by_cases h3 : 2048 < (a ++ 32 :: b).length
  · have := bad (a ++ 32 :: b)
    rw [if_pos h3] at this ⊢
    rw [if_neg (by decide)]
    exact this
  rw [if_neg h3, if_pos rfl]
  have hx := wds_len a
  have hy := wds_len b
  have hz : (wds (a ++ 32 :: b)).length = (wds a).length + (wds b).length := by rw [wds_sep, List.length_append, List.length_map]
  dsimp only
  rw [chk_pos (by constructor <;> omega), if_pos (by omega)]
  unfold law4_WordsAreLowerCase_l2
  refine run_count (b := law4_WordsAreLowerCase_bl2 a b (wds a, (0, 0)) (wds (a ++ 32 :: b), (0, 0)) (wds b, (0, 0))) (m := some true) (fun i => ((i : Nat) : Int)) (wds (a ++ 32 :: b)).length (fun i hi => ?_) ?_ 0 (by omega)
  · have hw := wds_ok (a ++ 32 :: b) ((wds (a ++ 32 :: b)).getD i default) (by rw [List.getD_eq_getElem?_getD, List.getElem?_eq_getElem hi]; exact List.getElem_mem _)
    have hg : i < (wds a).length → (wds (a ++ 32 :: b)).getD i default = (wds a).getD i default := fun h => by
      rw [wds_sep, List.getD_eq_getElem?_getD, List.getElem?_append_left h, ← List.getD_eq_getElem?_getD]
    have hg2 : (wds a).length ≤ i → (wds (a ++ 32 :: b)).getD i default = sh (a.length + 1) ((wds b).getD (i - (wds a).length) default) := fun h => by
      rw [wds_sep, List.getD_eq_getElem?_getD, List.getElem?_append_right h, List.getElem?_map, List.getD_eq_getElem?_getD, List.getElem?_eq_getElem (by omega)]
      rfl
    have hwb : (wds a).length ≤ i → Wok b.length ((wds b).getD (i - (wds a).length) default) := fun h => wds_ok b _ (by rw [List.getD_eq_getElem?_getD, List.getElem?_eq_getElem (by omega)]; exact List.getElem_mem _)
    unfold law4_WordsAreLowerCase_bl2
    simp only
    rw [if_pos (by omega), chk_pos ⟨by omega, by omega⟩, Int.toNat_natCast]
    rw [e]
    generalize (wds (a ++ 32 :: b)).getD i default = w at hw hg hg2 ⊢
    obtain ⟨w1, w2, w3, w4, w5⟩ := hw
    rw [hl] at w5
    rw [chk_pos (by constructor <;> omega), in_eq, Option.bind_some, decide_eq_true ⟨by omega, by omega⟩, if_neg (by decide), hl, if_neg (by omega), check_eq]
    -- what is compared
    have fin1 : i < (wds a).length → (w.1 = ((wds a).getD i default).1 ∧ w.2.1 = ((wds a).getD i default).2.1 ∧ w.2.2 = ((wds a).getD i default).2.2) := fun h => by rw [hg h]; exact ⟨rfl, rfl, rfl⟩
    have e1 : (((i : Nat) : Int) + 1) = ((i + 1 : Nat) : Int) := by omega
    by_cases h64 : w.1.length ≤ 64
    · rw [if_pos (by omega), Option.bind_some]
      have : wf w.1 = (0, 0) := by unfold wf; rw [if_neg (by omega), if_pos (wds_one w1 w2)]
      rw [this, if_pos rfl]
      by_cases hi1 : i < (wds a).length
      · rw [if_pos (by omega), chk_pos ⟨by omega, by omega⟩, if_pos (fin1 hi1), if_neg (by omega), chk_pos (by constructor <;> omega), e1]
      · have hk : ((i : Nat) : Int) - (((wds a).length : Nat) : Int) = ((i - (wds a).length : Nat) : Int) := by omega
        obtain ⟨_, _, u3, u4, u5⟩ := hwb (by omega)
        have hgg := hg2 (by omega)
        rw [if_neg (by omega), if_pos (by omega), hk, Int.toNat_natCast]
        generalize (wds b).getD (i - (wds a).length) default = u at u3 u4 u5 hgg ⊢
        subst hgg
        rw [chk_pos (by constructor <;> omega), chk_pos ⟨by omega, by omega⟩, chk_pos (by constructor <;> omega), chk_pos ⟨by omega, by omega⟩, chk_pos (by constructor <;> omega), chk_pos (by constructor <;> omega), chk_pos (by constructor <;> omega), chk_pos ⟨by omega, by omega⟩, chk_pos (by constructor <;> omega), chk_pos (by constructor <;> omega), if_pos ⟨rfl, by show u.2.1 + ((a.length + 1 : Nat) : Int) = _; omega, by show u.2.2 + ((a.length + 1 : Nat) : Int) = _; omega⟩, chk_pos (by constructor <;> omega), e1]
    · rw [if_neg (by omega)]
      by_cases hi1 : i < (wds a).length
      · rw [if_pos (by omega), chk_pos ⟨by omega, by omega⟩, if_pos (fin1 hi1), if_neg (by omega), chk_pos (by constructor <;> omega), e1]
      · have hk : ((i : Nat) : Int) - (((wds a).length : Nat) : Int) = ((i - (wds a).length : Nat) : Int) := by omega
        obtain ⟨_, _, u3, u4, u5⟩ := hwb (by omega)
        have hgg := hg2 (by omega)
        rw [if_neg (by omega), if_pos (by omega), hk, Int.toNat_natCast]
        generalize (wds b).getD (i - (wds a).length) default = u at u3 u4 u5 hgg ⊢
        subst hgg
        rw [chk_pos (by constructor <;> omega), chk_pos ⟨by omega, by omega⟩, chk_pos (by constructor <;> omega), chk_pos ⟨by omega, by omega⟩, chk_pos (by constructor <;> omega), chk_pos (by constructor <;> omega), chk_pos (by constructor <;> omega), chk_pos ⟨by omega, by omega⟩, chk_pos (by constructor <;> omega), chk_pos (by constructor <;> omega), if_pos ⟨rfl, by show u.2.1 + ((a.length + 1 : Nat) : Int) = _; omega, by show u.2.2 + ((a.length + 1 : Nat) : Int) = _; omega⟩, chk_pos (by constructor <;> omega), e1]
  · unfold law4_WordsAreLowerCase_bl2 law4_WordsAreLowerCase_k1
    simp only
    rw [if_neg (by omega)]
end Go.Proofs.YtdiieblgeaehpaaDoor
