/- Repeated, the closed examples, and the laws FindMatchesSpec, FoundAreOccurrences, plainly. -/
import Derived.Test.YtmifkdfaaaaicaaSufB
namespace Go.Proofs.Ytmifkdfaaaaicaa
open Go Go.L

/-- The greatest of the first k + 1. -/
def mxI (l : List Int) : Nat → Int
  | 0 => l.getD 0 default
  | k + 1 => max (mxI l k) (l.getD (k + 1) default)
theorem mxI_succ (l : List Int) (k : Nat) : mxI l (k + 1) = max (mxI l k) (l.getD (k + 1) default) := rfl
theorem slices_max {l : List Int} (h0 : 0 < l.length) (h : l.length ≤ 2048) : slices_Max_int_int l = some (mxI l (l.length - 1)) := by
  unfold slices_Max_int_int slices_Max_int_int_k1 slices_Max_int_int_l3
  rw [if_neg (by omega), chk_pos (by omega)]
  have hr := run_count (b := slices_Max_int_int_bl3 l) (m := some (mxI l (l.length - 1))) (fun k => (mxI l k, ((k + 1 : Nat) : Int))) (l.length - 1) (fun k hk => ?_) ?_ 0 (Nat.zero_le _)
  · exact hr
  · show slices_Max_int_int_bl3 l (_, _) = _
    unfold slices_Max_int_int_bl3
    dsimp only
    rw [if_pos (by omega), chk_pos (by omega), chk_pos (by unfold I64; omega), Int.toNat_natCast, mxI_succ]
    rfl
  · show slices_Max_int_int_bl3 l (_, _) = _
    unfold slices_Max_int_int_bl3
    dsimp only
    rw [if_neg (by omega)]
    rfl
/-- The least position among neighbours that share m bytes, among the first k. -/
def fstI (c o : List Int) (m n : Int) : Nat → Int
  | 0 => n
  | k + 1 => if c.getD k default = m then min (min (fstI c o m n k) (o.getD k default)) (o.getD (k - 1) default) else fstI c o m n k
theorem fstI_succ (c o : List Int) (m n : Int) (k : Nat) : fstI c o m n (k + 1) = if c.getD k default = m then min (min (fstI c o m n k) (o.getD k default)) (o.getD (k - 1) default) else fstI c o m n k := rfl
/-- What Repeated gives. -/
def repI (a : List UInt8) (o c : List Int) : Int × Int :=
  if a.length = 0 then (0, 0) else if mxI c (a.length - 1) = 0 then (0, 0) else (fstI c o (mxI c (a.length - 1)) a.length a.length, mxI c (a.length - 1))
theorem com_zero {a : List UInt8} {o : List Int} {k : Nat} (h : 0 < k) : (com a o k).getD 0 default = 0 := by
  rw [List.getD_eq_getElem?_getD, List.getElem?_eq_getElem (by rw [com_length]; exact h)]
  simp [com]
theorem suf_Repeated (a : List UInt8) : suffix_Repeated a = some (if a.length ≤ 2048 then ((repI a (sufArr a) (com a (sufArr a) a.length)).1, (repI a (sufArr a) (com a (sufArr a) a.length)).2, (0, 0)) else (0, 0, (3, -1))) := by
  unfold suffix_Repeated
  rw [suf_Common]
  by_cases h : a.length ≤ 2048
  · rw [if_pos h, if_pos h, Option.bind_some]
    dsimp only
    rw [if_pos ⟨rfl, rfl⟩]
    have hcl := com_length a (sufArr a) a.length
    unfold repI
    by_cases hz : a.length = 0
    · rw [if_pos (by rw [hcl]; omega), if_pos hz]
    · rw [if_neg (by rw [hcl]; omega), if_neg hz, slices_max (by rw [hcl]; omega) (by rw [hcl]; exact h), Option.bind_some, hcl]
      by_cases hm : mxI (com a (sufArr a) a.length) (a.length - 1) = 0
      · rw [if_pos hm, if_pos hm]
      · rw [if_neg hm, if_neg hm, suf_array h, Option.bind_some]
        unfold suffix_Repeated_l2
        have hr := run_count (b := suffix_Repeated_bl2 (com a (sufArr a) a.length, (0, 0)) (mxI (com a (sufArr a) a.length) (a.length - 1)) (sufArr a)) (m := some (fstI (com a (sufArr a) a.length) (sufArr a) (mxI (com a (sufArr a) a.length) (a.length - 1)) a.length a.length, mxI (com a (sufArr a) a.length) (a.length - 1), ((0 : Int), (0 : Int)))) (fun k => (fstI (com a (sufArr a) a.length) (sufArr a) (mxI (com a (sufArr a) a.length) (a.length - 1)) a.length k, ((k : Nat) : Int))) a.length (fun k hk => ?_) ?_ 0 (Nat.zero_le _)
        · exact hr
        · show suffix_Repeated_bl2 _ _ _ (_, _) = _
          unfold suffix_Repeated_bl2
          dsimp only
          have hsl := sufArr_length a
          rw [if_pos (by rw [hcl]; omega), chk_pos (by rw [hcl]; omega), Int.toNat_natCast, fstI_succ]
          by_cases hk0 : (com a (sufArr a) a.length).getD k default = mxI (com a (sufArr a) a.length) (a.length - 1)
          · have hkp : 0 < k := by
              rcases Nat.eq_zero_or_pos k with e | e
              · subst e; rw [com_zero (by omega)] at hk0; exact absurd hk0.symm hm
              · exact e
            rw [if_pos hk0, if_pos hk0, chk_pos (by rw [hsl]; omega), chk_pos (by unfold I64; omega), chk_pos (by rw [hsl]; omega), chk_pos (by unfold I64; omega), show ((k : Int) - 1).toNat = k - 1 by omega]
            rfl
          · rw [if_neg hk0, if_neg hk0, chk_pos (by unfold I64; omega)]
            rfl
        · show suffix_Repeated_bl2 _ _ _ (_, _) = _
          unfold suffix_Repeated_bl2
          dsimp only
          rw [if_neg (by rw [hcl]; omega)]
          rfl
  · rw [if_neg h, if_neg h, Option.bind_some]
    dsimp only
    rw [if_neg (by decide)]
theorem getD_ne {a b : List Int} (hl : a.length = b.length) (h : a ≠ b) : ∃ k, k < a.length ∧ a.getD k default ≠ b.getD k default := by
  refine Classical.byContradiction fun hn => h ?_
  apply List.ext_getElem hl
  intro i h1 h2
  refine Classical.byContradiction fun hne => hn ⟨i, h1, ?_⟩
  rw [List.getD_eq_getElem?_getD, List.getD_eq_getElem?_getD, List.getElem?_eq_getElem h1, List.getElem?_eq_getElem h2]
  exact hne
theorem ref_ints {a b : List Int} (h : a.length ≤ 9223372036854775807) : ref3_Ints a b = some (decide (a = b)) := by
  unfold ref3_Ints
  by_cases hl : a.length = b.length
  · rw [if_pos (by omega)]
    have key : ∀ d k, k + d = a.length → (∀ j, j < k → a.getD j default = b.getD j default) → ref3_Ints_l2 a b (k : Int) = some (decide (a = b)) := by
      intro d
      induction d with
      | zero =>
        intro k hk hj
        have e : a = b := Classical.byContradiction fun hne => by
          obtain ⟨i, h1, h2⟩ := getD_ne hl hne
          exact h2 (hj i (by omega))
        refine run_inr ?_
        unfold ref3_Ints_bl2
        rw [if_neg (by omega)]
        simp [ref3_Ints_k1, e]
      | succ d ih =>
        intro k hk hj
        by_cases e : a.getD k default = b.getD k default
        · unfold ref3_Ints_l2 at ih ⊢
          rw [← ih (k + 1) (by omega) (fun j hjk => by
            rcases Nat.lt_succ_iff_lt_or_eq.1 hjk with h | h
            · exact hj j h
            · rw [h]; exact e)]
          refine run_inl ?_
          unfold ref3_Ints_bl2
          rw [if_pos (by omega), chk_pos (by omega), chk_pos (by omega), Int.toNat_natCast, if_pos e, chk_pos (by unfold I64; omega)]
          simp
        · have hne : a ≠ b := fun h => e (by rw [h])
          refine run_inr ?_
          unfold ref3_Ints_bl2
          rw [if_pos (by omega), chk_pos (by omega), chk_pos (by omega), Int.toNat_natCast, if_neg e]
          simp [hne]
    exact key a.length 0 (by omega) (fun j hj => by omega)
  · rw [if_neg (by omega)]
    have hne : a ≠ b := fun h => hl (by rw [h])
    simp [hne]
theorem suf_abab : sufArr [97, 98, 97, 98] = [2, 0, 3, 1] := sufArr_eq (by decide) (by decide)
theorem suf_abc : sufArr [120, 97, 98, 99, 121, 97, 98, 99] = [5, 1, 6, 2, 7, 3, 0, 4] := sufArr_eq (by decide) (by decide)
theorem sorts_true : law4_sorts = some true := by
  have hab : law4_abab = some [97, 98, 97, 98] := by unfold law4_abab; rw [chk_pos (by decide)]
  have h1 : suffix_Array [97, 98, 97, 98] = some ([2, 0, 3, 1], (0, 0)) := by rw [suf_Array, if_pos (by decide), suf_abab]
  have h2 : suffix_Common [97, 98, 97, 98] = some ([0, 2, 0, 1], (0, 0)) := by rw [suf_Common, if_pos (by decide), suf_abab]; rfl
  have h3 : suffix_Find [97, 98, 97, 98] [98] = some (2, 4, (0, 0)) := by rw [suf_Find, if_pos (by decide), if_pos (by decide)]; rfl
  have h4 : suffix_Repeated [120, 97, 98, 99, 121, 97, 98, 99] = some (1, 3, (0, 0)) := by rw [suf_Repeated, if_pos (by decide), suf_abc]; rfl
  unfold law4_sorts
  rw [hab, Option.bind_some, h1, Option.bind_some, Option.bind_some, h2, Option.bind_some, Option.bind_some, chk_pos (by decide), h3, Option.bind_some, chk_pos (by decide), h4, Option.bind_some]
  dsimp only
  rw [if_pos rfl, if_pos rfl, if_pos rfl, if_pos rfl, ref_ints (by decide), Option.bind_some, if_pos (by decide), ref_ints (by decide), Option.bind_some]
  rfl
theorem find_matches {a p : List UInt8} : law4_SuffixFindMatchesSpec a p = some true := by
  unfold law4_SuffixFindMatchesSpec law4_SuffixFindMatchesSpec_k1
  rw [suf_Find, Option.bind_some, text_fault, Option.bind_some, sorts_true]
  by_cases ha : a.length ≤ 2048
  · rw [if_pos ha, if_pos ha, if_pos rfl]
    by_cases hp : p.length ≤ 2048
    · rw [if_pos hp, if_neg (by omega), Option.bind_some, if_neg (by decide), if_pos ⟨rfl, rfl⟩, if_pos rfl, ref_range ha hp, Option.bind_some]
      simp
    · rw [if_neg hp, if_pos (by omega), ref_at, Option.bind_some, Option.bind_some, if_neg (by decide), if_pos ⟨rfl, rfl⟩, if_neg (by decide), Option.bind_some, if_pos rfl]
      simp
  · rw [if_neg ha, if_neg ha, if_neg (by decide), Option.bind_some, if_neg (by decide), if_pos ⟨rfl, rfl⟩, if_neg (by decide), Option.bind_some, if_pos rfl]
    simp
end Go.Proofs.Ytmifkdfaaaaicaa
