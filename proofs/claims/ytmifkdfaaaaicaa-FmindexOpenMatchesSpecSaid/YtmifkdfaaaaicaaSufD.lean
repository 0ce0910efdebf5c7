/- The laws FoundAreOccurrences and ArrayIsSorted, plainly. -/
import Derived.Test.YtmifkdfaaaaicaaSufC
namespace Go.L
open Go
theorem pre_cons (c d : UInt8) (p l : List UInt8) : pre (d :: l) (c :: p) = (decide (d = c) && pre l p) := by
  unfold pre
  simp only [List.length_cons, List.take_succ_cons, List.cons.injEq]
  rw [Bool.eq_iff_iff]; simp
theorem pre_nil (l : List UInt8) : pre l [] = true := by simp [pre]
theorem pre_none (c : UInt8) (p : List UInt8) : pre [] (c :: p) = false := by simp [pre]
/-- What begins with p is not less than p. -/
theorem pre_not_less : ∀ (p x : List UInt8), pre x p = true → Op.bytesLess x p = false
  | [], x, _ => by cases x <;> rfl
  | c :: p, [], h => by rw [pre_none] at h; cases h
  | c :: p, d :: x, h => by
    rw [pre_cons] at h
    simp only [Bool.and_eq_true, decide_eq_true_eq] at h
    obtain ⟨rfl, h⟩ := h
    have := pre_not_less p x h
    have hd : ¬ d < d := fun h => by have := UInt8.lt_iff_toNat_lt.1 h; omega
    simp [Op.bytesLess, this, hd]
/-- What lies between p and what begins with p begins with p. -/
theorem pre_between : ∀ (p x y : List UInt8), Op.bytesLess x p = false → Op.bytesLess x y = true → pre y p = true → pre x p = true
  | [], x, _, _, _, _ => pre_nil x
  | c :: p, [], _, h, _, _ => by simp [Op.bytesLess] at h
  | c :: p, _ :: _, [], _, _, h => by rw [pre_none] at h; cases h
  | c :: p, d :: x, e :: y, h1, h2, h3 => by
    rw [pre_cons] at h3 ⊢
    simp only [Bool.and_eq_true, decide_eq_true_eq] at h3
    obtain ⟨rfl, h3⟩ := h3
    simp only [Op.bytesLess, Bool.or_eq_false_iff, Bool.and_eq_false_iff, Bool.or_eq_true, Bool.and_eq_true, decide_eq_true_eq, decide_eq_false_iff_not, beq_iff_eq] at h1 h2
    rcases h2 with h2 | ⟨rfl, h2⟩
    · exact absurd h2 h1.1
    · have h4 : Op.bytesLess x p = false := by
        rcases h1.2 with h | h
        · simp at h
        · exact h
      simp [pre_between p x y h4 h2 h3]
/-- 0: less than the pattern; 1: begins with it; 2: greater. -/
def cls (p l : List UInt8) : Nat := if pre l p then 1 else if Op.bytesLess l p then 0 else 2
theorem cls_mono {p x y : List UInt8} (h : Lib.compareBytes x y < 0) : cls p x ≤ cls p y := by
  have hxy := (cmp_less x y).1 h
  unfold cls
  by_cases hy : pre y p = true
  · rw [if_pos hy]
    by_cases hx : pre x p = true
    · rw [if_pos hx]; exact Nat.le_refl _
    · rw [if_neg hx]
      by_cases hl : Op.bytesLess x p = true
      · rw [if_pos hl]; omega
      · exact absurd (pre_between p x y (by simpa using hl) hxy hy) hx
  · rw [if_neg hy]
    by_cases hl : Op.bytesLess y p = true
    · have hxp : Op.bytesLess x p = true := (cmp_less _ _).1 (cmp_trans _ _ _ h ((cmp_less _ _).2 hl))
      have hx : ¬ pre x p = true := fun hx => by rw [pre_not_less p x hx] at hxp; cases hxp
      rw [if_neg hx, if_pos hxp]; omega
    · rw [if_neg hl]
      split
      · omega
      · split <;> omega
/-- In a list that ascends, those below c stand first. -/
theorem asc_count : ∀ (l : List Nat) (c i : Nat), l.Pairwise (· ≤ ·) → i < l.length → (l.getD i 0 < c ↔ i < l.countP (· < c))
  | [], _, _, _, h => by cases h
  | x :: l, c, i, hp, hi => by
    have hq := List.pairwise_cons.1 hp
    by_cases hx : x < c
    · rw [List.countP_cons_of_pos (by simpa using hx)]
      cases i with
      | zero => simp [hx]
      | succ i =>
        have := asc_count l c i hq.2 (by simpa using hi)
        simp only [List.getD_cons_succ]
        omega
    · rw [List.countP_cons_of_neg (by simpa using hx)]
      have h0 : l.countP (· < c) = 0 := by
        rw [List.countP_eq_zero]
        intro y hy
        have := hq.1 y hy
        simp; omega
      rw [h0]
      cases i with
      | zero => simp [hx]
      | succ i =>
        simp only [List.length_cons] at hi
        have hm : l.getD i 0 ∈ l := by
          rw [List.getD_eq_getElem?_getD, List.getElem?_eq_getElem (by omega)]
          exact List.getElem_mem _
        have := hq.1 _ hm
        simp only [List.getD_cons_succ]
        omega
theorem iota_succ (n : Nat) : iota (n + 1) = iota n ++ [(n : Int)] := by simp [iota, List.range_succ]
theorem fs_count (a p : List UInt8) : ∀ k, ((iota k).map fun x => cls p (a.drop x.toNat)).countP (· < 1) = (fs a p k).1 ∧ ((iota k).map fun x => cls p (a.drop x.toNat)).countP (· < 2) = (fs a p k).1 + (fs a p k).2
  | 0 => by simp [iota, fs]
  | k + 1 => by
    obtain ⟨h1, h2⟩ := fs_count a p k
    rw [iota_succ, List.map_append, List.countP_append, List.countP_append, h1, h2, fs_succ]
    simp only [List.map_cons, List.map_nil, List.countP_singleton, Int.toNat_natCast]
    unfold cls
    by_cases hp : pre (a.drop k) p = true
    · rw [if_pos hp, if_pos hp]; simp; omega
    · rw [if_neg hp, if_neg hp]
      by_cases hl : Op.bytesLess (a.drop k) p = true
      · rw [if_pos hl, if_pos hl]; simp; omega
      · rw [if_neg hl, if_neg hl]; simp
/-- In the order, the suffixes that begin with a pattern are those of its range. -/
theorem found (a p : List UInt8) {i : Nat} (hi : i < a.length) : pre (a.drop ((sufArr a).getD i default).toNat) p = decide ((fs a p a.length).1 ≤ i ∧ i < (fs a p a.length).1 + (fs a p a.length).2) := by
  have hlen : i < ((sufArr a).map fun x => cls p (a.drop x.toNat)).length := by rw [List.length_map, sufArr_length]; exact hi
  have hasc : ((sufArr a).map fun x => cls p (a.drop x.toNat)).Pairwise (· ≤ ·) := by
    rw [List.pairwise_map]
    exact (sufArr_sorted a).imp fun h => cls_mono h
  have hperm := (sufArr_perm a).map fun x => cls p (a.drop x.toNat)
  obtain ⟨c1, c2⟩ := fs_count a p a.length
  have a1 := asc_count _ 1 i hasc hlen
  have a2 := asc_count _ 2 i hasc hlen
  rw [hperm.countP_eq, c1] at a1
  rw [hperm.countP_eq, c2] at a2
  have hg : ((sufArr a).map fun x => cls p (a.drop x.toNat)).getD i 0 = cls p (a.drop ((sufArr a).getD i default).toNat) := by
    rw [List.getD_eq_getElem?_getD, List.getElem?_eq_getElem hlen, List.getD_eq_getElem?_getD, List.getElem?_eq_getElem (by rw [sufArr_length]; exact hi)]
    simp
  rw [hg] at a1 a2
  rw [Bool.eq_iff_iff, decide_eq_true_eq]
  have hc : pre (a.drop ((sufArr a).getD i default).toNat) p = true ↔ ¬ cls p (a.drop ((sufArr a).getD i default).toNat) < 1 ∧ cls p (a.drop ((sufArr a).getD i default).toNat) < 2 := by
    generalize a.drop ((sufArr a).getD i default).toNat = l
    unfold cls
    by_cases hp : pre l p = true
    · rw [if_pos hp]; simp [hp]
    · rw [if_neg hp]
      split <;> simp [hp]
  rw [hc, a1, a2]
  omega
end Go.L
namespace Go.Proofs.Ytmifkdfaaaaicaa
open Go Go.L
theorem ref_in (a b c : Int) : ref3_In a b c = some (decide (b ≤ a ∧ a ≤ c)) := rfl
theorem found_occ {a p : List UInt8} {at_ : Int} : law4_SuffixFoundAreOccurrences a p at_ = some true := by
  unfold law4_SuffixFoundAreOccurrences
  rw [suf_Array, Option.bind_some, suf_Find, Option.bind_some, sorts_true, Option.bind_some, if_neg (by decide)]
  by_cases ha : a.length ≤ 2048
  · rw [if_pos ha, if_pos ha, if_pos rfl]
    by_cases hp : p.length ≤ 2048
    · have hle := fs_le a p a.length
      have hl := sufArr_length a
      rw [if_pos hp, if_pos rfl, ref_in, Option.bind_some]
      dsimp only
      have d1 : decide ((0 : Int) ≤ ((fs a p a.length).1 : Int) ∧ ((fs a p a.length).1 : Int) ≤ ((fs a p a.length).1 : Int) + ((fs a p a.length).2 : Int)) = true := decide_eq_true (by omega)
      have d2 : decide (((fs a p a.length).1 : Int) ≤ ((fs a p a.length).1 : Int) + ((fs a p a.length).2 : Int) ∧ ((fs a p a.length).1 : Int) + ((fs a p a.length).2 : Int) ≤ ((sufArr a).length : Int)) = true := decide_eq_true (by rw [hl]; omega)
      rw [d1, if_neg (by decide), ref_in, Option.bind_some, d2, if_neg (by decide), hl, chk_pos (by unfold I64; omega), ref_in, Option.bind_some]
      by_cases hr : 0 ≤ at_ ∧ at_ ≤ (a.length : Int) - 1
      · rw [decide_eq_true hr, if_neg (by decide), chk_pos (by unfold I64; omega), ref_in, Option.bind_some, chk_pos (by omega)]
        have hg := suf_get (a := a) (i := at_.toNat) (by omega)
        have hb := ref_begins (a := a) (p := p) (i := ((sufArr a).getD at_.toNat default).toNat) ha hp (by omega)
        rw [Int.toNat_of_nonneg hg.1] at hb
        rw [hb, Option.bind_some, found a p (by omega)]
        have : decide (((fs a p a.length).1 : Int) ≤ at_ ∧ at_ ≤ ((fs a p a.length).1 : Int) + ((fs a p a.length).2 : Int) - 1) = decide ((fs a p a.length).1 ≤ at_.toNat ∧ at_.toNat < (fs a p a.length).1 + (fs a p a.length).2) := by
          rw [Bool.eq_iff_iff, decide_eq_true_eq, decide_eq_true_eq]; omega
        rw [this]
        simp
      · rw [decide_eq_false hr, if_pos (by decide)]
    · rw [if_neg hp, if_neg (by decide), Option.bind_some, if_pos rfl, if_pos rfl]
  · rw [if_neg ha, if_neg ha, if_neg (by decide), Option.bind_some, if_pos rfl, if_neg (by decide)]
    rfl
end Go.Proofs.Ytmifkdfaaaaicaa
