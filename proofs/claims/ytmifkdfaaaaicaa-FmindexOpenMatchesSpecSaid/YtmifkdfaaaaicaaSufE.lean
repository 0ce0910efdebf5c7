/- The law ArrayIsSorted, plainly. -/
import Derived.Test.YtmifkdfaaaaicaaSufD
namespace Go.Proofs.Ytmifkdfaaaaicaa
open Go Go.L
theorem getD_at {α : Type} {l : List α} {i : Nat} {d : α} (h : i < l.length) : l.getD i d = l[i] := by rw [List.getD_eq_getElem?_getD, List.getElem?_eq_getElem h]; rfl
theorem ref_less {a : List UInt8} {x y : Int} (hx : 0 ≤ x ∧ x ≤ a.length) (hy : 0 ≤ y ∧ y ≤ a.length) : ref4_Less a x y = some (Op.bytesLess (a.drop x.toNat) (a.drop y.toNat)) := by
  unfold ref4_Less
  rw [chk_pos hx, chk_pos hy]
theorem ref_shared {a : List UInt8} {x y : Int} (h : a.length ≤ 2048) (hx : 0 ≤ x ∧ x ≤ a.length) (hy : 0 ≤ y ∧ y ≤ a.length) : ref4_Shared a x y = some (lcp (a.drop x.toNat) (a.drop y.toNat) : Int) := by
  have hl := lcp_le (a.drop x.toNat) (a.drop y.toNat)
  rw [List.length_drop, List.length_drop] at hl
  have key : ∀ d k, k + d = lcp (a.drop x.toNat) (a.drop y.toNat) → ref4_Shared_l2 a x y (k : Int) = some (lcp (a.drop x.toNat) (a.drop y.toNat) : Int) := by
    intro d
    induction d with
    | zero =>
      intro k hk
      rw [Nat.add_zero] at hk
      refine run_inr ?_
      unfold ref4_Shared_bl2 ref4_Shared_k1
      rw [chk_pos (by unfold I64; omega)]
      by_cases h1 : x + k < a.length
      · rw [if_pos h1, chk_pos (by unfold I64; omega)]
        by_cases h2 : y + k < a.length
        · rw [if_pos h2, chk_pos (by unfold I64; omega), chk_pos (by omega), chk_pos (by unfold I64; omega), chk_pos (by omega), if_neg, ← hk]
          intro e
          have hd := lcp_drop k (a.drop x.toNat) (a.drop y.toNat) (by omega)
          have t1 : (x + (k : Int)).toNat = x.toNat + k := by omega
          have t2 : (y + (k : Int)).toNat = y.toNat + k := by omega
          have g1 : x.toNat + k < a.length := by omega
          have g2 : y.toNat + k < a.length := by omega
          rw [t1, t2, getD_at g1, getD_at g2] at e
          rw [List.drop_drop, List.drop_drop, List.drop_eq_getElem_cons g1, List.drop_eq_getElem_cons g2, lcp_cons, if_pos ((u8_eq _ _).1 e)] at hd
          omega
        · rw [if_neg h2, ← hk]
      · rw [if_neg h1, ← hk]
    | succ d ih =>
      intro k hk
      have hd := lcp_drop k (a.drop x.toNat) (a.drop y.toNat) (by omega)
      obtain ⟨c, l', m', e1, e2⟩ := lcp_lt (show 0 < lcp ((a.drop x.toNat).drop k) ((a.drop y.toNat).drop k) by omega)
      have g1 : x.toNat + k < a.length := by omega
      have g2 : y.toNat + k < a.length := by omega
      have t1 : (x + (k : Int)).toNat = x.toNat + k := by omega
      have t2 : (y + (k : Int)).toNat = y.toNat + k := by omega
      rw [List.drop_drop, List.drop_eq_getElem_cons g1] at e1
      rw [List.drop_drop, List.drop_eq_getElem_cons g2] at e2
      unfold ref4_Shared_l2 at ih ⊢
      rw [← ih (k + 1) (by omega)]
      refine run_inl ?_
      unfold ref4_Shared_bl2
      rw [chk_pos (by unfold I64; omega), if_pos (by omega), chk_pos (by unfold I64; omega), if_pos (by omega), chk_pos (by unfold I64; omega), chk_pos (by omega), chk_pos (by unfold I64; omega), chk_pos (by omega), if_pos, chk_pos (by unfold I64; omega)]
      · simp
      · rw [t1, t2, getD_at g1, getD_at g2]
        injection e1 with e3
        injection e2 with e4
        rw [e3, e4]
  exact key _ 0 (Nat.zero_add _)
theorem suf_lt {a : List UInt8} {i j : Nat} (hij : i < j) (hj : j < a.length) : Op.bytesLess (a.drop ((sufArr a).getD i default).toNat) (a.drop ((sufArr a).getD j default).toNat) = true := by
  have hl := sufArr_length a
  have := List.pairwise_iff_getElem.1 (sufArr_sorted a) i j (by omega) (by omega) hij
  rw [getD_at (by omega), getD_at (by omega)]
  exact (cmp_less _ _).1 this
theorem com_get {a : List UInt8} {o : List Int} {k n : Nat} (h : k < n) : (com a o n).getD k default = if k = 0 then 0 else (lcp (a.drop (o.getD (k - 1) default).toNat) (a.drop (o.getD k default).toNat) : Int) := by
  rw [getD_at (by rw [com_length]; exact h)]
  simp [com]
/-- Which positions were met among the first k. -/
def seen (a : List UInt8) (k : Nat) : List Bool := (List.range a.length).map fun x : Nat => decide ((x : Int) ∈ (sufArr a).take k)
theorem seen_succ {a : List UInt8} {k : Nat} (h : k < a.length) : (seen a k).set ((sufArr a).getD k default).toNat true = seen a (k + 1) := by
  have hl := sufArr_length a
  have hg := suf_get h
  apply List.ext_getElem (by simp [seen])
  intro i h1 h2
  rw [List.getElem_set]
  have hi : i < a.length := by simpa [seen] using h2
  have hmem : ((i : Int) ∈ (sufArr a).take (k + 1)) ↔ ((i : Int) ∈ (sufArr a).take k ∨ (i : Int) = (sufArr a).getD k default) := by
    rw [List.take_succ_eq_append_getElem (by omega), List.mem_append, List.mem_singleton, getD_at (by omega)]
  simp only [seen, List.getElem_map, List.getElem_range]
  by_cases e : ((sufArr a).getD k default).toNat = i
  · rw [if_pos e]
    have : (i : Int) ∈ (sufArr a).take (k + 1) := hmem.2 (.inr (by omega))
    simp [this]
  · rw [if_neg e]
    have : ((i : Int) ∈ (sufArr a).take (k + 1)) ↔ ((i : Int) ∈ (sufArr a).take k) := by
      rw [hmem]
      exact ⟨fun h => h.resolve_right (by omega), .inl⟩
    rw [Bool.eq_iff_iff, decide_eq_true_eq, decide_eq_true_eq, this]
theorem seen_new {a : List UInt8} {k : Nat} (h : k < a.length) : (seen a k).getD ((sufArr a).getD k default).toNat default = false := by
  have hl := sufArr_length a
  have hg := suf_get h
  rw [getD_at (by rw [seen, List.length_map, List.length_range]; omega)]
  simp only [seen, List.getElem_map, List.getElem_range, decide_eq_false_iff_not]
  intro hm
  have hn := sufArr_nodup a
  obtain ⟨i, hi, e⟩ := List.getElem_of_mem hm
  rw [List.length_take] at hi
  rw [List.getElem_take, Int.toNat_of_nonneg hg.1, getD_at (by omega)] at e
  exact List.pairwise_iff_getElem.1 hn i k (by omega) (by omega) (by omega) e
theorem is_sorted {a : List UInt8} : law4_SuffixArrayIsSorted a = some true := by
  unfold law4_SuffixArrayIsSorted
  rw [suf_Array, Option.bind_some, suf_Common, Option.bind_some, sorts_true, Option.bind_some, if_neg (by decide)]
  by_cases ha : a.length ≤ 2048
  · have hl := sufArr_length a
    have hcl := com_length a (sufArr a) a.length
    rw [if_pos ha, if_pos ha, if_pos rfl, if_pos rfl, if_pos (by rw [hl]), if_pos (by rw [hcl]), chk_pos (by omega)]
    unfold law4_SuffixArrayIsSorted_l2
    have hr := run_count (b := law4_SuffixArrayIsSorted_bl2 a (sufArr a, (0, 0)) (com a (sufArr a) a.length, (0, 0))) (m := some true) (fun k => (seen a k, ((k : Nat) : Int))) a.length (fun k hk => ?_) ?_ 0 (Nat.zero_le _)
    · have e0 : seen a 0 = List.replicate (a.length : Int).toNat false := by
        rw [Int.toNat_natCast]
        apply List.ext_getElem (by simp [seen])
        intro i h1 h2
        simp [seen]
      rw [e0] at hr
      exact hr
    · show law4_SuffixArrayIsSorted_bl2 a _ _ (_, _) = _
      have hg := suf_get hk
      have hsl : (seen a k).length = a.length := by simp [seen]
      unfold law4_SuffixArrayIsSorted_bl2
      dsimp only
      rw [if_pos (by rw [hl]; omega), chk_pos (by rw [hl]; omega), chk_pos (by unfold I64; omega), Int.toNat_natCast, ref_in, Option.bind_some, decide_eq_true (show (0 : Int) ≤ (sufArr a).getD k default ∧ (sufArr a).getD k default ≤ (a.length : Int) - 1 by omega), if_neg (by decide), chk_pos (by rw [hl]; omega), chk_pos (by rw [hsl]; exact hg), seen_new hk, if_neg (by decide), chk_pos (by rw [hl]; omega), chk_pos (by rw [hsl]; exact hg), seen_succ hk]
      by_cases h0 : 0 < k
      · have hg1 := suf_get (a := a) (i := k - 1) (by omega)
        rw [if_pos (by omega), chk_pos (by unfold I64; omega), chk_pos (by rw [hl]; omega), chk_pos (by rw [hl]; omega), show ((k : Int) - 1).toNat = k - 1 by omega, ref_less (by omega) (by omega), Option.bind_some, suf_lt (show k - 1 < k by omega) hk, if_neg (by decide), chk_pos (by rw [hcl]; omega), chk_pos (by unfold I64; omega), chk_pos (by rw [hl]; omega), chk_pos (by rw [hl]; omega), ref_shared ha (by omega) (by omega), Option.bind_some, com_get hk, if_neg (show ¬ k = 0 by omega), if_pos rfl, chk_pos (by unfold I64; omega)]
        simp
      · rw [if_neg (by omega), chk_pos (by unfold I64; omega)]
        simp
    · show law4_SuffixArrayIsSorted_bl2 a _ _ (_, _) = _
      unfold law4_SuffixArrayIsSorted_bl2
      dsimp only
      rw [if_neg (by rw [hl]; omega)]
      rfl
  · rw [if_neg ha, if_neg ha, if_neg (by decide), Option.bind_some, if_pos rfl, chk_pos (by unfold I64; decide)]
    rfl
end Go.Proofs.Ytmifkdfaaaaicaa
