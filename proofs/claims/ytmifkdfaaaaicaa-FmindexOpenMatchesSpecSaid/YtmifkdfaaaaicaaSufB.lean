/- What the functions on suffixes compute, plainly; the law FindMatchesSpec. -/
import Derived.Test.YtmifkdfaaaaicaaSufA
namespace Go.Proofs.Ytmifkdfaaaaicaa
open Go Go.L

theorem suf_array {a : List UInt8} (h : a.length ≤ 2048) : suffix_array a = some (sufArr a) := by
  unfold suffix_array
  rw [chk_pos (by omega)]
  unfold suffix_array_l2
  have hst : ∀ k, k ≤ a.length → (((iota k) ++ List.replicate (a.length - k) 0).length = a.length) := fun k hk => by rw [List.length_append, iota_length, List.length_replicate]; omega
  have h0 := run_count (b := suffix_array_bl2 a) (m := some (sufArr a)) (fun k => ((iota k) ++ List.replicate (a.length - k) 0, ((k : Nat) : Int))) a.length (fun k hk => ?_) ?_ 0 (Nat.zero_le _)
  · simpa [iota] using h0
  · show suffix_array_bl2 a (_, _) = _
    unfold suffix_array_bl2
    dsimp only
    have := hst k (by omega)
    rw [if_pos (by rw [List.length_replicate]; omega), chk_pos (by rw [this]; omega), chk_pos (by unfold I64; omega), Int.toNat_natCast]
    congr 3
    have e1 : a.length - k = (a.length - (k + 1)) + 1 := by omega
    rw [e1, List.replicate_succ, List.set_append_right _ _ (by rw [iota_length]; exact Nat.le_refl _), iota_length, Nat.sub_self, List.set_cons_zero]
    unfold iota
    rw [List.range_succ, List.map_append, List.append_assoc]
    rfl
  · show suffix_array_bl2 a (_, _) = _
    unfold suffix_array_bl2 suffix_array_k1
    dsimp only
    rw [if_neg (by rw [List.length_replicate]; omega), Nat.sub_self, List.replicate_zero, List.append_nil, chk_pos ⟨rfl, by omega⟩]
theorem suf_Array (a : List UInt8) : suffix_Array a = some (if a.length ≤ 2048 then (sufArr a, (0, 0)) else ([], (3, -1))) := by
  unfold suffix_Array
  by_cases h : a.length ≤ 2048
  · rw [if_neg (by omega), if_pos h, suf_array h]; rfl
  · rw [if_pos (by omega), if_neg h]; rfl
theorem suf_common (a b : List UInt8) (h : a.length ≤ 2048) : suffix_common a b = some (lcp a b : Int) := by
  have key : ∀ d k, k + d = lcp a b → suffix_common_l2 a b (k : Int) = some (lcp a b : Int) := by
    intro d
    induction d with
    | zero =>
      intro k hk
      rw [Nat.add_zero] at hk
      have hl := lcp_le a b
      refine run_inr ?_
      unfold suffix_common_bl2 suffix_common_k1
      by_cases h1 : k < a.length
      · rw [if_pos (by omega)]
        by_cases h2 : k < b.length
        · rw [if_pos (by omega), chk_pos (by omega), chk_pos (by omega), Int.toNat_natCast, if_neg, ← hk]
          intro e
          have hd := lcp_drop k a b (by omega)
          have e1 : a.drop k = a[k] :: a.drop (k + 1) := List.drop_eq_getElem_cons h1
          have e2 : b.drop k = b[k] :: b.drop (k + 1) := List.drop_eq_getElem_cons h2
          rw [e1, e2] at hd
          simp only [List.getD_eq_getElem?_getD, List.getElem?_eq_getElem h1, List.getElem?_eq_getElem h2, Option.getD_some] at e
          rw [lcp_cons, if_pos ((u8_eq _ _).1 e)] at hd
          omega
        · rw [if_neg (by omega), ← hk]
      · rw [if_neg (by omega), ← hk]
    | succ d ih =>
      intro k hk
      have hl := lcp_le a b
      have hd := lcp_drop k a b (by omega)
      obtain ⟨x, l', m', e1, e2⟩ := lcp_lt (show 0 < lcp (a.drop k) (b.drop k) by omega)
      have h1 : k < a.length := by omega
      have h2 : k < b.length := by omega
      rw [List.drop_eq_getElem_cons h1] at e1
      rw [List.drop_eq_getElem_cons h2] at e2
      unfold suffix_common_l2 at ih ⊢
      rw [← ih (k + 1) (by omega)]
      refine run_inl ?_
      unfold suffix_common_bl2
      rw [if_pos (by omega), if_pos (by omega), chk_pos (by omega), chk_pos (by omega), Int.toNat_natCast, if_pos, chk_pos (by unfold I64; omega)]
      · simp
      · simp only [List.getD_eq_getElem?_getD, List.getElem?_eq_getElem h1, List.getElem?_eq_getElem h2, Option.getD_some]
        cases e1
        injection e2 with e3
        rw [e3]
  exact key (lcp a b) 0 (by omega)
/-- The common beginnings of neighbours in an order. -/
def com (a : List UInt8) (o : List Int) (k : Nat) : List Int := (List.range k).map fun i => if i = 0 then 0 else (lcp (a.drop (o.getD (i - 1) default).toNat) (a.drop (o.getD i default).toNat) : Int)
theorem com_length (a : List UInt8) (o : List Int) (k : Nat) : (com a o k).length = k := by simp [com]
theorem suf_get {a : List UInt8} {i : Nat} (h : i < a.length) : 0 ≤ (sufArr a).getD i default ∧ (sufArr a).getD i default < a.length := by
  have hl := sufArr_length a
  have : (sufArr a).getD i default ∈ sufArr a := by
    rw [List.getD_eq_getElem?_getD, List.getElem?_eq_getElem (by omega)]
    exact List.getElem_mem _
  exact (sufArr_mem a).1 this
theorem suf_Common (a : List UInt8) : suffix_Common a = some (if a.length ≤ 2048 then (com a (sufArr a) a.length, (0, 0)) else ([], (3, -1))) := by
  unfold suffix_Common
  rw [suf_Array]
  by_cases h : a.length ≤ 2048
  · rw [if_pos h, if_pos h, Option.bind_some]
    have hl := sufArr_length a
    dsimp only
    rw [if_pos ⟨rfl, rfl⟩, hl, chk_pos (by omega)]
    unfold suffix_Common_l2
    by_cases hz : a.length = 0
    · refine run_inr ?_
      unfold suffix_Common_bl2 suffix_Common_k1
      dsimp only
      rw [if_neg (by rw [hl]; omega), hz]
      rfl
    · have h0 := run_count (b := suffix_Common_bl2 a (sufArr a, (0, 0))) (m := some (com a (sufArr a) a.length, ((0 : Int), (0 : Int)))) (fun k => (com a (sufArr a) (k + 1) ++ List.replicate (a.length - (k + 1)) 0, ((k + 1 : Nat) : Int))) (a.length - 1) (fun k hk => ?_) ?_ 0 (Nat.zero_le _)
      · have e0 : com a (sufArr a) (0 + 1) ++ List.replicate (a.length - (0 + 1)) (0 : Int) = List.replicate (a.length : Int).toNat 0 := by
          rw [Int.toNat_natCast, show a.length = (a.length - 1) + 1 by omega, List.replicate_succ]
          simp [com]
        rw [e0] at h0
        exact h0
      · show suffix_Common_bl2 a _ (_, _) = _
        unfold suffix_Common_bl2
        dsimp only
        have hlen : (com a (sufArr a) (k + 1) ++ List.replicate (a.length - (k + 1)) (0 : Int)).length = a.length := by rw [List.length_append, com_length, List.length_replicate]; omega
        have g1 := suf_get (a := a) (i := k) (by omega)
        have g2 := suf_get (a := a) (i := k + 1) (by omega)
        have t1 : (((k + 1 : Nat) : Int) - 1).toNat = k := by omega
        rw [if_pos (by rw [hl]; omega), chk_pos (by unfold I64; omega), chk_pos (by rw [hl]; omega), t1, chk_pos (by omega), chk_pos (by rw [hl]; omega), Int.toNat_natCast, chk_pos (by omega), suf_common _ _ (by rw [List.length_drop]; omega), Option.bind_some, chk_pos (by rw [hlen]; omega), chk_pos (by unfold I64; omega)]
        congr 3
        have e1 : a.length - (k + 1) = (a.length - (k + 1 + 1)) + 1 := by omega
        rw [e1, List.replicate_succ, List.set_append_right _ _ (by rw [com_length]; exact Nat.le_refl _), com_length, Nat.sub_self, List.set_cons_zero]
        unfold com
        rw [List.range_succ (n := k + 1), List.map_append, List.append_assoc]
        simp
      · show suffix_Common_bl2 a _ (_, _) = _
        unfold suffix_Common_bl2 suffix_Common_k1
        dsimp only
        rw [if_neg (by rw [hl]; omega), show a.length - 1 + 1 = a.length by omega, Nat.sub_self, List.replicate_zero, List.append_nil]
  · rw [if_neg h, if_neg h, Option.bind_some]
    dsimp only
    rw [if_neg (by decide)]
theorem has_prefix (l p : List UInt8) : bytes_HasPrefix l p = some (pre l p) := by
  unfold bytes_HasPrefix pre
  by_cases h : p.length ≤ l.length
  · rw [if_pos (by omega), chk_pos (by omega), Int.toNat_natCast]; rfl
  · rw [if_neg (by omega)]
    have : ¬ l.take p.length = p := fun e => by
      have := congrArg List.length e
      rw [List.length_take] at this
      omega
    simp [this]
theorem ref_begins {a p : List UInt8} {i : Nat} (ha : a.length ≤ 2048) (hp : p.length ≤ 2048) (hi : i ≤ a.length) : ref4_Begins a (i : Int) p = some (pre (a.drop i) p) := by
  unfold ref4_Begins pre
  rw [chk_pos (by unfold I64; omega)]
  by_cases h : i + p.length ≤ a.length
  · rw [if_pos (by omega), chk_pos (by unfold I64; omega), chk_pos (by omega), Int.toNat_natCast, show ((i : Int) + (p.length : Int)).toNat - i = p.length by omega]
    rfl
  · rw [if_neg (by omega)]
    have : ¬ (a.drop i).take p.length = p := fun e => by
      have := congrArg List.length e
      rw [List.length_take, List.length_drop] at this
      omega
    simp [this]
theorem suf_Find (a p : List UInt8) : suffix_Find a p = some (if a.length ≤ 2048 then if p.length ≤ 2048 then (((fs a p a.length).1 : Int), ((fs a p a.length).1 : Int) + ((fs a p a.length).2 : Int), (0, 0)) else (0, 0, (3, -2)) else (0, 0, (3, -1))) := by
  unfold suffix_Find
  by_cases ha : a.length ≤ 2048
  · rw [if_neg (by omega), if_pos ha]
    by_cases hp : p.length ≤ 2048
    · rw [if_neg (by omega), if_pos hp]
      unfold suffix_Find_l2
      have h0 := run_count (b := suffix_Find_bl2 a p) (m := some (((fs a p a.length).1 : Int), ((fs a p a.length).1 : Int) + ((fs a p a.length).2 : Int), ((0 : Int), (0 : Int)))) (fun k => (((fs a p k).1 : Int), ((fs a p k).2 : Int), ((k : Nat) : Int))) a.length (fun k hk => ?_) ?_ 0 (Nat.zero_le _)
      · exact h0
      · show suffix_Find_bl2 a p (_, _, _) = _
        have hle := fs_le a p k
        unfold suffix_Find_bl2
        dsimp only
        rw [if_pos (by omega), chk_pos (by omega), Int.toNat_natCast, has_prefix, Option.bind_some]
        rw [fs_succ]
        by_cases h1 : pre (a.drop k) p = true
        · rw [if_pos h1, if_pos h1, chk_pos (by unfold I64; omega), chk_pos (by unfold I64; omega)]
          simp
        · rw [if_neg h1, if_neg h1]
          have hc : bytes_Compare (a.drop k) p = some (Lib.compareBytes (a.drop k) p) := rfl
          rw [hc, Option.bind_some]
          by_cases h2 : Op.bytesLess (a.drop k) p = true
          · rw [if_pos ((cmp_less _ _).2 h2), if_pos h2, chk_pos (by unfold I64; omega), chk_pos (by unfold I64; omega)]
            simp
          · rw [if_neg (fun h => h2 ((cmp_less _ _).1 h)), if_neg h2, chk_pos (by unfold I64; omega)]
            simp
      · show suffix_Find_bl2 a p (_, _, _) = _
        have hle := fs_le a p a.length
        unfold suffix_Find_bl2 suffix_Find_k1
        dsimp only
        rw [if_neg (by omega), chk_pos (by unfold I64; omega)]
    · rw [if_pos (by omega), if_neg hp]; rfl
  · rw [if_pos (by omega), if_neg ha]; rfl
theorem ref_range {a p : List UInt8} (ha : a.length ≤ 2048) (hp : p.length ≤ 2048) : ref4_Range a p = some (((fs a p a.length).1 : Int), ((fs a p a.length).1 : Int) + ((fs a p a.length).2 : Int)) := by
  unfold ref4_Range ref4_Range_l2
  have h0 := run_count (b := ref4_Range_bl2 a p) (m := some (((fs a p a.length).1 : Int), ((fs a p a.length).1 : Int) + ((fs a p a.length).2 : Int))) (fun k => (((fs a p k).1 : Int), ((fs a p k).2 : Int), ((k : Nat) : Int))) a.length (fun k hk => ?_) ?_ 0 (Nat.zero_le _)
  · exact h0
  · show ref4_Range_bl2 a p (_, _, _) = _
    have hle := fs_le a p k
    unfold ref4_Range_bl2
    dsimp only
    rw [if_pos (by omega), ref_begins ha hp (by omega), Option.bind_some]
    rw [fs_succ]
    by_cases h1 : pre (a.drop k) p = true
    · rw [if_pos h1, if_pos h1, chk_pos (by unfold I64; omega), chk_pos (by unfold I64; omega)]
      simp
    · rw [if_neg h1, if_neg h1, chk_pos (by omega), Int.toNat_natCast]
      by_cases h2 : Op.bytesLess (a.drop k) p = true
      · rw [if_pos h2, if_pos h2, chk_pos (by unfold I64; omega), chk_pos (by unfold I64; omega)]
        simp
      · rw [if_neg h2, if_neg h2, chk_pos (by unfold I64; omega)]
        simp
  · show ref4_Range_bl2 a p (_, _, _) = _
    have hle := fs_le a p a.length
    unfold ref4_Range_bl2 ref4_Range_k1
    dsimp only
    rw [if_neg (by omega), chk_pos (by unfold I64; omega)]
theorem text_fault (a : List UInt8) : law4_textFault a = some (if a.length ≤ 2048 then (0, 0) else (3, -1)) := by
  unfold law4_textFault
  by_cases h : a.length ≤ 2048
  · rw [if_neg (by omega), if_pos h]
  · rw [if_pos (by omega), if_neg h]; rfl
theorem ref_at (a b : Int) : ref3_At a b = some (a, b) := rfl
end Go.Proofs.Ytmifkdfaaaaicaa
