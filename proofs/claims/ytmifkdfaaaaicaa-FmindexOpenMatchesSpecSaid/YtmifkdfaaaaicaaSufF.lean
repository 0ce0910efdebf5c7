/- The order by insertion, and the law ArrayMatchesSpec, plainly. -/
import Derived.Test.YtmifkdfaaaaicaaSufE
namespace Go.L
open Go
/-- One suffix is less than another. -/
def slt (a : List UInt8) (x y : Int) : Prop := Lib.compareBytes (a.drop x.toNat) (a.drop y.toNat) < 0
theorem slt_trans {a : List UInt8} {x y z : Int} (h : slt a x y) (k : slt a y z) : slt a x z := cmp_trans _ _ _ h k
theorem slt_total {a : List UInt8} {x y : Int} (hx : 0 ≤ x ∧ x < a.length) (hy : 0 ≤ y ∧ y < a.length) (hne : x ≠ y) (h : ¬ slt a x y) : slt a y x := by
  unfold slt at *
  have s := cmp_swap (a.drop x.toNat) (a.drop y.toNat)
  rcases Int.lt_trichotomy (Lib.compareBytes (a.drop x.toNat) (a.drop y.toNat)) 0 with h1 | h1 | h1
  · exact absurd h1 h
  · have := congrArg List.length (cmp_zero _ _ h1)
    rw [List.length_drop, List.length_drop] at this
    omega
  · omega
theorem swap_at (u x : Int) (B : List Int) : ∀ A : List Int, ((A ++ u :: x :: B).set (A.length + 1) u).set A.length x = A ++ x :: u :: B
  | [] => rfl
  | c :: A => by simp
end Go.L
namespace Go.Proofs.Ytmifkdfaaaaicaa
open Go Go.L
theorem less_slt {a : List UInt8} {x y : Int} : Op.bytesLess (a.drop x.toNat) (a.drop y.toNat) = true ↔ slt a x y := (cmp_less _ _).symm
theorem order_inner {a : List UInt8} {i : Int} {s : List Int} {x : Int} (hl : s.length ≤ 2048) (hs : ∀ y ∈ s, 0 ≤ y ∧ y < a.length) (hx : 0 ≤ x ∧ x < a.length) : ∀ k, k ≤ s.length → (∀ y ∈ s.drop k, slt a x y) →
    ∃ j, j ≤ k ∧ ref4_Order_l4 a i (s.take k ++ x :: s.drop k, (k : Int)) = ref4_Order_k3 i (s.take j ++ x :: s.drop j) ∧ (∀ y ∈ s.drop j, slt a x y) ∧ (j = 0 ∨ ¬ slt a x (s.getD (j - 1) default)) := by
  intro k
  induction k with
  | zero =>
    intro _ hg
    refine ⟨0, Nat.le_refl _, run_inr ?_, hg, .inl rfl⟩
    unfold ref4_Order_bl4
    dsimp only
    rw [if_neg (by decide)]
  | succ k ih =>
    intro hk hg
    have hkl : k < s.length := by omega
    have e1 : s.take (k + 1) = s.take k ++ [s[k]] := List.take_succ_eq_append_getElem hkl
    have e2 : s.take (k + 1) ++ x :: s.drop (k + 1) = s.take k ++ s[k] :: x :: s.drop (k + 1) := by rw [e1, List.append_assoc]; rfl
    have hA : (s.take k).length = k := by rw [List.length_take]; omega
    have hL : (s.take (k + 1) ++ x :: s.drop (k + 1)).length = s.length + 1 := by rw [e2]; simp; omega
    have g1 : (s.take (k + 1) ++ x :: s.drop (k + 1)).getD (k + 1) default = x := by
      rw [e2, List.getD_eq_getElem?_getD, List.getElem?_append_right (by omega), hA]
      simp
    have g0 : (s.take (k + 1) ++ x :: s.drop (k + 1)).getD k default = s[k] := by
      rw [e2, List.getD_eq_getElem?_getD, List.getElem?_append_right (by omega), hA]
      simp
    have hsk := hs s[k] (List.getElem_mem _)
    have hless := ref_less (a := a) (x := x) (y := s[k]) (by omega) (by omega)
    by_cases hlt : slt a x s[k]
    · have hg' : ∀ y ∈ s.drop k, slt a x y := fun y hy => by
        rw [List.drop_eq_getElem_cons hkl] at hy
        rcases List.mem_cons.1 hy with h | h
        · rw [h]; exact hlt
        · exact hg y h
      obtain ⟨j, hj, h1, h2, h3⟩ := ih (by omega) hg'
      refine ⟨j, by omega, ?_, h2, h3⟩
      rw [← h1]
      refine run_inl ?_
      unfold ref4_Order_bl4
      dsimp only
      have t : (((k + 1 : Nat) : Int) - 1).toNat = k := by omega
      rw [if_pos (by omega), chk_pos (by rw [hL]; omega), chk_pos (by unfold I64; omega), chk_pos (by rw [hL]; omega), t, Int.toNat_natCast, g1, g0, hless, Option.bind_some, less_slt.2 hlt, if_pos rfl, chk_pos (by unfold I64; omega), chk_pos (by unfold I64; omega), chk_pos (by rw [hL]; omega), chk_pos (by rw [hL]; omega), chk_pos (by rw [hL]; omega), chk_pos (by rw [List.length_set, hL]; omega), chk_pos (by unfold I64; omega)]
      have e3 : ((s.take (k + 1) ++ x :: s.drop (k + 1)).set (k + 1) s[k]).set k x = s.take k ++ x :: s.drop k := by
        have := swap_at s[k] x (s.drop (k + 1)) (s.take k)
        rw [hA] at this
        rw [e2, this, ← List.drop_eq_getElem_cons hkl]
      rw [e3]
      congr 3
      omega
    · refine ⟨k + 1, Nat.le_refl _, run_inr ?_, hg, .inr ?_⟩
      · unfold ref4_Order_bl4
        dsimp only
        have t : (((k + 1 : Nat) : Int) - 1).toNat = k := by omega
        rw [if_pos (by omega), chk_pos (by rw [hL]; omega), chk_pos (by unfold I64; omega), chk_pos (by rw [hL]; omega), t, Int.toNat_natCast, g1, g0, hless, Option.bind_some, if_neg (fun h => hlt (less_slt.1 h))]
      · rw [Nat.add_sub_cancel, getD_at hkl]; exact hlt
theorem ref_order {a : List UInt8} (h : a.length ≤ 2048) : ref4_Order a = some (sufArr a) := by
  unfold ref4_Order ref4_Order_l2
  refine run_inv (fun st => ∃ n : Nat, st.2 = (n : Int) ∧ n ≤ a.length ∧ st.1.Perm (iota n) ∧ st.1.Pairwise (slt a)) (fun st => a.length - st.2.toNat) ?_ ⟨0, rfl, Nat.zero_le _, .refl _, .nil⟩
  rintro ⟨s, i⟩ ⟨n, hi, hn, hp, hs⟩
  dsimp only at hi hp hs
  subst hi
  have hsl : s.length = n := by rw [hp.length_eq, iota_length]
  by_cases hlt : n < a.length
  · left
    have hmem : ∀ y ∈ s, 0 ≤ y ∧ y < n := fun y hy => iota_mem.1 (hp.mem_iff.1 hy)
    obtain ⟨j, hj, h1, h2, h3⟩ := order_inner (a := a) (i := (n : Int)) (s := s) (x := (n : Int)) (by omega) (fun y hy => by have := hmem y hy; omega) (by omega) n (by omega) (by rw [List.drop_of_length_le (by omega)]; simp)
    refine ⟨(s.take j ++ (n : Int) :: s.drop j, ((n + 1 : Nat) : Int)), ?_, ⟨n + 1, rfl, hlt, ?_, ?_⟩, by simp; omega⟩
    · unfold ref4_Order_bl2
      dsimp only
      have hl2 : (s ++ [(n : Int)]).length = n + 1 := by rw [List.length_append, hsl]; rfl
      have e0 : s ++ [(n : Int)] = s.take n ++ (n : Int) :: s.drop n := by rw [List.take_of_length_le (by omega), List.drop_of_length_le (by omega)]
      rw [if_pos (by omega), chk_pos (by rw [hsl]; constructor <;> simp <;> omega), chk_pos (by rw [hl2]; unfold I64; omega), hl2, show ((n + 1 : Nat) : Int) - 1 = (n : Int) by omega, e0, h1]
      unfold ref4_Order_k3
      rw [chk_pos (by unfold I64; omega)]
      rfl
    · rw [iota_succ]
      refine (List.perm_middle).trans ?_
      rw [List.take_append_drop]
      exact (List.Perm.cons _ hp).trans (List.perm_append_singleton _ _).symm
    · have hs' : (s.take j ++ s.drop j).Pairwise (slt a) := by rw [List.take_append_drop]; exact hs
      obtain ⟨p1, p2, p3⟩ := List.pairwise_append.1 hs'
      refine List.pairwise_append.2 ⟨p1, List.pairwise_cons.2 ⟨h2, p2⟩, fun u hu y hy => ?_⟩
      rcases List.mem_cons.1 hy with e | hy
      · subst e
        have hj0 : 0 < j := by
          rcases Nat.eq_zero_or_pos j with e | e
          · subst e; simp at hu
          · exact e
        have hjl : j - 1 < s.length := by omega
        have hlast : slt a (s.getD (j - 1) default) (n : Int) := by
          have hne := h3.resolve_left (by omega)
          have hm := hmem (s.getD (j - 1) default) (by rw [getD_at hjl]; exact List.getElem_mem _)
          exact slt_total (by omega) (by omega) (by omega) hne
        obtain ⟨q, hq, rfl⟩ := List.getElem_of_mem hu
        rw [List.length_take] at hq
        rw [List.getElem_take]
        rcases Nat.lt_or_ge q (j - 1) with hqj | hqj
        · have := List.pairwise_iff_getElem.1 hs q (j - 1) (by omega) hjl hqj
          rw [getD_at hjl] at hlast
          exact slt_trans this hlast
        · have : q = j - 1 := by omega
          subst this
          rw [getD_at hjl] at hlast
          exact hlast
      · exact p3 u hu y hy
  · right
    have hn' : n = a.length := by omega
    subst hn'
    unfold ref4_Order_bl2 ref4_Order_k1
    dsimp only
    rw [if_neg (by omega), sufArr_eq hp hs]
theorem array_matches {a : List UInt8} : law4_SuffixArrayMatchesSpec a = some true := by
  unfold law4_SuffixArrayMatchesSpec
  rw [suf_Array, Option.bind_some, suf_Common, Option.bind_some, text_fault, Option.bind_some, sorts_true, Option.bind_some, if_neg (by decide)]
  by_cases ha : a.length ≤ 2048
  · have hl := sufArr_length a
    have hcl := com_length a (sufArr a) a.length
    rw [if_pos ha, if_pos ha, if_pos ha, if_pos ⟨rfl, rfl⟩, if_pos ⟨rfl, rfl⟩, if_pos rfl]
    by_cases hb : 150 < a.length
    · rw [if_pos (by omega), if_pos (by rw [hl]), hcl]
      simp
    · rw [if_neg (by omega), ref_order ha, Option.bind_some, ref_ints (by rw [hl]; omega), Option.bind_some, decide_eq_true rfl, if_neg (by decide), if_pos (by rw [hcl])]
      have hk1 : law4_SuffixArrayMatchesSpec_k1 (com a (sufArr a) a.length, (0, 0)) = some true := by
        unfold law4_SuffixArrayMatchesSpec_k1
        dsimp only
        rw [hcl]
        by_cases hz : a.length = 0
        · rw [if_pos (by omega)]
        · rw [if_neg (by omega), chk_pos (by omega)]
          have := com_zero (a := a) (o := sufArr a) (k := a.length) (by omega)
          rw [show (0 : Int).toNat = 0 from rfl, this]
          rfl
      unfold law4_SuffixArrayMatchesSpec_l2
      by_cases hz : a.length = 0
      · refine run_inr ?_
        unfold law4_SuffixArrayMatchesSpec_bl2
        dsimp only
        rw [if_neg (by rw [hcl]; omega), hk1]
      · refine run_count (b := law4_SuffixArrayMatchesSpec_bl2 a (com a (sufArr a) a.length, (0, 0)) (sufArr a)) (m := some true) (fun k => ((k + 1 : Nat) : Int)) (a.length - 1) (fun k hk => ?_) ?_ 0 (Nat.zero_le _)
        · unfold law4_SuffixArrayMatchesSpec_bl2
          dsimp only
          have g1 := suf_get (a := a) (i := k) (by omega)
          have g2 := suf_get (a := a) (i := k + 1) (by omega)
          have t : (((k + 1 : Nat) : Int) - 1).toNat = k := by omega
          rw [if_pos (by rw [hcl]; omega), chk_pos (by rw [hcl]; omega), chk_pos (by unfold I64; omega), chk_pos (by rw [hl]; omega), chk_pos (by rw [hl]; omega), t, Int.toNat_natCast, ref_shared ha (by omega) (by omega), Option.bind_some, com_get (by omega), if_neg (show ¬ (k + 1 = 0) by omega), Nat.add_sub_cancel, if_pos rfl, chk_pos (by unfold I64; omega)]
          rfl
        · unfold law4_SuffixArrayMatchesSpec_bl2
          dsimp only
          rw [if_neg (by rw [hcl]; omega), hk1]
  · rw [if_neg ha, if_neg ha, if_neg ha, if_pos ⟨rfl, rfl⟩, if_pos ⟨rfl, rfl⟩, if_neg (by decide), Option.bind_some, if_pos rfl, if_pos ⟨rfl, rfl⟩, if_pos ⟨rfl, rfl⟩, chk_pos (by unfold I64; decide)]
    rfl
end Go.Proofs.Ytmifkdfaaaaicaa
