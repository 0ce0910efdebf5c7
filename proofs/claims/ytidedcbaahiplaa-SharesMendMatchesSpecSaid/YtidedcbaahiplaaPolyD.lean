/- Plain laws: lists of shares that pass the check; the bytes that explain them do so. No program in sight. -/
import Derived.Test.YtidedcbaahiplaaPolyC
namespace Go.M
theorem getD_lt {α : Type} [Inhabited α] {l : List α} {i : Nat} (h : i < l.length) : l.getD i default = l[i] := by rw [List.getD_eq_getElem?_getD, List.getElem?_eq_getElem h]; rfl
theorem fidx_neg {l : List Sh} {k : Int} : ∀ (n i : Nat), ¬ 0 ≤ fidx l k n i → ∀ j, i ≤ j → j < i + n → (l.getD j default).1 ≠ k
  | 0, i, _, j, h1, h2 => by omega
  | n + 1, i, h, j, h1, h2 => by
    rw [fidx] at h
    split at h
    · omega
    · rename_i hne
      rcases Nat.eq_or_lt_of_le h1 with e | e
      · subst e; exact hne
      · exact fidx_neg n (i + 1) h j e (by omega)
theorem fidx_nonneg {l : List Sh} {k : Int} : ∀ (n i : Nat), (∃ j, i ≤ j ∧ j < i + n ∧ (l.getD j default).1 = k) → 0 ≤ fidx l k n i
  | 0, i, ⟨j, h1, h2, _⟩ => by omega
  | n + 1, i, ⟨j, h1, h2, h3⟩ => by
    rw [fidx]
    split
    · omega
    · rename_i hne
      rcases Nat.eq_or_lt_of_le h1 with e | e
      · subst e; exact absurd h3 hne
      · exact fidx_nonneg n (i + 1) ⟨j, e, by omega, h3⟩
structure Fine (l : List Sh) : Prop where
  len : l.length ≤ 10
  k : ∀ i, i < l.length → 1 ≤ (l.getD i default).1 ∧ (l.getD i default).1 ≤ 10
  n : ∀ i j, i < j → j < l.length → (l.getD i default).1 ≠ (l.getD j default).1
  m : ∀ i, i < l.length → (l.getD i default).2.length ≤ 4096
  d : ∀ i, i < l.length → (l.getD i default).2.length = (l.getD 0 default).2.length
theorem chkList_fine {l : List Sh} (h : chkList l = (0, 0)) : Fine l := by
  unfold chkList at h
  split at h
  · cases h
  · rename_i hl
    have key : ∀ j, j < l.length → chk1 l j = 0 := fun j hj => chF_ok _ _ h j (Nat.zero_le _) (by omega)
    have c1 : ∀ i, i < l.length → ¬ ((l.getD i default).1 < 1 ∨ 10 < (l.getD i default).1) ∧ ¬ 0 ≤ fidx (l.take i) (l.getD i default).1 (l.take i).length 0 ∧ ¬ 4096 < (l.getD i default).2.length ∧ ¬ (l.getD i default).2.length ≠ (l.getD 0 default).2.length := fun i hi => by
      have h1 := key i hi
      unfold chk1 at h1
      split at h1
      · cases h1
      · rename_i a
        split at h1
        · cases h1
        · rename_i b
          split at h1
          · cases h1
          · rename_i c
            split at h1
            · cases h1
            · rename_i d; exact ⟨a, b, c, d⟩
    refine ⟨by omega, fun i hi => ?_, fun i j hij hj => ?_, fun i hi => ?_, fun i hi => ?_⟩
    · have := (c1 i hi).1; omega
    · have h2 := fidx_neg _ _ (c1 j hj).2.1 i (Nat.zero_le _) (by simp only [List.length_take]; omega)
      rw [getD_take hij] at h2
      exact h2
    · have := (c1 i hi).2.2.1; omega
    · exact Decidable.byContradiction (c1 i hi).2.2.2
theorem fine_chkList {l : List Sh} (h : Fine l) : chkList l = (0, 0) := by
  have hl := h.len
  rw [chkList, if_neg (by omega)]
  refine chF_all _ _ fun j _ hj => ?_
  have hj' : j < l.length := by omega
  have hk := h.k j hj'
  have hm := h.m j hj'
  have gf : fidx (l.take j) (l.getD j default).1 (l.take j).length 0 = -1 := by
    refine fidx_none _ _ fun i _ hi => ?_
    simp only [List.length_take] at hi
    rw [getD_take (by omega)]
    exact h.n i j (by omega) hj'
  unfold chk1
  rw [if_neg (by omega), gf, if_neg (by omega), if_neg (by omega), if_neg (fun k => k (h.d j hj'))]
theorem Fine.pair {l : List Sh} (h : Fine l) : l.Pairwise fun a b => a.1 ≠ b.1 := by
  rw [List.pairwise_iff_getElem]
  intro i j hi hj hij
  have := h.n i j hij hj
  simpa [hi, hj] using this
theorem Fine.mem {l : List Sh} (h : Fine l) : ∀ s ∈ l, 1 ≤ s.1 ∧ s.1 ≤ 10 := fun s hs => by
  obtain ⟨i, hi, rfl⟩ := List.getElem_of_mem hs
  have := h.k i hi
  simpa [hi] using this
theorem Fine.nodup {l : List Sh} (h : Fine l) : (kps l).Nodup := by
  unfold kps List.Nodup
  rw [List.pairwise_map]
  exact h.pair.imp_of_mem fun {a b} ha hb hne e => hne (kb_inj (h.mem a ha) (h.mem b hb) e)
theorem Fine.nodup0 {l : List Sh} (h : Fine l) (S : List UInt8) : (kps (exl l S)).Nodup := by
  show (kb 0 :: kps l).Nodup
  refine List.nodup_cons.2 ⟨fun hm => ?_, h.nodup⟩
  obtain ⟨s, hs, e⟩ := List.mem_map.1 hm
  exact kb_ne_zero (h.mem s hs) (by rw [e]; rfl)
theorem hv_at_zero (c : List UInt8) : hv c 0 = c.getD 0 default := by
  cases c with
  | nil => rfl
  | cons a l => simp [hv, zero_gmul]
theorem cof_get {S R : List UInt8} {j m a : Nat} : (cof S R j m).getD a default = if a = 0 then S.getD j default else if a ≤ m then R.getD ((a - 1) * S.length + j) default else default := by
  unfold cof
  cases a with
  | zero => simp
  | succ a =>
    rw [if_neg (by omega)]
    by_cases h : a < m
    · simp [h]; intro h'; omega
    · simp [h]; intro h'; omega
/-- The bytes that explain shares do so. -/
theorem explain_ev {l : List Sh} {S : List UInt8} (h : Fine l) (hd : ∀ i, i < l.length → (l.getD i default).2.length = S.length) {i : Nat} (hi : i < l.length) : ev S (l.length + 1) (exR l S) (kb (l.getD i default).1) = (l.getD i default).2 := by
  have hR : (exR l S).length = (l.length + 1 - 1) * S.length := exR_length l S
  have hel := ev_length (x := kb (l.getD i default).1) hR
  apply List.ext_getElem (by rw [hel, hd i hi])
  intro j h1 h2
  have hj : j < S.length := by omega
  have e1 := ev_get (x := kb (l.getD i default).1) (Nat.le_add_left 1 l.length) hR hj
  have hp : (kps (exl l S)).length = l.length + 1 := by rw [kps_length]; rfl
  have hc : cof S (exR l S) j (l.length + 1 - 1) = lagC (kps (exl l S)) (fun i => ((exl l S).getD i default).2.getD j default) (kps (exl l S)).length := by
    have hl1 := cof_length S (exR l S) j (l.length + 1 - 1)
    have hl2 := lagC_length (kps (exl l S)) (fun i => ((exl l S).getD i default).2.getD j default) (kps (exl l S)).length (Nat.le_refl _)
    apply List.ext_getElem (by rw [hl1, hl2, hp]; rfl)
    intro a b1 b2
    have g1 := cof_get (S := S) (R := exR l S) (j := j) (m := l.length + 1 - 1) (a := a)
    rw [getD_lt b1] at g1
    rw [g1]
    have g2 : (lagC (kps (exl l S)) (fun i => ((exl l S).getD i default).2.getD j default) (kps (exl l S)).length).getD a default = (lagC (kps (exl l S)) (fun i => ((exl l S).getD i default).2.getD j default) (kps (exl l S)).length)[a] := getD_lt b2
    rw [← g2]
    cases a with
    | zero =>
      rw [if_pos rfl, ← hv_at_zero, hv_lagC _ _ _ _ (Nat.le_refl _)]
      have := lag_at (p := kps (exl l S)) (y := fun i => ((exl l S).getD i default).2.getD j default) (j := 0) (h.nodup0 S) (by omega)
      unfold lag at this
      have e0 : (kps (exl l S)).getD 0 default = 0 := by simp [kps, exl, kb]
      rw [e0] at this
      rw [this]
      simp [exl]
    | succ a =>
      have ha : a < l.length := by rw [hl2, hp] at b2; omega
      rw [if_neg (by omega), if_pos (by omega), Nat.add_sub_cancel, ← exR_get hd ha hj]
  rw [hc] at e1
  have e2 := lag_at (p := kps (exl l S)) (y := fun i => ((exl l S).getD i default).2.getD j default) (j := i + 1) (h.nodup0 S) (by omega)
  have e3 : (kps (exl l S)).getD (i + 1) default = kb (l.getD i default).1 := by simp [kps, exl, hi]
  rw [e3, lag, ← hv_lagC _ _ _ _ (Nat.le_refl _)] at e2
  rw [e2] at e1
  simp only [exl, List.getD_cons_succ] at e1
  have hi2 : j < (l.getD i default).2.length := by omega
  have f1 : (ev S (l.length + 1) (exR l S) (kb (l.getD i default).1)).getD j default = (ev S (l.length + 1) (exR l S) (kb (l.getD i default).1))[j] := getD_lt h1
  have f2 : ((l.getD i default).2).getD j default = (l.getD i default).2[j] := getD_lt hi2
  rw [← f1, e1, f2]
end Go.M
