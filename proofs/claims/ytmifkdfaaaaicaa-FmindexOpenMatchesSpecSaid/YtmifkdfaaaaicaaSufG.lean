/- The law RepeatedMatchesSpec, plainly. -/
import Derived.Test.YtmifkdfaaaaicaaSufF
namespace Go.L
open Go
theorem lcp_comm : ∀ l m : List UInt8, lcp l m = lcp m l
  | [], [] => rfl
  | [], _ :: _ => rfl
  | _ :: _, [] => rfl
  | a :: l, b :: m => by
    rw [lcp_cons, lcp_cons, lcp_comm l m]
    by_cases h : a = b
    · rw [if_pos h, if_pos h.symm]
    · rw [if_neg h, if_neg (fun e => h e.symm)]
/-- What lies between shares at least as much with both. -/
theorem lcp_between : ∀ x y z : List UInt8, Lib.compareBytes x y < 0 → Lib.compareBytes y z < 0 → lcp x z ≤ lcp x y ∧ lcp x z ≤ lcp y z
  | [], _, _, _, _ => by simp [lcp]
  | _ :: _, [], _, h, _ => by simp [Lib.compareBytes] at h
  | _ :: _, _ :: _, [], _, h => by simp [Lib.compareBytes] at h
  | a :: x, b :: y, c :: z, h1, h2 => by
    rw [lcp_cons, lcp_cons, lcp_cons]
    by_cases hac : a = c
    · subst hac
      have hab : a = b := by
        unfold Lib.compareBytes at h1 h2
        refine u8_eq_of (fun h => ?_) (fun h => ?_)
        · have h' : ¬ b < a := fun k => by have := UInt8.lt_iff_toNat_lt.1 h; have := UInt8.lt_iff_toNat_lt.1 k; omega
          rw [if_neg h', if_pos h] at h2; omega
        · have h' : ¬ a < b := fun k => by have := UInt8.lt_iff_toNat_lt.1 h; have := UInt8.lt_iff_toNat_lt.1 k; omega
          rw [if_neg h', if_pos h] at h1; omega
      subst hab
      have ha : ¬ a < a := fun k => by have := UInt8.lt_iff_toNat_lt.1 k; omega
      have e1 : Lib.compareBytes x y < 0 := by
        unfold Lib.compareBytes at h1
        rw [if_neg ha, if_neg ha] at h1; exact h1
      have e2 : Lib.compareBytes y z < 0 := by
        unfold Lib.compareBytes at h2
        rw [if_neg ha, if_neg ha] at h2; exact h2
      have := lcp_between x y z e1 e2
      simp only [if_true]
      omega
    · rw [if_neg hac]
      omega
/-- The most that the suffix at i shares with one of the k behind it. -/
def rmx (a : List UInt8) (i : Nat) : Nat → Nat
  | 0 => 0
  | k + 1 => max (rmx a i k) (lcp (a.drop i) (a.drop (i + 1 + k)))
theorem rmx_succ (a : List UInt8) (i k : Nat) : rmx a i (k + 1) = max (rmx a i k) (lcp (a.drop i) (a.drop (i + 1 + k))) := rfl
theorem rmx_ge (a : List UInt8) (i : Nat) : ∀ k j, j < k → lcp (a.drop i) (a.drop (i + 1 + j)) ≤ rmx a i k
  | 0, _, h => by omega
  | k + 1, j, h => by
    rw [rmx_succ]
    rcases Nat.lt_succ_iff_lt_or_eq.1 h with h | h
    · have := rmx_ge a i k j h; omega
    · subst h; omega
theorem rmx_at (a : List UInt8) (i : Nat) : ∀ k, 0 < rmx a i k → ∃ j, j < k ∧ lcp (a.drop i) (a.drop (i + 1 + j)) = rmx a i k
  | 0, h => by simp [rmx] at h
  | k + 1, h => by
    rw [rmx_succ] at h ⊢
    by_cases hc : rmx a i k < lcp (a.drop i) (a.drop (i + 1 + k))
    · exact ⟨k, by omega, by omega⟩
    · obtain ⟨j, h1, h2⟩ := rmx_at a i k (by omega)
      exact ⟨j, by omega, by omega⟩
/-- Where and how much, after k suffixes. -/
def tw (a : List UInt8) : Nat → Nat × Nat
  | 0 => (0, 0)
  | k + 1 => if (tw a k).2 < rmx a k (a.length - (k + 1)) then (k, rmx a k (a.length - (k + 1))) else tw a k
theorem tw_succ (a : List UInt8) (k : Nat) : tw a (k + 1) = if (tw a k).2 < rmx a k (a.length - (k + 1)) then (k, rmx a k (a.length - (k + 1))) else tw a k := rfl
theorem tw_ge (a : List UInt8) : ∀ k i, i < k → rmx a i (a.length - (i + 1)) ≤ (tw a k).2
  | 0, _, h => by omega
  | k + 1, i, h => by
    rw [tw_succ]
    rcases Nat.lt_succ_iff_lt_or_eq.1 h with h | h
    · have := tw_ge a k i h
      split
      · simp only; omega
      · exact this
    · subst h
      split
      · exact Nat.le_refl _
      · omega
theorem tw_at (a : List UInt8) : ∀ k, ((tw a k).2 = 0 ∧ (tw a k).1 = 0) ∨ (0 < (tw a k).2 ∧ (tw a k).1 < k ∧ rmx a (tw a k).1 (a.length - ((tw a k).1 + 1)) = (tw a k).2 ∧ ∀ i, i < (tw a k).1 → rmx a i (a.length - (i + 1)) < (tw a k).2)
  | 0 => .inl ⟨rfl, rfl⟩
  | k + 1 => by
    rw [tw_succ]
    by_cases hc : (tw a k).2 < rmx a k (a.length - (k + 1))
    · rw [if_pos hc]
      exact .inr ⟨by simp only; omega, by simp only; omega, rfl, fun i hi => by have := tw_ge a k i hi; simp only; omega⟩
    · rw [if_neg hc]
      rcases tw_at a k with h | ⟨h1, h2, h3, h4⟩
      · exact .inl h
      · exact .inr ⟨h1, by omega, h3, h4⟩
end Go.L
namespace Go.Proofs.Ytmifkdfaaaaicaa
open Go Go.L
theorem twice_inner {a : List UInt8} (h : a.length ≤ 2048) {i : Nat} (hi : i < a.length) (p : Nat × Nat) :
    ref4_Twice_l4 a (i : Int) ((p.1 : Int), (p.2 : Int), ((i + 1 : Nat) : Int)) = ref4_Twice_k3 (i : Int) ((if p.2 < rmx a i (a.length - (i + 1)) then (i, rmx a i (a.length - (i + 1))) else p).1 : Int) ((if p.2 < rmx a i (a.length - (i + 1)) then (i, rmx a i (a.length - (i + 1))) else p).2 : Int) := by
  unfold ref4_Twice_l4
  have hr := run_count (b := ref4_Twice_bl4 a (i : Int)) (m := ref4_Twice_k3 (i : Int) ((if p.2 < rmx a i (a.length - (i + 1)) then (i, rmx a i (a.length - (i + 1))) else p).1 : Int) ((if p.2 < rmx a i (a.length - (i + 1)) then (i, rmx a i (a.length - (i + 1))) else p).2 : Int))
    (fun k => (((if p.2 < rmx a i k then (i, rmx a i k) else p).1 : Int), ((if p.2 < rmx a i k then (i, rmx a i k) else p).2 : Int), ((i + 1 + k : Nat) : Int))) (a.length - (i + 1)) (fun k hk => ?_) ?_ 0 (Nat.zero_le _)
  · simpa [rmx] using hr
  · show ref4_Twice_bl4 a _ (_, _, _) = _
    unfold ref4_Twice_bl4
    dsimp only
    have hsh := ref_shared (a := a) (x := (i : Int)) (y := ((i + 1 + k : Nat) : Int)) h (by omega) (by omega)
    rw [Int.toNat_natCast, Int.toNat_natCast] at hsh
    rw [if_pos (by omega), hsh, Option.bind_some, rmx_succ]
    by_cases hc : p.2 < rmx a i k
    · simp only [if_pos hc]
      rw [if_pos (show p.2 < max (rmx a i k) (lcp (a.drop i) (a.drop (i + 1 + k))) by omega)]
      by_cases hx : rmx a i k < lcp (a.drop i) (a.drop (i + 1 + k))
      · rw [if_pos (by omega), Option.bind_some, chk_pos (by unfold I64; omega), Nat.max_eq_right (by omega)]
        simp; omega
      · rw [if_neg (by omega), chk_pos (by unfold I64; omega), Nat.max_eq_left (by omega)]
        simp; omega
    · rw [if_neg hc]
      by_cases hx : p.2 < lcp (a.drop i) (a.drop (i + 1 + k))
      · rw [if_pos (by omega), Option.bind_some, chk_pos (by unfold I64; omega), if_pos (by omega), Nat.max_eq_right (by omega)]
        simp; omega
      · rw [if_neg (by omega), chk_pos (by unfold I64; omega), if_neg (by omega)]
        simp; omega
  · show ref4_Twice_bl4 a _ (_, _, _) = _
    unfold ref4_Twice_bl4
    dsimp only
    rw [if_neg (by omega)]
theorem rmx_le (a : List UInt8) (i : Nat) : ∀ k, rmx a i k ≤ a.length
  | 0 => Nat.zero_le _
  | k + 1 => by
    have := rmx_le a i k
    have h2 := (lcp_le (a.drop i) (a.drop (i + 1 + k))).1
    rw [List.length_drop] at h2
    rw [rmx_succ]; omega
theorem tw_le (a : List UInt8) : ∀ k, k ≤ a.length → (tw a k).1 ≤ a.length ∧ (tw a k).2 ≤ a.length
  | 0, _ => by simp [tw]
  | k + 1, h => by
    have := tw_le a k (by omega)
    have h2 := rmx_le a k (a.length - (k + 1))
    rw [tw_succ]
    split
    · simp only; omega
    · exact this
theorem ref_twice {a : List UInt8} (h : a.length ≤ 2048) : ref4_Twice a = some (((tw a a.length).1 : Int), ((tw a a.length).2 : Int)) := by
  unfold ref4_Twice ref4_Twice_l2
  have hr := run_count (b := ref4_Twice_bl2 a) (m := some (((tw a a.length).1 : Int), ((tw a a.length).2 : Int))) (fun k => (((tw a k).1 : Int), ((tw a k).2 : Int), ((k : Nat) : Int))) a.length (fun k hk => ?_) ?_ 0 (Nat.zero_le _)
  · exact hr
  · show ref4_Twice_bl2 a (_, _, _) = _
    unfold ref4_Twice_bl2
    dsimp only
    rw [if_pos (by omega), chk_pos (by unfold I64; omega)]
    have := twice_inner h hk (tw a k)
    rw [show (k : Int) + 1 = ((k + 1 : Nat) : Int) by omega, this, ← tw_succ]
    unfold ref4_Twice_k3
    rw [chk_pos (by unfold I64; omega)]
    rfl
  · show ref4_Twice_bl2 a (_, _, _) = _
    unfold ref4_Twice_bl2
    dsimp only
    rw [if_neg (by omega)]
    rfl
theorem mxI_ge (l : List Int) : ∀ k j, j ≤ k → l.getD j default ≤ mxI l k
  | 0, j, h => by obtain rfl : j = 0 := by omega
                  exact Int.le_refl _
  | k + 1, j, h => by
    rw [mxI_succ]
    rcases Nat.lt_or_ge j (k + 1) with h | h
    · have := mxI_ge l k j (by omega); omega
    · obtain rfl : j = k + 1 := by omega
      omega
theorem mxI_at (l : List Int) : ∀ k, ∃ j, j ≤ k ∧ l.getD j default = mxI l k
  | 0 => ⟨0, Nat.le_refl _, rfl⟩
  | k + 1 => by
    obtain ⟨j, h1, h2⟩ := mxI_at l k
    rw [mxI_succ]
    by_cases h : mxI l k ≤ l.getD (k + 1) default
    · exact ⟨k + 1, Nat.le_refl _, by omega⟩
    · exact ⟨j, by omega, by omega⟩
theorem fstI_le (c o : List Int) (m n : Int) : ∀ k j, j < k → c.getD j default = m → fstI c o m n k ≤ o.getD j default ∧ fstI c o m n k ≤ o.getD (j - 1) default
  | 0, _, h, _ => by omega
  | k + 1, j, h, hm => by
    rw [fstI_succ]
    rcases Nat.lt_succ_iff_lt_or_eq.1 h with h | h
    · have := fstI_le c o m n k j h hm
      split <;> omega
    · subst h
      rw [if_pos hm]; omega
theorem fstI_at (c o : List Int) (m n : Int) : ∀ k, fstI c o m n k = n ∨ ∃ j, j < k ∧ c.getD j default = m ∧ (fstI c o m n k = o.getD j default ∨ fstI c o m n k = o.getD (j - 1) default)
  | 0 => .inl rfl
  | k + 1 => by
    rw [fstI_succ]
    by_cases hc : c.getD k default = m
    · rw [if_pos hc]
      rcases Int.le_total (min (fstI c o m n k) (o.getD k default)) (o.getD (k - 1) default) with h1 | h1
      · rw [Int.min_eq_left h1]
        rcases Int.le_total (fstI c o m n k) (o.getD k default) with h2 | h2
        · rw [Int.min_eq_left h2]
          rcases fstI_at c o m n k with h | ⟨j, h3, h4, h5⟩
          · exact .inl h
          · exact .inr ⟨j, by omega, h4, h5⟩
        · rw [Int.min_eq_right h2]; exact .inr ⟨k, by omega, hc, .inl rfl⟩
      · rw [Int.min_eq_right h1]; exact .inr ⟨k, by omega, hc, .inr rfl⟩
    · rw [if_neg hc]
      rcases fstI_at c o m n k with h | ⟨j, h3, h4, h5⟩
      · exact .inl h
      · exact .inr ⟨j, by omega, h4, h5⟩
/-- The position of the suffix of rank i. -/
def pos (a : List UInt8) (i : Nat) : Nat := ((sufArr a).getD i default).toNat
theorem pos_get {a : List UInt8} {i : Nat} (h : i < a.length) : (sufArr a).getD i default = (pos a i : Int) ∧ pos a i < a.length := by
  have := suf_get h
  unfold pos; omega
theorem pos_cmp {a : List UInt8} {i j : Nat} (hij : i < j) (hj : j < a.length) : Lib.compareBytes (a.drop (pos a i)) (a.drop (pos a j)) < 0 := (cmp_less _ _).2 (suf_lt hij hj)
theorem pos_ne {a : List UInt8} {i j : Nat} (hij : i < j) (hj : j < a.length) : pos a i ≠ pos a j := fun e => by
  have h := pos_cmp hij hj
  rw [e] at h
  have := cmp_swap (a.drop (pos a j)) (a.drop (pos a j))
  omega
theorem pos_onto {a : List UInt8} {p : Nat} (h : p < a.length) : ∃ i, i < a.length ∧ pos a i = p := by
  have hm : (p : Int) ∈ sufArr a := (sufArr_perm a).mem_iff.2 (iota_mem.2 (by omega))
  obtain ⟨i, hi, e⟩ := List.getElem_of_mem hm
  refine ⟨i, by rw [sufArr_length] at hi; exact hi, ?_⟩
  unfold pos
  rw [getD_at hi, e]; rfl
theorem com_pos {a : List UInt8} {j : Nat} (h0 : 0 < j) (h : j < a.length) : (com a (sufArr a) a.length).getD j default = (lcp (a.drop (pos a (j - 1))) (a.drop (pos a j)) : Int) := by
  rw [com_get h, if_neg (by omega)]; rfl
theorem neigh {a : List UInt8} {i j : Nat} (hij : i < j) (hj : j < a.length) :
    lcp (a.drop (pos a i)) (a.drop (pos a j)) ≤ lcp (a.drop (pos a (j - 1))) (a.drop (pos a j)) ∧ lcp (a.drop (pos a i)) (a.drop (pos a j)) ≤ lcp (a.drop (pos a i)) (a.drop (pos a (i + 1))) := by
  by_cases e : j = i + 1
  · subst e
    rw [Nat.add_sub_cancel]
    exact ⟨Nat.le_refl _, Nat.le_refl _⟩
  · exact ⟨(lcp_between _ _ _ (pos_cmp (show i < j - 1 by omega) (by omega)) (pos_cmp (show j - 1 < j by omega) hj)).2, (lcp_between _ _ _ (pos_cmp (show i < i + 1 by omega) (by omega)) (pos_cmp (show i + 1 < j by omega) hj)).1⟩
theorem rmx_pair {a : List UInt8} {x y : Nat} (hxy : x < y) (hy : y < a.length) : lcp (a.drop x) (a.drop y) ≤ rmx a x (a.length - (x + 1)) := by
  have := rmx_ge a x (a.length - (x + 1)) (y - x - 1) (by omega)
  rw [show x + 1 + (y - x - 1) = y by omega] at this
  exact this
/-- The most that neighbours share. -/
theorem com_top {a : List UInt8} {x y : Nat} (hne : x ≠ y) (hx : x < a.length) (hy : y < a.length) :
    ∃ i, i < a.length ∧ pos a i = x ∧ (((lcp (a.drop x) (a.drop y) : Int) ≤ (com a (sufArr a) a.length).getD i default ∧ 0 < i) ∨ (i + 1 < a.length ∧ (lcp (a.drop x) (a.drop y) : Int) ≤ (com a (sufArr a) a.length).getD (i + 1) default)) := by
  obtain ⟨i, hi, ei⟩ := pos_onto hx
  obtain ⟨j, hj, ej⟩ := pos_onto hy
  refine ⟨i, hi, ei, ?_⟩
  rcases Nat.lt_trichotomy i j with h | h | h
  · right
    refine ⟨by omega, ?_⟩
    have := (neigh h hj).2
    rw [ei, ej] at this
    rw [com_pos (by omega) (by omega), Nat.add_sub_cancel, ei]
    omega
  · subst h; omega
  · left
    refine ⟨?_, by omega⟩
    have := (neigh h hi).1
    rw [ei, ej] at this
    rw [com_pos (by omega) (by omega), lcp_comm (a.drop x), ei]
    omega
theorem rep_tw (a : List UInt8) : repI a (sufArr a) (com a (sufArr a) a.length) = (((tw a a.length).1 : Int), ((tw a a.length).2 : Int)) := by
  unfold repI
  by_cases hz : a.length = 0
  · rw [if_pos hz, hz]; rfl
  rw [if_neg hz]
  generalize hM : mxI (com a (sufArr a) a.length) (a.length - 1) = M
  have hcM : ∀ j, j < a.length → (com a (sufArr a) a.length).getD j default ≤ M := fun j hj => by
    rw [← hM]; exact mxI_ge _ _ _ (by omega)
  have h0 : (com a (sufArr a) a.length).getD 0 default = 0 := com_zero (by omega)
  have hM0 : 0 ≤ M := by have := hcM 0 (by omega); omega
  have hle : ((tw a a.length).2 : Int) ≤ M := by
    rcases tw_at a a.length with ⟨h1, _⟩ | ⟨h1, h2, h3, _⟩
    · omega
    · obtain ⟨j, hj, e⟩ := rmx_at a _ _ (by rw [h3]; exact h1)
      obtain ⟨i, hi, _, hc⟩ := com_top (a := a) (x := (tw a a.length).1) (y := (tw a a.length).1 + 1 + j) (by omega) h2 (by omega)
      rw [e, h3] at hc
      rcases hc with ⟨hc, _⟩ | ⟨hi', hc⟩
      · have := hcM i hi; omega
      · have := hcM (i + 1) hi'; omega
  have pair : ∀ j, 0 < j → j < a.length → (com a (sufArr a) a.length).getD j default = M → ∃ x y : Nat, x < y ∧ y < a.length ∧ M ≤ (rmx a x (a.length - (x + 1)) : Int) ∧ (x : Int) ≤ (sufArr a).getD j default ∧ (x : Int) ≤ (sufArr a).getD (j - 1) default := by
    intro j hj0 hj hc
    rw [com_pos hj0 hj] at hc
    obtain ⟨g1, g2⟩ := pos_get (a := a) (i := j) hj
    obtain ⟨g3, g4⟩ := pos_get (a := a) (i := j - 1) (by omega)
    rcases Nat.lt_trichotomy (pos a (j - 1)) (pos a j) with h | h | h
    · have := rmx_pair h g2
      exact ⟨_, _, h, g2, by omega, by omega, by omega⟩
    · exact absurd h (pos_ne (by omega) hj)
    · have := rmx_pair h g4
      rw [lcp_comm] at this
      exact ⟨_, _, h, g4, by omega, by omega, by omega⟩
  have hge : M ≤ ((tw a a.length).2 : Int) := by
    obtain ⟨j, hj, e⟩ := mxI_at (com a (sufArr a) a.length) (a.length - 1)
    rw [hM] at e
    rcases Nat.eq_zero_or_pos j with hj0 | hj0
    · subst hj0; omega
    · obtain ⟨x, y, hxy, hy, hr, _, _⟩ := pair j hj0 (by omega) e
      have := tw_ge a a.length x (by omega)
      omega
  have hEq : ((tw a a.length).2 : Int) = M := by omega
  by_cases hMz : M = 0
  · rw [if_pos hMz]
    rcases tw_at a a.length with ⟨h1, h2⟩ | ⟨h1, _⟩
    · rw [h1, h2]; rfl
    · omega
  · rw [if_neg hMz, hEq]
    congr 1
    rcases tw_at a a.length with ⟨h1, _⟩ | ⟨h1, h2, h3, h4⟩
    · omega
    refine Int.le_antisymm ?_ ?_
    · obtain ⟨j, hj, e⟩ := rmx_at a _ _ (by rw [h3]; exact h1)
      obtain ⟨i, hi, ei, hc⟩ := com_top (a := a) (x := (tw a a.length).1) (y := (tw a a.length).1 + 1 + j) (by omega) h2 (by omega)
      rw [e, h3, hEq] at hc
      have gi := (pos_get hi).1
      rw [ei] at gi
      rcases hc with ⟨hc, _⟩ | ⟨hi', hc⟩
      · have := (fstI_le (com a (sufArr a) a.length) (sufArr a) M a.length a.length i hi (by have := hcM i hi; omega)).1
        omega
      · have := (fstI_le (com a (sufArr a) a.length) (sufArr a) M a.length a.length (i + 1) hi' (by have := hcM (i + 1) hi'; omega)).2
        rw [Nat.add_sub_cancel] at this
        omega
    · rcases fstI_at (com a (sufArr a) a.length) (sufArr a) M a.length a.length with e | ⟨j, hj, hc, e⟩
      · rw [e]; omega
      · have hj0 : 0 < j := by
          rcases Nat.eq_zero_or_pos j with hj0 | hj0
          · subst hj0; rw [h0] at hc; exact absurd hc.symm hMz
          · exact hj0
        obtain ⟨x, y, hxy, hy, hr, hx1, hx2⟩ := pair j hj0 hj hc
        rcases Nat.lt_or_ge x (tw a a.length).1 with hx | hx
        · have := h4 x hx; omega
        · rcases e with e | e <;> rw [e] <;> omega
theorem repeated_matches {a : List UInt8} : law4_SuffixRepeatedMatchesSpec a = some true := by
  unfold law4_SuffixRepeatedMatchesSpec
  rw [suf_Repeated, Option.bind_some, text_fault, Option.bind_some, sorts_true, Option.bind_some, if_neg (by decide)]
  by_cases ha : a.length ≤ 2048
  · rw [if_pos ha, if_pos ha, if_pos ⟨rfl, rfl⟩, if_pos rfl]
    by_cases hb : 150 < a.length
    · rw [if_pos (by omega)]
    · rw [if_neg (by omega), ref_twice ha, Option.bind_some, rep_tw]
      simp
  · rw [if_neg ha, if_neg ha, if_pos ⟨rfl, rfl⟩, if_neg (by decide), Option.bind_some, if_pos rfl]
    simp
end Go.Proofs.Ytmifkdfaaaaicaa
