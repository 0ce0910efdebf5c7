/- fmindex: backward search, plainly. -/
import Derived.Test.YtmifkdfaaaaicaaFmC
namespace Go.L
open Go
theorem cls_cons (c d : UInt8) (p l : List UInt8) {k : Nat} (h1 : 1 ≤ k) (h2 : k ≤ 2) : cls (c :: p) (d :: l) < k ↔ d.toNat < c.toNat ∨ d.toNat = c.toNat ∧ cls p l < k := by
  have hle : cls p l ≤ 2 := by unfold cls; split; omega; split <;> omega
  have hless : Op.bytesLess (d :: l) (c :: p) = true ↔ d.toNat < c.toNat ∨ d.toNat = c.toNat ∧ Op.bytesLess l p = true := by
    rw [← cmp_less, ← cmp_less]; exact cmp_cons d c l p
  unfold cls at hle ⊢
  rw [pre_cons]
  by_cases hd : d = c
  · subst hd
    simp only [decide_true, Bool.true_and]
    by_cases hp : pre l p = true
    · rw [if_pos hp, if_pos hp]; simp
    · rw [if_neg hp, if_neg hp]
      by_cases hl : Op.bytesLess l p = true
      · rw [if_pos hl, if_pos (hless.2 (.inr ⟨rfl, hl⟩))]; simp
      · rw [if_neg hl, if_neg (fun h => by rcases hless.1 h with h | h; omega; exact hl h.2)]; simp
  · have hne : d.toNat ≠ c.toNat := fun e => hd (UInt8.toNat.inj e)
    rw [decide_eq_false hd, Bool.false_and, if_neg (by decide)]
    by_cases hl : d.toNat < c.toNat
    · rw [if_pos (hless.2 (.inl hl))]; omega
    · rw [if_neg (fun h => by rcases hless.1 h with h | h; exact hl h; exact hne h.1)]; omega
/-- How many rows come ahead of those with the pattern (k = 1), or of what comes behind them (k = 2). -/
def bnd (a p : List UInt8) (k : Nat) : Nat := (List.range (a.length + 1)).countP fun q => decide (cls p (a.drop q) < k)
theorem bnd_row (a p : List UInt8) (k : Nat) {r : Nat} (hr : r < (op a).length) : cls p (a.drop (op a)[r]) < k ↔ r < bnd a p k := by
  have hasc : ((op a).map fun x => cls p (a.drop x)).Pairwise (· ≤ ·) := by
    rw [List.pairwise_map]
    exact (op_sorted a).imp fun h => cls_mono (of_decide_eq_true h)
  have h := asc_count _ k r hasc (by rw [List.length_map]; exact hr)
  rw [List.countP_map, (op_perm a).countP_eq] at h
  have hg : ((op a).map fun x => cls p (a.drop x)).getD r 0 = cls p (a.drop (op a)[r]) := by
    rw [List.getD_eq_getElem?_getD, List.getElem?_map, List.getElem?_eq_getElem hr]; rfl
  rw [hg] at h
  exact h
theorem bnd_le (a p : List UInt8) (k : Nat) : bnd a p k ≤ a.length + 1 := by
  have := List.countP_le_length (p := fun q => decide (cls p (a.drop q) < k)) (l := List.range (a.length + 1))
  rw [List.length_range] at this; exact this
theorem bnd_mono (a p : List UInt8) : bnd a p 1 ≤ bnd a p 2 := List.countP_mono_left fun q _ h => decide_eq_true (by have := of_decide_eq_true h; omega)
theorem bnd_nil (a : List UInt8) : bnd a [] 1 = 0 ∧ bnd a [] 2 = a.length + 1 := by
  have h : ∀ q, cls [] (a.drop q) = 1 := fun q => by unfold cls; rw [pre_nil, if_pos rfl]
  unfold bnd
  constructor
  · exact List.countP_eq_zero.2 (fun q _ => by rw [h]; decide)
  · rw [List.countP_eq_length.2 (fun q _ => by rw [h]; decide), List.length_range]
/-- Counts over rows are counts over positions. -/
theorem rows_count (a : List UInt8) (f : Nat → Bool) (g : Nat → Bool) (h : ∀ r (hr : r < (op a).length), f r = g (op a)[r]) : (List.range (sym a).length).countP f = (List.range (a.length + 1)).countP g := by
  rw [← op_countP a g]
  apply List.countP_congr
  intro r hr
  have hr : r < (op a).length := by rw [op_length, ← sym_length]; exact List.mem_range.1 hr
  rw [h r hr, opD hr]
/-- The numbers that a step counts. -/
def lessC (s : List Int) (c : Int) (k : Nat) : Nat := (List.range k).countP fun r => decide (0 ≤ s.getD r default ∧ s.getD r default < c)
def sameC (s : List Int) (c : Int) (f k : Nat) : Nat := (List.range k).countP fun r => decide (s.getD r default = c ∧ r < f)
theorem countP_or {α : Type} (f g h : α → Bool) (e : ∀ x, h x = (f x || g x)) (d : ∀ x, f x = true → g x = false) : ∀ l : List α, l.countP h = l.countP f + l.countP g
  | [] => rfl
  | x :: l => by
    rw [List.countP_cons, List.countP_cons, List.countP_cons, countP_or f g h e d l, e x]
    cases hf : f x with
    | false => simp; omega
    | true => rw [d x hf]; simp; omega
theorem step_bnd (a p : List UInt8) (c : UInt8) {k : Nat} (h1 : 1 ≤ k) (h2 : k ≤ 2) : 1 + lessC (sym a) (c.toNat : Int) (sym a).length + sameC (sym a) (c.toNat : Int) (bnd a p k) (sym a).length = bnd a (c :: p) k := by
  unfold lessC sameC
  rw [rows_count a _ (fun q => decide (1 ≤ q ∧ symOf a q < (c.toNat : Int))) (fun r hr => by rw [sym_get a hr]; exact decide_eq_decide.2 (by rw [symOf_nonneg])),
    rows_count a _ (fun q => decide (symOf a q = (c.toNat : Int) ∧ cls p (a.drop q) < k)) (fun r hr => by rw [sym_get a hr]; exact decide_eq_decide.2 (by rw [bnd_row a p k hr])),
    Nat.add_assoc, ← countP_or _ _ (fun q => decide (1 ≤ q ∧ symOf a q < (c.toNat : Int)) || decide (symOf a q = (c.toNat : Int) ∧ cls p (a.drop q) < k)) (fun _ => rfl) (fun q h => by
      have := of_decide_eq_true h
      exact decide_eq_false (by omega))]
  have eb : bnd a (c :: p) k = (List.range a.length).countP (fun q => decide (cls (c :: p) (a.drop q) < k)) + [a.length].countP (fun q => decide (cls (c :: p) (a.drop q) < k)) := by
    unfold bnd
    rw [List.range_succ, List.countP_append]
  rw [eb]
  have e0 : (decide (1 ≤ 0 ∧ symOf a 0 < (c.toNat : Int)) || decide (symOf a 0 = (c.toNat : Int) ∧ cls p (a.drop 0) < k)) = false := by
    have : symOf a 0 = -1 := by unfold symOf; rw [if_pos rfl]
    rw [this, decide_eq_false (by omega), decide_eq_false (by omega)]; rfl
  rw [countP_shift a.length (fun q => decide (1 ≤ q ∧ symOf a q < (c.toNat : Int)) || decide (symOf a q = (c.toNat : Int) ∧ cls p (a.drop q) < k)) e0]
  have e1 : (List.range a.length).countP (fun q => decide (1 ≤ q + 1 ∧ symOf a (q + 1) < (c.toNat : Int)) || decide (symOf a (q + 1) = (c.toNat : Int) ∧ cls p (a.drop (q + 1)) < k)) = (List.range a.length).countP (fun q => decide (cls (c :: p) (a.drop q) < k)) := by
    apply List.countP_congr
    intro q hq
    have hq := List.mem_range.1 hq
    have hd := drop_cons (a := a) (q := q + 1) (by omega) (by omega)
    rw [Nat.add_sub_cancel] at hd
    rw [hd]
    simp only [Bool.or_eq_true, decide_eq_true_eq]
    rw [cls_cons c _ p _ h1 h2]
    unfold symOf
    rw [if_neg (by omega), Nat.add_sub_cancel]
    omega
  have e2 : decide (cls (c :: p) (a.drop a.length) < k) = true := by
    rw [List.drop_length]
    have : cls (c :: p) [] = 0 := by unfold cls; rw [pre_none]; rfl
    rw [this]; exact decide_eq_true (by omega)
  rw [e1, List.countP_singleton, e2, if_pos rfl]
  omega
end Go.L
namespace Go.Proofs.Ytmifkdfaaaaicaa
open Go Go.L
theorem fm_step {s : List Int} (hl : s.length ≤ 2049) (h0 : ∀ r, r < s.length → -1 ≤ s.getD r default) {c : Int} (hc : 0 ≤ c) (f t : Nat) : fmindex_transform_step s c (f : Int) (t : Int) = some (((1 + lessC s c s.length + sameC s c f s.length : Nat) : Int), ((1 + lessC s c s.length + sameC s c t s.length : Nat) : Int)) := by
  have b1 : ∀ k, lessC s c k ≤ k := fun k => by have := List.countP_le_length (p := fun r => decide (0 ≤ s.getD r default ∧ s.getD r default < c)) (l := List.range k); rw [List.length_range] at this; exact this
  have b2 : ∀ f k, sameC s c f k ≤ k := fun f k => by have := List.countP_le_length (p := fun r => decide (s.getD r default = c ∧ r < f)) (l := List.range k); rw [List.length_range] at this; exact this
  have s1 : ∀ k, lessC s c (k + 1) = lessC s c k + if 0 ≤ s.getD k default ∧ s.getD k default < c then 1 else 0 := fun k => by
    unfold lessC
    rw [List.range_succ, List.countP_append, List.countP_singleton]
    simp only [decide_eq_true_eq]
  have s2 : ∀ f k, sameC s c f (k + 1) = sameC s c f k + if s.getD k default = c ∧ k < f then 1 else 0 := fun f k => by
    unfold sameC
    rw [List.range_succ, List.countP_append, List.countP_singleton]
    simp only [decide_eq_true_eq]
  refine run_count (b := fmindex_transform_step_bl2 s c f t) (fun k => (((1 + lessC s c k : Nat) : Int), (sameC s c f k : Int), (sameC s c t k : Int), (k : Int))) s.length (fun k hk => ?_) ?_ 0 (Nat.zero_le _)
  · have k3 : ∀ x y : Nat, x ≤ 5000 → y ≤ 5000 → fmindex_transform_step_k3 s c (t : Int) (sameC s c t k : Int) (k : Int) (x : Int) (y : Int) = some (.inl ((x : Int), (y : Int), (sameC s c t (k + 1) : Int), ((k + 1 : Nat) : Int))) := fun x y hx hy => by
      unfold fmindex_transform_step_k3
      have := b2 t k
      rw [Int.toNat_natCast, s2 t k]
      by_cases h : s.getD k default = c ∧ k < t
      · rw [if_pos (by omega), if_pos h, chk_pos (by constructor <;> omega), chk_pos (by constructor <;> omega)]; rfl
      · rw [if_neg (by omega), if_neg h, chk_pos (by constructor <;> omega)]; rfl
    have q1 := b1 k
    have q2 := b2 f k
    have q3 := h0 k hk
    unfold fmindex_transform_step_bl2
    simp only
    rw [if_pos (by omega), chk_pos (by omega), Int.toNat_natCast, s1 k, s2 f k]
    by_cases h1 : s.getD k default = -1
    · rw [if_pos h1, k3 _ _ (by omega) (by omega), if_neg (by omega), if_neg (by omega)]; rfl
    · rw [if_neg h1]
      by_cases h2 : s.getD k default < c
      · rw [if_pos h2, chk_pos (by constructor <;> omega), show ((1 + lessC s c k : Nat) : Int) + 1 = ((1 + lessC s c k + 1 : Nat) : Int) by omega, k3 _ _ (by omega) (by omega), if_pos (by omega), if_neg (by omega)]; rfl
      · rw [if_neg h2, if_neg (show ¬ (0 ≤ s.getD k default ∧ s.getD k default < c) by omega)]
        by_cases h3 : s.getD k default = c ∧ k < f
        · rw [if_pos (by omega), chk_pos (by constructor <;> omega), show (sameC s c f k : Int) + 1 = ((sameC s c f k + 1 : Nat) : Int) by omega, k3 _ _ (by omega) (by omega), if_pos h3]; rfl
        · rw [if_neg (by omega), k3 _ _ (by omega) (by omega), if_neg h3]; rfl
  · have q1 := b1 s.length
    have q2 := b2 f s.length
    have q3 := b2 t s.length
    unfold fmindex_transform_step_bl2
    simp only
    rw [if_neg (by omega)]
    unfold fmindex_transform_step_k1
    rw [chk_pos (by constructor <;> omega), chk_pos (by constructor <;> omega)]
    rfl
theorem fm_find_loop {a p : List UInt8} (h : a.length ≤ 2048) (hp : p.length ≤ 64) : ∀ k, k ≤ p.length →
    ∃ f t : Nat, fmindex_Index_find_l2 (idx a) p ((bnd a (p.drop k) 1 : Int), (bnd a (p.drop k) 2 : Int), (k : Int) - 1) = some ((f : Int), (t : Int), (0, 0)) ∧ f ≤ t ∧ t ≤ a.length + 1 ∧ (f = t → bnd a p 1 = bnd a p 2) ∧ (f < t → f = bnd a p 1 ∧ t = bnd a p 2)
  | 0, _ => by
    refine ⟨bnd a p 1, bnd a p 2, run_inr (b := fmindex_Index_find_bl2 (idx a) p) (m := some _) ?_, bnd_mono a p, bnd_le a p 2, id, fun _ => ⟨rfl, rfl⟩⟩
    unfold fmindex_Index_find_bl2
    simp only
    have := bnd_mono a p
    rw [if_neg (by omega), List.drop_zero]
    unfold fmindex_Index_find_k1
    rw [show max (bnd a p 1 : Int) (bnd a p 2 : Int) = (bnd a p 2 : Int) by omega]
  | k + 1, hk => by
    have hm := bnd_mono a (p.drop (k + 1))
    by_cases hlt : bnd a (p.drop (k + 1)) 1 < bnd a (p.drop (k + 1)) 2
    · have hd : p.drop k = p.getD k default :: p.drop (k + 1) := by
        have := drop_cons (a := p) (q := k + 1) (by omega) hk
        rw [Nat.add_sub_cancel] at this; exact this
      have hb : fmindex_Index_find_bl2 (idx a) p ((bnd a (p.drop (k + 1)) 1 : Int), (bnd a (p.drop (k + 1)) 2 : Int), ((k + 1 : Nat) : Int) - 1) = some (.inl ((bnd a (p.drop k) 1 : Int), (bnd a (p.drop k) 2 : Int), (k : Int) - 1)) := by
        unfold fmindex_Index_find_bl2
        simp only
        have e1 : (((k + 1 : Nat) : Int) - 1).toNat = k := by omega
        have e2 : (idx a).1 = sym a := rfl
        rw [if_pos (by omega), chk_pos (by omega), e1, e2, fm_step (by rw [sym_length]; omega) (fun r hr => by rw [sym_get a (by rw [op_length, ← sym_length]; exact hr)]; unfold symOf; split <;> omega) (by omega), Option.bind_some, chk_pos (by constructor <;> omega), step_bnd a _ _ (by omega) (by omega), step_bnd a _ _ (by omega) (by omega), ← hd]
        congr 4; omega
      unfold fmindex_Index_find_l2
      rw [run_inl hb]
      exact fm_find_loop h hp k (by omega)
    · have he : bnd a (p.drop (k + 1)) 1 = bnd a (p.drop (k + 1)) 2 := by omega
      have hnone : ∀ j, j ≤ k + 1 → bnd a (p.drop (k + 1 - j)) 1 = bnd a (p.drop (k + 1 - j)) 2 := by
        intro j
        induction j with
        | zero => intro _; exact he
        | succ j ih =>
          intro hj
          have ih := ih (by omega)
          have hd : p.drop (k + 1 - (j + 1)) = p.getD (k + 1 - (j + 1)) default :: p.drop (k + 1 - j) := by
            have := drop_cons (a := p) (q := k + 1 - j) (by omega) (by omega)
            rw [show k + 1 - (j + 1) = k + 1 - j - 1 by omega]; exact this
          rw [hd, ← step_bnd a _ _ (by omega) (by omega), ← step_bnd a _ _ (by omega) (by omega), ih]
      have hz := hnone (k + 1) (by omega)
      rw [Nat.sub_self, List.drop_zero] at hz
      refine ⟨bnd a (p.drop (k + 1)) 1, bnd a (p.drop (k + 1)) 1, run_inr (b := fmindex_Index_find_bl2 (idx a) p) (m := some _) ?_, Nat.le_refl _, bnd_le a _ 1, fun _ => hz, fun h => absurd h (by omega)⟩
      unfold fmindex_Index_find_bl2
      simp only
      rw [if_neg (by omega)]
      unfold fmindex_Index_find_k1
      rw [← he, Int.max_self]
def pf (p : List UInt8) : Int × Int := if p.length = 0 then (10, -1) else if p.length ≤ 64 then (0, 0) else (3, -1)
theorem fm_find {a p : List UInt8} (h : a.length ≤ 2048) : ∃ f t : Nat, fmindex_Index_find (idx a) p = some ((f : Int), (t : Int), pf p) ∧ f ≤ t ∧ t ≤ a.length + 1 ∧ (pf p ≠ (0, 0) → f = 0 ∧ t = 0) ∧ (pf p = (0, 0) → (f = t → bnd a p 1 = bnd a p 2) ∧ (f < t → f = bnd a p 1 ∧ t = bnd a p 2)) := by
  unfold fmindex_Index_find pf
  by_cases h0 : p.length = 0
  · rw [if_pos (by omega), if_pos h0]
    exact ⟨0, 0, rfl, Nat.le_refl _, Nat.zero_le _, fun _ => ⟨rfl, rfl⟩, fun e => absurd e (by decide)⟩
  · rw [if_neg (by omega), if_neg h0]
    by_cases h1 : p.length ≤ 64
    · rw [if_neg (by omega), if_pos h1]
      have e : fmindex_transform_rows (idx a).1 = some ((a.length + 1 : Nat) : Int) := by
        unfold fmindex_transform_rows
        rw [show (idx a).1.length = a.length + 1 from sym_length a]
        congr 1; omega
      rw [e, Option.bind_some, chk_pos (by constructor <;> omega)]
      obtain ⟨f, t, q1, q2, q3, q4, q5⟩ := fm_find_loop h h1 p.length (Nat.le_refl _)
      rw [List.drop_length, (bnd_nil a).1, (bnd_nil a).2] at q1
      exact ⟨f, t, q1, q2, q3, fun e => absurd rfl e, fun _ => ⟨q4, q5⟩⟩
    · rw [if_pos (by omega), if_neg h1]
      exact ⟨0, 0, rfl, Nat.le_refl _, Nat.zero_le _, fun _ => ⟨rfl, rfl⟩, fun e => absurd e (by decide)⟩
end Go.Proofs.Ytmifkdfaaaaicaa
