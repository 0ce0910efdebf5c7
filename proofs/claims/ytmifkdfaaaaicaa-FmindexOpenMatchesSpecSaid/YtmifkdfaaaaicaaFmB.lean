/- fmindex.fromSymbols and Build, plainly. -/
import Derived.Test.YtmifkdfaaaaicaaFmA
namespace Go.L
open Go
/-- How far the rows in front are known when the byte c is reached, k rows of it looked at. -/
def lbP (s : List Int) (c : Int) (k r : Nat) : Bool := decide (0 ≤ s.getD r default ∧ (s.getD r default < c ∨ s.getD r default = c ∧ r < k))
def LB (s : List Int) (c : Int) (k : Nat) : List Int := (List.range s.length).map fun r => if lbP s c k r then (befC s r : Int) else 0
def NX (s : List Int) (c : Int) (k : Nat) : Nat := 1 + (List.range s.length).countP (lbP s c k)
theorem LB_length (s : List Int) (c : Int) (k : Nat) : (LB s c k).length = s.length := by simp [LB]
theorem NX_le (s : List Int) (c : Int) (k : Nat) : NX s c k ≤ 1 + s.length := by
  unfold NX
  have := List.countP_le_length (p := lbP s c k) (l := List.range s.length)
  rw [List.length_range] at this; omega
theorem NX_bef {s : List Int} {k : Nat} : NX s (s.getD k default) k = befC s k := rfl
theorem lbP_succ (s : List Int) {c : Int} (hc : 0 ≤ c) (k r : Nat) : lbP s c (k + 1) r = (lbP s c k r || decide (r = k ∧ s.getD k default = c)) := by
  unfold lbP
  rw [Bool.eq_iff_iff]
  simp only [Bool.or_eq_true, decide_eq_true_eq]
  constructor
  · rintro ⟨h1, h2 | ⟨h2, h3⟩⟩
    · exact .inl ⟨h1, .inl h2⟩
    · by_cases h : r = k
      · subst h; exact .inr ⟨rfl, h2⟩
      · exact .inl ⟨h1, .inr ⟨h2, by omega⟩⟩
  · rintro (⟨h1, h2 | ⟨h2, h3⟩⟩ | ⟨rfl, h⟩)
    · exact ⟨h1, .inl h2⟩
    · exact ⟨h1, .inr ⟨h2, by omega⟩⟩
    · exact ⟨by omega, .inr ⟨h, by omega⟩⟩
theorem LB_succ {s : List Int} {c : Int} (hc : 0 ≤ c) {k : Nat} (hk : k < s.length) : LB s c (k + 1) = if s.getD k default = c then (LB s c k).set k (NX s c k) else LB s c k := by
  apply List.ext_getElem?
  intro r
  by_cases hr : r < s.length
  · have e1 : (LB s c (k + 1))[r]? = some (if lbP s c (k + 1) r then (befC s r : Int) else 0) := by simp [LB, hr]
    have e2 : (LB s c k)[r]? = some (if lbP s c k r then (befC s r : Int) else 0) := by simp [LB, hr]
    rw [e1, lbP_succ s hc]
    by_cases h : s.getD k default = c
    · rw [if_pos h, List.getElem?_set, LB_length, e2]
      by_cases hkr : k = r
      · subst hkr
        rw [if_pos rfl, if_pos hk]
        have : (lbP s c k k || decide (k = k ∧ s.getD k default = c)) = true := by rw [decide_eq_true (⟨rfl, h⟩ : k = k ∧ s.getD k default = c), Bool.or_true]
        rw [this, if_pos rfl, ← NX_bef, h]
      · rw [if_neg hkr]
        have : decide (r = k ∧ s.getD k default = c) = false := decide_eq_false (fun e => hkr e.1.symm)
        rw [this, Bool.or_false]
    · rw [if_neg h, e2]
      have : decide (r = k ∧ s.getD k default = c) = false := decide_eq_false (fun e => h e.2)
      rw [this, Bool.or_false]
  · rw [List.getElem?_eq_none (by rw [LB_length]; omega)]
    split
    · rw [List.getElem?_eq_none (by rw [List.length_set, LB_length]; omega)]
    · rw [List.getElem?_eq_none (by rw [LB_length]; omega)]
theorem NX_succ {s : List Int} {c : Int} (hc : 0 ≤ c) {k : Nat} (hk : k < s.length) : NX s c (k + 1) = if s.getD k default = c then NX s c k + 1 else NX s c k := by
  unfold NX
  have e : (List.range s.length).countP (lbP s c (k + 1)) = (List.range s.length).countP (lbP s c k) + (List.range s.length).countP (fun r => decide (r = k ∧ s.getD k default = c)) := by
    generalize List.range s.length = l
    induction l with
    | nil => rfl
    | cons r l ih =>
      rw [List.countP_cons, List.countP_cons, List.countP_cons, ih, lbP_succ s hc]
      by_cases h : r = k ∧ s.getD k default = c
      · have h2 : lbP s c k r = false := by
          unfold lbP
          rw [h.1, h.2]
          exact decide_eq_false (by omega)
        rw [h2, decide_eq_true h]
        simp only [Bool.or_true, if_true, Bool.false_eq_true, if_false]
        omega
      · rw [decide_eq_false h, Bool.or_false]
        simp only [Bool.false_eq_true, if_false]
        omega
  rw [e]
  by_cases h : s.getD k default = c
  · rw [if_pos h]
    have : (List.range s.length).countP (fun r => decide (r = k ∧ s.getD k default = c)) = 1 := by
      have e2 : (List.range s.length).countP (fun r => decide (r = k ∧ s.getD k default = c)) = (List.range s.length).count k := by
        unfold List.count
        apply List.countP_congr
        intro r _
        rw [decide_eq_true_eq, beq_iff_eq]
        exact ⟨fun e => e.1, fun e => ⟨e, h⟩⟩
      rw [e2, List.nodup_range.count, if_pos (List.mem_range.2 hk)]
    omega
  · rw [if_neg h]
    have : (List.range s.length).countP (fun r => decide (r = k ∧ s.getD k default = c)) = 0 := List.countP_eq_zero.2 (fun r _ => by rw [decide_eq_false (fun e : r = k ∧ s.getD k default = c => h e.2)]; decide)
    omega
theorem lbP_next (s : List Int) (c : Int) {r : Nat} (hr : r < s.length) : lbP s c s.length r = lbP s (c + 1) 0 r := by
  unfold lbP
  rw [Bool.eq_iff_iff]
  simp only [decide_eq_true_eq]
  omega
theorem LB_next (s : List Int) (c : Int) : LB s c s.length = LB s (c + 1) 0 := by
  unfold LB
  apply List.map_congr_left
  intro r hr
  rw [lbP_next s c (List.mem_range.1 hr)]
theorem NX_next (s : List Int) (c : Int) : NX s c s.length = NX s (c + 1) 0 := by
  unfold NX
  rw [List.countP_congr fun r hr => by rw [lbP_next s c (List.mem_range.1 hr)]]
theorem LB_zero (s : List Int) : LB s 0 0 = List.replicate s.length 0 := by
  unfold LB
  rw [List.map_congr_left (g := fun _ => (0 : Int)) (fun r _ => by
    have : lbP s 0 0 r = false := decide_eq_false (by omega)
    rw [this]; rfl)]
  rw [List.map_const', List.length_range]
theorem NX_zero (s : List Int) : NX s 0 0 = 1 := by
  unfold NX
  rw [List.countP_eq_zero.2 (fun r _ => by
    have : lbP s 0 0 r = false := decide_eq_false (by omega)
    rw [this]; decide)]
theorem LB_end {s : List Int} (h : ∀ r, r < s.length → s.getD r default < 256) : LB s 256 0 = befL s := by
  unfold LB befL
  apply List.map_congr_left
  intro r hr
  have := h r (List.mem_range.1 hr)
  by_cases h0 : s.getD r default < 0
  · have e : lbP s 256 0 r = false := decide_eq_false (by omega)
    rw [e, if_pos h0]; rfl
  · have e : lbP s 256 0 r = true := decide_eq_true (by omega)
    rw [e, if_neg h0]; rfl
/-- The walk from the end of the text to its beginning. -/
def wlk (s B : List Int) : Nat → List Int → Nat → (List Int × List Int × List Int) × Bool
  | 0, A, r => ((s, B, A.set r 0), decide (s.getD r default = -1))
  | i + 1, A, r => if s.getD r default = -1 then (([], [], []), false) else wlk s B i (A.set r ((i + 1 : Nat) : Int)) (B.getD r default).toNat
end Go.L
namespace Go.Proofs.Ytmifkdfaaaaicaa
open Go Go.L
theorem from_inner {s : List Int} {c : Nat} (hl : s.length ≤ 2049) (hc : c < 256) :
    fmindex_fromSymbols_l5 s (c : Int) (LB s c 0, (NX s c 0 : Int), 0) = some (.inl (LB s ((c + 1 : Nat) : Int) 0, (NX s ((c + 1 : Nat) : Int) 0 : Int), ((c + 1 : Nat) : Int))) := by
  have hc0 : (0 : Int) ≤ (c : Int) := by omega
  refine run_count (b := fmindex_fromSymbols_bl5 s (c : Int)) (fun k => (LB s c k, (NX s c k : Int), (k : Int))) s.length (fun k hk => ?_) ?_ 0 (Nat.zero_le _)
  · unfold fmindex_fromSymbols_bl5
    simp only
    have := NX_le s c k
    rw [if_pos (by omega), chk_pos (by omega), Int.toNat_natCast]
    by_cases h : s.getD k default = (c : Int)
    · rw [if_pos h, chk_pos (by rw [LB_length]; omega), chk_pos (by constructor <;> omega), chk_pos (by constructor <;> omega), LB_succ hc0 hk, if_pos h, NX_succ hc0 hk, if_pos h]
      rfl
    · rw [if_neg h, chk_pos (by constructor <;> omega), LB_succ hc0 hk, if_neg h, NX_succ hc0 hk, if_neg h]
      rfl
  · unfold fmindex_fromSymbols_bl5
    simp only
    rw [if_neg (by omega)]
    unfold fmindex_fromSymbols_k4
    rw [chk_pos (by constructor <;> omega), LB_next, NX_next]
    rfl
theorem from_walk {s B : List Int} (hl : s.length ≤ 2049) (hB : B.length = s.length) (hr : ∀ r, r < s.length → 0 ≤ B.getD r default ∧ B.getD r default < s.length) : ∀ (i : Nat) (A : List Int) (r : Nat), i ≤ s.length → A.length = s.length → r < s.length →
    fmindex_fromSymbols_l7 s s B (A, (r : Int), (i : Int)) = some (wlk s B i A r)
  | 0, A, r, _, hA, h => by
    refine run_inr (b := fmindex_fromSymbols_bl7 s s B) (m := some _) ?_
    unfold fmindex_fromSymbols_bl7
    simp only
    rw [if_neg (by omega)]
    unfold fmindex_fromSymbols_k6 fmindex_fromSymbols_k8
    rw [chk_pos (by omega), chk_pos (by omega), Int.toNat_natCast]
    rfl
  | i + 1, A, r, hi, hA, h => by
    have hb : fmindex_fromSymbols_bl7 s s B (A, (r : Int), ((i + 1 : Nat) : Int)) = if s.getD r default = -1 then some (.inr (([], [], []), false)) else some (.inl (A.set r ((i + 1 : Nat) : Int), (((B.getD r default).toNat : Nat) : Int), (i : Int))) := by
      unfold fmindex_fromSymbols_bl7
      simp only
      rw [if_pos (by omega), chk_pos (by omega), chk_pos (by omega), Int.toNat_natCast]
      split
      · rfl
      · rw [chk_pos (by omega), chk_pos (by constructor <;> omega), Int.toNat_of_nonneg (hr r h).1, show ((i + 1 : Nat) : Int) - 1 = (i : Int) by omega]
    unfold fmindex_fromSymbols_l7 wlk
    by_cases h1 : s.getD r default = -1
    · rw [if_pos h1] at hb ⊢
      exact run_inr (m := some _) hb
    · rw [if_neg h1] at hb ⊢
      rw [run_inl hb]
      have := hr r h
      exact from_walk hl hB hr i _ _ (by omega) (by rw [List.length_set]; exact hA) (by omega)
theorem from_gen {s : List Int} (h0 : 0 < s.length) (hl : s.length ≤ 2049) (hs : ∀ r, r < s.length → s.getD r default < 256) (hr : ∀ r, r < s.length → (befL s).getD r default < s.length) :
    fmindex_fromSymbols s = some (wlk s (befL s) (s.length - 1) (List.replicate s.length 0) 0) := by
  have e : ((s.length : Int) - 1 + 1).toNat = s.length := by omega
  unfold fmindex_fromSymbols
  rw [chk_pos (by constructor <;> omega), chk_pos (by constructor <;> omega), chk_pos (by constructor <;> omega), chk_pos (by omega), chk_pos (by omega), e]
  unfold fmindex_fromSymbols_k1
  have hpos : ∀ r, r < s.length → 0 ≤ (befL s).getD r default ∧ (befL s).getD r default < s.length := fun r h => ⟨by rw [befL_get s h]; split <;> omega, hr r h⟩
  have key := run_count (b := fmindex_fromSymbols_bl3 s s (List.replicate s.length 0)) (m := some (wlk s (befL s) (s.length - 1) (List.replicate s.length 0) 0)) (fun c => (LB s c 0, (NX s c 0 : Int), (c : Int))) 256 (fun c hc => by
    unfold fmindex_fromSymbols_bl3
    simp only
    rw [if_pos (by omega)]
    exact from_inner hl hc) (by
    unfold fmindex_fromSymbols_bl3
    simp only
    rw [if_neg (by omega)]
    unfold fmindex_fromSymbols_k2
    have := from_walk hl (befL_length s) hpos (s.length - 1) (List.replicate s.length 0) 0 (by omega) (by simp) h0
    rw [show LB s ((256 : Nat) : Int) 0 = befL s from LB_end hs]
    rw [show (s.length : Int) - 1 = ((s.length - 1 : Nat) : Int) by omega]
    exact congrArg (Option.map Sum.inr) this) 0 (by omega)
  rw [show LB s ((0 : Nat) : Int) 0 = List.replicate s.length 0 from LB_zero s, show NX s ((0 : Nat) : Int) 0 = 1 from NX_zero s] at key
  exact key
end Go.Proofs.Ytmifkdfaaaaicaa
