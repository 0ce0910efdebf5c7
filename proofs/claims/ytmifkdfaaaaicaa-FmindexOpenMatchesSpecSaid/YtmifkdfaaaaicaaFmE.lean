/- fmindex: Count, Locate, Bytes, and the references, plainly. -/
import Derived.Test.YtmifkdfaaaaicaaFmD
namespace Go.L
open Go
/-- The positions at which a pattern occurs. -/
def occN (a p : List UInt8) (k : Nat) : List Nat := (List.range k).filter fun q => pre (a.drop q) p
def occ (a p : List UInt8) : List Int := (occN a p a.length).map fun q : Nat => (q : Int)
theorem cls_two (p l : List UInt8) : decide (cls p l < 2) = (decide (cls p l < 1) || pre l p) := by
  unfold cls
  by_cases hp : pre l p = true
  · rw [if_pos hp, hp]; decide
  · rw [if_neg hp]
    have : pre l p = false := by simpa using hp
    rw [this]
    split <;> decide
theorem cls_pre {p l : List UInt8} : pre l p = decide (¬ cls p l < 1 ∧ cls p l < 2) := by
  unfold cls
  by_cases hp : pre l p = true
  · rw [if_pos hp, hp]; decide
  · rw [if_neg hp]
    have : pre l p = false := by simpa using hp
    rw [this]
    split <;> decide
theorem pre_end {a p : List UInt8} (hp : p ≠ []) : pre (a.drop a.length) p = false := by
  rw [List.drop_length]
  cases p with
  | nil => exact absurd rfl hp
  | cons c p => exact pre_none c p
theorem occN_succ {a p : List UInt8} (hp : p ≠ []) : occN a p (a.length + 1) = occN a p a.length := by
  unfold occN
  rw [List.range_succ, List.filter_append]
  have : [a.length].filter (fun q => pre (a.drop q) p) = [] := by
    rw [List.filter_cons_of_neg (by rw [pre_end hp]; decide)]; rfl
  rw [this, List.append_nil]
theorem bnd_occ {a p : List UInt8} (hp : p ≠ []) : bnd a p 2 = bnd a p 1 + (occ a p).length := by
  have h : bnd a p 2 = bnd a p 1 + (List.range (a.length + 1)).countP (fun q => pre (a.drop q) p) :=
    countP_or _ _ _ (fun q => cls_two p (a.drop q)) (fun q h => by
      have := of_decide_eq_true h
      rw [cls_pre]; exact decide_eq_false (by omega)) _
  rw [h, List.countP_eq_length_filter]
  show _ + (occN a p (a.length + 1)).length = _
  rw [occN_succ hp]
  unfold occ; rw [List.length_map]
theorem filter_cut {α : Type} (g : α → Bool) : ∀ (l : List α) (f t : Nat), (∀ r (h : r < l.length), g l[r] = decide (f ≤ r ∧ r < t)) → l.filter g = (l.drop f).take (t - f)
  | [], _, _, _ => by simp
  | x :: l, f, t, h => by
    have h0 := h 0 (by simp)
    have hs : ∀ r (hr : r < l.length), g l[r] = decide (f - 1 ≤ r ∧ r < t - 1) := fun r hr => by
      have := h (r + 1) (by simpa using hr)
      rw [List.getElem_cons_succ] at this
      rw [this]
      by_cases hf : f = 0
      · subst hf; exact decide_eq_decide.2 (by omega)
      · exact decide_eq_decide.2 (by omega)
    have ih := filter_cut g l (f - 1) (t - 1) hs
    rw [List.getElem_cons_zero] at h0
    cases f with
    | zero =>
      cases t with
      | zero =>
        rw [List.filter_cons_of_neg (by rw [h0]; decide), ih]; simp
      | succ t =>
        rw [List.filter_cons_of_pos (by rw [h0]; exact decide_eq_true (by omega)), ih]
        simp
    | succ f =>
      rw [List.filter_cons_of_neg (by rw [h0]; simp), ih, List.drop_succ_cons]
      congr 1
      omega
theorem occ_rows {a p : List UInt8} : ((opI a).drop (bnd a p 1)).take (bnd a p 2 - bnd a p 1) = ((op a).filter fun q => pre (a.drop q) p).map fun q : Nat => (q : Int) := by
  unfold opI
  rw [← List.map_drop, ← List.map_take, ← filter_cut (fun q => pre (a.drop q) p) (op a) (bnd a p 1) (bnd a p 2) (fun r hr => by
    rw [cls_pre]
    refine decide_eq_decide.2 ?_
    rw [bnd_row a p 1 hr, bnd_row a p 2 hr]; omega)]
theorem srt_eq {l m : List Int} (hp : l.Perm m) (hm : m.Pairwise (· < ·)) : srt l = m := by
  have h1 : (srt l).Pairwise (fun x y => decide (x ≤ y) = true) := List.pairwise_mergeSort (fun a b c h1 h2 => by simp only [decide_eq_true_eq] at *; omega) (fun a b => by simp only [Bool.or_eq_true, decide_eq_true_eq]; omega) l
  refine List.Perm.eq_of_pairwise (le := fun x y => x ≤ y) (fun x y _ _ h1 h2 => by omega) (h1.imp fun h => of_decide_eq_true h) (hm.imp fun h => by omega) ((List.mergeSort_perm _ _).trans hp)
theorem occ_sorted (a p : List UInt8) : (occ a p).Pairwise (· < ·) := by
  unfold occ occN
  rw [List.pairwise_map]
  exact (List.Pairwise.filter _ List.pairwise_lt_range).imp fun h => by omega
theorem occ_srt {a p : List UInt8} (hp : p ≠ []) : srt (((opI a).drop (bnd a p 1)).take (bnd a p 2 - bnd a p 1)) = occ a p := by
  rw [occ_rows]
  refine srt_eq ?_ (occ_sorted a p)
  unfold occ
  rw [← occN_succ hp]
  exact (((op_perm a).filter _).map _)
end Go.L
namespace Go.Proofs.Ytmifkdfaaaaicaa
open Go Go.L
theorem pf_ne {p : List UInt8} (h : pf p = (0, 0)) : p ≠ [] ∧ p.length ≤ 64 := by
  unfold pf at h
  split at h
  · exact absurd h (by decide)
  · rename_i h1
    refine ⟨fun e => h1 (by rw [e]; rfl), ?_⟩
    split at h
    · assumption
    · exact absurd h (by decide)
theorem pf_one (p : List UInt8) : (pf p).1 = 0 ↔ pf p = (0, 0) := by
  unfold pf
  split
  · decide
  · split <;> decide
theorem fm_count {a p : List UInt8} (h : a.length ≤ 2048) : fmindex_Index_Count (idx a) p = some (if pf p = (0, 0) then ((occ a p).length : Int) else 0, pf p) := by
  obtain ⟨f, t, q1, q2, q3, q4, q5⟩ := fm_find (p := p) h
  unfold fmindex_Index_Count
  show Option.bind (fmindex_Index_find (idx a) p) _ = _
  rw [q1, Option.bind_some, chk_pos (by show I64 ((t : Int) - (f : Int)); constructor <;> omega)]
  by_cases hp : pf p = (0, 0)
  · rw [if_pos hp]
    obtain ⟨r1, r2⟩ := q5 hp
    have hb := bnd_occ (a := a) (pf_ne hp).1
    have : (t : Int) - (f : Int) = ((occ a p).length : Int) := by
      rcases Nat.lt_or_ge f t with h1 | h1
      · have := r2 h1; omega
      · have := r1 (by omega); omega
    show some ((t : Int) - (f : Int), pf p) = _
    rw [this]
  · rw [if_neg hp]
    obtain ⟨rfl, rfl⟩ := q4 hp
    rfl
theorem fm_locate {a p : List UInt8} (h : a.length ≤ 2048) : fmindex_Index_Locate (idx a) p = some (if pf p = (0, 0) then occ a p else [], pf p) := by
  obtain ⟨f, t, q1, q2, q3, q4, q5⟩ := fm_find (p := p) h
  unfold fmindex_Index_Locate
  show Option.bind (fmindex_Index_find (idx a) p) _ = _
  rw [q1, Option.bind_some]
  have hb : (bif !decide ((pf p).1 = 0 ∧ (pf p).2 = 0) then true else decide ((f : Int) = (t : Int))) = !(decide (pf p = (0, 0)) && decide (f < t)) := by
    have e1 : decide ((pf p).1 = 0 ∧ (pf p).2 = 0) = decide (pf p = (0, 0)) := decide_eq_decide.2 ⟨fun e => Prod.ext e.1 e.2, fun e => by rw [e]; exact ⟨rfl, rfl⟩⟩
    rw [e1]
    by_cases hp : pf p = (0, 0)
    · rw [decide_eq_true hp]
      show decide ((f : Int) = (t : Int)) = !decide (f < t)
      by_cases hft : f < t
      · rw [decide_eq_true hft, decide_eq_false (by omega)]; rfl
      · rw [decide_eq_false hft, decide_eq_true (by omega)]; rfl
    · rw [decide_eq_false hp]; rfl
  show (if (bif !decide ((pf p).1 = 0 ∧ (pf p).2 = 0) then true else decide ((f : Int) = (t : Int))) = true then some ([], pf p) else _) = _
  rw [hb]
  by_cases hp : pf p = (0, 0)
  · rw [if_pos hp]
    obtain ⟨r1, r2⟩ := q5 hp
    have hbo := bnd_occ (a := a) (pf_ne hp).1
    by_cases hft : f < t
    · obtain ⟨rfl, rfl⟩ := r2 hft
      rw [decide_eq_true hp, decide_eq_true hft, if_neg (by decide)]
      have e2 : (idx a).2.2 = opI a := rfl
      have hl := opI_length a
      rw [e2, chk_pos (by show (0 : Int) ≤ (bnd a p 1 : Int) ∧ (bnd a p 1 : Int) ≤ (bnd a p 2 : Int) ∧ (bnd a p 2 : Int) ≤ ((opI a).length : Int); omega)]
      show Option.bind (slices_Clone_int_int (((opI a).drop (bnd a p 1)).take (bnd a p 2 - bnd a p 1))) _ = _
      have hlen : (((opI a).drop (bnd a p 1)).take (bnd a p 2 - bnd a p 1)).length ≤ a.length + 1 := by rw [List.length_take, List.length_drop, hl]; omega
      unfold slices_Clone_int_int
      rw [chk_pos (by simp only [List.length_nil]; constructor <;> omega), Option.bind_some, List.nil_append, chk_pos (by omega), occ_srt (pf_ne hp).1, hp]
    · have := r1 (by omega)
      have he : occ a p = [] := List.eq_nil_of_length_eq_zero (by omega)
      rw [decide_eq_true hp, decide_eq_false hft, if_pos (by decide), he]
  · rw [if_neg hp, decide_eq_false hp, if_pos (by simp)]
theorem pattern_fault (p : List UInt8) : law4_patternFault p = some (pf p) := by
  unfold law4_patternFault pf
  by_cases h0 : p.length = 0
  · rw [if_pos (by omega), if_pos h0]; rfl
  · rw [if_neg (by omega), if_neg h0]
    by_cases h1 : p.length ≤ 64
    · rw [if_neg (by omega), if_pos h1]
    · rw [if_pos (by omega), if_neg h1]; rfl
theorem ref_places {a p : List UInt8} (ha : a.length ≤ 2048) (hp : p.length ≤ 2048) : ref4_Places a p = some (occ a p) := by
  refine run_count (b := ref4_Places_bl2 a p) (fun k => ((occN a p k).map (fun q : Nat => (q : Int)), (k : Int))) a.length (fun k hk => ?_) ?_ 0 (Nat.zero_le _)
  · unfold ref4_Places_bl2
    simp only
    have hle : (occN a p k).length ≤ k := by
      have := List.length_filter_le (fun q => pre (a.drop q) p) (List.range k)
      rw [List.length_range] at this; exact this
    have hs : occN a p (k + 1) = occN a p k ++ if pre (a.drop k) p then [k] else [] := by
      unfold occN
      rw [List.range_succ, List.filter_append]
      congr 1
      cases h : pre (a.drop k) p <;> simp [h]
    rw [if_pos (by omega), ref_begins ha hp (by omega), Option.bind_some, hs]
    cases h : pre (a.drop k) p with
    | true =>
      rw [if_pos rfl, chk_pos (by rw [List.length_map]; simp only [List.length_singleton]; constructor <;> omega), chk_pos (by constructor <;> omega), if_pos rfl, List.map_append]
      rfl
    | false =>
      rw [if_neg (by decide), chk_pos (by constructor <;> omega), if_neg (by decide), List.append_nil]
      rfl
  · unfold ref4_Places_bl2
    simp only
    rw [if_neg (by omega)]
    rfl
end Go.Proofs.Ytmifkdfaaaaicaa
