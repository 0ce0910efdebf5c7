/- fmindex.Build, text, Extract, Bytes, plainly. -/
import Derived.Test.YtmifkdfaaaaicaaFmB
namespace Go.L
open Go
theorem befL_row {a : List UInt8} {r r' : Nat} (hr : r < (op a).length) (hr' : r' < (op a).length) (hp : (op a)[r] = (op a)[r'] + 1) : (befL (sym a)).getD r default = (r' : Int) := by
  rw [befL_get _ (by rw [sym_length, ← op_length]; exact hr), sym_get a hr]
  have h : 0 ≤ symOf a (op a)[r] := (symOf_nonneg a _).2 (by omega)
  rw [if_neg (by omega), bef_row hr hr' hp]
theorem befL_lt {a : List UInt8} {r : Nat} (h : r < (sym a).length) : (befL (sym a)).getD r default < (sym a).length := by
  have hr : r < (op a).length := by rw [op_length, ← sym_length]; exact h
  by_cases h0 : (op a)[r] = 0
  · rw [befL_get _ h, sym_get a hr, h0]
    have : symOf a 0 < 0 := by unfold symOf; rw [if_pos rfl]; decide
    rw [if_pos this]; omega
  · have hle := op_le a hr
    obtain ⟨r', hr', e⟩ := op_onto (a := a) (p := (op a)[r] - 1) (by omega)
    rw [befL_row hr hr' (by omega)]
    rw [op_length, ← sym_length] at hr'
    omega
theorem sym_lt {a : List UInt8} {r : Nat} (h : r < (sym a).length) : (sym a).getD r default < 256 := by
  rw [sym_get a (by rw [op_length, ← sym_length]; exact h)]; exact symOf_lt a _
/-- The positions as numbers. -/
def opI (a : List UInt8) : List Int := (op a).map fun x : Nat => (x : Int)
theorem opI_length (a : List UInt8) : (opI a).length = a.length + 1 := by rw [opI, List.length_map, op_length]
theorem wlk_text (a : List UInt8) : ∀ (p : Nat) (A : List Int) (r : Nat) (hr : r < (op a).length), (op a)[r] = p → A.length = a.length + 1 → (∀ k (hk : k < (op a).length), p < (op a)[k] → A[k]? = some (((op a)[k] : Nat) : Int)) →
    wlk (sym a) (befL (sym a)) p A r = ((sym a, befL (sym a), opI a), true)
  | 0, A, r, hr, hp, hA, hk => by
    have e1 : A.set r 0 = opI a := by
      apply List.ext_getElem?
      intro k
      by_cases hkl : k < (op a).length
      · have e : (opI a)[k]? = some (((op a)[k] : Nat) : Int) := by simp [opI, hkl]
        rw [List.getElem?_set, e]
        by_cases h : r = k
        · subst h; rw [if_pos rfl, if_pos (by rw [hA, ← op_length]; exact hr), hp]; rfl
        · rw [if_neg h]
          refine hk k hkl (Nat.pos_of_ne_zero fun h0 => h (op_inj hr hkl (by rw [hp, h0])))
      · rw [List.getElem?_eq_none (by rw [List.length_set, hA, ← op_length]; omega), List.getElem?_eq_none (by rw [opI_length, ← op_length]; omega)]
    unfold wlk
    rw [e1, sym_get a hr, hp]
    rfl
  | p + 1, A, r, hr, hp, hA, hk => by
    have hle := op_le a hr
    obtain ⟨r', hr', e⟩ := op_onto (a := a) (p := p) (by omega)
    have hn : 0 ≤ symOf a (p + 1) := (symOf_nonneg a _).2 (by omega)
    unfold wlk
    rw [sym_get a hr, hp, if_neg (by omega), befL_row hr hr' (by omega), Int.toNat_natCast]
    refine wlk_text a p _ r' hr' e (by rw [List.length_set]; exact hA) fun k hk1 hk2 => ?_
    rw [List.getElem?_set]
    by_cases h : r = k
    · subst h; rw [if_pos rfl, if_pos (by rw [hA, ← op_length]; exact hr), hp]
    · rw [if_neg h]
      refine hk k hk1 ?_
      rcases Nat.lt_or_ge (p + 1) (op a)[k] with h1 | h1
      · exact h1
      · exact absurd (op_inj hr hk1 (by omega)) h
theorem op_zero (a : List UInt8) : (op a)[0]'(by rw [op_length]; omega) = a.length := rfl
def idx (a : List UInt8) : List Int × List Int × List Int := (sym a, befL (sym a), opI a)
end Go.L
namespace Go.Proofs.Ytmifkdfaaaaicaa
open Go Go.L
theorem from_text {a : List UInt8} (h : a.length ≤ 2048) : fmindex_fromSymbols (sym a) = some (idx a, true) := by
  rw [from_gen (by rw [sym_length]; omega) (by rw [sym_length]; omega) (fun _ => sym_lt) (fun _ => befL_lt), sym_length, Nat.add_sub_cancel]
  rw [wlk_text a a.length _ 0 (by rw [op_length]; omega) (op_zero a) (by simp) (fun k hk h => by have := op_le a hk; omega)]
  rfl
theorem concat2 {x : Int} {l : List Int} (h : l.length ≤ 2048) : slices_Concat_int_int [[x], l] = some (x :: l) := by
  have l2 : ∀ s : Int × Int, slices_Concat_int_int_l2 [[x], l] s = Go.L.run (slices_Concat_int_int_bl2 [[x], l]) s := fun _ => rfl
  have hn : (([[x], l] : List (List Int)).length : Int) = 2 := rfl
  have l4 : ∀ s : List Int × Int, slices_Concat_int_int_l4 [[x], l] s = Go.L.run (slices_Concat_int_int_bl4 [[x], l]) s := fun _ => rfl
  have a1 : slices_Concat_int_int_bl2 [[x], l] (0, 0) = some (.inl (1, 1)) := by
    unfold slices_Concat_int_int_bl2; rfl
  have a2 : slices_Concat_int_int_bl2 [[x], l] (1, 1) = some (.inl (1 + (l.length : Int), 2)) := by
    unfold slices_Concat_int_int_bl2
    simp only
    have e : ([[x], l] : List (List Int)).getD (1 : Int).toNat default = l := rfl
    rw [hn, if_pos (by decide), chk_pos (by decide), e, chk_pos (by constructor <;> omega), if_neg (by omega), chk_pos (by constructor <;> omega)]
    rfl
  have b1 : slices_Concat_int_int_bl4 [[x], l] ([], 0) = some (.inl ([x], 1)) := by
    unfold slices_Concat_int_int_bl4; rfl
  have b2 : slices_Concat_int_int_bl4 [[x], l] ([x], 1) = some (.inl (x :: l, 2)) := by
    unfold slices_Concat_int_int_bl4
    simp only
    have e : ([[x], l] : List (List Int)).getD (1 : Int).toNat default = l := rfl
    rw [hn, if_pos (by decide), chk_pos (by decide), e, chk_pos (by simp only [List.length_singleton]; constructor <;> omega), chk_pos (by decide)]
    rfl
  have b3 : slices_Concat_int_int_bl4 [[x], l] (x :: l, 2) = (some (x :: l)).map .inr := by
    unfold slices_Concat_int_int_bl4
    simp only
    rw [hn, if_neg (by decide)]; rfl
  have a3 : slices_Concat_int_int_bl2 [[x], l] (1 + (l.length : Int), 2) = (some (x :: l)).map .inr := by
    unfold slices_Concat_int_int_bl2
    simp only
    rw [hn, if_neg (by decide)]
    unfold slices_Concat_int_int_k1 slices_Grow_int_int slices_Grow_int_int_k1
    rw [if_neg (by omega), chk_pos (by decide), chk_pos (by constructor <;> omega), if_pos (by omega), chk_pos (by omega)]
    show Option.map Sum.inr (slices_Concat_int_int_l4 [[x], l] ([], 0)) = _
    rw [l4, run_inl b1, run_inl b2, run_inr b3]
  unfold slices_Concat_int_int
  rw [l2, run_inl a1, run_inl a2, run_inr a3]
theorem opI_cons (a : List UInt8) : opI a = (a.length : Int) :: sufArr a := by
  unfold opI op
  rw [List.map_cons, List.map_map]
  congr 1
  conv => rhs; rw [← List.map_id (sufArr a)]
  apply List.map_congr_left
  intro x hx
  have := (sufArr_mem a).1 hx
  show ((x.toNat : Nat) : Int) = x
  omega
theorem opI_get (a : List UInt8) {r : Nat} (h : r < (op a).length) : (opI a).getD r default = (((op a)[r] : Nat) : Int) := by
  unfold opI
  rw [List.getD_eq_getElem?_getD, List.getElem?_map, List.getElem?_eq_getElem h]; rfl
theorem fm_build (a : List UInt8) : fmindex_Build a = some (if a.length ≤ 2048 then (idx a, (0, 0)) else (([], [], []), (3, -1))) := by
  unfold fmindex_Build
  rw [suf_Array]
  by_cases h : a.length ≤ 2048
  · rw [if_pos h, if_pos h]
    rw [Option.bind_some, if_pos ⟨rfl, rfl⟩, chk_pos (by constructor <;> omega), chk_pos (by omega), concat2 (by rw [sufArr_length]; exact h), Option.bind_some, ← opI_cons]
    have hl := opI_length a
    have ho := op_length a
    have key := run_count (b := fmindex_Build_bl3 a (opI a)) (m := some (idx a, ((0 : Int), (0 : Int)))) (fun k => ((sym a).take k, (k : Int))) (a.length + 1) (fun k hk => by
      unfold fmindex_Build_bl3
      simp only
      have hk' : k < (op a).length := by omega
      have hle := op_le a hk'
      have htk : ((sym a).take k).length = k := by rw [List.length_take, sym_length]; omega
      have hs : (sym a).take (k + 1) = (sym a).take k ++ [symOf a (op a)[k]] := by
        rw [List.take_add_one]
        have : (sym a)[k]? = some (symOf a (op a)[k]) := by simp [sym, hk']
        rw [this]; rfl
      rw [if_pos (by omega), chk_pos (by omega), Int.toNat_natCast, opI_get a hk']
      by_cases h0 : (op a)[k] = 0
      · rw [h0] at hs ⊢
        rw [if_pos (show ((0 : Nat) : Int) = 0 from rfl), chk_pos (by rw [htk]; simp only [List.length_singleton]; constructor <;> omega), chk_pos (by constructor <;> omega), hs]
        rfl
      · rw [if_neg (by omega), chk_pos (by constructor <;> omega), chk_pos (by omega), chk_pos (by rw [htk]; simp only [List.length_singleton]; constructor <;> omega), chk_pos (by constructor <;> omega), hs]
        have e1 : (((op a)[k] : Int) - 1).toNat = (op a)[k] - 1 := by omega
        unfold symOf
        rw [if_neg h0, e1]
        rfl) (by
      unfold fmindex_Build_bl3
      simp only
      rw [if_neg (by omega), List.take_of_length_le (by rw [sym_length]; omega)]
      unfold fmindex_Build_k2
      rw [from_text h]
      rfl) 0 (by omega)
    exact key
  · rw [if_neg h, if_neg h]; rfl
theorem fm_len (a : List UInt8) (h : a.length ≤ 2048) : fmindex_Index_Length (idx a) = some (a.length : Int) := by
  unfold fmindex_Index_Length fmindex_transform_rows
  simp only [Option.bind_some]
  have : max ((idx a).1.length : Int) 1 = (a.length : Int) + 1 := by rw [show (idx a).1.length = a.length + 1 from sym_length a]; omega
  rw [this, chk_pos (by constructor <;> omega)]
  congr 1; omega
theorem fm_text_loop {a : List UInt8} (h : a.length ≤ 2048) : ∀ (p : Nat) (o : List UInt8) (r : Nat) (hr : r < (op a).length), (op a)[r] = p → o.length = a.length → (∀ k, p ≤ k → o[k]? = a[k]?) → fmindex_Index_text_l2 (idx a) (o, (r : Int), (p : Int) - 1) = some a
  | 0, o, r, hr, hp, ho, hk => by
    have : o = a := List.ext_getElem? fun k => hk k (Nat.zero_le _)
    subst this
    refine run_inr (b := fmindex_Index_text_bl2 (idx o)) (m := some o) ?_
    unfold fmindex_Index_text_bl2
    simp only
    rw [if_neg (by omega)]; rfl
  | p + 1, o, r, hr, hp, ho, hk => by
    have hle := op_le a hr
    have hol := op_length a
    obtain ⟨r', hr', e⟩ := op_onto (a := a) (p := p) (by omega)
    have hb : fmindex_Index_text_bl2 (idx a) (o, (r : Int), ((p + 1 : Nat) : Int) - 1) = some (.inl (o.set p (a.getD p default), (r' : Int), (p : Int) - 1)) := by
      unfold fmindex_Index_text_bl2
      simp only
      have e1 : (idx a).1 = sym a := rfl
      have e2 : (idx a).2.1 = befL (sym a) := rfl
      have hs := sym_length a
      have e3 : (((p + 1 : Nat) : Int) - 1).toNat = p := by omega
      rw [if_pos (by omega), e1, e2, chk_pos (by omega), chk_pos (by omega), chk_pos (by rw [befL_length]; omega), chk_pos (by constructor <;> omega), Int.toNat_natCast, e3, sym_get a hr, hp, befL_row hr hr' (by omega)]
      have e4 : symOf a (p + 1) = ((a.getD p default).toNat : Int) := by unfold symOf; rw [if_neg (by omega), Nat.add_sub_cancel]
      rw [e4, u8_of]
      congr 4; omega
    unfold fmindex_Index_text_l2
    rw [run_inl hb]
    refine fm_text_loop h p _ r' hr' e (by rw [List.length_set]; exact ho) fun k hk1 => ?_
    rw [List.getElem?_set]
    by_cases hpk : p = k
    · subst hpk
      rw [if_pos rfl, if_pos (by omega), List.getD_eq_getElem?_getD, List.getElem?_eq_getElem (by omega)]; rfl
    · rw [if_neg hpk]; exact hk k (by omega)
theorem fm_text (a : List UInt8) (h : a.length ≤ 2048) : fmindex_Index_text (idx a) = some a := by
  unfold fmindex_Index_text
  show Option.bind (fmindex_Index_Length (idx a)) _ = _
  rw [fm_len a h, Option.bind_some, chk_pos (by omega), Int.toNat_natCast, List.length_replicate, chk_pos (by constructor <;> omega)]
  have hol := op_length a
  exact fm_text_loop h a.length _ 0 (by omega) (op_zero a) (by simp) (fun k hk => by rw [List.getElem?_eq_none (by simp; omega), List.getElem?_eq_none (by omega)])
theorem fm_extract (a : List UInt8) (h : a.length ≤ 2048) (x y : Int) : fmindex_Index_Extract (idx a) x y = some (if 0 ≤ x ∧ x ≤ a.length then if x ≤ y ∧ y ≤ a.length then ((a.drop x.toNat).take (y.toNat - x.toNat), (0, 0)) else ([], (4, -2)) else ([], (4, -1))) := by
  unfold fmindex_Index_Extract
  show (if x < 0 then _ else Option.bind (fmindex_Index_Length (idx a)) _) = _
  by_cases h1 : x < 0
  · rw [if_pos h1, if_neg (by omega)]; rfl
  · rw [if_neg h1, fm_len a h, Option.bind_some]
    by_cases h2 : (a.length : Int) < x
    · rw [if_pos h2, if_neg (by omega)]; rfl
    · rw [if_neg h2, if_pos (show 0 ≤ x ∧ x ≤ (a.length : Int) by omega)]
      by_cases h3 : y < x
      · rw [if_pos h3, if_neg (by omega)]; rfl
      · rw [if_neg h3, Option.bind_some]
        by_cases h4 : (a.length : Int) < y
        · rw [if_pos h4, if_neg (by omega)]; rfl
        · rw [if_neg h4, if_pos (show x ≤ y ∧ y ≤ (a.length : Int) by omega)]
          show Option.bind (fmindex_Index_text (idx a)) _ = _
          rw [fm_text a h, Option.bind_some, chk_pos (by omega)]
          unfold slices_Clone_byte_byte
          have : ((a.drop x.toNat).take (y.toNat - x.toNat)).length ≤ a.length := by rw [List.length_take, List.length_drop]; omega
          rw [chk_pos (by simp only [List.length_nil]; constructor <;> omega)]
          rfl
end Go.Proofs.Ytmifkdfaaaaicaa
