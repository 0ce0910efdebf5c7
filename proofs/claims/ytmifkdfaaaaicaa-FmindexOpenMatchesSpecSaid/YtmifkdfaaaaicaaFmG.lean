/- fmindex: the closed examples, the reference's form, and five of the laws, plainly. -/
import Derived.Test.YtmifkdfaaaaicaaFmF
namespace Go.L
open Go
theorem op_abab : op [97, 98, 97, 98] = [4, 2, 0, 3, 1] := by unfold op; rw [Go.Proofs.Ytmifkdfaaaaicaa.suf_abab]; rfl
theorem sym_abab : sym [97, 98, 97, 98] = [98, 98, -1, 97, 97] := by unfold sym; rw [op_abab]; rfl
theorem fmt_abab : fmt [97, 98, 97, 98] = [4, 0, 2, 0, 98, 98, 97, 97] := by unfold fmt pri; rw [sym_abab]; rfl
theorem pri_pos {a : List UInt8} (h : 0 < a.length) : 0 < pri a := by
  have hl := op_length a
  have := (pri_op a (r := 0) (by omega)).2
  rw [op_zero] at this
  rcases Nat.eq_zero_or_pos (pri a) with h0 | h0
  · have := this h0.symm; omega
  · exact h0
theorem occ_fs (a p : List UInt8) : ∀ k, (occN a p k).length = (fs a p k).2
  | 0 => rfl
  | k + 1 => by
    have hs : occN a p (k + 1) = occN a p k ++ if pre (a.drop k) p then [k] else [] := by
      unfold occN
      rw [List.range_succ, List.filter_append]
      congr 1
      cases h : pre (a.drop k) p <;> simp [h]
    rw [hs, List.length_append, occ_fs a p k, fs_succ]
    split
    · rfl
    · split <;> rfl
end Go.L
namespace Go.Proofs.Ytmifkdfaaaaicaa
open Go Go.L
theorem open_bad : fmindex_Open [1, 0, 0, 0, 97] = some (([], [], []), (16, -1)) := by
  rcases fm_open [1, 0, 0, 0, 97] with ⟨t, ht, e, _⟩ | ⟨_, h⟩
  · have h := fmt_head ht
    rw [e] at h
    have h1 : t.length = 1 := h.2.1.symm
    have h2 : pri t = 0 := h.2.2.1.symm
    have := pri_pos (a := t) (by omega)
    omega
  · exact h
theorem len_none : fmindex_Index_Length ([], [], []) = some 0 := by
  unfold fmindex_Index_Length fmindex_transform_rows
  rw [Option.bind_some, chk_pos (by decide)]
  rfl
theorem same (a b : List UInt8) : ref3_SameBytes a b = some (decide (a = b)) := rfl
theorem finds_true : law4_finds = some true := by
  have hab : law4_abab = some [97, 98, 97, 98] := by unfold law4_abab; rw [chk_pos (by decide)]
  have hlt : ([97, 98, 97, 98] : List UInt8).length ≤ 2048 := by decide
  have hpf : pf [97, 98] = (0, 0) := by decide
  have hocc : occ [97, 98, 97, 98] [97, 98] = [0, 2] := by decide
  have h1 : fmindex_Build [97, 98, 97, 98] = some (idx [97, 98, 97, 98], (0, 0)) := by rw [fm_build, if_pos hlt]
  have h2 : fmindex_Index_Count (idx [97, 98, 97, 98]) [97, 98] = some (2, (0, 0)) := by rw [fm_count hlt, if_pos hpf, hpf, hocc]; rfl
  have h3 : fmindex_Index_Locate (idx [97, 98, 97, 98]) [97, 98] = some ([0, 2], (0, 0)) := by rw [fm_locate hlt, if_pos hpf, hpf, hocc]
  have h4 : fmindex_Index_Extract (idx [97, 98, 97, 98]) 1 3 = some ([98, 97], (0, 0)) := by rw [fm_extract _ hlt, if_pos (by decide), if_pos (by decide)]; rfl
  have h5 : fmindex_Index_Bytes (idx [97, 98, 97, 98]) = some [4, 0, 2, 0, 98, 98, 97, 97] := by rw [fm_bytes _ hlt, fmt_abab]
  have h6 : fmindex_Open [4, 0, 2, 0, 98, 98, 97, 97] = some (idx [97, 98, 97, 98], (0, 0)) := by rw [← fmt_abab, open_fmt _ hlt]
  have h7 : fmindex_Index_Length (idx [97, 98, 97, 98]) = some 4 := fm_len _ hlt
  unfold law4_finds
  rw [hab, Option.bind_some, h1, Option.bind_some]
  show chk _ (Option.bind (fmindex_Index_Count (idx [97, 98, 97, 98]) [97, 98]) _) = _
  rw [chk_pos (by decide), h2, Option.bind_some]
  show chk _ (Option.bind (fmindex_Index_Locate (idx [97, 98, 97, 98]) [97, 98]) _) = _
  rw [chk_pos (by decide), h3, Option.bind_some]
  show Option.bind (fmindex_Index_Extract (idx [97, 98, 97, 98]) 1 3) _ = _
  rw [h4, Option.bind_some]
  show Option.bind (fmindex_Index_Bytes (idx [97, 98, 97, 98])) _ = _
  rw [h5, Option.bind_some, h6, Option.bind_some, open_bad, Option.bind_some, if_pos rfl, if_pos rfl, if_pos rfl, if_pos rfl, if_pos rfl, if_pos rfl, ref_ints (by decide), Option.bind_some, if_pos (by decide), chk_pos (by decide), same, Option.bind_some, if_pos (by decide)]
  rw [Option.bind_some, same, Option.bind_some, if_pos (by decide)]
  show Option.bind (fmindex_Index_Length (idx [97, 98, 97, 98])) _ = _
  rw [h7, Option.bind_some, if_pos rfl, ref_at, Option.bind_some]
  rfl
theorem ref_form {a : List UInt8} (h : a.length ≤ 2048) : ref4_Form a = some (fmt a) := by
  have h1 := pri_lt a
  have hl := op_length a
  have hs := sym_length a
  have hsa := sufArr_length a
  have hop : ∀ k (hk : k + 1 < (op a).length), (sufArr a).getD k default = (((op a)[k + 1] : Nat) : Int) := fun k hk => by
    have := opI_get a hk
    rw [opI_cons] at this
    rw [← this]; rfl
  have key : ref4_Form_k1 a (sufArr a) (bod ((sym a).take 1)) = some (fmt a) := by
    have key := run_count (b := ref4_Form_bl3 a (sufArr a)) (m := some (fmt a)) (fun k => (bod ((sym a).take (k + 1)), ((if pri a ≤ k then pri a else 0 : Nat) : Int), (k : Int))) a.length (fun k hk => by
      unfold ref4_Form_bl3
      simp only
      have hk' : k + 1 < (op a).length := by omega
      have hle := op_le a hk'
      have hb := bod_len ((sym a).take (k + 1))
      have htk : ((sym a).take (k + 1)).length = k + 1 := by rw [List.length_take]; omega
      have hp := pri_op a hk'
      rw [if_pos (by omega), chk_pos (by omega), Int.toNat_natCast, hop k hk', take_succ_sym hk', bod_append]
      by_cases h0 : (op a)[k + 1] = 0
      · have e : k + 1 = pri a := hp.1 h0
        rw [if_pos (by omega), chk_pos (by constructor <;> omega), chk_pos (by constructor <;> omega), h0, if_pos (by omega), ← e]
        rw [show symOf a 0 = -1 from rfl, bod_none, List.append_nil]
        rfl
      · have e : k + 1 ≠ pri a := fun e => h0 (hp.2 e)
        have e1 : (((op a)[k + 1] : Int) - 1).toNat = (op a)[k + 1] - 1 := by omega
        have hsy : symOf a (op a)[k + 1] = ((a.getD ((op a)[k + 1] - 1) default).toNat : Int) := by unfold symOf; rw [if_neg h0]
        rw [if_neg (by omega), chk_pos (by omega), chk_pos (by constructor <;> omega), chk_pos (by omega), chk_pos (by simp only [List.length_singleton]; constructor <;> omega), chk_pos (by constructor <;> omega), e1, hsy, bod_one (by omega), u8_of]
        have e2 : (if pri a ≤ k then pri a else 0) = if pri a ≤ k + 1 then pri a else 0 := by
          by_cases h3 : pri a ≤ k
          · rw [if_pos h3, if_pos (by omega)]
          · rw [if_neg h3, if_neg (by omega)]
        rw [e2]
        rfl) (by
      unfold ref4_Form_bl3
      simp only
      rw [if_neg (by omega), List.take_of_length_le (by omega), if_pos (by omega)]
      unfold ref4_Form_k2
      have hb := (bod_sym a).2
      rw [chk_pos (by omega), chk_pos (by omega), chk_pos (by omega), chk_pos (by omega), chk_pos (by simp only [List.length_cons, List.length_nil]; constructor <;> omega)]
      have hu : ∀ x : Int, u8 (x % 256) = u8 x := fun x => by
        apply UInt8.toNat.inj
        have h1 := u8_toNat (x % 256)
        have h2 := u8_toNat x
        omega
      rw [hu, hu]
      rfl) 0 (by omega)
    have e0 : ((if pri a ≤ 0 then pri a else 0 : Nat) : Int) = 0 := by split <;> omega
    rw [e0] at key
    exact key
  unfold ref4_Form
  rw [ref_order h, Option.bind_some]
  have e1 : (sym a).take 1 = [symOf a a.length] := rfl
  rw [e1] at key
  by_cases h0 : (0 : Int) < (a.length : Int)
  · have e2 : ((a.length : Int) - 1).toNat = a.length - 1 := by omega
    have hsy : symOf a a.length = ((a.getD (a.length - 1) default).toNat : Int) := by unfold symOf; rw [if_neg (by omega)]
    rw [hsy, bod_one (by omega), u8_of] at key
    rw [if_pos h0, chk_pos (by constructor <;> omega), chk_pos (by omega), chk_pos (by simp only [List.length_singleton, List.length_nil]; constructor <;> omega), e2]
    exact key
  · have e3 : a.length = 0 := by omega
    rw [if_neg h0]
    rw [e3] at key
    exact key
theorem finds_match {a p : List UInt8} : law4_FmindexFindsMatchSpec a p = some true := by
  unfold law4_FmindexFindsMatchSpec
  rw [fm_build, Option.bind_some, finds_true, Option.bind_some, if_neg (by decide), text_fault, Option.bind_some]
  by_cases h : a.length ≤ 2048
  · rw [if_pos h, if_pos h, if_pos ⟨rfl, rfl⟩, if_pos rfl]
    show Option.bind (fmindex_Index_Count (idx a) p) _ = _
    rw [fm_count h, Option.bind_some]
    show Option.bind (fmindex_Index_Locate (idx a) p) _ = _
    rw [fm_locate h, Option.bind_some, pattern_fault, Option.bind_some, if_pos ⟨rfl, rfl⟩, if_pos ⟨rfl, rfl⟩]
    by_cases hp : pf p = (0, 0)
    · have hne := pf_ne hp
      have hoc : (occ a p).length ≤ a.length := by
        unfold occ occN
        rw [List.length_map]
        have := List.length_filter_le (fun q => pre (a.drop q) p) (List.range a.length)
        rw [List.length_range] at this; exact this
      rw [if_pos hp, if_pos hp, if_pos ((pf_one p).2 hp), ref_places h (by omega), Option.bind_some]
      show Option.bind (fmindex_Index_Length (idx a)) _ = _
      rw [fm_len a h, Option.bind_some, if_pos rfl, if_pos rfl, ref_ints (show (occ a p).length ≤ 9223372036854775807 by omega), Option.bind_some, decide_eq_true rfl]
    · rw [if_neg hp, if_neg hp, if_neg (fun e => hp ((pf_one p).1 e)), if_pos rfl]
      rfl
  · rw [if_neg h, if_neg h, if_pos ⟨rfl, rfl⟩, if_neg (by decide), len_none, Option.bind_some]
    rfl
theorem extract_matches {a : List UInt8} {x y : Int} : law4_FmindexExtractMatchesSpec a x y = some true := by
  unfold law4_FmindexExtractMatchesSpec
  rw [fm_build, Option.bind_some, finds_true, Option.bind_some, if_neg (by decide)]
  by_cases h : a.length ≤ 2048
  · rw [if_pos h, if_pos rfl]
    show Option.bind (fmindex_Index_Extract (idx a) x y) _ = _
    rw [fm_extract a h, Option.bind_some, ref_in, Option.bind_some]
    by_cases h1 : 0 ≤ x ∧ x ≤ (a.length : Int)
    · rw [if_pos h1, decide_eq_true h1, if_neg (by decide), ref_in, Option.bind_some]
      by_cases h2 : x ≤ y ∧ y ≤ (a.length : Int)
      · rw [if_pos h2, decide_eq_true h2, if_neg (by decide), if_pos rfl, chk_pos (by omega), same, Option.bind_some, decide_eq_true rfl]
      · rw [if_neg h2, decide_eq_false h2, if_pos (by decide), ref_at, Option.bind_some, if_pos ⟨rfl, rfl⟩]
        rfl
    · rw [if_neg h1, decide_eq_false h1, if_pos (by decide), ref_at, Option.bind_some, if_pos ⟨rfl, rfl⟩]
      rfl
  · rw [if_neg h, if_neg (by decide), Option.bind_some, if_pos rfl, decide_eq_true (by omega)]
theorem form_matches {a : List UInt8} : law4_FmindexFormMatchesSpec a = some true := by
  unfold law4_FmindexFormMatchesSpec
  rw [fm_build, Option.bind_some, finds_true, Option.bind_some, if_neg (by decide)]
  by_cases h : a.length ≤ 2048
  · rw [if_pos h, if_pos rfl]
    by_cases h1 : (150 : Int) < (a.length : Int)
    · rw [if_pos h1, Option.bind_some, if_pos rfl, if_pos rfl]
    · rw [if_neg h1]
      show Option.bind (fmindex_Index_Bytes (idx a)) _ = _
      rw [fm_bytes a h, Option.bind_some, ref_form h, Option.bind_some, same, Option.bind_some, decide_eq_true rfl]
  · rw [if_neg h, if_neg (by decide), Option.bind_some, if_pos rfl, if_neg (by decide), decide_eq_true (by omega)]
theorem reopens {a p : List UInt8} : law4_FmindexReopens a p = some true := by
  unfold law4_FmindexReopens
  rw [fm_build, Option.bind_some, finds_true, Option.bind_some, if_neg (by decide)]
  by_cases h : a.length ≤ 2048
  · rw [if_pos h, if_pos rfl]
    show Option.bind (fmindex_Index_Bytes (idx a)) _ = _
    rw [fm_bytes a h, Option.bind_some, open_fmt a h, Option.bind_some, if_pos rfl]
    show Option.bind (fmindex_Index_Length (idx a)) _ = _
    rw [fm_len a h, Option.bind_some, if_pos rfl]
    show Option.bind (fmindex_Index_Bytes (idx a)) _ = _
    rw [fm_bytes a h, Option.bind_some, same, Option.bind_some, decide_eq_true rfl]
    unfold law4_FmindexReopens_k1
    rw [if_neg (by decide)]
    show Option.bind (fmindex_Index_Locate (idx a) p) _ = _
    rw [fm_locate h, Option.bind_some]
    have hoc : (occ a p).length ≤ a.length := by
      unfold occ occN
      rw [List.length_map]
      have := List.length_filter_le (fun q => pre (a.drop q) p) (List.range a.length)
      rw [List.length_range] at this; exact this
    have hoc2 : (if pf p = (0, 0) then occ a p else []).length ≤ 9223372036854775807 := by
      split
      · omega
      · simp
    rw [Option.bind_some, if_pos ⟨rfl, rfl⟩, ref_ints hoc2, Option.bind_some, decide_eq_true rfl]
  · rw [if_neg h, if_neg (by decide), Option.bind_some, if_pos rfl, len_none, Option.bind_some]
    rfl
theorem agrees {a p : List UInt8} : law4_FmindexAgreesWithOrder a p = some true := by
  unfold law4_FmindexAgreesWithOrder
  rw [fm_build, Option.bind_some, suf_Find, Option.bind_some, finds_true, Option.bind_some, if_neg (by decide), sorts_true, Option.bind_some, if_neg (by decide)]
  by_cases h : a.length ≤ 2048
  · rw [if_pos h, if_pos rfl, if_pos h]
    by_cases hp : p.length ≤ 2048
    · rw [if_pos hp, if_pos rfl]
      show Option.bind (fmindex_Index_Count (idx a) p) _ = _
      rw [fm_count h, Option.bind_some, pattern_fault, Option.bind_some, if_pos ⟨rfl, rfl⟩]
      have hf := fs_le a p a.length
      by_cases hq : pf p = (0, 0)
      · have ho : (occ a p).length = (fs a p a.length).2 := by unfold occ; rw [List.length_map, occ_fs]
        rw [if_pos ((pf_one p).2 hq), if_pos hq, chk_pos (show I64 (((fs a p a.length).1 : Int) + ((fs a p a.length).2 : Int) - ((fs a p a.length).1 : Int)) by constructor <;> omega), decide_eq_true (show ((occ a p).length : Int) = ((fs a p a.length).1 : Int) + ((fs a p a.length).2 : Int) - ((fs a p a.length).1 : Int) by omega)]
      · rw [if_neg (fun e => hq ((pf_one p).1 e))]
    · rw [if_neg hp, if_neg (by decide), Option.bind_some, if_pos rfl, Option.bind_some, if_pos rfl]
      show Option.bind (fmindex_Index_Length (idx a)) _ = _
      rw [fm_len a h, Option.bind_some, decide_eq_true (by omega)]
  · rw [if_neg h, if_neg (by decide), Option.bind_some, if_pos rfl, Option.bind_some, if_pos rfl, len_none, Option.bind_some]
    rfl
end Go.Proofs.Ytmifkdfaaaaicaa
