/- The laws JoinMatchesSpec and MendMatchesSpec, plainly. -/
import Derived.Test.YtidedcbaahiplaaShF
namespace Go.Proofs.Ytidedcbaahiplaa
open Go Go.L

theorem frF_first {l : List M.Sh} {m : Nat} : ∀ (n i : Nat), (M.frF l m n i = (0, 0) ∧ ∀ q, i ≤ q → q < i + n → M.atS (l.take m) (M.kb (l.getD q default).1) = (l.getD q default).2) ∨
    ∃ j, i ≤ j ∧ j < i + n ∧ M.frF l m n i = (19, (j : Int)) ∧ M.atS (l.take m) (M.kb (l.getD j default).1) ≠ (l.getD j default).2 ∧ ∀ q, i ≤ q → q < j → M.atS (l.take m) (M.kb (l.getD q default).1) = (l.getD q default).2
  | 0, i => .inl ⟨rfl, fun q h1 h2 => by omega⟩
  | n + 1, i => by
    rw [M.frF]
    split
    · rename_i hf
      rcases frF_first n (i + 1) with ⟨h, hq⟩ | ⟨j, h1, h2, h3, h4, h5⟩
      · refine .inl ⟨h, fun q a b => ?_⟩
        rcases Nat.eq_or_lt_of_le a with e | e
        · subst e; exact hf
        · exact hq q e (by omega)
      · refine .inr ⟨j, by omega, by omega, h3, h4, fun q a b => ?_⟩
        rcases Nat.eq_or_lt_of_le a with e | e
        · subst e; exact hf
        · exact h5 q e b
    · rename_i hf
      exact .inr ⟨i, by omega, by omega, rfl, hf, fun q a b => by omega⟩
theorem head_filter (p : Nat → Bool) : ∀ (k j : Nat), j < k → p j = true → (∀ i, i < j → p i = false) → ∃ t, (List.range k).filter p = j :: t
  | 0, j, h, _, _ => by omega
  | k + 1, j, h, hp, hn => by
    rw [List.range_succ, List.filter_append]
    rcases Nat.lt_or_ge j k with h1 | h1
    · obtain ⟨t, ht⟩ := head_filter p k j h1 hp hn
      exact ⟨t ++ _, by rw [ht]; rfl⟩
    · obtain rfl : j = k := by omega
      have : (List.range j).filter p = [] := List.filter_eq_nil_iff.2 fun i hi => by rw [hn i (List.mem_range.1 hi)]; decide
      exact ⟨[], by rw [this, List.filter_cons, if_pos hp]; rfl⟩
/-- The first share that does not fit. -/
theorem frg_nfs {l : List M.Sh} {m : Nat} (hl : M.Fine l) (hm : 0 < m) (hml : m ≤ l.length) : (M.frg l m = (0, 0) ∧ M.nfs (l.take m) l = []) ∨ ∃ (j : Nat) (t : List Nat), M.frg l m = (19, (j : Int)) ∧ M.nfs (l.take m) l = j :: t := by
  have hb : M.Bs m (l.getD 0 default).2.length (l.take m) := hl.sub_bs (List.take_sublist m l) (by rw [List.length_take]; omega) hm
  have hself : ∀ i, i < m → M.atS (l.take m) (M.kb (l.getD i default).1) = (l.getD i default).2 := fun i hi => by
    have := hb.self (i := i) (by rw [List.length_take]; omega)
    rw [M.getD_take hi] at this; exact this
  rcases frF_first (l := l) (m := m) (l.length - m) m with ⟨h1, h2⟩ | ⟨j, h1, h2, h3, h4, h5⟩
  · refine .inl ⟨h1, List.eq_nil_iff_forall_not_mem.2 fun i hi => ?_⟩
    have := M.nfs_mem.1 hi
    rcases Nat.lt_or_ge i m with h | h
    · exact this.2 (hself i h)
    · exact this.2 (h2 i h (by omega))
  · obtain ⟨t, ht⟩ := head_filter (fun i => decide (M.atS (l.take m) (M.kb (l.getD i default).1) ≠ (l.getD i default).2)) l.length j (by omega) (by simpa using h4) (fun i hi => by
      have : M.atS (l.take m) (M.kb (l.getD i default).1) = (l.getD i default).2 := by
        rcases Nat.lt_or_ge i m with h | h
        · exact hself i h
        · exact h5 i h hi
      simp only [ne_eq, this, not_true_eq_false, decide_false])
    exact .inr ⟨j, t, h3, ht⟩
theorem join_end {l : List M.Sh} {m k c37 c38 c39 c40 : Int} {p : List (List UInt8)} (h1 : M.jnF l m = (c39, c40)) (h2 : M.axF l m k = (c37, c38)) (h3 : c39 ≠ 0 → M.jn l m = []) (h4 : c37 ≠ 0 → M.axK l m k = 0 ∧ M.axD l m k = [])
    (h5 : c39 = 0 → ref4_Values p 0 = some (M.jn l m)) (h6 : c37 = 0 → M.axK l m k = k ∧ ref4_Values p (u8 k) = some (M.axD l m k)) : law4_SharesJoinMatchesSpec_k1 l m k c37 c38 c39 c40 p = some true := by
  unfold law4_SharesJoinMatchesSpec_k1 law4_SharesJoinMatchesSpec_k2 law4_SharesJoinMatchesSpec_k3 law4_SharesJoinMatchesSpec_k4 law4_SharesJoinMatchesSpec_k5 law4_SharesJoinMatchesSpec_k6 law4_SharesJoinMatchesSpec_k7 law4_SharesJoinMatchesSpec_k8 law4_SharesJoinMatchesSpec_k9
  rw [h1, h2]
  by_cases a : c39 = 0
  · by_cases b : c37 = 0
    · simp [a, b, h5 a, h6 b]
    · simp [a, b, h5 a, h4 b]
  · by_cases b : c37 = 0
    · simp [a, b, h3 a, h6 b]
    · simp [a, b, h3 a, h4 b]
theorem join_matches {l : List M.Sh} {m k : Int} : law4_SharesJoinMatchesSpec l m k = some true := by
  unfold law4_SharesJoinMatchesSpec
  rw [enough_fault, Option.bind_some]
  by_cases h0 : (M.chkAll l m).1 = 0
  · have e0 := chkAll_code h0
    obtain ⟨_, _, h10, h1, h2, h3⟩ := M.chkAll_ok e0
    have hfine := chkAll_fine e0
    rw [if_pos h0, chk_pos (by omega)]
    have hb : M.Bs m.toNat (l.getD 0 default).2.length (l.take m.toNat) := hfine.sub_bs (List.take_sublist _ l) (by rw [List.length_take]; omega) (by omega)
    have hD : (l.getD 0 default).2.length ≤ 4096 := hfine.m 0 (by omega)
    have hk : ∀ i, i < (l.take m.toNat).length → 0 ≤ ((l.take m.toNat).getD i default).1 ∧ ((l.take m.toNat).getD i default).1 ≤ 255 := fun i hi => by
      rw [List.length_take] at hi
      rw [M.getD_take (by omega)]
      have := hfine.k i (by omega)
      omega
    rw [polynomials_eq hb (by omega) hk hD, Option.bind_some, forged_eq hfine hb hD, Option.bind_some, List.length_map]
    have hj0 : M.jnF l m = M.frg l m.toNat := by rw [M.jnF, if_neg (fun h => h e0)]
    have ha0 : M.axF l m k = if k < 1 ∨ 10 < k then (4, -3) else M.frg l m.toNat := by rw [M.axF, if_neg (fun h => h e0)]
    rw [e0]
    rcases frg_nfs hfine (m := m.toNat) (by omega) (by omega) with ⟨f1, f2⟩ | ⟨j, t, f1, f2⟩
    · rw [f1] at hj0 ha0
      rw [f2, if_neg (by simp)]
      by_cases hk1 : k < 1 ∨ 10 < k
      · rw [if_pos hk1] at ha0
        have er : M.rgF (0, 0) k 1 10 (-3) = (4, -3) := by rw [M.rgF, if_pos ⟨rfl, by omega⟩]
        simp only [er]
        refine join_end hj0 ha0 (fun h => absurd rfl h) (fun _ => ?_) (fun _ => ?_) (fun h => by cases h)
        · rw [M.axK, M.axD, ha0, if_neg (by decide), if_neg (by decide)]; exact ⟨rfl, rfl⟩
        · rw [values_at hb hD, M.jn, if_pos hj0]
      · rw [if_neg hk1] at ha0
        have er : M.rgF (0, 0) k 1 10 (-3) = (0, 0) := by rw [M.rgF, if_neg (fun h => h.2 (by omega))]
        simp only [er]
        refine join_end hj0 ha0 (fun h => absurd rfl h) (fun h => absurd rfl h) (fun _ => ?_) (fun _ => ⟨?_, ?_⟩)
        · rw [values_at hb hD, M.jn, if_pos hj0]
        · rw [M.axK, if_pos ha0]
        · rw [u8_kb (by omega), values_at hb hD, M.axD, if_pos ha0]
    · rw [f1] at hj0 ha0
      rw [f2, if_pos (by simp), chk_pos (by simp)]
      have eg : ((j :: t).map fun j : Nat => (j : Int)).getD (0 : Int).toNat default = (j : Int) := rfl
      simp only [eg]
      by_cases hk1 : k < 1 ∨ 10 < k
      · rw [if_pos hk1] at ha0
        have er : M.rgF (0, 0) k 1 10 (-3) = (4, -3) := by rw [M.rgF, if_pos ⟨rfl, by omega⟩]
        simp only [er]
        rw [if_neg (by decide)]
        refine join_end hj0 ha0 (fun _ => ?_) (fun _ => ?_) (fun h => by cases h) (fun h => by cases h)
        · rw [M.jn, hj0, if_neg (by simp)]
        · rw [M.axK, M.axD, ha0, if_neg (by decide), if_neg (by decide)]; exact ⟨rfl, rfl⟩
      · rw [if_neg hk1] at ha0
        have er : M.rgF (0, 0) k 1 10 (-3) = (0, 0) := by rw [M.rgF, if_neg (fun h => h.2 (by omega))]
        simp only [er]
        rw [if_pos trivial]
        refine join_end hj0 ha0 (fun _ => ?_) (fun _ => ?_) (fun h => by cases h) (fun h => by cases h)
        · rw [M.jn, hj0, if_neg (by simp)]
        · rw [M.axK, M.axD, ha0, if_neg (by simp), if_neg (by simp)]; exact ⟨rfl, rfl⟩
  · rw [if_neg h0]
    have er : M.rgF (M.chkAll l m) k 1 10 (-3) = M.chkAll l m := by rw [M.rgF, if_neg (fun h => h0 h.1)]
    have hne : M.chkAll l m ≠ (0, 0) := fun e => h0 (by rw [e])
    have hj0 : M.jnF l m = M.chkAll l m := by rw [M.jnF, if_pos hne]
    have ha0 : M.axF l m k = M.chkAll l m := by rw [M.axF, if_pos hne]
    show law4_SharesJoinMatchesSpec_k1 l m k (M.rgF (M.chkAll l m) k 1 10 (-3)).1 (M.rgF (M.chkAll l m) k 1 10 (-3)).2 (M.chkAll l m).1 (M.chkAll l m).2 [] = some true
    rw [er]
    refine join_end hj0 ha0 (fun _ => ?_) (fun _ => ?_) (fun h => absurd h h0) (fun h => absurd h h0)
    · rw [M.jn, hj0, if_neg hne]
    · rw [M.axK, M.axD, ha0, if_neg hne, if_neg hne]; exact ⟨rfl, rfl⟩

theorem power_eq {n : Nat} (h : n ≤ 10) : ref3_Power (n : Int) = some ((2 ^ n : Nat) : Int) := by
  refine run_count (fun i => (((2 ^ i : Nat) : Int), (i : Int))) n (fun i hi => ?_) ?_ 0 (Nat.zero_le _)
  · show ref3_Power_bl2 (n : Int) _ = _
    have hp : 2 ^ i ≤ 2 ^ 10 := Nat.pow_le_pow_right (by decide) (by omega)
    generalize hz : 2 ^ i = z at hp
    have e : (2 : Int) * (z : Int) = ((2 ^ (i + 1) : Nat) : Int) := by rw [Nat.pow_succ, hz]; omega
    simp only [ref3_Power_bl2, hz]
    rw [if_pos (by omega), chk_pos (by unfold I64; omega), chk_pos (by unfold I64; omega), e]
    rfl
  · show ref3_Power_bl2 (n : Int) _ = _
    simp only [ref3_Power_bl2]
    rw [if_neg (by omega)]
    rfl
theorem chs_low (l : List M.Sh) {b c : Nat} : ∀ i, (∀ j, j < i → b / 2 ^ j % 2 = c / 2 ^ j % 2) → M.chs l b i = M.chs l c i
  | 0, _ => rfl
  | i + 1, h => by rw [M.chs, M.chs, chs_low l i (fun j hj => h j (by omega)), h i (by omega)]
theorem bit_add {b i j : Nat} (hj : j < i) : (b + 2 ^ i) / 2 ^ j % 2 = b / 2 ^ j % 2 := by
  have e : 2 ^ i = 2 ^ j * (2 * 2 ^ (i - j - 1)) := by rw [← Nat.mul_assoc, ← Nat.pow_succ, ← Nat.pow_add]; congr 1; omega
  rw [e, Nat.add_mul_div_left _ _ (Nat.two_pow_pos j), Nat.add_mul_mod_self_left]
/-- Every part of a list is chosen by some bits. -/
theorem chs_all {l : List M.Sh} : ∀ (i : Nat), i ≤ l.length → ∀ b : List M.Sh, b.Sublist (l.take i) → ∃ s, s < 2 ^ i ∧ M.chs l s i = b
  | 0, _, b, h => by
    have : b = [] := by simpa using h
    subst this; exact ⟨0, by decide, rfl⟩
  | i + 1, hi, b, h => by
    have hi' : i < l.length := by omega
    rw [List.take_succ_eq_append_getElem hi'] at h
    obtain ⟨x, y, rfl, hx, hy⟩ := List.sublist_append_iff.1 h
    obtain ⟨s, hs, hc⟩ := chs_all i (by omega) x hx
    have hp : 2 ^ (i + 1) = 2 ^ i + 2 ^ i := by rw [Nat.pow_succ]; omega
    have hz : s / 2 ^ i = 0 := Nat.div_eq_of_lt hs
    cases hy with
    | cons _ hy =>
      have : y = [] := by simpa using hy
      subst this
      refine ⟨s, by omega, ?_⟩
      rw [M.chs, hc, hz, if_neg (by decide)]
    | cons_cons _ hy =>
      rename_i y
      have : y = [] := by simpa using hy
      subst this
      refine ⟨s + 2 ^ i, by omega, ?_⟩
      rw [M.chs, chs_low l (c := s) i (fun j hj => bit_add hj), hc, Nat.add_div_right _ (Nat.two_pow_pos i), hz, if_pos (by decide), M.getD_lt hi']
section
variable {l : List M.Sh} {m : Int}
/-- A base that most shares fit. -/
def Fit (l : List M.Sh) (m : Int) (b : List M.Sh) : Prop := b.length = m.toNat ∧ 2 * ((M.nfs b l).length : Int) ≤ (l.length : Int) - m
theorem mended_step (hc : M.chkAll l m = (0, 0)) {s : Nat} (hs : s < 2 ^ l.length) : (Fit l m (M.chs l s l.length) → law4_mended_bl2 l m (s : Int) = some (.inr (M.atS (M.chs l s l.length) 0, (M.nfs (M.chs l s l.length) l).map fun j : Nat => (j : Int), true))) ∧
    (¬ Fit l m (M.chs l s l.length) → law4_mended_bl2 l m (s : Int) = some (.inl ((s : Int) + 1))) := by
  obtain ⟨_, _, h10, h1, h2, h3⟩ := M.chkAll_ok hc
  have hfine := chkAll_fine hc
  have hp : 2 ^ l.length ≤ 2 ^ 10 := Nat.pow_le_pow_right (by decide) h10
  have hI : I64 ((s : Int) + 1) := by unfold I64; omega
  have hch : chosenL l (s : Int) = some (M.chs l s l.length) := by unfold chosenL; rw [chk_pos (by omega), Int.toNat_natCast]
  have hsub : (M.chs l s l.length).Sublist l := by
    have := M.chs_sub l s l.length (Nat.le_refl _)
    rw [List.take_length] at this; exact this
  have hD : (l.getD 0 default).2.length ≤ 4096 := hfine.m 0 (by omega)
  have hbody : law4_mended_bl2 l m (s : Int) = if ((M.chs l s l.length).length : Int) = m then Option.bind (ref4_Polynomials (M.chs l s l.length)) (fun x66 => Option.bind (ref4_Forged l x66) (fun x68 => Go.L.chk (Go.L.I64 ((2 : Int) * (x68.length : Int))) (Go.L.chk (Go.L.I64 ((l.length : Int) - m)) (if ((2 : Int) * (x68.length : Int)) ≤ ((l.length : Int) - m) then Option.bind (ref4_Values x66 (0 : UInt8)) (fun x74 => Option.map Sum.inr (some (x74, x68, true))) else Go.L.chk (Go.L.I64 ((s : Int) + (1 : Int))) (some (Sum.inl ((s : Int) + (1 : Int)))))))) else some (.inl ((s : Int) + 1)) := by
    unfold law4_mended_bl2
    rw [power_eq h10, Option.bind_some, if_pos (by omega), hch, Option.bind_some]
    split
    · rfl
    · rw [chk_pos hI]
  rw [hbody]
  by_cases hlen : ((M.chs l s l.length).length : Int) = m
  · have hb : M.Bs m.toNat (l.getD 0 default).2.length (M.chs l s l.length) := hfine.sub_bs hsub (by omega) (by omega)
    have hcnt : (M.nfs (M.chs l s l.length) l).length ≤ l.length := by
      have := List.length_filter_le (fun i => decide (M.atS (M.chs l s l.length) (M.kb (l.getD i default).1) ≠ (l.getD i default).2)) (List.range l.length)
      rw [List.length_range] at this; exact this
    rw [if_pos hlen, polynomials_eq hb (by omega) (fun i hi => by
      have hmem : (M.chs l s l.length).getD i default ∈ l := hsub.subset (by simp [List.getD_eq_getElem?_getD, hi])
      have := hfine.mem _ hmem
      omega) hD, Option.bind_some, forged_eq hfine hb hD, Option.bind_some, List.length_map, chk_pos (by unfold I64; omega), chk_pos (by unfold I64; omega), values_at hb hD, Option.bind_some]
    constructor
    · intro hf
      rw [if_pos hf.2]; rfl
    · intro hf
      rw [if_neg (fun h => hf ⟨by omega, h⟩), chk_pos hI]
  · rw [if_neg hlen]
    exact ⟨fun hf => absurd hf.1 (by omega), fun _ => rfl⟩
theorem mended_eq (hc : M.chkAll l m = (0, 0)) : (∃ b : List M.Sh, b.Sublist l ∧ Fit l m b ∧ law4_mended l m = some (M.atS b 0, (M.nfs b l).map fun j : Nat => (j : Int), true)) ∨ ((∀ b : List M.Sh, b.Sublist l → ¬ Fit l m b) ∧ law4_mended l m = some ([], [], false)) := by
  obtain ⟨_, _, h10, h1, h2, h3⟩ := M.chkAll_ok hc
  have hp : 2 ^ l.length ≤ 2 ^ 10 := Nat.pow_le_pow_right (by decide) h10
  by_cases hex : ∃ s, 0 ≤ s ∧ s < 2 ^ l.length ∧ Fit l m (M.chs l s l.length)
  · obtain ⟨s, _, s2, s3, s4⟩ := M.least hex
    left
    refine ⟨M.chs l s l.length, ?_, s3, ?_⟩
    · have := M.chs_sub l s l.length (Nat.le_refl _)
      rw [List.take_length] at this; exact this
    · exact run_count (b := law4_mended_bl2 l m) (m := some _) (fun i => (i : Int)) s (fun i hi => (mended_step hc (by omega)).2 (s4 i (Nat.zero_le _) hi)) ((mended_step hc s2).1 s3) 0 (Nat.zero_le _)
  · right
    have hno : ∀ s, s < 2 ^ l.length → ¬ Fit l m (M.chs l s l.length) := fun s hs hf => hex ⟨s, Nat.zero_le _, hs, hf⟩
    refine ⟨fun b hb hf => ?_, ?_⟩
    · obtain ⟨s, hs, e⟩ := chs_all l.length (Nat.le_refl _) b (by rw [List.take_length]; exact hb)
      exact hno s hs (by rw [e]; exact hf)
    · refine run_count (b := law4_mended_bl2 l m) (fun i => (i : Int)) (2 ^ l.length) (fun i hi => (mended_step hc hi).2 (hno i hi)) ?_ 0 (Nat.zero_le _)
      unfold law4_mended_bl2
      rw [power_eq h10, Option.bind_some, if_neg (by omega)]
      rfl
theorem mend_matches : law4_SharesMendMatchesSpec l m = some true := by
  unfold law4_SharesMendMatchesSpec
  rw [enough_fault, Option.bind_some, if_neg (by decide)]
  by_cases h0 : (M.chkAll l m).1 = 0
  · have hc := chkAll_code h0
    obtain ⟨_, _, h10, h1, h2, h3⟩ := M.chkAll_ok hc
    have hfine := chkAll_fine hc
    rw [if_pos h0]
    rcases M.mend_find hc with ⟨b, b1, b2, b3, b4, b5, b6⟩ | ⟨b1, b4, b5, b6⟩
    · simp only [b4, if_true]
      by_cases h6 : (6 : Int) < (l.length : Int)
      · rw [if_pos h6]
      · rw [if_neg h6, chk_pos (by omega)]
        by_cases h7 : (3 : Int) < ((l.getD (0 : Int).toNat default).2.length : Int)
        · rw [if_pos h7]
        · rw [if_neg h7]
          rcases mended_eq hc with ⟨d, d1, d2, d3⟩ | ⟨d1, _⟩
          · have hb := hfine.sub_bs b1 b2 (by omega)
            have hd := hfine.sub_bs d1 d2.1 (by omega)
            have hd2 := d2.2
            have hu := M.code_unique hfine hb hd (by omega)
            rw [d3, Option.bind_some, if_neg (by simp), b5, b6, hu, M.nfs_congr hu]
            simp
          · exact absurd ⟨b2, b3⟩ (d1 b b1)
    · have e1 : ((M.mnS l m).length : Int) + ((M.mnB l m).length : Int) = 0 := by rw [b5, b6]; rfl
      have hI : I64 (((M.mnS l m).length : Int) + ((M.mnB l m).length : Int)) := by rw [e1]; unfold I64; omega
      simp only [b4, and_self, if_true, show ¬ ((19 : Int) = 0) by decide, if_false, chk_pos hI, e1, decide_true, chk_pos (show I64 0 by unfold I64; omega)]
      by_cases h6 : (6 : Int) < (l.length : Int)
      · rw [if_pos h6]
      · rw [if_neg h6, chk_pos (by omega)]
        by_cases h7 : (3 : Int) < ((l.getD (0 : Int).toNat default).2.length : Int)
        · rw [if_pos h7]
        · rw [if_neg h7]
          rcases mended_eq hc with ⟨d, d1, d2, _⟩ | ⟨_, d3⟩
          · exact absurd d2.2 (b1 d d1 d2.1)
          · rw [d3, Option.bind_some]; rfl
  · have hne : M.chkAll l m ≠ (0, 0) := fun e => h0 (by rw [e])
    have hF : M.mnF l m = M.chkAll l m := by rw [M.mnF, if_pos hne]
    have b5 : M.mnS l m = [] := by rw [M.mnS, hF, if_neg hne]
    have b6 : M.mnB l m = [] := by rw [M.mnB, hF, if_neg hne]
    rw [if_neg h0, if_pos rfl, hF, if_pos ⟨rfl, rfl⟩, b5, b6, chk_pos (by unfold I64; simp)]
    rfl
end
end Go.Proofs.Ytidedcbaahiplaa
