/- The faults of lists of shares and the law ExplainMatchesSpec, plainly. -/
import Derived.Test.YtidedcbaahiplaaShA
import Derived.Test.YtidedcbaahiplaaPolyD
namespace Go.Proofs.Ytidedcbaahiplaa
open Go Go.L

theorem fidx_take {l : List M.Sh} {k : Int} {i : Nat} : ∀ (n j : Nat), j + n ≤ i → M.fidx (l.take i) k n j = M.fidx l k n j
  | 0, _, _ => rfl
  | n + 1, j, h => by rw [M.fidx, M.fidx, M.getD_take (by omega), fidx_take n (j + 1) (by omega)]
theorem sf_inner {l : List M.Sh} {i : Nat} (hi : i < l.length) (hl : l.length ≤ 10) : ∀ d k, k + d = i →
    ref4_SharesFault_l5 l (i : Int) (k : Int) = if 0 ≤ M.fidx l (l.getD i default).1 d k then some (.inr (8, (i : Int))) else ref4_SharesFault_k4 l (i : Int)
  | 0, k, h => by
    rw [M.fidx, if_neg (by omega)]
    refine run_inr ?_
    unfold ref4_SharesFault_bl5
    rw [if_neg (by omega)]
  | d + 1, k, h => by
    have ih := sf_inner hi hl d (k + 1) (by omega)
    unfold ref4_SharesFault_l5 at ih ⊢
    by_cases hk : (l.getD k default).1 = (l.getD i default).1
    · rw [M.fidx, if_pos hk, if_pos (by omega)]
      refine run_inr ?_
      unfold ref4_SharesFault_bl5
      rw [if_pos (by omega), chk_pos (by omega), chk_pos (by omega), Int.toNat_natCast, Int.toNat_natCast, if_pos hk]
      rfl
    · rw [M.fidx, if_neg hk, ← ih]
      refine run_inl ?_
      unfold ref4_SharesFault_bl5
      rw [if_pos (by omega), chk_pos (by omega), chk_pos (by omega), Int.toNat_natCast, Int.toNat_natCast, if_neg hk, chk_pos (by unfold I64; omega)]
      simp
theorem sf_round {l : List M.Sh} {i : Nat} (hi : i < l.length) (hl : l.length ≤ 10) : ref4_SharesFault_bl2 l (i : Int) = if M.chk1 l i = 0 then some (.inl ((i + 1 : Nat) : Int)) else some (.inr (M.chk1 l i, (i : Int))) := by
  have hin := sf_inner hi hl i 0 (by omega)
  rw [show ((0 : Nat) : Int) = 0 from rfl] at hin
  have hft : M.fidx (l.take i) (l.getD i default).1 (l.take i).length 0 = M.fidx l (l.getD i default).1 i 0 := by
    rw [show (l.take i).length = i by simp only [List.length_take]; omega]
    exact fidx_take _ _ (by omega)
  unfold ref4_SharesFault_bl2
  rw [if_pos (by omega), chk_pos (by omega), Int.toNat_natCast]
  by_cases h1 : (l.getD i default).1 < 1 ∨ 10 < (l.getD i default).1
  · have hc : M.chk1 l i = 4 := by unfold M.chk1; rw [if_pos h1]
    rw [hc, if_neg (by omega), if_neg (by decide)]; rfl
  · rw [if_pos (by omega), hin]
    by_cases h2 : 0 ≤ M.fidx l (l.getD i default).1 i 0
    · have hc : M.chk1 l i = 8 := by unfold M.chk1; rw [if_neg h1, hft, if_pos h2]
      rw [hc, if_pos h2, if_neg (by decide)]
    · rw [if_neg h2]
      unfold ref4_SharesFault_k4 ref4_SharesFault_k3
      rw [chk_pos (by omega), Int.toNat_natCast]
      by_cases h3 : 4096 < (l.getD i default).2.length
      · have hc : M.chk1 l i = 3 := by unfold M.chk1; rw [if_neg h1, hft, if_neg h2, if_pos h3]
        rw [hc, if_pos (by omega), if_neg (by decide)]; rfl
      · rw [if_neg (by omega), chk_pos (by omega), chk_pos (by omega)]
        by_cases h4 : (l.getD i default).2.length = (l.getD 0 default).2.length
        · have hc : M.chk1 l i = 0 := by unfold M.chk1; rw [if_neg h1, hft, if_neg h2, if_neg h3, if_neg (fun h => h h4)]
          rw [hc, if_pos (by rw [h4]; rfl), if_pos rfl, chk_pos (by unfold I64; omega)]
          simp
        · have hc : M.chk1 l i = 9 := by unfold M.chk1; rw [if_neg h1, hft, if_neg h2, if_neg h3, if_pos h4]
          rw [hc, if_neg (by intro h; exact h4 (Int.ofNat.inj h)), if_neg (by decide)]; rfl
theorem shares_fault (l : List M.Sh) : ref4_SharesFault l = some (M.chkList l) := by
  unfold ref4_SharesFault M.chkList
  by_cases hl : 10 < l.length
  · rw [if_pos (by omega), if_pos hl]
  · rw [if_neg (by omega), if_neg hl]
    have key : ∀ d i, i + d = l.length → ref4_SharesFault_l2 l (i : Int) = some (M.chF l d i) := by
      intro d
      induction d with
      | zero =>
        intro i h
        refine run_inr ?_
        unfold ref4_SharesFault_bl2
        rw [if_neg (by omega)]
        rfl
      | succ d ih =>
        intro i h
        have hr := sf_round (l := l) (i := i) (by omega) (by omega)
        unfold ref4_SharesFault_l2
        rw [M.chF]
        by_cases h0 : M.chk1 l i = 0
        · rw [if_pos h0] at hr ⊢
          rw [run_inl hr]
          exact ih (i + 1) (by omega)
        · rw [if_neg h0] at hr ⊢
          exact run_inr hr
    exact key l.length 0 (by omega)

theorem chkList_code {l : List M.Sh} (h : (M.chkList l).1 = 0) : M.chkList l = (0, 0) := by
  unfold M.chkList at h ⊢
  split
  · rename_i hl; rw [if_pos hl] at h; cases h
  · rename_i hl
    rw [if_neg hl] at h
    have key : ∀ n i, (M.chF l n i).1 = 0 → M.chF l n i = (0, 0) := by
      intro n
      induction n with
      | zero => intro i _; rfl
      | succ n ih =>
        intro i hh
        rw [M.chF] at hh ⊢
        split
        · rename_i h0; rw [if_pos h0] at hh; exact ih _ hh
        · rename_i h0; rw [if_neg h0] at hh; exact absurd hh h0
    exact key _ _ h

/-- The fault that the law says. -/
theorem explain_spec (l : List M.Sh) (m : Int) (S : List UInt8) (hm : I64 m) : law4_SharesExplainMatchesSpec l m S = law4_SharesExplainMatchesSpec_k3 l m S (M.exF l m S).1 (M.exF l m S).2 := by
  unfold law4_SharesExplainMatchesSpec
  rw [shares_fault, Option.bind_some]
  have hpair : ((M.chkList l).1, (M.chkList l).2) = M.chkList l := rfl
  rw [hpair]
  by_cases h0 : (M.chkList l).1 = 0
  · have e0 := chkList_code h0
    by_cases h1 : 1 ≤ m ∧ m ≤ 10
    · have er : M.rgF (M.chkList l) m 1 10 (-2) = (0, 0) := by unfold M.rgF; rw [if_neg (fun h => h.2 h1), e0]
      rw [er, if_pos rfl, chk_pos (by unfold I64; omega)]
      by_cases h2 : (l.length : Int) = m - 1
      · rw [if_pos h2]
        unfold law4_SharesExplainMatchesSpec_k1 law4_SharesExplainMatchesSpec_k2
        rw [if_pos rfl]
        by_cases h3 : 4096 < S.length
        · have hE : M.exF l m S = (3, -3) := by unfold M.exF; rw [if_neg (fun h => h e0), if_neg (fun h => h h1), if_neg (fun h => h h2), if_pos h3]
          rw [hE, if_pos (by omega), if_neg (by decide)]
        · rw [if_neg (by omega), if_pos rfl]
          by_cases h4 : 0 < l.length
          · rw [if_pos (by omega), chk_pos (by omega)]
            by_cases h5 : S.length = (l.getD 0 default).2.length
            · have hE : M.exF l m S = (0, 0) := by unfold M.exF; rw [if_neg (fun h => h e0), if_neg (fun h => h h1), if_neg (fun h => h h2), if_neg h3, if_neg (fun h => h.2 h5)]
              rw [hE, if_pos (by rw [h5]; rfl)]
            · have hE : M.exF l m S = (9, -3) := by unfold M.exF; rw [if_neg (fun h => h e0), if_neg (fun h => h h1), if_neg (fun h => h h2), if_neg h3, if_pos ⟨h4, h5⟩]
              rw [hE, if_neg (by intro h; exact h5 (Int.ofNat.inj h))]
          · have hE : M.exF l m S = (0, 0) := by unfold M.exF; rw [if_neg (fun h => h e0), if_neg (fun h => h h1), if_neg (fun h => h h2), if_neg h3, if_neg (fun h => h4 h.1)]
            rw [hE, if_neg (by omega)]
      · have hE : M.exF l m S = (9, -1) := by unfold M.exF; rw [if_neg (fun h => h e0), if_neg (fun h => h h1), if_pos h2]
        rw [hE, if_neg h2]
        unfold law4_SharesExplainMatchesSpec_k1 law4_SharesExplainMatchesSpec_k2
        rw [if_neg (by decide), if_neg (by decide)]
    · have er : M.rgF (M.chkList l) m 1 10 (-2) = (4, -2) := by unfold M.rgF; rw [if_pos ⟨h0, h1⟩]
      have hE : M.exF l m S = (4, -2) := by unfold M.exF; rw [if_neg (fun h => h e0), if_pos h1]
      rw [er, hE, if_neg (by decide)]
      unfold law4_SharesExplainMatchesSpec_k1 law4_SharesExplainMatchesSpec_k2
      rw [if_neg (by decide), if_neg (by decide)]
  · have e0 : M.chkList l ≠ (0, 0) := fun h => h0 (by rw [h])
    have er : M.rgF (M.chkList l) m 1 10 (-2) = M.chkList l := by unfold M.rgF; rw [if_neg (fun h => h0 h.1)]
    have hE : M.exF l m S = M.chkList l := by unfold M.exF; rw [if_pos e0]
    rw [er, hE, if_neg h0]
    unfold law4_SharesExplainMatchesSpec_k1 law4_SharesExplainMatchesSpec_k2
    rw [if_neg h0, if_neg h0]

theorem exF_code {l : List M.Sh} {m : Int} {S : List UInt8} (h : (M.exF l m S).1 = 0) : M.exF l m S = (0, 0) := by
  unfold M.exF at h ⊢
  by_cases h0 : M.chkList l = (0, 0)
  · rw [if_neg (fun k => k h0)] at h ⊢
    split
    · rename_i h1; rw [if_pos h1] at h; cases h
    · rename_i h1
      rw [if_neg h1] at h
      split
      · rename_i h2; rw [if_pos h2] at h; cases h
      · rename_i h2
        rw [if_neg h2] at h
        split
        · rename_i h3; rw [if_pos h3] at h; cases h
        · rename_i h3
          rw [if_neg h3] at h
          split
          · rename_i h4; rw [if_pos h4] at h; cases h
          · rfl
  · rw [if_pos h0] at h
    exact absurd (chkList_code h) h0

theorem slice_one {α : Type} [Inhabited α] {l : List α} {i : Nat} (hi : i < l.length) : (l.drop i).take 1 = [l.getD i default] := by
  rw [List.drop_eq_getElem_cons hi, M.getD_lt hi]; rfl

theorem explain_matches {l : List M.Sh} {m : Int} {S : List UInt8} (hm : I64 m) : law4_SharesExplainMatchesSpec l m S = some true := by
  rw [explain_spec l m S hm]
  unfold law4_SharesExplainMatchesSpec_k3
  rw [if_neg (by decide), if_pos ⟨rfl, rfl⟩]
  by_cases h0 : (M.exF l m S).1 = 0
  · have e0 := exF_code h0
    rw [if_pos h0]
    obtain ⟨hg, hk, hl, hm1, hm2, hlen, hS, hd0⟩ := M.exF_ok e0
    have hfine : M.Fine l := by
      refine M.chkList_fine ?_
      unfold M.exF at e0
      by_cases hc : M.chkList l = (0, 0)
      · exact hc
      · rw [if_pos hc] at e0; exact e0
    have hx : M.exA l m S = M.exR l S := by rw [M.exA, if_pos e0]
    rw [hx]
    have hR : (M.exR l S).length = (m.toNat - 1) * S.length := by rw [M.exR_length, show l.length = m.toNat - 1 by omega]
    have hsp : M.spF S m 10 (M.exR l S) = (0, 0) := by
      unfold M.spF
      rw [if_neg (by omega), if_neg (by omega), if_neg (by omega), if_neg]
      intro h
      apply h
      rw [hR, Int.natCast_mul, show ((m.toNat - 1 : Nat) : Int) = m - 1 by omega]
    have hsa : M.spA S m 10 (M.exR l S) = M.spl S m.toNat (M.exR l S) 10 := by rw [M.spA, if_pos hsp]; rfl
    have hsl : (M.spl S m.toNat (M.exR l S) 10).length = 10 := M.spl_length _ _ _ _
    rw [hsp, hsa, if_pos rfl, if_pos (by rw [hsl]; rfl)]
    unfold law4_SharesExplainMatchesSpec_l5
    have step : ∀ i, i < l.length → law4_SharesExplainMatchesSpec_bl5 l m S ((i : Nat) : Int) = some (.inl (((i + 1 : Nat)) : Int)) := fun i hi => by
      unfold law4_SharesExplainMatchesSpec_bl5
      have hki := hfine.k i hi
      have hdi : (l.getD i default).2.length = S.length := by rw [hfine.d i hi, hd0 (by omega)]
      rw [hx, hsa, if_pos (by omega), chk_pos (by omega), Int.toNat_natCast, chk_pos (by unfold I64; omega), chk_pos (by omega), chk_pos (by rw [hsl]; omega), chk_pos (by unfold I64; omega), chk_pos (by omega)]
      have hev : M.ev S m.toNat (M.exR l S) (M.kb (l.getD i default).1) = (l.getD i default).2 := by
        have := M.explain_ev (S := S) hfine (fun j hj => by rw [hfine.d j hj, hd0 (by omega)]) hi
        rw [show l.length + 1 = m.toNat by omega] at this
        exact this
      have e1 : ((M.spl S m.toNat (M.exR l S) 10).drop ((l.getD i default).1 - 1).toNat).take ((l.getD i default).1.toNat - ((l.getD i default).1 - 1).toNat) = [l.getD i default] := by
        rw [show (l.getD i default).1.toNat - ((l.getD i default).1 - 1).toNat = 1 by omega, slice_one (by rw [hsl]; omega)]
        congr 1
        have : (M.spl S m.toNat (M.exR l S) 10).getD ((l.getD i default).1 - 1).toNat default = ((((l.getD i default).1 - 1).toNat : Int) + 1, M.ev S m.toNat (M.exR l S) (M.kb ((((l.getD i default).1 - 1).toNat : Int) + 1))) := by
          unfold M.spl
          rw [M.getD_lt (by rw [List.length_map, List.length_range]; omega)]
          simp
        rw [this, show ((((l.getD i default).1 - 1).toNat : Int) + 1) = (l.getD i default).1 by omega, hev]
      have e2 : (l.drop i).take (((i : Int) + 1).toNat - i) = [l.getD i default] := by
        rw [show ((i : Int) + 1).toNat - i = 1 by omega, slice_one hi]
      rw [e1, e2, if_pos rfl, chk_pos (by unfold I64; omega)]
      simp
    refine run_count (fun i => ((i : Nat) : Int)) l.length step ?_ 0 (Nat.zero_le _)
    unfold law4_SharesExplainMatchesSpec_bl5
    rw [if_neg (by omega)]
    rfl
  · rw [if_neg h0, if_pos rfl, if_pos ⟨rfl, rfl⟩, M.exA, if_neg (fun h => h0 (by rw [h]))]
    simp
end Go.Proofs.Ytidedcbaahiplaa
