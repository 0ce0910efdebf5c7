/- The law RenewMatchesSpec, plainly. -/
import Derived.Test.YtidedcbaahiplaaShB
import Derived.Test.YtidedcbaahiplaaPolyE
namespace Go.Proofs.Ytidedcbaahiplaa
open Go Go.L

theorem enough_fault (l : List M.Sh) (m : Int) : ref4_EnoughFault l m = some (M.chkAll l m) := by
  unfold ref4_EnoughFault
  rw [shares_fault, Option.bind_some]
  by_cases h0 : (M.chkList l).1 = 0
  · have e0 := chkList_code h0
    rw [if_pos h0]
    by_cases h1 : 1 ≤ m ∧ m ≤ 10
    · rw [if_pos h1]
      unfold ref4_EnoughFault_k1
      rw [if_pos h0]
      by_cases h2 : (l.length : Int) < m
      · have hE : M.chkAll l m = (18, -1) := by unfold M.chkAll; rw [if_neg (fun h => h e0), if_neg (fun h => h h1), if_pos h2]
        rw [hE, if_pos h2]
      · have hE : M.chkAll l m = (0, 0) := by unfold M.chkAll; rw [if_neg (fun h => h e0), if_neg (fun h => h h1), if_neg h2]
        rw [hE, if_neg h2, e0]
    · have hE : M.chkAll l m = (4, -2) := by unfold M.chkAll; rw [if_neg (fun h => h e0), if_pos h1]
      rw [hE, if_neg h1]
      unfold ref4_EnoughFault_k1
      rw [if_neg (by decide)]
  · have hE : M.chkAll l m = M.chkList l := by unfold M.chkAll; rw [if_pos (fun h => h0 (by rw [h]))]
    rw [hE, if_neg h0]
    unfold ref4_EnoughFault_k1
    rw [if_neg h0]
theorem chkAll_code {l : List M.Sh} {m : Int} (h : (M.chkAll l m).1 = 0) : M.chkAll l m = (0, 0) := by
  unfold M.chkAll at h ⊢
  by_cases h0 : M.chkList l = (0, 0)
  · rw [if_neg (fun k => k h0)] at h ⊢
    split
    · rename_i h1; rw [if_pos h1] at h; cases h
    · rename_i h1
      rw [if_neg h1] at h
      split
      · rename_i h2; rw [if_pos h2] at h; cases h
      · rfl
  · rw [if_pos h0] at h
    exact absurd (chkList_code h) h0
theorem chkAll_fine {l : List M.Sh} {m : Int} (h : M.chkAll l m = (0, 0)) : M.Fine l := by
  refine M.chkList_fine ?_
  unfold M.chkAll at h
  by_cases h0 : M.chkList l = (0, 0)
  · exact h0
  · rw [if_pos h0] at h; exact absurd h h0
theorem frg_code {l : List M.Sh} {m : Nat} (h : (M.frg l m).1 = 0) : M.frg l m = (0, 0) := by
  unfold M.frg at h ⊢
  have key : ∀ n i, (M.frF l m n i).1 = 0 → M.frF l m n i = (0, 0) := by
    intro n
    induction n with
    | zero => intro i _; rfl
    | succ n ih =>
      intro i hh
      rw [M.frF] at hh ⊢
      split
      · rename_i h0; rw [if_pos h0] at hh; exact ih _ hh
      · rename_i h0; rw [if_neg h0] at hh; cases hh
  exact key _ _ h
/-- The sums of bytes. -/
theorem sum_eq {a b : List UInt8} (ha : a.length ≤ 4096) (hb : a.length ≤ b.length) : ref4_Sum a b = some (List.zipWith (· ^^^ ·) a b) := by
  unfold ref4_Sum ref4_Sum_l2
  have h := run_count (b := ref4_Sum_bl2 a b) (m := some (List.zipWith (· ^^^ ·) a b)) (fun i => ((List.zipWith (· ^^^ ·) a b).take i, ((i : Nat) : Int))) a.length (fun i hi => ?_) ?_ 0 (Nat.zero_le _)
  · exact h
  · show ref4_Sum_bl2 a b (_, _) = _
    unfold ref4_Sum_bl2
    have hz : i < (List.zipWith (· ^^^ ·) a b).length := by rw [List.length_zipWith]; omega
    dsimp only
    rw [if_pos (by omega), chk_pos (by omega), chk_pos (by omega), chk_pos (by simp only [List.length_take, List.length_singleton]; constructor <;> omega), chk_pos (by unfold I64; omega), Int.toNat_natCast, List.take_succ_eq_append_getElem hz, M.getD_lt hi, M.getD_lt (show i < b.length by omega)]
    simp
  · show ref4_Sum_bl2 a b (_, _) = _
    unfold ref4_Sum_bl2
    dsimp only
    rw [if_neg (by omega), List.take_of_length_le (by rw [List.length_zipWith]; omega)]
    rfl
theorem zip_get {a b : List UInt8} {j : Nat} (h1 : j < a.length) (h2 : j < b.length) : (List.zipWith (· ^^^ ·) a b).getD j default = a.getD j default ^^^ b.getD j default := by
  have hz : j < (List.zipWith (· ^^^ ·) a b).length := by rw [List.length_zipWith]; omega
  rw [M.getD_lt hz, List.getElem_zipWith, M.getD_lt h1, M.getD_lt h2]
theorem rnF_code {l : List M.Sh} {m : Int} {R : List UInt8} (h : (M.rnF l m R).1 = 0) : M.rnF l m R = (0, 0) ∧ M.chkAll l m = (0, 0) ∧ (R.length : Int) = (m - 1) * (l.getD 0 default).2.length ∧ M.frg l m.toNat = (0, 0) := by
  unfold M.rnF at h ⊢
  by_cases h0 : M.chkAll l m = (0, 0)
  · rw [if_neg (fun k => k h0)] at h ⊢
    by_cases h1 : (R.length : Int) = (m - 1) * (l.getD 0 default).2.length
    · rw [if_neg (fun k => k h1)] at h ⊢
      have := frg_code h
      exact ⟨this, h0, h1, this⟩
    · rw [if_pos h1] at h; cases h
  · rw [if_pos h0] at h
    exact absurd (chkAll_code h) h0
/-- The fault that the law says. -/
theorem renew_spec (l : List M.Sh) (m : Int) (R : List UInt8) : law4_SharesRenewMatchesSpec l m R = law4_SharesRenewMatchesSpec_k2 l m R (M.rnF l m R).1 (M.rnF l m R).2 := by
  unfold law4_SharesRenewMatchesSpec
  rw [enough_fault, Option.bind_some]
  by_cases h0 : (M.chkAll l m).1 = 0
  · have e0 := chkAll_code h0
    obtain ⟨hg, hk, hl, hm1, hm2, hml⟩ := M.chkAll_ok e0
    have hb : 0 ≤ (m - 1) * ((l.getD 0 default).2.length : Int) ∧ (m - 1) * ((l.getD 0 default).2.length : Int) ≤ 9 * 4096 := by
      have := hg.m
      exact ⟨Int.mul_nonneg (by omega) (by omega), Int.mul_le_mul (by omega) (by omega) (by omega) (by omega)⟩
    rw [if_pos h0, chk_pos (by unfold I64; omega), chk_pos (by omega), chk_pos (by show I64 _; unfold I64; exact ⟨by have := hb.1; simp only [Int.toNat_zero] at *; omega, by have := hb.2; simp only [Int.toNat_zero] at *; omega⟩)]
    unfold law4_SharesRenewMatchesSpec_k1
    by_cases h1 : (R.length : Int) = (m - 1) * (l.getD 0 default).2.length
    · have hj : M.jnF l m = M.rnF l m R := by unfold M.jnF M.rnF; rw [if_neg (fun k => k e0), if_neg (fun k => k e0), if_neg (fun k => k h1)]
      rw [if_pos (by exact h1), if_pos h0, hj]
    · have hE : M.rnF l m R = (9, -3) := by unfold M.rnF; rw [if_neg (fun k => k e0), if_pos h1]
      rw [if_neg (by exact h1), if_neg (by decide), hE]
  · have hE : M.rnF l m R = M.chkAll l m := by unfold M.rnF; rw [if_pos (fun h => h0 (by rw [h]))]
    rw [if_neg h0, hE]
    unfold law4_SharesRenewMatchesSpec_k1
    rw [if_neg h0]
theorem renew_matches {l : List M.Sh} {m : Int} {R : List UInt8} : law4_SharesRenewMatchesSpec l m R = some true := by
  rw [renew_spec]
  unfold law4_SharesRenewMatchesSpec_k2
  rw [if_neg (by decide), if_pos ⟨rfl, rfl⟩]
  by_cases h0 : (M.rnF l m R).1 = 0
  · obtain ⟨e0, ec, hr, hfr⟩ := rnF_code h0
    obtain ⟨hg, hk, hl, hm1, hm2, hml⟩ := M.chkAll_ok ec
    have hf := chkAll_fine ec
    have hn : (l.getD 0 default).2.length ≤ 4096 := hg.m
    have hR : R.length = (m.toNat - 1) * (l.getD 0 default).2.length := by
      have h7 : ((m.toNat - 1 : Nat) : Int) = m - 1 := by omega
      have h8 : (((m.toNat - 1) * (l.getD 0 default).2.length : Nat) : Int) = (m - 1) * ((l.getD 0 default).2.length : Int) := by rw [Int.natCast_mul, h7]
      omega
    have hm1' : 1 ≤ m.toNat := by omega
    have hml' : m.toNat ≤ l.length := by omega
    have hA : M.rnA l m R = M.rnl l m.toNat R l.length := by rw [M.rnA, if_pos e0]
    have hAl : (M.rnl l m.toNat R l.length).length = l.length := M.rnl_length (Nat.le_refl _)
    rw [if_pos h0, hA, if_pos (by rw [hAl])]
    unfold law4_SharesRenewMatchesSpec_l4
    have step : ∀ i, i < l.length → law4_SharesRenewMatchesSpec_bl4 l m R ((i : Nat) : Int) = some (.inl (((i + 1 : Nat)) : Int)) := fun i hi => by
      unfold law4_SharesRenewMatchesSpec_bl4
      have hki := hf.k i hi
      have hdi := hf.d i hi
      obtain ⟨r1, r2, r3⟩ := M.rn_data hf hm1' hml' hR hi
      rw [hA, if_pos (by omega), chk_pos (by omega), Int.toNat_natCast, chk_pos (by omega), chk_pos (by omega), chk_pos (by omega), Int.toNat_natCast]
      unfold shareL
      rw [chk_pos ⟨by rw [List.length_replicate]; omega, by omega, by omega, by rw [List.length_replicate, hdi]; exact hR, by omega⟩, Option.bind_some]
      have hsl : (M.shd (List.replicate (l.getD i default).2.length 0) m.toNat R (M.kb (l.getD i default).1)).length = (l.getD i default).2.length := by rw [M.shd, M.shF_length, List.length_replicate]
      rw [sum_eq (by omega) (by show _ ≤ (M.shd _ _ _ _).length; rw [hsl]; exact Nat.le_refl _), Option.bind_some, chk_pos (by rw [hAl]; omega), chk_pos (by omega), if_pos r1, chk_pos (by rw [hAl]; omega), if_pos, chk_pos (by unfold I64; omega)]
      · simp
      · refine M.ext_getD (by rw [r2, List.length_zipWith, hsl]; omega) fun j hj => ?_
        rw [r2] at hj
        rw [r3 j hj, M.ev_shd hm1' (by rw [List.length_replicate]; exact hR)]
        rw [zip_get (by omega) (by rw [hsl]; omega), hdi, M.x_comm]
    refine run_count (fun i => ((i : Nat) : Int)) l.length step ?_ 0 (Nat.zero_le _)
    unfold law4_SharesRenewMatchesSpec_bl4
    rw [if_neg (by omega)]
    unfold law4_SharesRenewMatchesSpec_k3
    have hf' := M.rn_fine hf hm1' hml' hR
    obtain ⟨j1, j2⟩ := M.rn_join hf hm1' hml' hR hfr
    have hc' : M.chkList (M.rnl l m.toNat R l.length) = (0, 0) := M.fine_chkList hf'
    have ec' : M.chkAll (M.rnl l m.toNat R l.length) m = (0, 0) := by unfold M.chkAll; rw [if_neg (fun k => k hc'), if_neg (by omega), if_neg (by rw [hAl]; omega)]
    have ej' : M.jnF (M.rnl l m.toNat R l.length) m = (0, 0) := by unfold M.jnF; rw [if_neg (fun k => k ec'), j1]
    have ej : M.jnF l m = (0, 0) := by unfold M.jnF; rw [if_neg (fun k => k ec), hfr]
    rw [hA, ej', if_pos rfl, M.jn, M.jn, if_pos ej, if_pos ej', j2]
    simp
  · rw [if_neg h0, if_pos rfl, if_pos ⟨rfl, rfl⟩, if_neg h0, M.rnA, if_neg (fun h => h0 (by rw [h]))]
    simp
end Go.Proofs.Ytidedcbaahiplaa
