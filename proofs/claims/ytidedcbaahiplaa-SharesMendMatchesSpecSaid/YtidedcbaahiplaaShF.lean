/- The reference's polynomials through shares, plainly. -/
import Derived.Test.YtidedcbaahiplaaShD
import Derived.Test.YtidedcbaahiplaaPolyG
namespace Go.Proofs.Ytidedcbaahiplaa
open Go Go.L

section
variable {xs ys : List UInt8}
theorem swp_mk2 {F : Nat → Nat → UInt8} {N c p : Nat} (hc : c < N) (hp : p < N) : Go.E.swp (M.mk2 N F) c p = M.mk2 N (fun i => F (M.sg c p i)) := by
  unfold Go.E.swp
  rw [M.mk2_row hc, M.mk2_row hp]
  unfold M.mk2
  rw [M.mk_set, M.mk_set]
  refine M.mk_congr fun j _ => ?_
  simp only [M.sg]
  by_cases h1 : j = p
  · rw [if_pos h1, if_pos h1]
  · rw [if_neg h1, if_neg h1]
    by_cases h2 : j = c
    · rw [if_pos h2, if_pos h2]
    · rw [if_neg h2, if_neg h2]
/-- The powers of a point. -/
theorem powers {l79 : List (List UInt8)} {i : Nat} (hi : i < xs.length) (h10 : xs.length ≤ 10) : ref4_Through_l5 xs ys l79 (i : Int) ([1], 1) = ref4_Through_k4 ys l79 (i : Int) (M.mk xs.length (M.evP (xs.getD i default))) := by
  have := run_count (b := ref4_Through_bl5 xs ys l79 (i : Int)) (fun t => (M.mk (t + 1) (M.evP (xs.getD i default)), ((t + 1 : Nat) : Int))) (xs.length - 1) (m := ref4_Through_k4 ys l79 (i : Int) (M.mk xs.length (M.evP (xs.getD i default)))) (fun t ht => ?_) ?_ 0 (Nat.zero_le _)
  · exact this
  · simp only [ref4_Through_bl5]
    rw [if_pos (by omega), chk_pos (by unfold I64; omega), M.mk_len, chk_pos (by omega), chk_pos (by omega), show (((t + 1 : Nat) : Int) - 1).toNat = t by omega, M.mk_get (by omega), Int.toNat_natCast, chk_pos (by unfold Go.E.Cap; simp only [List.length_singleton]; omega), chk_pos (by unfold I64; omega), M.mk_succ (n := t + 1)]
    rfl
  · simp only [ref4_Through_bl5]
    rw [if_neg (by omega), show xs.length - 1 + 1 = xs.length by omega]
def vF (xs ys : List UInt8) (i k : Nat) : UInt8 := if k < xs.length then M.evP (xs.getD i default) k else ys.getD i default
theorem vrow {i : Nat} : M.mk xs.length (M.evP (xs.getD i default)) ++ [ys.getD i default] = M.mk (xs.length + 1) (vF xs ys i) := by
  rw [M.mk_succ, M.mk_congr (G := vF xs ys i) (fun j hj => by rw [vF, if_pos hj])]
  congr 2
  rw [vF, if_neg (by omega)]
theorem first_rows (hl : ys.length = xs.length) (h10 : xs.length ≤ 10) : ref4_Through xs ys = ref4_Through_k1 xs (M.mk2 xs.length (vF xs ys)) := by
  refine run_count (fun i => (M.mk i (fun i => M.mk (xs.length + 1) (vF xs ys i)), (i : Int))) xs.length (fun i hi => ?_) ?_ 0 (Nat.zero_le _)
  · show ref4_Through_bl2 xs ys _ = _
    simp only [ref4_Through_bl2]
    rw [if_pos (by omega), powers hi h10]
    unfold ref4_Through_k4 ref4_Through_k3
    rw [chk_pos (by omega), M.mk_len, Int.toNat_natCast, chk_pos (by unfold Go.E.Cap; simp only [List.length_singleton]; omega), M.mk_len, chk_pos (by unfold Go.E.Cap; omega), chk_pos (by unfold I64; omega), vrow]
    exact congrArg (fun z => some (Sum.inl (z, (i : Int) + 1))) (M.mk_succ (F := fun i => M.mk (xs.length + 1) (vF xs ys i))).symm
  · show ref4_Through_bl2 xs ys _ = _
    simp only [ref4_Through_bl2]
    rw [if_neg (by omega)]
    rfl
variable {F : Nat → Nat → UInt8} {c : Nat}
/-- The row of the pivot is divided. -/
theorem divide (hc : c < xs.length) (h10 : xs.length ≤ 10) : ref4_Through_l13 xs (M.mk2 xs.length F) (c : Int) (M.mk2 xs.length F, 0) = ref4_Through_k12 xs (c : Int) (M.mk2 xs.length fun i k => if i = c then M.gquo (F c k) (F c c) else F i k) := by
  have e0 : M.mk2 xs.length F = M.mk2 xs.length (fun i k => if i = c ∧ k < 0 then M.gquo (F c k) (F c c) else F i k) := M.mk2_congr fun i k _ _ => by simp
  have := run_count (b := ref4_Through_bl13 xs (M.mk2 xs.length F) (c : Int)) (fun t => (M.mk2 xs.length (fun i k => if i = c ∧ k < t then M.gquo (F c k) (F c c) else F i k), (t : Int))) (xs.length + 1) (m := ref4_Through_k12 xs (c : Int) (M.mk2 xs.length fun i k => if i = c then M.gquo (F c k) (F c c) else F i k)) (fun t ht => ?_) ?_ 0 (Nat.zero_le _)
  · rw [← e0] at this
    exact this
  · simp only [ref4_Through_bl13]
    rw [if_pos (by omega), M.mk2_len, chk_pos (by omega), chk_pos (by omega), Int.toNat_natCast, M.mk2_row_len hc, chk_pos (by omega), chk_pos (by omega), chk_pos (by unfold I64; omega), Int.toNat_natCast, M.mk2_get hc (by omega), M.mk2_get hc (by omega), M.mk2_set hc]
    simp only [Nat.lt_irrefl, and_false, if_false]
    congr 3
    refine M.mk2_congr fun i k hi hk => ?_
    by_cases h1 : i = c
    · subst h1
      by_cases h2 : k = t
      · subst h2; simp
      · by_cases h3 : k < t
        · simp [h2, h3, show k < t + 1 by omega]
        · simp [h2, h3, show ¬ k < t + 1 by omega]
    · simp [h1]
  · simp only [ref4_Through_bl13]
    rw [if_neg (by omega)]
    congr 2
    refine M.mk2_congr fun i k hi hk => ?_
    simp only [show k < xs.length + 1 by omega, and_true]
/-- A row is cleared. -/
theorem clear {i : Nat} (hc : c < xs.length) (hi : i < xs.length) (hic : i ≠ c) (h10 : xs.length ≤ 10) : ref4_Through_l16 xs (M.mk2 xs.length F) (c : Int) (i : Int) (M.mk2 xs.length F, 0) = ref4_Through_k15 (i : Int) (M.mk2 xs.length fun i' k => if i' = i then F i k ^^^ M.gmul (F i c) (F c k) else F i' k) := by
  have e0 : M.mk2 xs.length F = M.mk2 xs.length (fun i' k => if i' = i ∧ k < 0 then F i k ^^^ M.gmul (F i c) (F c k) else F i' k) := M.mk2_congr fun i k _ _ => by simp
  have := run_count (b := ref4_Through_bl16 xs (M.mk2 xs.length F) (c : Int) (i : Int)) (fun t => (M.mk2 xs.length (fun i' k => if i' = i ∧ k < t then F i k ^^^ M.gmul (F i c) (F c k) else F i' k), (t : Int))) (xs.length + 1) (m := ref4_Through_k15 (i : Int) (M.mk2 xs.length fun i' k => if i' = i then F i k ^^^ M.gmul (F i c) (F c k) else F i' k)) (fun t ht => ?_) ?_ 0 (Nat.zero_le _)
  · rw [← e0] at this
    exact this
  · simp only [ref4_Through_bl16]
    rw [if_pos (by simp; omega), M.mk2_len, chk_pos (by omega), chk_pos (by omega), Int.toNat_natCast, M.mk2_row_len hi, chk_pos (by omega), chk_pos (by omega), Int.toNat_natCast, M.mk2_row_len hc, chk_pos (by omega), chk_pos (by omega), chk_pos (by unfold I64; omega), Int.toNat_natCast, M.mk2_get hi (by omega), M.mk2_get hi (by omega), M.mk2_get hc (by omega), M.mk2_set hi]
    simp only [Nat.lt_irrefl, and_false, if_false, show ¬ (c = i ∧ t < t) by simp, show ¬ c = i from fun e => hic e.symm, false_and]
    congr 3
    refine M.mk2_congr fun i' k hi' hk => ?_
    by_cases h1 : i' = i
    · subst h1
      by_cases h2 : k = t
      · subst h2; simp
      · by_cases h3 : k < t
        · simp [h2, h3, show k < t + 1 by omega]
        · simp [h2, h3, show ¬ k < t + 1 by omega]
    · simp [h1]
  · simp only [ref4_Through_bl16]
    rw [if_neg (by simp; omega)]
    congr 2
    refine M.mk2_congr fun i' k hi' hk => ?_
    simp only [show k < xs.length + 1 by omega, and_true]
/-- All rows but that of the pivot are cleared. -/
theorem clear_all (hc : c < xs.length) (h10 : xs.length ≤ 10) : ref4_Through_k12 xs (c : Int) (M.mk2 xs.length F) = some (.inl (M.mk2 xs.length fun i k => if i = c then F i k else F i k ^^^ M.gmul (F i c) (F c k), (c : Int) + 1)) := by
  have e0 : M.mk2 xs.length F = M.mk2 xs.length (fun i k => if i < 0 ∧ i ≠ c then F i k ^^^ M.gmul (F i c) (F c k) else F i k) := M.mk2_congr fun i k _ _ => by simp
  unfold ref4_Through_k12
  have := run_count (b := ref4_Through_bl14 xs (c : Int)) (fun t => (M.mk2 xs.length (fun i k => if i < t ∧ i ≠ c then F i k ^^^ M.gmul (F i c) (F c k) else F i k), (t : Int))) xs.length (m := some (.inl (M.mk2 xs.length fun i k => if i = c then F i k else F i k ^^^ M.gmul (F i c) (F c k), (c : Int) + 1))) (fun t ht => ?_) ?_ 0 (Nat.zero_le _)
  · rw [← e0] at this
    exact this
  · simp only [ref4_Through_bl14]
    rw [if_pos (by omega), M.mk2_len, chk_pos (by omega), Int.toNat_natCast, M.mk2_row_len ht, chk_pos (by omega)]
    by_cases htc : t = c
    · subst htc
      rw [ref4_Through_l16, run_inr (m := ref4_Through_k15 (t : Int) (M.mk2 xs.length (fun i k => if i < t ∧ i ≠ t then F i k ^^^ M.gmul (F i t) (F t k) else F i k))) (by simp only [ref4_Through_bl16]; rw [if_neg (by simp)])]
      unfold ref4_Through_k15
      rw [chk_pos (by unfold I64; omega)]
      congr 3
      refine M.mk2_congr fun i k hi hk => ?_
      by_cases h1 : i = t
      · simp [h1]
      · by_cases h2 : i < t
        · simp [h1, h2, show i < t + 1 by omega]
        · simp [h2, show ¬ i < t + 1 by omega]
    · rw [clear hc ht htc h10]
      unfold ref4_Through_k15
      rw [chk_pos (by unfold I64; omega)]
      congr 3
      refine M.mk2_congr fun i k hi hk => ?_
      by_cases h1 : i = t
      · subst h1; simp [htc]
      · by_cases h2 : i < t
        · simp [h1, h2, show i < t + 1 by omega]
        · simp [h1, h2, show ¬ i < t + 1 by omega]
  · simp only [ref4_Through_bl14]
    rw [if_neg (by omega)]
    unfold ref4_Through_k8
    rw [chk_pos (by unfold I64; omega)]
    simp only [Option.map_some]
    congr 4
    refine M.mk2_congr fun i k hi hk => ?_
    by_cases h1 : i = c
    · simp [h1]
    · simp [h1, hi]
/-- One round. -/
theorem gauss_round {s : Nat → UInt8} (h : M.GI xs.length s F c) (hc : c < xs.length) (h10 : xs.length ≤ 10) : ∃ G, M.GI xs.length s G (c + 1) ∧ ref4_Through_bl7 xs (M.mk2 xs.length F, (c : Int)) = some (.inl (M.mk2 xs.length G, (c : Int) + 1)) := by
  obtain ⟨p, p1, p2, p3, p4⟩ := M.least (P := fun p => F p c ≠ 0) (h.pivot hc)
  have hs := h.swap hc p1 p2
  have hp : (fun i => F (M.sg c p i)) c c ≠ 0 := by
    show F (M.sg c p c) c ≠ 0
    have : M.sg c p c = p := by unfold M.sg; split <;> simp_all
    rw [this]; exact p3
  refine ⟨_, hs.step hc hp, ?_⟩
  simp only [ref4_Through_bl7]
  rw [if_pos (by omega)]
  have hrun := run_count (b := ref4_Through_bl10 xs (M.mk2 xs.length F) (c : Int)) (fun t => ((c + t : Nat) : Int)) (p - c) (m := ref4_Through_k9 xs (M.mk2 xs.length F) (c : Int) (p : Int)) (fun t ht => ?_) ?_ 0 (Nat.zero_le _)
  · rw [ref4_Through_l10]
    refine hrun.trans ?_
    unfold ref4_Through_k9
    rw [if_neg (by omega), M.mk2_len, chk_pos (by omega), chk_pos (by omega), chk_pos (by omega), chk_pos (by omega), Int.toNat_natCast, Int.toNat_natCast, swp_mk2 hc p2]
    unfold ref4_Through_k11
    rw [M.mk2_len, chk_pos (by omega), Int.toNat_natCast, M.mk2_row_len hc, chk_pos (by omega), divide hc h10, clear_all hc h10]
    congr 3
    refine M.mk2_congr fun i k hi hk => ?_
    simp only [M.gst]
    by_cases h1 : i = c
    · simp [h1]
    · simp [h1]
  · simp only [ref4_Through_bl10]
    rw [if_pos (by omega), M.mk2_len, chk_pos (by omega), Int.toNat_natCast, M.mk2_row_len (by omega), chk_pos (by omega), Int.toNat_natCast, M.mk2_get (by omega) (by omega)]
    have hz : F (c + t) c = 0 := Classical.byContradiction fun e => p4 (c + t) (by omega) (by omega) e
    rw [hz, if_pos (by rfl), chk_pos (by unfold I64; omega)]
    rfl
  · simp only [ref4_Through_bl10]
    rw [show c + (p - c) = p by omega, if_pos (by omega), M.mk2_len, chk_pos (by omega), Int.toNat_natCast, M.mk2_row_len p2, chk_pos (by omega), Int.toNat_natCast, M.mk2_get p2 (by omega), if_neg (fun e => p3 (UInt8.toNat.inj (by show _ = 0; omega)))]
theorem collect (h10 : xs.length ≤ 10) : ref4_Through_k6 xs (M.mk2 xs.length F) = some (M.mk xs.length fun i => F i xs.length) := by
  unfold ref4_Through_k6
  refine run_count (fun i => (M.mk i (fun i => F i xs.length), (i : Int))) xs.length (fun i hi => ?_) ?_ 0 (Nat.zero_le _)
  · show ref4_Through_bl18 xs (M.mk2 xs.length F) _ = _
    simp only [ref4_Through_bl18]
    rw [if_pos (by omega), M.mk2_len, chk_pos (by omega), Int.toNat_natCast, M.mk2_row_len hi, chk_pos (by omega), Int.toNat_natCast, M.mk2_get hi (by omega), M.mk_len, chk_pos (by unfold Go.E.Cap; simp only [List.length_singleton]; omega), chk_pos (by unfold I64; omega), M.mk_succ]
    rfl
  · show ref4_Through_bl18 xs (M.mk2 xs.length F) _ = _
    simp only [ref4_Through_bl18]
    rw [if_neg (by omega)]
    rfl
/-- Elimination gives the polynomial through the points. -/
theorem through_eq (hn : xs.Nodup) (hl : ys.length = xs.length) (h10 : xs.length ≤ 10) : ref4_Through xs ys = some (M.lagC xs (fun i => ys.getD i default) xs.length) := by
  have hlag : M.mk xs.length (fun i => (M.lagC xs (fun i => ys.getD i default) xs.length).getD i default) = M.lagC xs (fun i => ys.getD i default) xs.length := by
    have := M.mk_of (M.lagC xs (fun i => ys.getD i default) xs.length)
    rw [M.lagC_length _ _ _ (Nat.le_refl _)] at this
    exact this
  have hst := M.GI.start (y := fun i => ys.getD i default) (s := fun i => (M.lagC xs (fun i => ys.getD i default) xs.length).getD i default) hn (fun i hi => by
    rw [hlag, M.hv_lagC _ _ _ _ (Nat.le_refl _)]
    exact M.lag_at hn hi)
  rw [first_rows hl h10]
  unfold ref4_Through_k1
  refine run_inv (fun st => ∃ (c : Nat) (F : Nat → Nat → UInt8), c ≤ xs.length ∧ st = (M.mk2 xs.length F, (c : Int)) ∧ M.GI xs.length (fun i => (M.lagC xs (fun i => ys.getD i default) xs.length).getD i default) F c) (fun st => xs.length - st.2.toNat) (fun st hI => ?_) ⟨0, _, Nat.zero_le _, rfl, hst⟩
  obtain ⟨c, F, hcn, rfl, hG⟩ := hI
  rcases Nat.lt_or_ge c xs.length with hc | hc
  · obtain ⟨G, h1, h2⟩ := gauss_round hG hc h10
    exact .inl ⟨_, h2, ⟨c + 1, G, hc, rfl, h1⟩, by simp only [Int.toNat_natCast]; omega⟩
  · obtain rfl : c = xs.length := by omega
    right
    simp only [ref4_Through_bl7]
    rw [if_neg (by omega), collect h10, M.mk_congr (fun i hi => hG.last hi), hlag]
end

/-- The polynomials of a base, column by column. -/
theorem polynomials_eq {b : List M.Sh} {m D : Nat} (h : M.Bs m D b) (h10 : m ≤ 10) (hk : ∀ i, i < b.length → 0 ≤ (b.getD i default).1 ∧ (b.getD i default).1 ≤ 255) (hD : D ≤ 4096) : ref4_Polynomials b = some (M.mk D (M.colP b)) := by
  have hlen := h.len
  have hpos := h.pos
  have hkps : M.mk b.length (fun i => M.kb (b.getD i default).1) = M.kps b := by
    have := M.mk_of (M.kps b)
    rw [M.kps_length] at this
    rw [← this]
    exact M.mk_congr fun i hi => (M.kps_get hi).symm
  have hnd : (M.kps b).Nodup := h.nd
  have hkl := M.kps_length b
  have hd0 : (b.getD 0 default).2.length = D := h.d 0 (by omega)
  have inner : ∀ (acc : List (List UInt8)) (j : Nat), j < D → ref4_Polynomials_l7 b acc (M.kps b) (j : Int) ([], 0) = ref4_Polynomials_k6 acc (M.kps b) (j : Int) (M.mk b.length fun i => (b.getD i default).2.getD j default) := by
    intro acc j hj
    refine run_count (fun i => (M.mk i (fun i => (b.getD i default).2.getD j default), (i : Int))) b.length (fun i hi => ?_) ?_ 0 (Nat.zero_le _)
    · show ref4_Polynomials_bl7 b acc (M.kps b) (j : Int) _ = _
      simp only [ref4_Polynomials_bl7]
      rw [if_pos (by omega), chk_pos (by omega), Int.toNat_natCast, h.d i hi, chk_pos (by omega), Int.toNat_natCast, M.mk_len, chk_pos (by unfold Go.E.Cap; simp only [List.length_singleton]; omega), chk_pos (by unfold I64; omega), M.mk_succ]
      rfl
    · show ref4_Polynomials_bl7 b acc (M.kps b) (j : Int) _ = _
      simp only [ref4_Polynomials_bl7]
      rw [if_neg (by omega)]
  have hk1 : ref4_Polynomials_k1 b (M.kps b) = some (M.mk D (M.colP b)) := by
    unfold ref4_Polynomials_k1
    refine run_count (fun j => (M.mk j (M.colP b), (j : Int))) D (fun j hj => ?_) ?_ 0 (Nat.zero_le _)
    · show ref4_Polynomials_bl4 b (M.kps b) _ = _
      simp only [ref4_Polynomials_bl4]
      rw [if_pos (by omega), chk_pos (by omega), show ((0 : Int).toNat) = 0 from rfl, hd0, if_pos (by omega), inner _ j hj]
      unfold ref4_Polynomials_k6 ref4_Polynomials_k5
      rw [through_eq hnd (by rw [M.mk_len, hkl]) (by rw [hkl]; omega), Option.bind_some, M.mk_len, chk_pos (by unfold Go.E.Cap; simp only [List.length_singleton]; omega), chk_pos (by unfold I64; omega), M.mk_succ]
      have : M.lagC (M.kps b) (fun i => (M.mk b.length fun i => (b.getD i default).2.getD j default).getD i default) (M.kps b).length = M.colP b j := by
        unfold M.colP
        exact M.lagC_congr _ fun i hi => M.mk_get (by rw [hkl] at hi; exact hi)
      rw [this]
      rfl
    · show ref4_Polynomials_bl4 b (M.kps b) _ = _
      simp only [ref4_Polynomials_bl4]
      rw [if_pos (by omega), chk_pos (by omega), show ((0 : Int).toNat) = 0 from rfl, hd0, if_neg (by omega)]
      rfl
  rw [← hk1, ← hkps]
  refine run_count (fun i => (M.mk i (fun i => M.kb (b.getD i default).1), (i : Int))) b.length (fun i hi => ?_) ?_ 0 (Nat.zero_le _)
  · show ref4_Polynomials_bl2 b _ = _
    simp only [ref4_Polynomials_bl2]
    rw [if_pos (by omega), chk_pos (by omega), Int.toNat_natCast, M.mk_len, chk_pos (by unfold Go.E.Cap; simp only [List.length_singleton]; omega), chk_pos (by unfold I64; omega), M.mk_succ, u8_kb (hk i hi)]
    rfl
  · show ref4_Polynomials_bl2 b _ = _
    simp only [ref4_Polynomials_bl2]
    rw [if_neg (by omega)]
theorem values_eq {p : List (List UInt8)} {x : UInt8} (h : p.length ≤ 4096) : ref4_Values p x = some (p.map fun c => M.hv c x) := by
  have hm : M.mk p.length (fun i => M.hv (p.getD i default) x) = p.map fun c => M.hv c x := by
    refine List.ext_getElem (by simp [M.mk]) fun i h1 h2 => ?_
    have : i < p.length := by simpa using h2
    simp [M.mk, List.getD_eq_getElem?_getD, this]
  rw [← hm]
  refine run_count (fun i => (M.mk i (fun i => M.hv (p.getD i default) x), (i : Int))) p.length (fun i hi => ?_) ?_ 0 (Nat.zero_le _)
  · show ref4_Values_bl2 p x _ = _
    simp only [ref4_Values_bl2]
    rw [if_pos (by omega), chk_pos (by omega), Int.toNat_natCast, M.mk_len, chk_pos (by unfold Go.E.Cap; simp only [List.length_singleton]; omega), chk_pos (by unfold I64; omega), M.mk_succ, M.va_hv]
    rfl
  · show ref4_Values_bl2 p x _ = _
    simp only [ref4_Values_bl2]
    rw [if_neg (by omega)]
    rfl
theorem values_at {b : List M.Sh} {m D : Nat} (h : M.Bs m D b) (hD : D ≤ 4096) (x : UInt8) : ref4_Values (M.mk D (M.colP b)) x = some (M.atS b x) := by
  rw [values_eq (by rw [M.mk_len]; exact hD)]
  congr 1
  refine M.ext_getD (by rw [List.length_map, M.mk_len, h.at_length]) fun j hj => ?_
  rw [List.length_map, M.mk_len] at hj
  rw [h.at_get hj]
  have : j < (M.mk D (M.colP b)).length := by rw [M.mk_len]; exact hj
  rw [List.getD_eq_getElem?_getD, List.getElem?_map, List.getElem?_eq_getElem this]
  simp [M.mk]
theorem forged_eq {l b : List M.Sh} {m D : Nat} (hl : M.Fine l) (h : M.Bs m D b) (hD : D ≤ 4096) : ref4_Forged l (M.mk D (M.colP b)) = some ((M.nfs b l).map fun j : Nat => (j : Int)) := by
  have hlen := hl.len
  refine run_count (fun i => (((List.range i).filter fun i => decide (M.atS b (M.kb (l.getD i default).1) ≠ (l.getD i default).2)).map fun j : Nat => (j : Int), (i : Int))) l.length (fun i hi => ?_) ?_ 0 (Nat.zero_le _)
  · show ref4_Forged_bl2 l _ _ = some (Sum.inl (((List.range (i + 1)).filter fun i => decide (M.atS b (M.kb (l.getD i default).1) ≠ (l.getD i default).2)).map fun j : Nat => (j : Int), ((i + 1 : Nat) : Int)))
    have hk := hl.k i hi
    simp only [ref4_Forged_bl2]
    have hcnt := List.length_filter_le (fun i => decide (M.atS b (M.kb (l.getD i default).1) ≠ (l.getD i default).2)) (List.range i)
    rw [List.length_range] at hcnt
    rw [if_pos (by omega), chk_pos (by omega), chk_pos (by omega), Int.toNat_natCast, u8_kb (by omega), values_at h hD, Option.bind_some, List.range_succ, List.filter_append, List.map_append, List.filter_cons, List.filter_nil]
    by_cases hf : M.atS b (M.kb (l.getD i default).1) = (l.getD i default).2
    · rw [if_pos hf.symm, chk_pos (by unfold I64; omega), if_neg (by simp only [ne_eq, hf, not_true_eq_false, decide_false, Bool.false_eq_true, not_false_eq_true]), List.map_nil, List.append_nil]
      rfl
    · rw [if_neg (fun e => hf e.symm), List.length_map, chk_pos (by unfold Go.E.Cap; simp only [List.length_singleton]; omega), chk_pos (by unfold I64; omega), if_pos (by simp only [ne_eq, hf, not_false_eq_true, decide_true])]
      rfl
  · show ref4_Forged_bl2 l _ _ = _
    simp only [ref4_Forged_bl2]
    rw [if_neg (by omega)]
    rfl
end Go.Proofs.Ytidedcbaahiplaa
