/- Words: all numbers of a form, as the reference reads them. -/
import Derived.Test.YtdiieblgeaehpaaGreatDoorWdZ
namespace Go.L
open Go Go.Proofs.YtdiieblgeaehpaaGreatDoor
theorem ext_getD {l m : List Bool} (hl : l.length = m.length) (h : ∀ i, i < l.length → l.getD i false = m.getD i false) : l = m :=
  List.ext_getElem hl fun i h1 h2 => by
    have := h i h1
    rw [List.getD_eq_getElem?_getD, List.getD_eq_getElem?_getD, List.getElem?_eq_getElem h1, List.getElem?_eq_getElem h2] at this
    exact this
theorem cut_get {B : List Bool} {q w j : Nat} (hj : j < w) : ((B.drop q).take w).getD j false = B.getD (q + j) false := by
  rw [List.getD_eq_getElem?_getD, List.getD_eq_getElem?_getD, List.getElem?_take_of_lt hj, List.getElem?_drop]
end Go.L
namespace Go.Proofs.YtdiieblgeaehpaaGreatDoor
open Go Go.L
theorem rg_any {B : List Bool} (hB : B.length ≤ 1000000) {p : Nat} (hp : p ≤ B.length) : (∃ c : Int, c ≠ 0 ∧ ref3_GammaAt (B.map bI) (p : Int) = some (0, 0, c)) ∨
    ∃ n p' : Nat, 1 ≤ n ∧ n < 2147483648 ∧ p < p' ∧ p' ≤ B.length ∧ ref3_GammaAt (B.map bI) (p : Int) = some ((n : Int), (p' : Int), 0) := by
  have k1 : ∀ z, z ≤ 30 → (B.length ≤ p + z ∨ B.getD (p + z) false = true) → (∃ c : Int, c ≠ 0 ∧ ref3_GammaAt_k1 (B.map bI) (p : Int) (z : Int) = some (0, 0, c)) ∨ ∃ n p' : Nat, 1 ≤ n ∧ n < 2147483648 ∧ p < p' ∧ p' ≤ B.length ∧ ref3_GammaAt_k1 (B.map bI) (p : Int) (z : Int) = some ((n : Int), (p' : Int), 0) := fun z hz h => by
    rw [gk1 hB hp hz]
    by_cases hl : B.length < p + 2 * z + 1
    · rw [if_pos hl]
      exact .inl ⟨15, by decide, rfl⟩
    · rw [if_neg hl]
      have lb : ((B.drop (p + z)).take (z + 1)).length = z + 1 := by rw [List.length_take, List.length_drop]; omega
      have v1 := valN_lt _ _ lb
      have v2 := valN_bit _ _ lb 0 (by omega)
      rw [cut_get (by omega), show p + z + 0 = p + z from rfl, h.resolve_left (by omega), show z + 1 - 1 - 0 = z by omega] at v2
      have v3 := Nat.ge_two_pow_of_testBit v2
      have v4 : 2 ^ (z + 1) ≤ 2 ^ 31 := Nat.pow_le_pow_right (by decide) (by omega)
      have v5 := Nat.two_pow_pos z
      exact .inr ⟨_, _, Nat.le_trans v5 v3, Nat.lt_of_lt_of_le v1 v4, by omega, by omega, rfl⟩
  unfold ref3_GammaAt ref3_GammaAt_l2
  have key : ∀ k z : Nat, z + k = 30 → (∃ c : Int, c ≠ 0 ∧ run (ref3_GammaAt_bl2 (B.map bI) (p : Int)) (z : Int) = some (0, 0, c)) ∨ ∃ n p' : Nat, 1 ≤ n ∧ n < 2147483648 ∧ p < p' ∧ p' ≤ B.length ∧ run (ref3_GammaAt_bl2 (B.map bI) (p : Int)) (z : Int) = some ((n : Int), (p' : Int), 0) := by
    intro k
    induction k with
    | zero =>
      intro z hz
      have g := gstep hB hp (z := z) (by omega)
      by_cases h1 : B.length ≤ p + z
      · rw [if_pos h1] at g
        rw [run_inr g]
        exact k1 z (by omega) (.inl h1)
      · rw [if_neg h1] at g
        cases h2 : B.getD (p + z) false with
        | true =>
          rw [h2, if_pos rfl] at g
          rw [run_inr g]
          exact k1 z (by omega) (.inr h2)
        | false =>
          rw [h2, if_neg Bool.false_ne_true, if_pos (by omega)] at g
          rw [run_inr g]
          exact .inl ⟨16, by decide, rfl⟩
    | succ k ih =>
      intro z hz
      have g := gstep hB hp (z := z) (by omega)
      by_cases h1 : B.length ≤ p + z
      · rw [if_pos h1] at g
        rw [run_inr g]
        exact k1 z (by omega) (.inl h1)
      · rw [if_neg h1] at g
        cases h2 : B.getD (p + z) false with
        | true =>
          rw [h2, if_pos rfl] at g
          rw [run_inr g]
          exact k1 z (by omega) (.inr h2)
        | false =>
          rw [h2, if_neg Bool.false_ne_true, if_neg (by omega)] at g
          rw [run_inl g]
          exact ih (z + 1) (by omega)
  exact key 30 0 rfl
theorem rg_zeros {B : List Bool} (hB : B.length ≤ 1000000) {p : Nat} (hp : p ≤ B.length) : ∀ z, z ≤ 30 → p + z ≤ B.length → (∀ j, j < z → B.getD (p + j) false = false) → run (ref3_GammaAt_bl2 (B.map bI) (p : Int)) 0 = run (ref3_GammaAt_bl2 (B.map bI) (p : Int)) (z : Int)
  | 0, _, _, _ => rfl
  | z + 1, hz, hl, h => by
    have g := gstep hB hp (z := z) (by omega)
    rw [if_neg (by omega), h z (by omega), if_neg Bool.false_ne_true, if_neg (by omega)] at g
    rw [rg_zeros hB hp z (by omega) (by omega) (fun j hj => h j (by omega)), run_inl g]
theorem rg_code {B : List Bool} (hB : B.length ≤ 1000000) {p n : Nat} (hn : n ≠ 0) (hb : n < 16777216) (hr : p + gz n ≤ B.length) (h : ∀ j, j < gz n → B.getD (p + j) false = (cb n).getD j false) : ref3_GammaAt (B.map bI) (p : Int) = some ((n : Int), ((p + gz n : Nat) : Int), 0) := by
  have h1 := blen_pos hn
  have h2 := gz_eq hn
  have h3 : blen n ≤ 24 := blen_lt (by omega)
  unfold ref3_GammaAt ref3_GammaAt_l2
  rw [rg_zeros hB (by omega) (blen n - 1) (by omega) (by omega) (fun j hj => by rw [h j (by omega), cb_zero hn hj])]
  have g := gstep hB (p := p) (z := blen n - 1) (by omega) (by omega)
  rw [if_neg (by omega), h _ (by omega), cb_one hn, if_pos rfl] at g
  have e : (B.drop (p + (blen n - 1))).take (blen n - 1 + 1) = dgw (blen n) n := ext_getD (by rw [List.length_take, List.length_drop, dgw_len]; omega) (fun i hi => by
    rw [List.length_take, List.length_drop] at hi
    rw [cut_get (by omega), Nat.add_assoc, h _ (by omega), cb_tail hn (by omega)])
  rw [run_inr g, gk1 hB (by omega) (by omega), if_neg (by omega), e, dgw_self hn, show p + 2 * (blen n - 1) + 1 = p + gz n by omega]
theorem rg_pad {B : List Bool} (hB : B.length ≤ 1000000) {p : Nat} (hp : p ≤ B.length) (hl : B.length ≤ p + 7) (h : ∀ i, p ≤ i → i < B.length → B.getD i false = false) : ref3_GammaAt (B.map bI) (p : Int) = some (0, 0, 15) := by
  unfold ref3_GammaAt ref3_GammaAt_l2
  rw [rg_zeros hB hp (B.length - p) (by omega) (by omega) (fun j hj => h _ (by omega) (by omega))]
  have g := gstep hB (p := p) (z := B.length - p) hp (by omega)
  rw [if_pos (by omega)] at g
  rw [run_inr g, gk1 hB hp (by omega), if_pos (by omega)]
theorem nums_any {B : List Bool} (hB : B.length ≤ 1000000) : ∀ (f p : Nat) (acc : List Int), B.length - p ≤ f → p ≤ B.length → acc.length ≤ p → ∃ ns : List Int, (∀ n ∈ ns, 1 ≤ n ∧ n < 2147483648) ∧ acc.length + ns.length ≤ B.length ∧ run (ref4_numbers_bl2 (B.map bI)) (acc, (p : Int)) = some (acc ++ ns)
  | 0, p, acc, hf, hp, ha => by
    refine ⟨[], by simp, by simp; omega, run_inr ?_⟩
    unfold ref4_numbers_bl2 ref4_numbers_k1
    simp only
    rw [List.length_map, if_neg (by omega), List.append_nil]
  | f + 1, p, acc, hf, hp, ha => by
    by_cases hl : p < B.length
    · rcases rg_any hB hp with ⟨c, hc, g⟩ | ⟨n, p', n1, n2, p1, p2, g⟩
      · refine ⟨[], by simp, by simp; omega, run_inr ?_⟩
        unfold ref4_numbers_bl2
        simp only
        rw [List.length_map, if_pos (by omega), g, Option.bind_some]
        simp only
        rw [if_neg hc, List.append_nil]
      · obtain ⟨ns, k1, k2, k3⟩ := nums_any hB f p' (acc ++ [(n : Int)]) (by omega) p2 (by rw [List.length_append, List.length_singleton]; omega)
        rw [List.length_append, List.length_singleton] at k2
        rw [List.append_assoc] at k3
        refine ⟨(n : Int) :: ns, fun x hx => ?_, by rw [List.length_cons]; omega, ?_⟩
        · rcases List.mem_cons.1 hx with rfl | hx
          · omega
          · exact k1 x hx
        · refine Eq.trans (run_inl ?_) k3
          unfold ref4_numbers_bl2
          simp only
          rw [List.length_map, if_pos (by omega), g, Option.bind_some]
          simp only
          rw [if_pos trivial, chk_pos (by rw [List.length_singleton]; constructor <;> omega)]
    · refine ⟨[], by simp, by simp; omega, run_inr ?_⟩
      unfold ref4_numbers_bl2 ref4_numbers_k1
      simp only
      rw [List.length_map, if_neg (by omega), List.append_nil]
theorem nums_code {B : List Bool} (hB : B.length ≤ 1000000) : ∀ (ns : List Nat) (p : Nat) (acc : List Int), (∀ n ∈ ns, n ≠ 0 ∧ n < 16777216) → p + (ns.flatMap cb).length ≤ B.length → (∀ j, j < (ns.flatMap cb).length → B.getD (p + j) false = (ns.flatMap cb).getD j false) → (∀ i, p + (ns.flatMap cb).length ≤ i → i < B.length → B.getD i false = false) → B.length ≤ p + (ns.flatMap cb).length + 7 → acc.length ≤ p →
    run (ref4_numbers_bl2 (B.map bI)) (acc, (p : Int)) = some (acc ++ List.map (fun n : Nat => (n : Int)) ns)
  | [], p, acc, _, hr, _, hz, hl, ha => by
    rw [List.flatMap_nil, List.length_nil, Nat.add_zero] at hr hz hl
    refine run_inr ?_
    unfold ref4_numbers_bl2 ref4_numbers_k1
    simp only
    by_cases h : p < B.length
    · rw [List.length_map, if_pos (by omega), rg_pad hB (by omega) hl hz, Option.bind_some]
      simp only
      rw [if_neg (by decide)]
      simp
    · rw [List.length_map, if_neg (by omega)]
      simp
  | n :: ns, p, acc, hn, hr, hb, hz, hl, ha => by
    obtain ⟨h0, h1⟩ := hn n (List.mem_cons_self ..)
    have hgp := gz_pos h0
    rw [List.flatMap_cons, List.length_append, cb_len] at hr hb hz hl
    have g := rg_code (p := p) hB h0 h1 (by omega) (fun j hj => by
      rw [hb j (by omega), List.getD_eq_getElem?_getD, List.getElem?_append_left (by rw [cb_len]; exact hj), ← List.getD_eq_getElem?_getD])
    have ih := nums_code hB ns (p + gz n) (acc ++ [(n : Int)]) (fun x hx => hn x (List.mem_cons_of_mem _ hx)) (by omega) (fun j hj => by
      have h3 := hb (gz n + j) (by omega)
      rw [← Nat.add_assoc] at h3
      rw [h3, List.getD_eq_getElem?_getD, List.getElem?_append_right (by rw [cb_len]; omega), cb_len, Nat.add_sub_cancel_left, ← List.getD_eq_getElem?_getD]) (fun i hi => hz i (by omega)) (by omega) (by rw [List.length_append, List.length_singleton]; omega)
    rw [List.append_assoc] at ih
    refine Eq.trans (run_inl ?_) ih
    unfold ref4_numbers_bl2
    simp only
    rw [List.length_map, if_pos (by omega), g, Option.bind_some]
    simp only
    rw [if_pos trivial, chk_pos (by rw [List.length_singleton]; constructor <;> omega)]
theorem numbers_any {D : List UInt8} (hD : Full D) : ∃ ns : List Int, (∀ n ∈ ns, 1 ≤ n ∧ n < 2147483648) ∧ ns.length ≤ 131072 ∧ ref4_numbers D = some ns := by
  have hD' := hD
  unfold Full at hD'
  obtain ⟨ns, h1, h2, h3⟩ := nums_any (B := BL D) (by rw [BL_len]; omega) _ 0 [] (Nat.le_refl _) (Nat.zero_le _) (Nat.le_refl _)
  rw [BL_len, List.length_nil] at h2
  refine ⟨ns, h1, by omega, ?_⟩
  unfold ref4_numbers ref4_numbers_l2
  rw [allbits_ref (by omega), Option.bind_some]
  exact h3
theorem numbers_form {D : List UInt8} (hD : Full D) {x : Int × HM} (hx : XW x) (hP : Packed D (bitsX x)) : ref4_numbers D = some (numsI x) := by
  have hD' := hD
  unfold Full at hD'
  have hn := hx.nums
  have hr := RD.of_packed hx hP
  have e : (natN (numsI x)).flatMap cb = bitsX x := natN_flat _
  have hlen : D.length = ((bitsX x).length + 7) / 8 := hP.1
  have h2 : ∀ i, i < 8 * D.length → bitAt D i = (bitsX x).getD i false := hP.2
  have k := nums_code (B := BL D) (by rw [BL_len]; omega) (natN (numsI x)) 0 [] hr.ok (by rw [e, BL_len]; omega) (fun j hj => by
      rw [e] at hj ⊢
      rw [Nat.zero_add, BL_get (by omega), h2 j (by omega)]) (fun i hi hi' => by
      rw [e, Nat.zero_add] at hi
      rw [BL_len] at hi'
      rw [BL_get hi', h2 i hi', List.getD_eq_getElem?_getD, List.getElem?_eq_none hi]
      rfl) (by rw [e, BL_len]; omega) (Nat.le_refl _)
  unfold ref4_numbers ref4_numbers_l2
  rw [allbits_ref (by omega), Option.bind_some]
  refine Eq.trans k ?_
  rw [List.nil_append, List.map_map]
  congr 1
  refine (List.map_congr_left fun n h => ?_).trans (List.map_id _)
  have := hn n h
  show ((n.toNat : Nat) : Int) = n
  omega
end Go.Proofs.YtdiieblgeaehpaaGreatDoor
