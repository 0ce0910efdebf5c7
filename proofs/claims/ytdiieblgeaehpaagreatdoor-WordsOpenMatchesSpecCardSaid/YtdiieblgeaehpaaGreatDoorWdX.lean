/- Words: Open on any bytes. -/
import Derived.Test.YtdiieblgeaehpaaGreatDoorWdU
namespace Go.Proofs.YtdiieblgeaehpaaGreatDoor
open Go Go.L
theorem gz_of {n z : Nat} (h1 : 2 ^ z ≤ n) (h2 : n < 2 ^ (z + 1)) : n ≠ 0 ∧ gz n = 2 * z + 1 := by
  have h0 : n ≠ 0 := by
    have := Nat.two_pow_pos z
    omega
  obtain ⟨b1, b2⟩ := blen_pow h0
  have b3 := blen_pos h0
  have c1 : blen n - 1 < z + 1 := (Nat.pow_lt_pow_iff_right (by decide : 1 < 2)).1 (Nat.lt_of_le_of_lt b1 h2)
  have c2 : z < blen n := (Nat.pow_lt_pow_iff_right (by decide : 1 < 2)).1 (Nat.lt_of_le_of_lt h1 b2)
  have := gz_eq h0
  exact ⟨h0, by omega⟩
/-- A gamma code, read from any bits. -/
def GA (D : List UInt8) (p : Nat) (r : Option (Int × Int × (Int × Int))) : Prop :=
  (∃ f : Int × Int, ¬ (f.1 = 0 ∧ f.2 = 0) ∧ r = some (0, 0, f)) ∨ ∃ n : Nat, n ≠ 0 ∧ n < 2147483648 ∧ p + gz n ≤ 8 * D.length ∧ r = some ((n : Int), ((p + gz n : Nat) : Int), (0, 0))
theorem gamma_k1 {D : List UInt8} (hD : Full D) {p z : Nat} (hp : p ≤ 8 * D.length) (hz : z ≤ 30) (h : 8 * D.length ≤ p + z ∨ bitAt D (p + z) = true) : GA D p (bits_ReadGamma_k1 (D, ((8 * D.length : Nat) : Int)) (p : Int) (z : Int)) := by
  have hD' := hD
  unfold Full at hD'
  have e3 : (p : Int) + 2 * (z : Int) + 1 = ((p + (2 * z + 1) : Nat) : Int) := by omega
  have e1 : (p : Int) + (z : Int) = ((p + z : Nat) : Int) := by omega
  have e2 : (z : Int) + 1 = ((z + 1 : Nat) : Int) := by omega
  unfold bits_ReadGamma_k1
  rw [chk_pos (by constructor <;> omega), chk_pos (by constructor <;> omega), chk_pos (by constructor <;> omega)]
  simp only
  rw [e3]
  by_cases hl : 8 * D.length < p + (2 * z + 1)
  · rw [if_pos (by omega)]
    exact .inl ⟨(15, -2), by simp, rfl⟩
  · have hb : bitAt D (p + z) = true := h.resolve_left (by omega)
    rw [if_neg (by omega), e1, e2, chk_pos (by constructor <;> omega), chk_pos (by constructor <;> omega)]
    have lb : ((List.range (z + 1)).map fun j => bitAt D (p + z + j)).length = z + 1 := by rw [List.length_map, List.length_range]
    have gb : ∀ j, j < z + 1 → ((List.range (z + 1)).map fun j => bitAt D (p + z + j)).getD j false = bitAt D (p + z + j) := fun j hj => by
      rw [List.getD_eq_getElem?_getD, List.getElem?_map, List.getElem?_range hj]
      rfl
    rw [number_eq (D := D) (by omega) (by omega) (by omega) _ lb (fun j hj => (gb j hj).symm), Option.bind_some]
    have v1 := valN_lt _ _ lb
    have v2 := valN_bit _ _ lb 0 (by omega)
    rw [gb 0 (by omega), show p + z + 0 = p + z from rfl, hb, show z + 1 - 1 - 0 = z by omega] at v2
    have v3 := Nat.ge_two_pow_of_testBit v2
    obtain ⟨g1, g2⟩ := gz_of v3 v1
    have v4 : 2 ^ (z + 1) ≤ 2 ^ 31 := Nat.pow_le_pow_right (by decide) (by omega)
    rw [chk_pos (by constructor <;> omega), chk_pos (by constructor <;> omega), chk_pos (by constructor <;> omega)]
    exact .inr ⟨_, g1, by omega, by omega, by rw [g2]⟩
theorem gamma_any {D : List UInt8} (hD : Full D) {p : Nat} (hp : p ≤ 8 * D.length) : GA D p (bits_ReadGamma (D, ((8 * D.length : Nat) : Int)) (p : Int)) := by
  have hD' := hD
  unfold Full at hD'
  unfold bits_ReadGamma bits_ReadGamma_l2
  simp only
  rw [valid_eq hD, Option.bind_some, if_neg (by decide), if_neg (by omega), if_neg (by omega)]
  have key : ∀ k z : Nat, z + k = 30 → GA D p (run (bits_ReadGamma_bl2 (D, ((8 * D.length : Nat) : Int)) (p : Int)) (z : Int)) := by
    intro k
    induction k with
    | zero =>
      intro z hz
      have e1 : (p : Int) + (z : Int) = ((p + z : Nat) : Int) := by omega
      by_cases h1 : 8 * D.length ≤ p + z
      · rw [run_inr (m := bits_ReadGamma_k1 (D, ((8 * D.length : Nat) : Int)) (p : Int) (z : Int)) (by
          unfold bits_ReadGamma_bl2
          rw [e1, chk_pos (by constructor <;> omega), if_neg (by simp only; omega)])]
        exact gamma_k1 hD hp (by omega) (.inl h1)
      · cases hb : bitAt D (p + z) with
        | true =>
          rw [run_inr (m := bits_ReadGamma_k1 (D, ((8 * D.length : Nat) : Int)) (p : Int) (z : Int)) (by
            unfold bits_ReadGamma_bl2
            rw [e1, chk_pos (by constructor <;> omega), if_pos (by simp only; omega), chk_pos (by constructor <;> omega), at_bit (D := D) (by omega) (by omega), Option.bind_some, hb, if_neg (by decide)])]
          exact gamma_k1 hD hp (by omega) (.inr hb)
        | false =>
          rw [run_inr (m := some (0, 0, (16, -2))) (by
            unfold bits_ReadGamma_bl2
            rw [e1, chk_pos (by constructor <;> omega), if_pos (by simp only; omega), chk_pos (by constructor <;> omega), at_bit (D := D) (by omega) (by omega), Option.bind_some, hb, if_pos (by decide), chk_pos (by constructor <;> omega), if_pos (by omega)]
            rfl)]
          exact .inl ⟨(16, -2), by simp, rfl⟩
    | succ k ih =>
      intro z hz
      have e1 : (p : Int) + (z : Int) = ((p + z : Nat) : Int) := by omega
      by_cases h1 : 8 * D.length ≤ p + z
      · rw [run_inr (m := bits_ReadGamma_k1 (D, ((8 * D.length : Nat) : Int)) (p : Int) (z : Int)) (by
          unfold bits_ReadGamma_bl2
          rw [e1, chk_pos (by constructor <;> omega), if_neg (by simp only; omega)])]
        exact gamma_k1 hD hp (by omega) (.inl h1)
      · cases hb : bitAt D (p + z) with
        | true =>
          rw [run_inr (m := bits_ReadGamma_k1 (D, ((8 * D.length : Nat) : Int)) (p : Int) (z : Int)) (by
            unfold bits_ReadGamma_bl2
            rw [e1, chk_pos (by constructor <;> omega), if_pos (by simp only; omega), chk_pos (by constructor <;> omega), at_bit (D := D) (by omega) (by omega), Option.bind_some, hb, if_neg (by decide)])]
          exact gamma_k1 hD hp (by omega) (.inr hb)
        | false =>
          rw [run_inl (s' := ((z + 1 : Nat) : Int)) (by
            unfold bits_ReadGamma_bl2
            rw [e1, chk_pos (by constructor <;> omega), if_pos (by simp only; omega), chk_pos (by constructor <;> omega), at_bit (D := D) (by omega) (by omega), Option.bind_some, hb, if_pos (by decide), chk_pos (by constructor <;> omega), if_neg (by omega)]
            rfl)]
          exact ih (z + 1) (by omega)
  exact key 30 0 (by omega)
theorem number_any {D : List UInt8} (hD : Full D) {p : Nat} (hp : p ≤ 8 * D.length) (most : Int) : words_reader_number ((D, ((8 * D.length : Nat) : Int)), (p : Int)) most = some none ∨
    ∃ n : Nat, n ≠ 0 ∧ (n : Int) ≤ most ∧ n < 2147483648 ∧ p + gz n ≤ 8 * D.length ∧ words_reader_number ((D, ((8 * D.length : Nat) : Int)), (p : Int)) most = some (some ((n : Int), ((D, ((8 * D.length : Nat) : Int)), ((p + gz n : Nat) : Int)))) := by
  unfold words_reader_number words_reader_number_k1
  simp only
  rcases gamma_any hD hp with ⟨f, hf, hr⟩ | ⟨n, n0, nb, nl, hr⟩
  · rw [hr, Option.bind_some]
    refine .inl ?_
    simp only
    rw [decide_eq_false hf]
    rfl
  · rw [hr, Option.bind_some]
    simp only
    by_cases hm : most < (n : Int)
    · exact .inl (by rw [decide_eq_true hm]; rfl)
    · exact .inr ⟨n, n0, by omega, nb, nl, by rw [decide_eq_false hm]; rfl⟩
theorem hits_any {D : List UInt8} (hD : Full D) {n : Int} (hn : n ≤ 64) (word : List UInt8) (es : HM) (k : Int) (y8 : Int × ((List UInt8) × Int) × Int) (hy : y8.1 = n + 1) : ∀ (c p : Nat) (last : Hit) (acc : List Hit), p ≤ 8 * D.length → 0 ≤ last.1 → last.1 ≤ 64 → -1 ≤ last.2 → last.2 ≤ 2048 → acc.length + c ≤ 1000000 →
    run (words_reader_index_bl7 word es k y8) (D, ((8 * D.length : Nat) : Int), (p : Int), last.1, last.2, acc, (c : Int)) = some (.inr none) ∨
    ∃ (H : List Hit) (q : Hit), H.length = c ∧ HW n last H ∧ p + gs (hitsN last H) ≤ 8 * D.length ∧ run (words_reader_index_bl7 word es k y8) (D, ((8 * D.length : Nat) : Int), (p : Int), last.1, last.2, acc, (c : Int)) = words_reader_index_k6 word es k q.1 q.2 D ((8 * D.length : Nat) : Int) ((p + gs (hitsN last H) : Nat) : Int) (acc ++ H)
  | 0, p, last, acc, hp, _, _, _, _, _ => by
    refine .inr ⟨[], last, rfl, trivial, hp, run_inr ?_⟩
    unfold words_reader_index_bl7
    simp only
    rw [if_neg (by simp), List.append_nil]
    rfl
  | c + 1, p, last, acc, hp, l1, l1', l2, l3, hlen => by
    have hD' := hD
    unfold Full at hD'
    rcases number_any hD hp 64 with n1 | ⟨a, a0, am, _, ap, n1⟩
    · refine .inl (run_inr (m := some (Sum.inr none)) ?_)
      unfold words_reader_index_bl7
      simp only
      rw [if_pos (by omega), n1, Option.bind_some]
      rfl
    · have ent : ∀ m : Option _, words_reader_index_k8 last.1 last.2 acc ((c + 1 : Nat) : Int) y8 D ((8 * D.length : Nat) : Int) ((p + gz a : Nat) : Int) (last.1 + (a : Int) - 1) 0 = m → words_reader_index_bl7 word es k y8 (D, ((8 * D.length : Nat) : Int), (p : Int), last.1, last.2, acc, ((c + 1 : Nat) : Int)) = m := by
        intro m hm
        unfold words_reader_index_bl7
        simp only
        rw [if_pos (by omega), n1, Option.bind_some]
        unfold onX
        simp only
        rw [chk_pos (by constructor <;> omega), chk_pos (by constructor <;> omega)]
        exact hm
      have bas : ∃ base : Int, -1 ≤ base ∧ base ≤ 2048 ∧ (base = if last.1 + (a : Int) - 1 = last.1 then last.2 else -1) ∧ ∀ m, words_reader_index_k9 D ((8 * D.length : Nat) : Int) ((p + gz a : Nat) : Int) (last.1 + (a : Int) - 1) acc ((c + 1 : Nat) : Int) y8 base = m → words_reader_index_k8 last.1 last.2 acc ((c + 1 : Nat) : Int) y8 D ((8 * D.length : Nat) : Int) ((p + gz a : Nat) : Int) (last.1 + (a : Int) - 1) 0 = m := by
        by_cases hs : last.1 + (a : Int) - 1 = last.1
        · exact ⟨last.2, l2, l3, by rw [if_pos hs], fun m hm => by unfold words_reader_index_k8; rw [if_pos hs]; exact hm⟩
        · exact ⟨-1, by omega, by omega, by rw [if_neg hs], fun m hm => by unfold words_reader_index_k8; rw [if_neg hs]; exact hm⟩
      obtain ⟨base, b1, b2, b3, b4⟩ := bas
      rcases number_any hD ap 2048 with n2 | ⟨b, b0, bm, _, bp, n2⟩
      · refine .inl (run_inr (m := some (Sum.inr none)) (ent _ (b4 _ ?_)))
        unfold words_reader_index_k9
        rw [n2, Option.bind_some]
        rfl
      · by_cases h1 : n ≤ last.1 + (a : Int) - 1
        · refine .inl (run_inr (m := some (Sum.inr none)) (ent _ (b4 _ ?_)))
          unfold words_reader_index_k9 words_reader_index_k10
          rw [n2, Option.bind_some]
          unfold onX
          simp only
          rw [chk_pos (by constructor <;> omega), if_pos (by omega)]
          rfl
        by_cases h2 : 2048 ≤ base + (b : Int)
        · refine .inl (run_inr (m := some (Sum.inr none)) (ent _ (b4 _ ?_)))
          unfold words_reader_index_k9 words_reader_index_k10
          rw [n2, Option.bind_some]
          unfold onX
          simp only
          rw [chk_pos (by constructor <;> omega), if_neg (by omega), if_pos (by omega)]
          rfl
        have step : words_reader_index_bl7 word es k y8 (D, ((8 * D.length : Nat) : Int), (p : Int), last.1, last.2, acc, ((c + 1 : Nat) : Int)) = some (.inl (D, ((8 * D.length : Nat) : Int), ((p + gz a + gz b : Nat) : Int), last.1 + (a : Int) - 1, base + (b : Int), acc ++ [(last.1 + (a : Int) - 1, base + (b : Int))], (c : Int))) := by
          refine ent _ (b4 _ ?_)
          unfold words_reader_index_k9 words_reader_index_k10 words_reader_index_k11
          rw [n2, Option.bind_some]
          unfold onX
          simp only
          rw [chk_pos (by constructor <;> omega), if_neg (by omega), if_neg (by omega), chk_pos (by rw [List.length_singleton]; constructor <;> omega), chk_pos (by constructor <;> omega), show ((c + 1 : Nat) : Int) - 1 = (c : Int) by omega]
        rw [run_inl step]
        rcases hits_any hD hn word es k y8 hy c (p + gz a + gz b) (last.1 + (a : Int) - 1, base + (b : Int)) (acc ++ [(last.1 + (a : Int) - 1, base + (b : Int))]) bp (by simp only; omega) (by simp only; omega) (by simp only; omega) (by simp only; omega) (by rw [List.length_append, List.length_singleton]; omega) with ih | ⟨H, q, k1, k2, k3, k4⟩
        · exact .inl ih
        · have hg : gs (hitsN last ((last.1 + (a : Int) - 1, base + (b : Int)) :: H)) = gz a + gz b + gs (hitsN (last.1 + (a : Int) - 1, base + (b : Int)) H) := by
            have eh : hitsN last ((last.1 + (a : Int) - 1, base + (b : Int)) :: H) = (if last.1 + (a : Int) - 1 = last.1 then [1, base + (b : Int) - last.2] else [1 + (last.1 + (a : Int) - 1) - last.1, base + (b : Int) + 1]) ++ hitsN (last.1 + (a : Int) - 1, base + (b : Int)) H := rfl
            rw [eh]
            split at b3
            · rename_i hs
              rw [if_pos hs, gs_app, gs_cons, gs_cons, b3, show (1 : Int).toNat = a by omega, show (last.2 + (b : Int) - last.2).toNat = b by omega]
              simp [gs]
            · rename_i hs
              rw [if_neg hs, gs_app, gs_cons, gs_cons, b3, show (1 + (last.1 + (a : Int) - 1) - last.1).toNat = a by omega, show (-1 + (b : Int) + 1).toNat = b by omega]
              simp [gs]
          refine .inr ⟨_ :: H, q, by rw [List.length_cons, k1], ⟨by simp only; omega, by simp only; omega, fun e => ?_, by simp only; omega, by simp only; omega, k2⟩, by rw [hg]; omega, ?_⟩
          · simp only at e ⊢
            rw [if_pos e] at b3
            omega
          · rw [hg, show p + (gz a + gz b + gs (hitsN (last.1 + (a : Int) - 1, base + (b : Int)) H)) = p + gz a + gz b + gs (hitsN (last.1 + (a : Int) - 1, base + (b : Int)) H) by omega]
            rw [List.append_assoc] at k4
            exact k4
theorem word_any {D : List UInt8} (hD : Full D) (es : HM) (k : Int) (y8 : Int × ((List UInt8) × Int) × Int) : ∀ (c p : Nat) (acc : List UInt8), p ≤ 8 * D.length → acc.length + c ≤ 1000000 →
    run (words_reader_index_bl5 es k y8) (D, ((8 * D.length : Nat) : Int), (p : Int), acc, (c : Int)) = some (.inr none) ∨
    ∃ w : List UInt8, w.length = c ∧ p + gs (w.map byteN) ≤ 8 * D.length ∧ run (words_reader_index_bl5 es k y8) (D, ((8 * D.length : Nat) : Int), (p : Int), acc, (c : Int)) = words_reader_index_k4 es k y8 (acc ++ w) D ((8 * D.length : Nat) : Int) ((p + gs (w.map byteN) : Nat) : Int)
  | 0, p, acc, hp, _ => by
    refine .inr ⟨[], rfl, hp, run_inr ?_⟩
    unfold words_reader_index_bl5
    simp only
    rw [if_neg (by simp), List.append_nil]
    rfl
  | c + 1, p, acc, hp, hlen => by
    rcases number_any hD hp 256 with n1 | ⟨a, a0, am, _, ap, n1⟩
    · refine .inl (run_inr (m := some (Sum.inr none)) ?_)
      unfold words_reader_index_bl5
      simp only
      rw [if_pos (by omega), n1, Option.bind_some]
      rfl
    · have hb : ∃ b : UInt8, (a : Int) - 1 = (b.toNat : Int) := ⟨UInt8.ofNat (a - 1), by rw [UInt8.toNat_ofNat']; omega⟩
      obtain ⟨b, hb⟩ := hb
      have step : words_reader_index_bl5 es k y8 (D, ((8 * D.length : Nat) : Int), (p : Int), acc, ((c + 1 : Nat) : Int)) = some (.inl (D, ((8 * D.length : Nat) : Int), ((p + gz a : Nat) : Int), acc ++ [b], (c : Int))) := by
        unfold words_reader_index_bl5
        simp only
        rw [if_pos (by omega), n1, Option.bind_some]
        unfold onX
        simp only
        rw [hb, byte_self, chk_pos (by constructor <;> omega), chk_pos (by rw [List.length_singleton]; constructor <;> omega), chk_pos (by constructor <;> omega), show ((c + 1 : Nat) : Int) - 1 = (c : Int) by omega]
      rw [run_inl step]
      rcases word_any hD es k y8 c (p + gz a) (acc ++ [b]) ap (by rw [List.length_append, List.length_singleton]; omega) with ih | ⟨w, k1, k2, k3⟩
      · exact .inl ih
      · have hg : gs ((b :: w).map byteN) = gz a + gs (w.map byteN) := by
          rw [List.map_cons, gs_cons]
          unfold byteN
          rw [show ((b.toNat : Int) + 1).toNat = a by omega]
        refine .inr ⟨b :: w, by rw [List.length_cons, k1], by rw [hg]; omega, ?_⟩
        rw [hg, ← Nat.add_assoc]
        rw [List.append_assoc] at k3
        exact k3
end Go.Proofs.YtdiieblgeaehpaaGreatDoor
namespace Go.Proofs.YtdiieblgeaehpaaGreatDoor
open Go Go.L
theorem inc_snoc {es : HM} {e : List UInt8 × List Hit} (hi : Inc (es.map Prod.fst)) (h : ∀ L z, es = L ++ [z] → z.1 < e.1) : Inc ((es ++ [e]).map Prod.fst) := by
  rw [List.map_append]
  refine List.pairwise_append.2 ⟨hi, List.pairwise_singleton _ _, fun x hx y hy => ?_⟩
  rw [List.map_singleton, List.mem_singleton] at hy
  subst hy
  rcases snoc_cases es with rfl | ⟨L, z, rfl⟩
  · cases hx
  · have hz := h L z rfl
    rw [List.map_append, List.mem_append] at hx
    rcases hx with hx | hx
    · rw [List.map_append] at hi
      exact List.lt_trans ((List.pairwise_append.1 hi).2.2 x hx z.1 (List.mem_singleton_self _)) hz
    · rw [List.map_singleton, List.mem_singleton] at hx
      rw [hx]
      exact hz
theorem entry_any {D : List UInt8} (hD : Full D) {n : Int} (hn : n ≤ 64) (y8 : Int × ((List UInt8) × Int) × Int) (hy : y8.1 = n + 1) {es : HM} (hi : Inc (es.map Prod.fst)) {k p : Nat} (hlen : es.length + k ≤ 200000) (hp : p ≤ 8 * D.length) (_hn0 : 0 ≤ n) :
    words_reader_index_bl2 y8 (D, ((8 * D.length : Nat) : Int), (p : Int), es, ((k + 1 : Nat) : Int)) = some (.inr none) ∨
    ∃ e, EW n e ∧ Inc ((es ++ [e]).map Prod.fst) ∧ p + gs (entN e) ≤ 8 * D.length ∧ words_reader_index_bl2 y8 (D, ((8 * D.length : Nat) : Int), (p : Int), es, ((k + 1 : Nat) : Int)) = some (.inl (D, ((8 * D.length : Nat) : Int), ((p + gs (entN e) : Nat) : Int), es ++ [e], (k : Int))) := by
  have hD' := hD
  unfold Full at hD'
  have ent : ∀ m, (Option.bind (words_reader_number ((D, ((8 * D.length : Nat) : Int)), (p : Int)) 2048) fun x => onX x (Option.map Sum.inr (some none)) fun y => words_reader_index_l5 es ((k + 1 : Nat) : Int) y8 (y.2.1.1, y.2.1.2, y.2.2, [], y.1)) = m → words_reader_index_bl2 y8 (D, ((8 * D.length : Nat) : Int), (p : Int), es, ((k + 1 : Nat) : Int)) = m := by
    intro m hm
    unfold words_reader_index_bl2
    simp only
    rw [if_pos (by omega)]
    exact hm
  rcases number_any hD hp 2048 with n1 | ⟨a, a0, am, _, ap, n1⟩
  · refine .inl (ent _ ?_)
    rw [n1]
    rfl
  have ent1 : ∀ m, run (words_reader_index_bl5 es ((k + 1 : Nat) : Int) y8) (D, ((8 * D.length : Nat) : Int), ((p + gz a : Nat) : Int), [], (a : Int)) = m → words_reader_index_bl2 y8 (D, ((8 * D.length : Nat) : Int), (p : Int), es, ((k + 1 : Nat) : Int)) = m := fun m hm => ent m (by
    rw [n1]
    exact hm)
  rcases word_any hD es ((k + 1 : Nat) : Int) y8 a (p + gz a) [] ap (by simp; omega) with w1 | ⟨w, w0, wp, w1⟩
  · exact .inl (ent1 _ w1)
  rw [List.nil_append] at w1
  rcases number_any hD wp (((8 * D.length : Nat) : Int) + 1) with n2 | ⟨c, c0, cm, _, cp, n2⟩
  · refine .inl (ent1 _ (w1.trans ?_))
    unfold words_reader_index_k4
    rw [chk_pos (by constructor <;> omega), n2]
    rfl
  rcases hits_any hD hn w es ((k + 1 : Nat) : Int) y8 hy c _ (0, -1) [] cp (by decide) (by decide) (by decide) (by decide) (by simp; omega) with h1 | ⟨H, q, H0, hw, hp', h1⟩
  · refine .inl (ent1 _ (w1.trans ?_))
    unfold words_reader_index_k4
    rw [chk_pos (by constructor <;> omega), n2]
    exact h1
  rw [List.nil_append] at h1
  have ent2 : ∀ m, words_reader_index_k6 w es ((k + 1 : Nat) : Int) q.1 q.2 D ((8 * D.length : Nat) : Int) ((p + gz a + gs (w.map byteN) + gz c + gs (hitsN (0, -1) H) : Nat) : Int) H = m → words_reader_index_bl2 y8 (D, ((8 * D.length : Nat) : Int), (p : Int), es, ((k + 1 : Nat) : Int)) = m := fun m hm => ent1 m (w1.trans (by
    unfold words_reader_index_k4
    rw [chk_pos (by constructor <;> omega), n2]
    exact h1.trans hm))
  have hge : p + gs (entN (w, H)) = p + gz a + gs (w.map byteN) + gz c + gs (hitsN (0, -1) H) := by
    unfold entN
    simp only
    rw [gs_cons, gs_app, gs_cons, Int.toNat_natCast, Int.toNat_natCast, w0, H0]
    omega
  have hiw := isWord_eq (a := w) (by omega)
  by_cases hW : (wds w).map Prod.fst = [w]
  · have hwl : Lw w ∧ w ≠ [] := by
      have : w ∈ (wds w).map Prod.fst := by rw [hW]; exact List.mem_singleton_self w
      obtain ⟨x, hx, e⟩ := List.mem_map.1 this
      obtain ⟨o1, o2, _⟩ := wds_ok w x hx
      rw [e] at o1 o2
      exact ⟨o1, o2⟩
    have hE : EW n (w, H) := ⟨hwl.1, hwl.2, by show w.length ≤ 2048; omega, by
      intro h
      have h' : H = [] := h
      rw [h'] at H0
      exact c0 H0.symm, by show H.length ≤ 1000000; omega, hw⟩
    have ek : (((k + 1 : Nat) : Int) - 1) = (k : Int) := by omega
    have fin : ∀ (a' : Int) (b c' d : Bool), words_reader_index_k12 D ((8 * D.length : Nat) : Int) ((p + gz a + gs (w.map byteN) + gz c + gs (hitsN (0, -1) H) : Nat) : Int) w H es ((k + 1 : Nat) : Int) a' b c' d = some (.inl (D, ((8 * D.length : Nat) : Int), ((p + gs (entN (w, H)) : Nat) : Int), es ++ [(w, H)], (k : Int))) := by
      intro a' b c' d
      unfold words_reader_index_k12 words_reader_index_k3
      rw [chk_pos (by rw [List.length_singleton]; constructor <;> omega), chk_pos (by constructor <;> omega), ek, hge]
    rcases snoc_cases es with rfl | ⟨L, z, rfl⟩
    · refine .inr ⟨(w, H), hE, inc_snoc hi (fun L z h => by
        have := congrArg List.length h
        simp at this), by rw [hge]; exact hp', ent2 _ ?_⟩
      unfold words_reader_index_k6
      rw [hiw, Option.bind_some, decide_eq_true hW, if_neg (by decide), if_neg (by simp)]
      exact fin _ _ _ _
    · have hzl : (L ++ [z]).length = L.length + 1 := by simp
      have ez : (((L.length + 1 : Nat) : Int) - 1).toNat = L.length := by omega
      have hzg : (L ++ [z]).getD L.length default = z := by rw [List.getD_eq_getElem?_getD, List.getElem?_append_right (Nat.le_refl _), Nat.sub_self]; rfl
      cases hbl : (Op.bytesLess w z.1 || decide (w = z.1)) with
      | true =>
        refine .inl (ent2 _ ?_)
        unfold words_reader_index_k6
        rw [hiw, Option.bind_some, decide_eq_true hW, if_neg (by decide), hzl, if_pos (by omega), chk_pos (by constructor <;> omega), chk_pos ⟨by omega, by omega⟩, ez, hzg, hbl, if_pos rfl]
        rfl
      | false =>
        have hlt : z.1 < w := by
          rw [less_lt, Bool.or_eq_false_iff, decide_eq_false_iff_not, decide_eq_false_iff_not] at hbl
          rcases Classical.em (z.1 < w) with h | h
          · exact h
          · exact absurd (List.le_antisymm (List.not_lt.1 h) (List.not_lt.1 hbl.1)) hbl.2
        refine .inr ⟨(w, H), hE, inc_snoc hi (fun L' z' h => by
          obtain ⟨_, h'⟩ := List.append_inj' h rfl
          rw [← List.singleton_inj.1 h']
          exact hlt), by rw [hge]; exact hp', ent2 _ ?_⟩
        unfold words_reader_index_k6
        rw [hiw, Option.bind_some, decide_eq_true hW, if_neg (by decide), hzl, if_pos (by omega), chk_pos (by constructor <;> omega), chk_pos ⟨by omega, by omega⟩, ez, hzg, hbl, if_neg (by decide)]
        exact fin _ _ _ _
  · refine .inl (ent2 _ ?_)
    unfold words_reader_index_k6
    rw [hiw, Option.bind_some, decide_eq_false hW]
    rfl
theorem entries_any {D : List UInt8} (hD : Full D) {n : Int} (hn : n ≤ 64) (hn0 : 0 ≤ n) (y8 : Int × ((List UInt8) × Int) × Int) (hy : y8.1 = n + 1) : ∀ (k p : Nat) (es : HM), Inc (es.map Prod.fst) → es.length + k ≤ 200000 → p ≤ 8 * D.length →
    run (words_reader_index_bl2 y8) (D, ((8 * D.length : Nat) : Int), (p : Int), es, (k : Int)) = some none ∨
    ∃ (r : HM) (st : ((List UInt8) × Int) × Int), r.length = k ∧ (∀ e ∈ r, EW n e) ∧ Inc ((es ++ r).map Prod.fst) ∧ p + gs (r.flatMap entN) ≤ 8 * D.length ∧ run (words_reader_index_bl2 y8) (D, ((8 * D.length : Nat) : Int), (p : Int), es, (k : Int)) = some (some ((n, es ++ r), st))
  | 0, p, es, hi, _, hp => by
    refine .inr ⟨[], ((D, ((8 * D.length : Nat) : Int)), (p : Int)), rfl, by simp, by rw [List.append_nil]; exact hi, hp, run_inr ?_⟩
    unfold words_reader_index_bl2 words_reader_index_k1
    simp only
    rw [if_neg (by simp), hy, Int.add_sub_cancel, List.append_nil]
  | k + 1, p, es, hi, hlen, hp => by
    rcases entry_any hD hn y8 hy hi (k := k) (p := p) (by omega) hp hn0 with h | ⟨e, e1, e2, e3, h⟩
    · exact .inl (run_inr (m := some none) h)
    · rw [run_inl h]
      rcases entries_any hD hn hn0 y8 hy k _ (es ++ [e]) e2 (by rw [List.length_append, List.length_singleton]; omega) e3 with h | ⟨r, st, r1, r2, r3, r4, h⟩
      · exact .inl h
      · refine .inr ⟨e :: r, st, by rw [List.length_cons, r1], fun x hx => ?_, ?_, ?_, ?_⟩
        · rcases List.mem_cons.1 hx with rfl | hx
          · exact e1
          · exact r2 x hx
        · rw [List.append_assoc] at r3
          exact r3
        · rw [List.flatMap_cons, gs_app]
          omega
        · rw [List.append_assoc] at h
          exact h
theorem index_any {D : List UInt8} (hD : Full D) : words_reader_index ((D, ((8 * D.length : Nat) : Int)), 0) = some none ∨
    ∃ (x : Int × HM) (st : ((List UInt8) × Int) × Int), 0 ≤ x.1 ∧ x.1 ≤ 64 ∧ Inc (x.2.map Prod.fst) ∧ (∀ e ∈ x.2, EW x.1 e) ∧ gs (numsI x) ≤ 131072 ∧ x.2.length ≤ 1000000 ∧ words_reader_index ((D, ((8 * D.length : Nat) : Int)), 0) = some (some (x, st)) := by
  have hD' := hD
  unfold Full at hD'
  have z := number_any hD (Nat.zero_le _) 65
  rw [Int.natCast_zero] at z
  unfold words_reader_index
  simp only
  rcases z with n1 | ⟨a, a0, am, _, ap, n1⟩
  · rw [n1]
    exact .inl rfl
  rw [n1, Option.bind_some]
  unfold onX
  simp only
  rw [chk_pos (by constructor <;> omega), chk_pos (by constructor <;> omega)]
  rcases number_any hD ap (((8 * D.length : Nat) : Int) + 1) with n2 | ⟨b, b0, bm, _, bp, n2⟩
  · rw [n2]
    exact .inl rfl
  rw [n2, Option.bind_some]
  simp only
  rw [chk_pos (by constructor <;> omega)]
  unfold words_reader_index_l2
  have eb : (b : Int) - 1 = ((b - 1 : Nat) : Int) := by omega
  rw [eb]
  rcases entries_any hD (n := (a : Int) - 1) (by omega) (by omega) ((a : Int), ((D, ((8 * D.length : Nat) : Int)), ((0 + gz a : Nat) : Int))) (by simp only; omega) (b - 1) _ [] List.Pairwise.nil (by simp; omega) bp with h | ⟨r, st, r1, r2, r3, r4, h⟩
  · exact .inl h
  · rw [List.nil_append] at r3 h
    refine .inr ⟨((a : Int) - 1, r), st, by simp only; omega, by simp only; omega, r3, r2, ?_, by simp only; omega, h⟩
    unfold numsI
    simp only
    rw [gs_cons, gs_cons, r1, show ((a : Int) - 1 + 1).toNat = a by omega, show (((b - 1 : Nat) : Int) + 1).toNat = b by omega]
    omega
theorem seen_mget (h : Hit) : ∀ (done : List Hit) (M : List (Hit × Bool)), mget false h (seenM done M) = false → h ∉ done ∧ mget false h M = false
  | [], M, e => ⟨by simp, e⟩
  | k :: done, M, e => by
    have := seen_mget h done (mput k true M) e
    obtain ⟨h1, h2⟩ := this
    rw [mget_mput] at h2
    by_cases hk : h = k
    · rw [if_pos hk] at h2
      cases h2
    · rw [if_neg hk] at h2
      exact ⟨fun hm => (List.mem_cons.1 hm).elim hk h1, h2⟩
theorem seen_in_any {x : Int × HM} {st : ((List UInt8) × Int) × Int} {i : Nat} {e : List UInt8 × List Hit} (hi : i < 1000000) (he : x.2.getD i default = e) (hl : e.2.length ≤ 1000000) : ∀ (r : List Hit) (j : Nat) (M : List (Hit × Bool)), e.2.drop j = r →
    run (words_Open_bl4 (i : Int) (x, st)) (M, (j : Int)) = some (.inr ((0, []), (16, -1))) ∨ (r.Nodup ∧ (∀ h ∈ r, mget false h M = false) ∧ run (words_Open_bl4 (i : Int) (x, st)) (M, (j : Int)) = some (.inl (seenM r M, ((i + 1 : Nat) : Int))))
  | [], j, M, hd => by
    have hlen := len_drop hd
    refine .inr ⟨List.nodup_nil, by simp, run_inr ?_⟩
    unfold words_Open_bl4 words_Open_k3
    simp only
    rw [Int.toNat_natCast, he, if_neg (by omega), chk_pos (by constructor <;> omega)]
    rfl
  | h :: r, j, M, hd => by
    obtain ⟨hg, hd', hlt⟩ := getD_drop hd
    cases hm : mget false (h.1, h.2) M with
    | true =>
      refine .inl (run_inr ?_)
      unfold words_Open_bl4 words_Open_1_yes
      simp only
      rw [Int.toNat_natCast, he, if_pos (by omega), chk_pos ⟨by omega, by omega⟩, Int.toNat_natCast, hg, hm, if_pos rfl]
      rfl
    | false =>
      have step : words_Open_bl4 (i : Int) (x, st) (M, (j : Int)) = some (.inl (mput h true M, ((j + 1 : Nat) : Int))) := by
        unfold words_Open_bl4
        simp only
        rw [Int.toNat_natCast, he, if_pos (by omega), chk_pos ⟨by omega, by omega⟩, Int.toNat_natCast, hg, hm, if_neg (by decide), chk_pos (by constructor <;> omega)]
        rfl
      rw [run_inl step]
      rcases seen_in_any (st := st) hi he hl r (j + 1) (mput h true M) hd' with k | ⟨k1, k2, k3⟩
      · exact .inl k
      · have hne : ∀ k ∈ r, k ≠ h ∧ mget false k M = false := fun k hk => by
          have := k2 k hk
          rw [mget_mput] at this
          by_cases e : k = h
          · rw [if_pos e] at this
            cases this
          · rw [if_neg e] at this
            exact ⟨e, this⟩
        refine .inr ⟨List.nodup_cons.2 ⟨fun hh => (hne h hh).1 rfl, k1⟩, fun k hk => ?_, k3⟩
        rcases List.mem_cons.1 hk with rfl | hk
        · exact hm
        · exact (hne k hk).2
theorem seen_out_any {x : Int × HM} {st : ((List UInt8) × Int) × Int} {b : List UInt8} (hlen : x.2.length ≤ 1000000) (hl : ∀ e ∈ x.2, e.2.length ≤ 1000000) : ∀ (r : HM) (i : Nat) (M : List (Hit × Bool)), x.2.drop i = r →
    run (words_Open_bl2 b (x, st)) (M, (i : Int)) = some ((0, []), (16, -1)) ∨ ((r.flatMap Prod.snd).Nodup ∧ (∀ h ∈ r.flatMap Prod.snd, mget false h M = false) ∧ ∃ M', run (words_Open_bl2 b (x, st)) (M, (i : Int)) = words_Open_k1 b (x, st) M')
  | [], i, M, hd => by
    have h1 := len_drop hd
    refine .inr ⟨List.nodup_nil, by simp, M, run_inr ?_⟩
    unfold words_Open_bl2
    simp only
    rw [if_neg (by omega)]
  | e :: r, i, M, hd => by
    obtain ⟨hg, hd', hlt⟩ := getD_drop hd
    have he : e ∈ x.2 := List.mem_of_mem_drop (by rw [hd]; exact List.mem_cons_self ..)
    have ent : ∀ m, run (words_Open_bl4 (i : Int) (x, st)) (M, 0) = m → words_Open_bl2 b (x, st) (M, (i : Int)) = m := fun m hm => by
      unfold words_Open_bl2 words_Open_l4
      simp only
      rw [if_pos (by omega), chk_pos ⟨by omega, by omega⟩]
      exact hm
    rcases seen_in_any (st := st) (i := i) (by omega) hg (hl e he) e.2 0 M rfl with k | ⟨k1, k2, k3⟩
    · exact .inl (run_inr (m := some ((0, []), (16, -1))) (ent _ k))
    · rw [run_inl (ent _ k3)]
      rcases seen_out_any (b := b) (st := st) hlen hl r (i + 1) (seenM e.2 M) hd' with k | ⟨q1, q2, q3⟩
      · exact .inl k
      · refine .inr ⟨?_, ?_, q3⟩
        · rw [List.flatMap_cons]
          exact List.nodup_append.2 ⟨k1, q1, fun a ha c hc e' => (seen_mget c e.2 M (q2 c hc)).1 (e' ▸ ha)⟩
        · intro h hh
          rw [List.flatMap_cons, List.mem_append] at hh
          rcases hh with hh | hh
          · exact k2 h hh
          · exact (seen_mget h e.2 M (q2 h hh)).2
/-- Open says 'corrupt', or gives the index whose form the bytes are. -/
theorem open_any {b : List UInt8} (hb : Full b) : words_Open b = some ((0, []), (16, -1)) ∨ ∃ x, XW x ∧ words_Index_Bytes x = some b ∧ words_Open b = some (x, (0, 0)) := by
  have hD' := hb
  unfold Full at hD'
  have hcl : slices_Clone_byte_byte b = some b := by
    unfold slices_Clone_byte_byte
    rw [chk_pos (by rw [List.length_nil]; constructor <;> omega), List.nil_append]
  have e8 : (8 : Int) * (b.length : Int) = ((8 * b.length : Nat) : Int) := by omega
  have ent : ∀ m, (Option.bind (words_reader_index ((b, ((8 * b.length : Nat) : Int)), 0)) fun x => onX x (Option.bind (words_Open_1_yes ((0 : Int), ([] : HM)) ((0 : Int), (0 : Int))) (fun x20 => some ((x20.1.1, x20.1.2), (x20.2.1, x20.2.2)))) fun y => words_Open_l2 b y ([], 0)) = m → words_Open b = m := fun m hm => by
    unfold words_Open
    rw [if_neg (by omega), hcl, Option.bind_some, e8, chk_pos (by constructor <;> omega)]
    exact hm
  rcases index_any hb with h | ⟨x, st, x1, x2, x3, x4, x5, x6, h⟩
  · refine .inl (ent _ ?_)
    rw [h]
    rfl
  · rcases seen_out_any (b := b) (st := st) x6 (fun e he => (x4 e he).2.2.2.2.1) x.2 0 [] rfl with k | ⟨k1, _, M', k⟩
    · refine .inl (ent _ ?_)
      rw [h]
      exact k
    · have hX : XW x := ⟨⟨x1, x2⟩, x3, x4, k1, x5, x6⟩
      obtain ⟨D, d1, _, _⟩ := bytes_eq hX
      by_cases hd : D = b
      · subst hd
        exact .inr ⟨x, hX, d1, open_form hX d1⟩
      · refine .inl (ent _ ?_)
        rw [h]
        refine Eq.trans k ?_
        unfold words_Open_k1 words_Open_1_yes_s2
        simp only
        rw [show (x.1, x.2) = x from rfl, d1, Option.bind_some]
        unfold bytes_Equal
        rw [Option.bind_some, decide_eq_false hd, if_pos (by decide)]
        rfl
end Go.Proofs.YtdiieblgeaehpaaGreatDoor
