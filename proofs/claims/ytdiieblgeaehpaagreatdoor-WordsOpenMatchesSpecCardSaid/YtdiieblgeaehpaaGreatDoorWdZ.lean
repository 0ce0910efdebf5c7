/- Words: the reference's reader of numbers. -/
import Derived.Test.YtdiieblgeaehpaaGreatDoorWdX
import Derived.Test.YtdiieblgeaehpaaGreatDoorP8Z
namespace Go.L
open Go Go.Proofs.YtdiieblgeaehpaaGreatDoor
/-- The bits of bytes. -/
def BL (D : List UInt8) : List Bool := (List.range (8 * D.length)).map (bitAt D)
theorem BL_len (D : List UInt8) : (BL D).length = 8 * D.length := by unfold BL; rw [List.length_map, List.length_range]
theorem BL_get {D : List UInt8} {i : Nat} (h : i < 8 * D.length) : (BL D).getD i false = bitAt D i := by
  unfold BL
  rw [List.getD_eq_getElem?_getD, List.getElem?_map, List.getElem?_range h]
  rfl
theorem bI_get {B : List Bool} {i : Nat} (h : i < B.length) : (B.map bI).getD i default = bI (B.getD i false) := by
  rw [List.getD_eq_getElem?_getD, List.getD_eq_getElem?_getD, List.getElem?_map, List.getElem?_eq_getElem h]
  rfl
end Go.L
namespace Go.Proofs.YtdiieblgeaehpaaGreatDoor
open Go Go.L
theorem power_eq {k : Nat} (hk : k ≤ 60) : ref3_Power (k : Int) = some ((2 ^ k : Nat) : Int) := by
  unfold ref3_Power ref3_Power_l2
  have step : ∀ q i : Nat, q ≤ 1152921504606846976 → i < k → ref3_Power_bl2 (k : Int) ((q : Int), (i : Int)) = some (.inl (((q * 2 : Nat) : Int), ((i + 1 : Nat) : Int))) := fun q i hq hi => by
    unfold ref3_Power_bl2
    simp only
    rw [if_pos (by omega), chk_pos (by constructor <;> omega), chk_pos (by constructor <;> omega), show (2 : Int) * (q : Int) = ((q * 2 : Nat) : Int) by omega]
    rfl
  have key := run_count (b := ref3_Power_bl2 (k : Int)) (m := some ((2 ^ k : Nat) : Int)) (fun i => (((2 ^ i : Nat) : Int), ((i : Nat) : Int))) k (fun i hi => by
    have h1 : 2 ^ i ≤ 2 ^ 60 := Nat.pow_le_pow_right (by decide) (by omega)
    exact step (2 ^ i) i h1 hi) (by
    unfold ref3_Power_bl2 ref3_Power_k1
    simp only
    rw [if_neg (by omega)]) 0 (Nat.zero_le _)
  exact key
theorem bit_ref {D : List UInt8} (hD : D.length ≤ 1000000000) {i : Nat} (hi : i < 8 * D.length) : ref3_Bit D (i : Int) = some (bI (bitAt D i)) := by
  have e1 : (i : Int) / 8 = ((i / 8 : Nat) : Int) := by omega
  have e2 : (i : Int) % 8 = ((i % 8 : Nat) : Int) := by omega
  have e3 : (7 : Int) - ((i % 8 : Nat) : Int) = ((7 - i % 8 : Nat) : Int) := by omega
  unfold ref3_Bit
  rw [chk_pos ⟨by omega, by omega, by decide⟩, e1, e2, e3, chk_pos ⟨by omega, by omega⟩, chk_pos ⟨by omega, by omega, by decide⟩, chk_pos (by constructor <;> omega), power_eq (by omega), Option.bind_some, Int.toNat_natCast]
  unfold bitAt
  rw [Nat.testBit_eq_decide_div_mod_eq]
  generalize D.getD (i / 8) default = c
  have hc := c.toNat_lt
  have hp := Nat.two_pow_pos (7 - i % 8)
  generalize 2 ^ (7 - i % 8) = q at hp ⊢
  rw [chk_pos ⟨by omega, by omega, by omega⟩]
  have e4 : (c.toNat : Int) / (q : Int) = ((c.toNat / q : Nat) : Int) := by rw [Int.natCast_ediv]
  have h5 : c.toNat / q ≤ c.toNat := Nat.div_le_self _ _
  rw [e4]
  generalize c.toNat / q = d at h5 ⊢
  rw [chk_pos ⟨by omega, by omega, by decide⟩]
  rcases Nat.mod_two_eq_zero_or_one d with h | h
  · rw [h, show (d : Int) % 2 = 0 by omega]
    rfl
  · rw [h, show (d : Int) % 2 = 1 by omega]
    rfl
theorem allbits_ref {D : List UInt8} (hD : D.length ≤ 1000000) : ref3_AllBits D = some ((BL D).map bI) := by
  unfold ref3_AllBits ref3_AllBits_l2
  have key := run_count (b := ref3_AllBits_bl2 D) (m := some ((BL D).map bI)) (fun i => (((List.range i).map (bitAt D)).map bI, ((i : Nat) : Int))) (8 * D.length) (fun i hi => by
    unfold ref3_AllBits_bl2
    simp only
    rw [chk_pos (by constructor <;> omega), if_pos (by omega), bit_ref (by omega) hi, Option.bind_some, chk_pos (by rw [List.length_map, List.length_map, List.length_range, List.length_singleton]; constructor <;> omega), chk_pos (by constructor <;> omega), List.range_succ, List.map_append, List.map_append]
    rfl) (by
    unfold ref3_AllBits_bl2 ref3_AllBits_k1
    simp only
    rw [chk_pos (by constructor <;> omega), if_neg (by omega)]
    rfl) 0 (Nat.zero_le _)
  exact key
theorem number_ref {bs : List Bool} (hl : bs.length ≤ 31) : ref3_Number (bs.map bI) = some ((valN bs : Nat) : Int) := by
  unfold ref3_Number ref3_Number_l2
  have hv : ∀ j, j ≤ bs.length → valN (bs.take j) < 2 ^ j := fun j hj => valN_lt _ _ (by rw [List.length_take]; omega)
  have key := run_count (b := ref3_Number_bl2 (bs.map bI)) (m := some ((valN bs : Nat) : Int)) (fun j => (((valN (bs.take j) : Nat) : Int), (j : Int))) bs.length (fun j hj => by
    have h1 := hv j (by omega)
    have h2 : 2 ^ j ≤ 2 ^ 31 := Nat.pow_le_pow_right (by decide) (by omega)
    have h3 : bs.take (j + 1) = bs.take j ++ [bs.getD j false] := by
      rw [List.take_add_one]
      congr 1
      rw [List.getD_eq_getElem?_getD, List.getElem?_eq_getElem (by omega)]
      rfl
    have h4 : bI (bs.getD j false) = (((bs.getD j false).toNat : Nat) : Int) := bI_nat _
    have h5 := Bool.toNat_le (bs.getD j false)
    unfold ref3_Number_bl2
    simp only
    rw [List.length_map, if_pos (by omega), chk_pos (by constructor <;> omega), chk_pos ⟨by omega, by omega⟩, Int.toNat_natCast, bI_get hj, h4, chk_pos (by constructor <;> omega), chk_pos (by constructor <;> omega), h3, valN_snoc]
    rfl) (by
    unfold ref3_Number_bl2 ref3_Number_k1
    simp only
    rw [List.length_map, if_neg (by omega), List.take_of_length_le (by omega)]) 0 (Nat.zero_le _)
  exact key
/-- The reference's gamma code: so many zeros, then a one, and room enough. -/
theorem gk1 {B : List Bool} (hB : B.length ≤ 1000000) {p z : Nat} (hp : p ≤ B.length) (hz : z ≤ 30) : ref3_GammaAt_k1 (B.map bI) (p : Int) (z : Int) = some (if B.length < p + 2 * z + 1 then ((0 : Int), (0 : Int), (15 : Int)) else (((valN ((B.drop (p + z)).take (z + 1)) : Nat) : Int), ((p + 2 * z + 1 : Nat) : Int), (0 : Int))) := by
  have e3 : (p : Int) + 2 * (z : Int) + 1 = ((p + 2 * z + 1 : Nat) : Int) := by omega
  have e1 : (p : Int) + (z : Int) = ((p + z : Nat) : Int) := by omega
  unfold ref3_GammaAt_k1
  rw [List.length_map, chk_pos (by constructor <;> omega), chk_pos (by constructor <;> omega), chk_pos (by constructor <;> omega), e3, e1]
  by_cases hl : B.length < p + 2 * z + 1
  · rw [if_pos (by omega), if_pos hl]
  · rw [if_neg (by omega), if_neg hl, chk_pos (by constructor <;> omega), chk_pos ⟨by omega, by omega, by omega⟩, Int.toNat_natCast, Int.toNat_natCast, ← List.map_drop, ← List.map_take, show p + 2 * z + 1 - (p + z) = z + 1 by omega, number_ref (by rw [List.length_take]; omega), Option.bind_some]
theorem gstep {B : List Bool} (hB : B.length ≤ 1000000) {p z : Nat} (hp : p ≤ B.length) (hz : z ≤ 30) : ref3_GammaAt_bl2 (B.map bI) (p : Int) (z : Int) = if B.length ≤ p + z then Option.map Sum.inr (ref3_GammaAt_k1 (B.map bI) (p : Int) (z : Int)) else if B.getD (p + z) false then Option.map Sum.inr (ref3_GammaAt_k1 (B.map bI) (p : Int) (z : Int)) else if z = 30 then Option.map Sum.inr (some ((0 : Int), (0 : Int), (16 : Int))) else some (.inl ((z + 1 : Nat) : Int)) := by
  have e1 : (p : Int) + (z : Int) = ((p + z : Nat) : Int) := by omega
  unfold ref3_GammaAt_bl2
  rw [e1]
  rw [List.length_map, chk_pos (by constructor <;> omega)]
  by_cases h : B.length ≤ p + z
  · rw [if_neg (by omega), if_pos h]
  · rw [if_pos (by omega), if_neg h, chk_pos (by constructor <;> omega), chk_pos ⟨by omega, by omega⟩, Int.toNat_natCast, bI_get (by omega)]
    cases B.getD (p + z) false with
    | true => rw [if_neg (by decide), if_pos rfl]
    | false =>
      rw [if_pos (show bI false = 0 from rfl), if_neg Bool.false_ne_true, chk_pos (by constructor <;> omega)]
      by_cases h3 : z = 30
      · rw [if_pos (by omega), if_pos h3]
      · rw [if_neg (by omega), if_neg h3]
        rfl
end Go.Proofs.YtdiieblgeaehpaaGreatDoor
