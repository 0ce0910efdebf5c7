/- The reference of forms: gamma codes, packed. -/
import Derived.Test.YtdiieblgeaehpaaGreatDoorWdT
import Derived.Test.YtdiieblgeaehpaaGreatDoorP8Y
namespace Go.L
open Go Go.Proofs.YtdiieblgeaehpaaGreatDoor
theorem valN_bit : ∀ (w : Nat) (l : List Bool), l.length = w → ∀ j, j < w → (valN l).testBit (w - 1 - j) = l.getD j false := by
  intro w
  induction w with
  | zero => intro l _ j hj; omega
  | succ w ih =>
    intro l hl j hj
    rcases snoc_cases l with rfl | ⟨L, b, rfl⟩
    · simp at hl
    rw [List.length_append, List.length_singleton] at hl
    have hL : L.length = w := by omega
    have hb := Bool.toNat_le b
    rw [valN_snoc, getD_snoc, hL]
    by_cases h : j < w
    · rw [if_pos h, ← ih L hL j h, show w + 1 - 1 - j = (w - 1 - j) + 1 by omega, Nat.testBit_succ]
      congr 1
      omega
    · rw [if_neg h, if_pos (by omega), show w + 1 - 1 - j = 0 by omega, Nat.testBit_zero]
      cases b <;> simp
theorem valN_lt : ∀ (w : Nat) (l : List Bool), l.length = w → valN l < 2 ^ w := by
  intro w
  induction w with
  | zero => intro l hl; rw [List.eq_nil_of_length_eq_zero hl]; exact Nat.one_pos
  | succ w ih =>
    intro l hl
    rcases snoc_cases l with rfl | ⟨L, b, rfl⟩
    · simp at hl
    rw [List.length_append, List.length_singleton] at hl
    have h1 := ih L (by omega)
    have hb := Bool.toNat_le b
    rw [valN_snoc, Nat.pow_succ]
    omega
/-- Bytes with the same bits are the same. -/
theorem packed_one {D D' : List UInt8} {bs : List Bool} (h : Packed D bs) (h' : Packed D' bs) : D = D' := by
  have hl : D.length = D'.length := h.1.trans h'.1.symm
  apply List.ext_getElem hl
  intro i h1 h2
  apply UInt8.toNat.inj
  apply Nat.eq_of_testBit_eq
  intro k
  have e1 : D[i] = D.getD i default := by rw [List.getD_eq_getElem?_getD, List.getElem?_eq_getElem h1]; rfl
  have e2 : D'[i] = D'.getD i default := by rw [List.getD_eq_getElem?_getD, List.getElem?_eq_getElem h2]; rfl
  by_cases hk : k < 8
  · have a1 := h.2 (8 * i + (7 - k)) (by omega)
    have a2 := h'.2 (8 * i + (7 - k)) (by omega)
    unfold bitAt at a1 a2
    rw [show (8 * i + (7 - k)) / 8 = i by omega, show 7 - (8 * i + (7 - k)) % 8 = k by omega] at a1 a2
    rw [e1, e2, a1, a2]
  · have b : ∀ c : UInt8, c.toNat.testBit k = false := fun c => Nat.testBit_lt_two_pow (Nat.lt_of_lt_of_le c.toNat_lt (Nat.pow_le_pow_right (by decide) (by omega)))
    rw [b, b]
def bI (b : Bool) : Int := if b then 1 else 0
theorem bI_nat (b : Bool) : bI b = ((b.toNat : Nat) : Int) := by cases b <;> rfl
end Go.L
namespace Go.Proofs.YtdiieblgeaehpaaGreatDoor
open Go Go.L
/-- The digits of a number, filled in from the end. -/
theorem digits_eq {n w : Nat} (hw : w ≤ 60) (hn : n < 16777216) : ref3_Digits (n : Int) (w : Int) = some ((dgw w n).map bI) := by
  unfold ref3_Digits ref3_Digits_l2
  rw [chk_pos ⟨by omega, by omega, by omega⟩, chk_pos (by constructor <;> omega), Int.toNat_natCast]
  have key := run_count (b := ref3_Digits_bl2) (m := some ((dgw w n).map bI)) (fun j => (List.replicate (w - j) (0 : Int) ++ ((dgw w n).drop (w - j)).map bI, ((n / 2 ^ j : Nat) : Int), (w : Int) - 1 - (j : Int))) w (fun j hj => by
    have hk : (w : Int) - 1 - (j : Int) = ((w - 1 - j : Nat) : Int) := by omega
    have hr : List.replicate (w - j) (0 : Int) = List.replicate (w - 1 - j) 0 ++ [0] := by rw [show w - j = (w - 1 - j) + 1 by omega, List.replicate_succ']
    have hlen : (dgw w n).length = w := dgw_len w n
    have hd : (dgw w n).drop (w - (j + 1)) = n.testBit j :: (dgw w n).drop (w - j) := by
      have h1 : w - (j + 1) < (dgw w n).length := by omega
      have h2 : (dgw w n).getD (w - (j + 1)) false = n.testBit (w - 1 - (w - (j + 1))) := dgw_get (by omega)
      rw [List.getD_eq_getElem?_getD, List.getElem?_eq_getElem h1] at h2
      simp only [Option.getD_some] at h2
      rw [List.drop_eq_getElem_cons h1, h2, show w - 1 - (w - (j + 1)) = j by omega, show w - (j + 1) + 1 = w - j by omega]
    have hv : ((n / 2 ^ j : Nat) : Int) % 2 = bI (n.testBit j) := by
      rw [Nat.testBit_eq_decide_div_mod_eq]
      rcases Nat.mod_two_eq_zero_or_one (n / 2 ^ j) with h | h
      · rw [h, show bI (decide (0 = 1)) = 0 from rfl]; omega
      · rw [h, show bI (decide (1 = 1)) = 1 from rfl]; omega
    have hq : ((n / 2 ^ j : Nat) : Int) / 2 = ((n / 2 ^ (j + 1) : Nat) : Int) := by
      rw [Nat.pow_succ, ← Nat.div_div_eq_div_mul]
      omega
    have hb : n / 2 ^ j ≤ n := Nat.div_le_self _ _
    obtain ⟨X, hX⟩ : ∃ X, X = n / 2 ^ j := ⟨_, rfl⟩
    obtain ⟨Y, hY⟩ : ∃ Y, Y = n / 2 ^ (j + 1) := ⟨_, rfl⟩
    rw [← hX] at hv hb
    rw [← hX, ← hY] at hq
    unfold ref3_Digits_bl2
    simp only
    rw [← hX, ← hY]
    clear hX hY
    rw [if_pos (by omega), chk_pos ⟨by omega, by omega, by decide⟩, hk, chk_pos ⟨by omega, by rw [List.length_append, List.length_replicate, List.length_map, List.length_drop, hlen]; omega⟩, chk_pos ⟨by omega, by omega, by decide⟩, chk_pos (by constructor <;> omega), hv, hq, hd, hr, Int.toNat_natCast, List.append_assoc, List.set_append_right _ _ (by rw [List.length_replicate]; exact Nat.le_refl _), List.length_replicate, Nat.sub_self, List.map_cons, show w - (j + 1) = w - 1 - j by omega, show ((w - 1 - j : Nat) : Int) - 1 = (w : Int) - 1 - ((j + 1 : Nat) : Int) by omega]
    rfl) (by
    unfold ref3_Digits_bl2 ref3_Digits_k1
    simp only
    rw [if_neg (by omega), Nat.sub_self]
    rfl) 0 (by omega)
  rw [Nat.sub_zero, Nat.pow_zero, Nat.div_one, List.drop_of_length_le (by rw [dgw_len]; exact Nat.le_refl _), List.map_nil, List.append_nil, Int.natCast_zero, Int.sub_zero] at key
  exact key
theorem cb_split {n : Nat} (h : n ≠ 0) : cb n = List.replicate (blen n - 1) false ++ dgw (blen n) n := by
  have h1 := blen_pos h
  have h2 := gz_eq h
  apply List.ext_getElem
  · rw [cb_len, List.length_append, List.length_replicate, dgw_len]; omega
  intro i a b
  have e : (cb n)[i] = (cb n).getD i false := by rw [List.getD_eq_getElem?_getD, List.getElem?_eq_getElem a]; rfl
  have e2 : (List.replicate (blen n - 1) false ++ dgw (blen n) n)[i] = (List.replicate (blen n - 1) false ++ dgw (blen n) n).getD i false := by rw [List.getD_eq_getElem?_getD, List.getElem?_eq_getElem b]; rfl
  rw [e, e2]
  rw [cb_len] at a
  by_cases hi : i < blen n - 1
  · rw [cb_zero h hi, List.getD_eq_getElem?_getD, List.getElem?_append_left (by rw [List.length_replicate]; exact hi), List.getElem?_replicate, if_pos hi]
    rfl
  · have h4 := cb_tail (j := i - (blen n - 1)) h (by omega)
    rw [show blen n - 1 + (i - (blen n - 1)) = i by omega] at h4
    rw [h4, List.getD_eq_getElem?_getD, List.getD_eq_getElem?_getD, List.getElem?_append_right (by rw [List.length_replicate]; omega), List.length_replicate]
theorem gamma_ref {n : Nat} (h : n ≠ 0) (hn : n < 16777216) : ref3_Gamma (n : Int) = some ((cb n).map bI) := by
  have h1 := blen_pos h
  have h3 : blen n ≤ 24 := blen_lt (by omega)
  unfold ref3_Gamma ref3_Gamma_l2
  have key := run_count (b := ref3_Gamma_bl2 (n : Int)) (m := some ((cb n).map bI)) (fun j => ((j : Int), ((n / 2 ^ j : Nat) : Int))) (blen n) (fun j hj => by
    have hp : 0 < n / 2 ^ j := Nat.div_pos (Nat.le_trans (Nat.pow_le_pow_right (by decide) (by omega)) (blen_pow h).1) (Nat.two_pow_pos j)
    have hb : n / 2 ^ j ≤ n := Nat.div_le_self _ _
    have hq : ((n / 2 ^ j : Nat) : Int) / 2 = ((n / 2 ^ (j + 1) : Nat) : Int) := by
      rw [Nat.pow_succ, ← Nat.div_div_eq_div_mul]
      omega
    unfold ref3_Gamma_bl2
    simp only
    rw [if_pos (by omega), chk_pos (by constructor <;> omega), chk_pos ⟨by omega, by omega, by decide⟩, hq]
    rfl) (by
    have hz : n / 2 ^ blen n = 0 := Nat.div_eq_of_lt (blen_pow h).2
    have e1 : ((blen n : Nat) : Int) - 1 = ((blen n - 1 : Nat) : Int) := by omega
    unfold ref3_Gamma_bl2 ref3_Gamma_k1
    simp only
    rw [hz, if_neg (by omega), e1, chk_pos (by constructor <;> omega), chk_pos ⟨by omega, by omega, by omega⟩, digits_eq (by omega) hn, Option.bind_some, Int.toNat_natCast, chk_pos (by rw [List.length_replicate, List.length_map, dgw_len]; constructor <;> omega), cb_split h, List.map_append, List.map_replicate]
    rfl) 0 (by omega)
  rw [Nat.pow_zero, Nat.div_one] at key
  exact key
/-- Eight bits as a byte, filled up with zeros. -/
def oct (bs : List Bool) (q : Nat) : List Bool := (List.range 8).map fun j => bs.getD (8 * q + j) false
theorem oct_len (bs : List Bool) (q : Nat) : (oct bs q).length = 8 := rfl
theorem oct_take (bs : List Bool) (q t : Nat) (h : t < 8) : (oct bs q).take (t + 1) = (oct bs q).take t ++ [bs.getD (8 * q + t) false] := by
  rw [List.take_add_one]
  congr 1
  unfold oct
  rw [List.getElem?_map, List.getElem?_range h]
  rfl
theorem packed_in {bs : List Bool} (hl : bs.length ≤ 1000000000) {D : List UInt8} (hD : D.length ≤ 1000000000) (q : Nat) (hq : 8 * q < bs.length) : ref3_Packed_l5 (bs.map bI) D ((8 * q : Nat) : Int) (0, ((8 * q : Nat) : Int)) = some (.inl (D ++ [UInt8.ofNat (valN (oct bs q))], ((8 * (q + 1) : Nat) : Int))) := by
  unfold ref3_Packed_l5
  have e8 : ((8 * q : Nat) : Int) + 8 = ((8 * (q + 1) : Nat) : Int) := by omega
  have key := run_count (b := ref3_Packed_bl5 (bs.map bI) D ((8 * q : Nat) : Int)) (m := some (.inl (D ++ [UInt8.ofNat (valN (oct bs q))], ((8 * (q + 1) : Nat) : Int)))) (fun t => (((valN ((oct bs q).take t) : Nat) : Int), ((8 * q + t : Nat) : Int))) 8 (fun t ht => by
    have hv : valN ((oct bs q).take t) < 2 ^ t := valN_lt t _ (by rw [List.length_take, oct_len]; omega)
    have hp : 2 ^ t ≤ 2 ^ 8 := Nat.pow_le_pow_right (by decide) (by omega)
    have hb := Bool.toNat_le (bs.getD (8 * q + t) false)
    unfold ref3_Packed_bl5
    simp only
    rw [chk_pos (by constructor <;> omega), if_pos (by omega), chk_pos (by constructor <;> omega), oct_take bs q t ht, valN_snoc, List.length_map]
    by_cases h : 8 * q + t < bs.length
    · have hg : (bs.map bI).getD (8 * q + t) default = (((bs.getD (8 * q + t) false).toNat : Nat) : Int) := by
        rw [← bI_nat, List.getD_eq_getElem?_getD, List.getElem?_map, List.getD_eq_getElem?_getD, List.getElem?_eq_getElem h]
        rfl
      rw [if_pos (by omega), chk_pos ⟨by omega, by omega⟩, Int.toNat_natCast, hg, chk_pos (by constructor <;> omega), chk_pos (by constructor <;> omega)]
      rfl
    · have hg : bs.getD (8 * q + t) false = false := by rw [List.getD_eq_getElem?_getD, List.getElem?_eq_none (by omega)]; rfl
      rw [if_neg (by omega), chk_pos (by constructor <;> omega), hg]
      rfl) (by
    have hv : valN ((oct bs q).take 8) < 2 ^ 8 := valN_lt 8 _ (by rw [List.length_take, oct_len]; rfl)
    have e9 : (oct bs q).take 8 = oct bs q := List.take_of_length_le (by rw [oct_len]; exact Nat.le_refl _)
    have hu : u8 ((valN (oct bs q) : Nat) : Int) = UInt8.ofNat (valN (oct bs q)) := by
      unfold u8
      congr 1
      rw [e9] at hv
      omega
    unfold ref3_Packed_bl5 ref3_Packed_k4 ref3_Packed_k3
    simp only
    rw [e9, chk_pos (by constructor <;> omega), if_neg (by omega), hu, chk_pos (by rw [List.length_singleton]; constructor <;> omega), chk_pos (by constructor <;> omega), e8]) 0 (by omega)
  exact key
theorem packed_ref (bs : List Bool) (hl : bs.length ≤ 1000000000) : ∃ D, ref3_Packed (bs.map bI) = some (D, (bs.length : Int)) ∧ Packed D bs := by
  unfold ref3_Packed ref3_Packed_l2
  have key : ∀ (m q : Nat) (D : List UInt8), q + m = (bs.length + 7) / 8 → D.length = q → (∀ i, i < 8 * q → bitAt D i = bs.getD i false) → ∃ D', run (ref3_Packed_bl2 (bs.map bI)) (D, ((8 * q : Nat) : Int)) = some (D', (bs.length : Int)) ∧ Packed D' bs := by
    intro m
    induction m with
    | zero =>
      intro q D hm hD hb
      refine ⟨D, run_inr ?_, by omega, fun i hi => hb i (by omega)⟩
      unfold ref3_Packed_bl2 ref3_Packed_k1
      simp only
      rw [List.length_map, if_neg (by omega)]
    | succ m ih =>
      intro q D hm hD hb
      have hq : 8 * q < bs.length := by omega
      have hv : valN (oct bs q) < 2 ^ 8 := valN_lt 8 _ (oct_len bs q)
      obtain ⟨D', d1, d2⟩ := ih (q + 1) (D ++ [UInt8.ofNat (valN (oct bs q))]) (by omega) (by rw [List.length_append, List.length_singleton, hD]) (fun i hi => by
        unfold bitAt
        rw [getD_snoc, hD]
        by_cases h : i / 8 < q
        · rw [if_pos h]; exact hb i (by omega)
        · have hi8 : i / 8 = q := by omega
          rw [if_neg h, if_pos hi8, UInt8.toNat_ofNat', Nat.mod_eq_of_lt hv]
          have := valN_bit 8 (oct bs q) (oct_len bs q) (i % 8) (by omega)
          rw [show 7 - i % 8 = 8 - 1 - i % 8 by omega, this]
          unfold oct
          rw [List.getD_eq_getElem?_getD, List.getElem?_map, List.getElem?_range (by omega)]
          simp only [Option.map_some, Option.getD_some]
          congr 1
          omega)
      refine ⟨D', ?_, d2⟩
      rw [← d1]
      refine run_inl ?_
      unfold ref3_Packed_bl2
      simp only
      rw [List.length_map, if_pos (by omega)]
      exact packed_in hl (by omega) q hq
  exact key ((bs.length + 7) / 8) 0 [] (by omega) rfl (fun i hi => by omega)
theorem gammas_ref (ns : List Int) (h : ∀ n ∈ ns, 1 ≤ n ∧ n < 16777216) (hl : ns.length ≤ 1000000) : ∃ D, ref4_gammas ns = some D ∧ Packed D (ns.flatMap fun n => cb n.toNat) := by
  have hg : ∀ l : List Int, (∀ n ∈ l, 1 ≤ n ∧ n < 16777216) → (l.flatMap fun n => cb n.toNat).length ≤ l.length * 47 := fun l => by
    induction l with
    | nil => intro _; simp
    | cons n l ih =>
      intro h
      have h1 := ih (fun x hx => h x (List.mem_cons_of_mem _ hx))
      have h2 := gz_max (h n (List.mem_cons_self ..)).2
      rw [List.flatMap_cons, List.length_append, List.length_cons, cb_len, Nat.succ_mul]
      omega
  have hall := hg ns h
  obtain ⟨D, d1, d2⟩ := packed_ref (ns.flatMap fun n => cb n.toNat) (by omega)
  refine ⟨D, ?_, d2⟩
  unfold ref4_gammas ref4_gammas_l2
  have key : ∀ (r : List Int) (i : Nat) (l : List Bool), ns.drop i = r → l.length ≤ i * 47 → l ++ (r.flatMap fun n => cb n.toNat) = (ns.flatMap fun n => cb n.toNat) → run (ref4_gammas_bl2 ns) (l.map bI, (i : Int)) = some D := by
    intro r
    induction r with
    | nil =>
      intro i l hd _ he
      have hlen := len_drop hd
      rw [List.flatMap_nil, List.append_nil] at he
      refine run_inr ?_
      unfold ref4_gammas_bl2 ref4_gammas_k1
      simp only
      rw [if_neg (by omega), he, d1]
      rfl
    | cons n r ih =>
      intro i l hd hll he
      obtain ⟨hgi, hd', hlt⟩ := getD_drop hd
      have hnn := h n (List.mem_of_mem_drop (by rw [hd]; exact List.mem_cons_self ..))
      have h2 := gz_max hnn.2
      have hrl : (cb n.toNat).length = gz n.toNat := cb_len _
      rw [List.flatMap_cons, ← List.append_assoc] at he
      rw [← ih (i + 1) (l ++ cb n.toNat) hd' (by rw [List.length_append, hrl]; omega) he, List.map_append]
      refine run_inl ?_
      have hgm : ref3_Gamma n = some ((cb n.toNat).map bI) := by
        have := gamma_ref (n := n.toNat) (by omega) (by omega)
        rw [show ((n.toNat : Nat) : Int) = n by omega] at this
        exact this
      unfold ref4_gammas_bl2
      simp only
      rw [if_pos (by omega), chk_pos ⟨by omega, by omega⟩, Int.toNat_natCast, hgi, hgm, Option.bind_some, chk_pos (by rw [List.length_map, List.length_map, hrl]; constructor <;> omega), chk_pos (by constructor <;> omega)]
      rfl
  exact key ns 0 [] rfl (by simp) rfl
end Go.Proofs.YtdiieblgeaehpaaGreatDoor
