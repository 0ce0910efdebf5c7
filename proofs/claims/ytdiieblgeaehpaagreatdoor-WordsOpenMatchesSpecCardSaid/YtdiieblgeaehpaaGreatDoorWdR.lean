/- Gamma codes in bits: writing and reading. -/
import Derived.Test.YtdiieblgeaehpaaGreatDoorWdK
namespace Go.L
open Go Go.Proofs.YtdiieblgeaehpaaGreatDoor
/-- The binary digits of a number, so many. -/
def dgw (w n : Nat) : List Bool := (List.range w).map fun j => n.testBit (w - 1 - j)
/-- The gamma code of a number. -/
def cb (n : Nat) : List Bool := dgw (gz n) n
def chr (b : Bool) : UInt8 := if b then 49 else 48
def valN (l : List Bool) : Nat := l.foldl (fun n b => 2 * n + b.toNat) 0
theorem dgw_len (w n : Nat) : (dgw w n).length = w := by unfold dgw; rw [List.length_map, List.length_range]
theorem dgw_get {w n j : Nat} (h : j < w) : (dgw w n).getD j false = n.testBit (w - 1 - j) := by
  unfold dgw
  rw [List.getD_eq_getElem?_getD, List.getElem?_map, List.getElem?_range h]
  rfl
theorem dgw_snoc (w n : Nat) : dgw (w + 1) n = dgw w (n / 2) ++ [n.testBit 0] := by
  unfold dgw
  rw [List.range_succ, List.map_append]
  congr 1
  · refine List.map_congr_left fun j hj => ?_
    have := List.mem_range.1 hj
    rw [show w + 1 - 1 - j = (w - 1 - j) + 1 by omega, Nat.testBit_succ]
  · simp
theorem valN_snoc (l : List Bool) (b : Bool) : valN (l ++ [b]) = 2 * valN l + b.toNat := by
  unfold valN
  rw [List.foldl_append]
  rfl
theorem dgw_val : ∀ (w n : Nat), valN (dgw w n) = n % 2 ^ w
  | 0, n => by rw [Nat.pow_zero, Nat.mod_one]; rfl
  | w + 1, n => by
    rw [dgw_snoc, valN_snoc, dgw_val w (n / 2)]
    have h1 : (n.testBit 0).toNat = n % 2 := by
      rw [Nat.testBit_zero]
      rcases Nat.mod_two_eq_zero_or_one n with h | h <;> simp [h]
    rw [h1]
    have h2 : n / 2 % 2 ^ w = n % 2 ^ (w + 1) / 2 := by
      rw [Nat.pow_succ, Nat.mul_comm, Nat.mod_mul_right_div_self]
    have h3 : n % 2 ^ (w + 1) % 2 = n % 2 := Nat.mod_mod_of_dvd n ⟨2 ^ w, by rw [Nat.pow_succ, Nat.mul_comm]⟩
    omega
theorem blen_pow {n : Nat} (h : n ≠ 0) : 2 ^ (blen n - 1) ≤ n ∧ n < 2 ^ blen n := by
  unfold blen
  rw [if_neg h, Nat.add_sub_cancel]
  exact ⟨Nat.log2_self_le h, Nat.lt_log2_self⟩
theorem blen_pos {n : Nat} (h : n ≠ 0) : 1 ≤ blen n := by unfold blen; rw [if_neg h]; omega
theorem gz_eq {n : Nat} (h : n ≠ 0) : gz n = 2 * blen n - 1 := by unfold gz; rw [if_neg h]
theorem cb_len (n : Nat) : (cb n).length = gz n := dgw_len _ _
/-- First as many zeros as there are digits behind the first one, then a one. -/
theorem cb_zero {n j : Nat} (h : n ≠ 0) (hj : j < blen n - 1) : (cb n).getD j false = false := by
  have h1 := blen_pos h
  have h2 := gz_eq h
  unfold cb
  rw [dgw_get (by omega)]
  exact Nat.testBit_lt_two_pow (Nat.lt_of_lt_of_le (blen_pow h).2 (Nat.pow_le_pow_right (by decide) (by omega)))
theorem testBit_top {n k : Nat} (h1 : 2 ^ k ≤ n) (h2 : n < 2 ^ (k + 1)) : n.testBit k = true := by
  rw [Nat.testBit_eq_decide_div_mod_eq, decide_eq_true_eq]
  have h3 : n / 2 ^ k = 1 := by
    rw [Nat.pow_succ] at h2
    exact Nat.div_eq_of_lt_le (by omega) (by omega)
  rw [h3]
theorem cb_one {n : Nat} (h : n ≠ 0) : (cb n).getD (blen n - 1) false = true := by
  have h1 := blen_pos h
  have h2 := gz_eq h
  unfold cb
  rw [dgw_get (by omega), show gz n - 1 - (blen n - 1) = blen n - 1 by omega]
  exact testBit_top (blen_pow h).1 (by rw [Nat.sub_add_cancel h1]; exact (blen_pow h).2)
theorem cb_tail {n j : Nat} (h : n ≠ 0) (hj : j < blen n) : (cb n).getD (blen n - 1 + j) false = (dgw (blen n) n).getD j false := by
  have h1 := blen_pos h
  have h2 := gz_eq h
  unfold cb
  rw [dgw_get (by omega), dgw_get hj]
  congr 1
  omega
theorem dgw_self {n : Nat} (h : n ≠ 0) : valN (dgw (blen n) n) = n := by rw [dgw_val, Nat.mod_eq_of_lt (blen_pow h).2]
/-- A bit of bytes. -/
def bitAt (D : List UInt8) (i : Nat) : Bool := (D.getD (i / 8) default).toNat.testBit (7 - i % 8)
/-- Bits in bytes, filled up with zeros. -/
def Packed (D : List UInt8) (bs : List Bool) : Prop := D.length = (bs.length + 7) / 8 ∧ ∀ i, i < 8 * D.length → bitAt D i = bs.getD i false
end Go.L
namespace Go.Proofs.YtdiieblgeaehpaaGreatDoor
open Go Go.L
theorem byte_eq {n : Nat} (hn : n < 16777216) {l : List UInt8} (hl : l.length ≤ 1000000000) : bytesF (n : Int) ((), l) = some ((), l ++ (cb n).map chr) := by
  unfold bytesF words_Index_Bytes_1 words_Index_Bytes_1_l1
  have hg : gz n ≤ 47 := gz_le (k := 24) (by omega) (by decide)
  rw [gamma_eq hn, Option.bind_some, chk_pos (by constructor <;> omega)]
  have key := run_count (b := words_Index_Bytes_1_bl1 (n : Int)) (m := some ((), l ++ (cb n).map chr)) (fun j => (l ++ ((cb n).take j).map chr, ((gz n : Nat) : Int) - 1 - (j : Int))) (gz n) (fun j hj => by
    have hk : ((gz n : Nat) : Int) - 1 - (j : Int) = ((gz n - 1 - j : Nat) : Int) := by omega
    have hlen : (l ++ ((cb n).take j).map chr).length ≤ 2000000000 := by rw [List.length_append, List.length_map, List.length_take]; omega
    have hq : ((n : Int) / 2 ^ (gz n - 1 - j)).toNat = n / 2 ^ (gz n - 1 - j) := by
      rw [show ((2 : Int) ^ (gz n - 1 - j)) = ((2 ^ (gz n - 1 - j) : Nat) : Int) by simp, ← Int.natCast_ediv, Int.toNat_natCast]
    have hq0 : (0 : Int) ≤ (n : Int) / 2 ^ (gz n - 1 - j) ∧ (n : Int) / 2 ^ (gz n - 1 - j) < 2 ^ 63 := by
      rw [show ((2 : Int) ^ (gz n - 1 - j)) = ((2 ^ (gz n - 1 - j) : Nat) : Int) by simp, ← Int.natCast_ediv]
      have := Nat.div_le_self n (2 ^ (gz n - 1 - j))
      omega
    have h1 : (cb n).take (j + 1) = (cb n).take j ++ [n.testBit (gz n - 1 - j)] := by
      rw [List.take_add_one]
      congr 1
      have h2 : (cb n).getD j false = n.testBit (gz n - 1 - j) := dgw_get hj
      rw [List.getD_eq_getElem?_getD, List.getElem?_eq_getElem (by rw [cb_len]; exact hj)] at h2
      rw [List.getElem?_eq_getElem (by rw [cb_len]; exact hj)]
      simp only [Option.getD_some] at h2
      rw [h2]
      rfl
    have h3 : (48 : UInt8) + u8 (((n / 2 ^ (gz n - 1 - j)) &&& (1 : Int).toNat : Nat) : Int) = chr (n.testBit (gz n - 1 - j)) := by
      have e1 : (1 : Int).toNat = 1 := rfl
      rw [e1, Nat.and_one_is_mod, Nat.testBit_eq_decide_div_mod_eq]
      rcases Nat.mod_two_eq_zero_or_one (n / 2 ^ (gz n - 1 - j)) with h | h
      · rw [h]; rfl
      · rw [h]; rfl
    unfold words_Index_Bytes_1_bl1
    simp only
    rw [if_pos (by omega), hk, Int.toNat_natCast, chk_pos ⟨by omega, by omega⟩, chk_pos ⟨hq0, by decide⟩, chk_pos (by constructor <;> omega), chk_pos (by constructor <;> omega), hq, h3, h1, List.map_append, List.append_assoc]
    congr 3
    omega) (by
    unfold words_Index_Bytes_1_bl1
    simp only
    rw [if_neg (by omega), List.take_of_length_le (by rw [cb_len]; exact Nat.le_refl _)]) 0 (by omega)
  simp only [List.take_zero, List.map_nil, List.append_nil] at key
  rw [← key]
  congr 2
  omega
theorem fm_bytes : ∀ (ns : List Int) (l : List UInt8), (∀ n ∈ ns, 0 ≤ n ∧ n < 16777216) → l.length + gs ns ≤ 1000000000 → fm bytesF ns ((), l) = some ((), l ++ (ns.flatMap fun n => cb n.toNat).map chr)
  | [], l, _, _ => by simp [fm]
  | n :: ns, l, h, hl => by
    obtain ⟨h0, h1⟩ := h n (List.mem_cons_self ..)
    have e : gs (n :: ns) = gz n.toNat + gs ns := by simp [gs]
    obtain ⟨k, rfl⟩ := Int.eq_ofNat_of_zero_le h0
    rw [Int.toNat_natCast] at e
    show (bytesF (k : Int) ((), l)).bind (fm bytesF ns) = _
    rw [byte_eq (by omega) (by omega), Option.bind_some, fm_bytes ns _ (fun x hx => h x (List.mem_cons_of_mem _ hx)) (by rw [List.length_append, List.length_map, cb_len]; omega), List.flatMap_cons, List.map_append, List.append_assoc, Int.toNat_natCast]
theorem at_bit {D : List UInt8} {C : Int} {i : Nat} (hi : i < 8 * D.length) (hD : D.length ≤ 1000000000) : bits_at (D, C) (i : Int) = some ((bitAt D i).toNat : Int) := by
  have e1 : (i : Int) / 8 = ((i / 8 : Nat) : Int) := by omega
  have e2 : (i : Int) % 8 = ((i % 8 : Nat) : Int) := by omega
  have e3 : (7 : Int) - ((i % 8 : Nat) : Int) = ((7 - i % 8 : Nat) : Int) := by omega
  unfold bits_at
  rw [chk_pos ⟨by omega, by omega, by decide⟩, e1, e2, e3, chk_pos ⟨by omega, by simp only; omega⟩, chk_pos ⟨by omega, by omega, by decide⟩, chk_pos (by constructor <;> omega), chk_pos ⟨by omega, by omega⟩, Int.toNat_natCast, Int.toNat_natCast]
  congr 2
  unfold bitAt
  generalize D.getD (i / 8) default = c
  rw [UInt8.toNat_and, UInt8.toNat_shiftRight, Nat.testBit_eq_decide_div_mod_eq]
  have h7 : (UInt8.ofNat (7 - i % 8)).toNat % 8 = 7 - i % 8 := by
    rw [UInt8.toNat_ofNat']
    omega
  have e4 : (1 : UInt8).toNat = 1 := rfl
  rw [h7, e4, Nat.and_one_is_mod, Nat.shiftRight_eq_div_pow]
  rcases Nat.mod_two_eq_zero_or_one (c.toNat / 2 ^ (7 - i % 8)) with h | h <;> rw [h] <;> rfl
theorem number_eq {D : List UInt8} {C : Int} (hD : D.length ≤ 1000000000) {from' w : Nat} (hw : w ≤ 31) (hf : from' + w ≤ 8 * D.length) (bs : List Bool) (hb : bs.length = w) (h : ∀ j, j < w → bitAt D (from' + j) = bs.getD j false) :
    bits_number (D, C) (from' : Int) (w : Int) = some ((valN bs : Nat) : Int) := by
  unfold bits_number bits_number_l2
  have hv : ∀ j, j ≤ w → valN (bs.take j) < 2 ^ j := fun j => by
    induction j with
    | zero => intro _; exact Nat.one_pos
    | succ j ih =>
      intro hj
      have h1 := ih (by omega)
      have h2 : bs.take (j + 1) = bs.take j ++ [bs.getD j false] := by
        rw [List.take_add_one]
        congr 1
        rw [List.getD_eq_getElem?_getD, List.getElem?_eq_getElem (by omega)]
        rfl
      rw [h2, valN_snoc, Nat.pow_succ]
      have := Bool.toNat_le (bs.getD j false)
      omega
  have key := run_count (b := bits_number_bl2 (D, C) (from' : Int) (w : Int)) (m := some ((valN bs : Nat) : Int)) (fun j => (((valN (bs.take j) : Nat) : Int), (j : Int))) w (fun j hj => by
    have h1 := hv j (by omega)
    have h2 : 2 ^ j ≤ 2 ^ 31 := Nat.pow_le_pow_right (by decide) (by omega)
    have h3 : bs.take (j + 1) = bs.take j ++ [bs.getD j false] := by
      rw [List.take_add_one]
      congr 1
      rw [List.getD_eq_getElem?_getD, List.getElem?_eq_getElem (by omega)]
      rfl
    have e1 : (from' : Int) + (j : Int) = ((from' + j : Nat) : Int) := by omega
    have h4 := Bool.toNat_le (bs.getD j false)
    have e2 : (((valN (bs.take j) : Nat) : Int) * 2).toNat = 2 * valN (bs.take j) := by omega
    have e3 : (2 * valN (bs.take j)) ||| (bs.getD j false).toNat = 2 * valN (bs.take j) + (bs.getD j false).toNat := by
      have := Nat.two_pow_add_eq_or_of_lt (i := 1) (b := (bs.getD j false).toNat) (by omega) (valN (bs.take j))
      rw [Nat.pow_one] at this
      exact this.symm
    unfold bits_number_bl2
    simp only
    rw [if_pos (by omega), chk_pos (by constructor <;> omega), e1, chk_pos (by constructor <;> omega), at_bit (by omega) hD, Option.bind_some, h j hj, chk_pos (by constructor <;> constructor <;> omega), chk_pos (by constructor <;> omega), e2, Int.toNat_natCast, e3, h3, valN_snoc]
    rfl) (by
    unfold bits_number_bl2 bits_number_k1
    simp only
    rw [if_neg (by omega), List.take_of_length_le (by omega)]) 0 (by omega)
  exact key
/-- Bytes that may be read as bits. -/
def Full (D : List UInt8) : Prop := D.length ≤ 16384
theorem valid_eq {D : List UInt8} (h : Full D) : bits_Valid (D, ((8 * D.length : Nat) : Int)) = some true := by
  unfold Full at h
  unfold bits_Valid
  simp only
  rw [if_neg (by omega), if_neg (by omega), chk_pos (by constructor <;> omega), chk_pos ⟨by omega, by omega, by decide⟩, if_pos (by omega), chk_pos ⟨by omega, by omega, by decide⟩, if_pos (by omega)]
/-- Reading a number whose code is there. -/
theorem gamma_read {D : List UInt8} (hD : Full D) {p n : Nat} (hn : n ≠ 0) (hb : n < 16777216) (hp : p + gz n ≤ 8 * D.length) (h : ∀ j, j < gz n → bitAt D (p + j) = (cb n).getD j false) :
    bits_ReadGamma (D, ((8 * D.length : Nat) : Int)) (p : Int) = some ((n : Int), ((p + gz n : Nat) : Int), (0, 0)) := by
  have hD' := hD
  unfold Full at hD'
  have h1 := blen_pos hn
  have h2 := gz_eq hn
  have h3 : blen n ≤ 24 := blen_lt (by omega)
  unfold bits_ReadGamma bits_ReadGamma_l2
  simp only
  rw [valid_eq hD, Option.bind_some, if_neg (by decide), if_neg (by omega), if_neg (by omega)]
  refine run_count (b := bits_ReadGamma_bl2 (D, ((8 * D.length : Nat) : Int)) (p : Int)) (m := some ((n : Int), ((p + gz n : Nat) : Int), (0, 0))) (fun z => ((z : Nat) : Int)) (blen n - 1) (fun z hz => ?_) ?_ 0 (by omega)
  · have e1 : (p : Int) + (z : Int) = ((p + z : Nat) : Int) := by omega
    unfold bits_ReadGamma_bl2
    rw [e1, chk_pos (by constructor <;> omega), if_pos (by simp only; omega), chk_pos (by constructor <;> omega), at_bit (D := D) (by omega) (by omega), h z (by omega), cb_zero hn hz, Option.bind_some, if_pos (by decide), chk_pos (by constructor <;> omega), if_neg (by omega)]
    rfl
  · have e1 : (p : Int) + ((blen n - 1 : Nat) : Int) = ((p + (blen n - 1) : Nat) : Int) := by omega
    have e2 : (((blen n - 1 : Nat) : Int) + 1) = ((blen n : Nat) : Int) := by omega
    have e3 : (p : Int) + 2 * ((blen n - 1 : Nat) : Int) + 1 = ((p + gz n : Nat) : Int) := by omega
    unfold bits_ReadGamma_bl2 bits_ReadGamma_k1
    rw [e1, e2, e3, chk_pos (by constructor <;> omega), if_pos (by simp only; omega), chk_pos (by constructor <;> omega), at_bit (D := D) (by omega) (by omega), h _ (by omega), cb_one hn, Option.bind_some, if_neg (by decide)]
    rw [chk_pos (by constructor <;> omega), chk_pos (by constructor <;> omega), chk_pos (by constructor <;> omega), if_neg (by simp only; omega), chk_pos (by constructor <;> omega), chk_pos (by constructor <;> omega)]
    rw [number_eq (D := D) (by omega) (by omega) (by omega) (dgw (blen n) n) (dgw_len _ _) (fun j hj => by rw [Nat.add_assoc, h _ (by omega), cb_tail hn hj]), Option.bind_some, dgw_self hn, chk_pos (by constructor <;> omega), chk_pos (by constructor <;> omega), chk_pos (by constructor <;> omega)]
theorem getD_snoc {α : Type} (l : List α) (x d : α) (i : Nat) : (l ++ [x]).getD i d = if i < l.length then l.getD i d else if i = l.length then x else d := by
  rw [List.getD_eq_getElem?_getD]
  by_cases h : i < l.length
  · rw [if_pos h, List.getElem?_append_left h, List.getD_eq_getElem?_getD]
  · rw [if_neg h, List.getElem?_append_right (by omega)]
    by_cases h1 : i = l.length
    · rw [if_pos h1, h1, Nat.sub_self]; rfl
    · rw [if_neg h1, List.getElem?_eq_none (by rw [List.length_singleton]; omega)]; rfl
theorem put_eq {D : List UInt8} {bs : List Bool} (hP : Packed D bs) (hl : bs.length ≤ 1000000000) (b : Bool) : ∃ D', bits_put (D, ((bs.length : Nat) : Int)) ((b.toNat : Nat) : Int) = some (D', ((bs.length + 1 : Nat) : Int)) ∧ Packed D' (bs ++ [b]) := by
  obtain ⟨h1, h2⟩ := hP
  have e1 : ((bs.length : Nat) : Int) / 8 = ((bs.length / 8 : Nat) : Int) := by omega
  have e2 : ((bs.length : Nat) : Int) % 8 = ((bs.length % 8 : Nat) : Int) := by omega
  have e3 : (7 : Int) - ((bs.length % 8 : Nat) : Int) = ((7 - bs.length % 8 : Nat) : Int) := by omega
  have hb1 := Bool.toNat_le b
  have hpow : 2 ^ (7 - bs.length % 8) ≤ 2 ^ 7 := Nat.pow_le_pow_right (by decide) (by omega)
  have hp1 : 1 ≤ 2 ^ (7 - bs.length % 8) := Nat.one_le_two_pow
  have hmul : b.toNat * 2 ^ (7 - bs.length % 8) ≤ 128 := by
    rcases Nat.le_one_iff_eq_zero_or_eq_one.1 hb1 with h | h <;> rw [h] <;> omega
  have e4 : ((b.toNat : Nat) : Int) * 2 ^ (7 - bs.length % 8) = ((b.toNat * 2 ^ (7 - bs.length % 8) : Nat) : Int) := by simp
  -- the bytes with room for one bit more
  have step : ∀ E : List UInt8, E.length = (bs.length + 8) / 8 → (∀ i, i < 8 * E.length → bitAt E i = bs.getD i false) → ∃ D', bits_put_k1 (D, ((bs.length : Nat) : Int)) ((b.toNat : Nat) : Int) E = some (D', ((bs.length + 1 : Nat) : Int)) ∧ Packed D' (bs ++ [b]) := by
    intro E hE hbit
    have hlt : bs.length / 8 < E.length := by omega
    refine ⟨E.set (bs.length / 8) (E.getD (bs.length / 8) default ||| u8 ((b.toNat * 2 ^ (7 - bs.length % 8) : Nat) : Int)), ?_, ?_, fun i hi => ?_⟩
    · unfold bits_put_k1
      simp only
      rw [e1, e2, e3, Int.toNat_natCast, Int.toNat_natCast, e4, chk_pos ⟨by omega, by omega, by decide⟩, chk_pos ⟨by omega, by omega⟩, chk_pos ⟨by omega, by omega, by decide⟩, chk_pos (by constructor <;> omega), chk_pos ⟨⟨by omega, by omega⟩, by constructor <;> omega⟩, chk_pos ⟨by omega, by omega⟩, chk_pos (by constructor <;> omega)]
      rfl
    · rw [List.length_set, List.length_append, List.length_singleton, hE]
    · rw [List.length_set] at hi
      have hu : (u8 ((b.toNat * 2 ^ (7 - bs.length % 8) : Nat) : Int)).toNat = b.toNat * 2 ^ (7 - bs.length % 8) := by
        have := u8_toNat ((b.toNat * 2 ^ (7 - bs.length % 8) : Nat) : Int)
        omega
      have hbi := hbit i hi
      unfold bitAt at hbi ⊢
      rw [getD_snoc]
      by_cases hj : i / 8 = bs.length / 8
      · have hset : (E.set (bs.length / 8) (E.getD (bs.length / 8) default ||| u8 ((b.toNat * 2 ^ (7 - bs.length % 8) : Nat) : Int))).getD (i / 8) default = E.getD (bs.length / 8) default ||| u8 ((b.toNat * 2 ^ (7 - bs.length % 8) : Nat) : Int) := by
          rw [hj, List.getD_eq_getElem?_getD, List.getElem?_set_self hlt]
          rfl
        rw [hset, UInt8.toNat_or, Nat.testBit_or, hu, ← hj, hbi]
        have ht : (b.toNat * 2 ^ (7 - bs.length % 8)).testBit (7 - i % 8) = (b && decide (i = bs.length)) := by
          cases b with
          | false => simp
          | true =>
            rw [Bool.toNat_true, Nat.one_mul, Nat.testBit_two_pow, Bool.true_and]
            apply decide_eq_decide.2
            omega
        rw [ht]
        by_cases h3 : i < bs.length
        · rw [if_pos h3, decide_eq_false (by omega), Bool.and_false, Bool.or_false]
        · have h4 : bs.getD i false = false := by rw [List.getD_eq_getElem?_getD, List.getElem?_eq_none (by omega)]; rfl
          rw [if_neg h3, h4, Bool.false_or]
          by_cases h5 : i = bs.length
          · rw [if_pos h5, decide_eq_true h5, Bool.and_true]
          · rw [if_neg h5, decide_eq_false h5, Bool.and_false]
      · have hset : (E.set (bs.length / 8) (E.getD (bs.length / 8) default ||| u8 ((b.toNat * 2 ^ (7 - bs.length % 8) : Nat) : Int))).getD (i / 8) default = E.getD (i / 8) default := by
          rw [List.getD_eq_getElem?_getD, List.getElem?_set_ne (fun e => hj e.symm), ← List.getD_eq_getElem?_getD]
        rw [hset, hbi]
        have hne : i ≠ bs.length := fun e => hj (by rw [e])
        by_cases h3 : i < bs.length
        · rw [if_pos h3]
        · rw [if_neg h3, if_neg hne, List.getD_eq_getElem?_getD, List.getElem?_eq_none (by omega)]
          rfl
  unfold bits_put
  simp only
  rw [chk_pos ⟨by omega, by omega, by decide⟩]
  by_cases h8 : bs.length % 8 = 0
  · rw [if_pos (by omega), chk_pos (by rw [List.length_singleton]; constructor <;> omega)]
    refine step (D ++ [0]) (by rw [List.length_append, List.length_singleton]; omega) (fun i hi => ?_)
    rw [List.length_append, List.length_singleton] at hi
    by_cases h3 : i / 8 < D.length
    · rw [← h2 i (by omega)]
      unfold bitAt
      rw [List.getD_eq_getElem?_getD, List.getElem?_append_left h3, ← List.getD_eq_getElem?_getD]
    · have e5 : (D ++ [(0 : UInt8)]).getD (i / 8) default = 0 := by
        rw [List.getD_eq_getElem?_getD, List.getElem?_append_right (by omega), show i / 8 - D.length = 0 by omega]
        rfl
      unfold bitAt
      rw [e5, List.getD_eq_getElem?_getD, List.getElem?_eq_none (by omega)]
      simp
  · rw [if_neg (by omega)]
    exact step D (by omega) h2
theorem make_eq (bs : List Bool) (hl : bs.length ≤ 131072) : ∃ D, bits_Make (bs.map chr) = some ((D, ((bs.length : Nat) : Int)), (0, 0)) ∧ Packed D bs := by
  unfold bits_Make bits_Make_l2
  rw [List.length_map, if_neg (by omega)]
  have key : ∀ (r : List Bool) (i : Nat) (D : List UInt8), bs.drop i = r → i ≤ bs.length → Packed D (bs.take i) → ∃ D', run (bits_Make_bl2 (bs.map chr)) ((i : Int), D, (i : Int)) = some ((D', ((bs.length : Nat) : Int)), (0, 0)) ∧ Packed D' bs := by
    intro r
    induction r with
    | nil =>
      intro i D hd hi hP
      have hlen := len_drop hd
      obtain rfl : i = bs.length := by omega
      rw [List.take_length] at hP
      refine ⟨D, run_inr ?_, hP⟩
      unfold bits_Make_bl2 bits_Make_k1
      simp only
      rw [List.length_map, if_neg (by omega)]
    | cons b r ih =>
      intro i D hd hi hP
      have hlen := congrArg List.length hd
      rw [List.length_drop, List.length_cons] at hlen
      have hd' : bs.drop (i + 1) = r := by rw [← List.drop_drop, hd]; rfl
      have hbi : bs[i]? = some b := by
        have := congrArg (·[0]?) hd
        simpa using this
      have ht : bs.take (i + 1) = bs.take i ++ [b] := by rw [List.take_add_one, hbi]; rfl
      have htl : (bs.take i).length = i := by rw [List.length_take]; omega
      have hg : (bs.map chr).getD i default = chr b := by rw [List.getD_eq_getElem?_getD, List.getElem?_map, hbi]; rfl
      obtain ⟨D', p1, p2⟩ := put_eq hP (by omega) b
      rw [htl] at p1
      obtain ⟨D2, q1, q2⟩ := ih (i + 1) D' hd' (by omega) (by rw [ht]; exact p2)
      refine ⟨D2, ?_, q2⟩
      rw [← q1]
      refine run_inl ?_
      unfold bits_Make_bl2
      simp only
      rw [List.length_map, if_pos (by omega), chk_pos ⟨by omega, by omega⟩, Int.toNat_natCast, hg]
      cases b with
      | false =>
        have p1' : bits_put (D, (i : Int)) (((chr false - 48).toNat : Nat) : Int) = some (D', ((i + 1 : Nat) : Int)) := p1
        rw [if_pos (by decide), chk_pos ⟨by omega, by omega⟩, p1', Option.bind_some, chk_pos (by constructor <;> omega)]
        rfl
      | true =>
        have p1' : bits_put (D, (i : Int)) (((chr true - 48).toNat : Nat) : Int) = some (D', ((i + 1 : Nat) : Int)) := p1
        rw [if_neg (by decide), chk_pos ⟨by omega, by omega⟩, if_pos (by decide), chk_pos ⟨by omega, by omega⟩, p1', Option.bind_some, chk_pos (by constructor <;> omega)]
        rfl
  exact key bs 0 [] rfl (Nat.zero_le _) ⟨by rw [List.take_zero]; rfl, fun i hi => by simp at hi⟩
end Go.Proofs.YtdiieblgeaehpaaGreatDoor
