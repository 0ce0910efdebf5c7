/- The entries of the index that Build makes; sizes of gamma codes. -/
import Derived.Test.YtdiieblgeaehpaaGreatDoorWdE
namespace Go.L
open Go Go.Proofs.YtdiieblgeaehpaaGreatDoor
/-- The entries of an index, by word. -/
def ents (M : HM) : HM := ((M.map Prod.fst).mergeSort leB).map fun k => (k, mget [] k M)
end Go.L
namespace Go.Proofs.YtdiieblgeaehpaaGreatDoor
open Go Go.L
end Go.Proofs.YtdiieblgeaehpaaGreatDoor

namespace Go.L
open Go
/-- How many digits a number takes. -/
def blen (n : Nat) : Nat := if n = 0 then 0 else n.log2 + 1
theorem blen_lt {n k : Nat} (h : n < 2 ^ k) : blen n ≤ k := by
  unfold blen
  split
  · omega
  · rename_i h0
    have := (Nat.log2_lt h0).2 h
    omega
theorem blen_div {n k : Nat} (h : 2 ^ k ≤ n) : blen n = blen (n / 2 ^ k) + k := by
  have hp : 0 < 2 ^ k := Nat.two_pow_pos k
  have hn : n ≠ 0 := by omega
  have hm : n / 2 ^ k ≠ 0 := by
    have := Nat.div_pos h hp
    omega
  unfold blen
  rw [if_neg hn, if_neg hm]
  have h1 : n.log2 ≤ (n / 2 ^ k).log2 + k := by
    have h2 : n / 2 ^ k < 2 ^ ((n / 2 ^ k).log2 + 1) := Nat.lt_log2_self
    have h3 : n < 2 ^ ((n / 2 ^ k).log2 + 1 + k) := by
      rw [Nat.pow_add]
      exact (Nat.div_lt_iff_lt_mul hp).1 h2
    have := (Nat.log2_lt hn).2 h3
    omega
  have h2 : (n / 2 ^ k).log2 + k ≤ n.log2 := by
    rw [Nat.le_log2 hn, Nat.pow_add]
    exact Nat.le_trans (Nat.mul_le_mul_right _ (Nat.log2_self_le hm)) (Nat.div_mul_le_self n (2 ^ k))
  omega
end Go.L
namespace Go.Proofs.YtdiieblgeaehpaaGreatDoor
open Go Go.L
theorem tab8 : ∀ i : Fin 256, math_bits_Len64_k3 ((i.val : Nat) : Int) 0 = some ((blen i.val : Nat) : Int) := by decide +kernel
theorem k3_eq {s : Nat} (hs : s < 256) {c : Int} (h0 : 0 ≤ c) (h1 : c ≤ 100) : math_bits_Len64_k3 (s : Int) c = some (c + ((blen s : Nat) : Int)) := by
  have h := tab8 ⟨s, hs⟩
  have hb : blen s ≤ 8 := blen_lt (by omega)
  simp only at h
  unfold math_bits_Len64_k3 at h ⊢
  obtain ⟨g1, h⟩ := chk_some h
  obtain ⟨_, h⟩ := chk_some h
  have hT := Option.some.inj h
  rw [Int.zero_add] at hT
  rw [chk_pos g1, hT, chk_pos (by constructor <;> omega)]
theorem len64_eq {n : Nat} (hn : n < 16777216) : math_bits_Len64 (n : Int) = some ((blen n : Nat) : Int) := by
  unfold math_bits_Len64 math_bits_Len64_k1 math_bits_Len64_k2
  rw [if_neg (by omega)]
  by_cases h1 : 65536 ≤ n
  · have e : (n : Int) / 65536 = ((n / 65536 : Nat) : Int) := by omega
    rw [if_pos (by omega), chk_pos (by constructor <;> omega), e, if_neg (by omega), k3_eq (by omega) (by omega) (by omega), blen_div (n := n) (k := 16) (by omega)]
    congr 1
    show 16 + ((blen (n / 65536) : Nat) : Int) = ((blen (n / 65536) + 16 : Nat) : Int)
    omega
  · rw [if_neg (by omega)]
    by_cases h2 : 256 ≤ n
    · have e : (n : Int) / 256 = ((n / 256 : Nat) : Int) := by omega
      rw [if_pos (by omega), chk_pos (by constructor <;> omega), e, k3_eq (by omega) (by omega) (by omega), blen_div (n := n) (k := 8) (by omega)]
      congr 1
      show 8 + ((blen (n / 256) : Nat) : Int) = ((blen (n / 256) + 8 : Nat) : Int)
      omega
    · rw [if_neg (by omega), k3_eq (by omega) (by omega) (by omega), Int.zero_add]
/-- The size of a gamma code. -/
def gz (n : Nat) : Nat := if n = 0 then 0 else 2 * blen n - 1
theorem gamma_eq {n : Nat} (hn : n < 16777216) : bits_GammaSize (n : Int) = some ((gz n : Nat) : Int) := by
  unfold bits_GammaSize gz math_bits_Len
  by_cases h : n = 0
  · rw [if_pos (by omega), if_pos h]; rfl
  · have hb : blen n ≤ 24 := blen_lt (by omega)
    have hp : 1 ≤ blen n := by unfold blen; rw [if_neg h]; omega
    have hw : IntKind.u64.wrap (n : Int) = (n : Int) := by simp [IntKind.wrap, IntKind.signed, IntKind.bits]; omega
    rw [if_neg (by omega), if_neg h, hw, len64_eq hn, Option.bind_some, Option.bind_some, chk_pos (by constructor <;> omega), chk_pos (by constructor <;> omega)]
    congr 1
    omega
theorem gz_le {n k : Nat} (h : n < 2 ^ k) (_hk : 1 ≤ k) : gz n ≤ 2 * k - 1 := by
  unfold gz
  have := blen_lt h
  split <;> omega
end Go.Proofs.YtdiieblgeaehpaaGreatDoor
