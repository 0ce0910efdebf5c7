/- Plain functions: digits, and the choice of shares by bits. No program in sight. -/
import Derived.Test.YtidedcbaahiplaaSpecB
namespace Go.M
/-- The digits of b, the last k of c of them. -/
def dgP (b c : Nat) : Nat → List Int
  | 0 => List.replicate c 0
  | k + 1 => (dgP b c k).set (c - 1 - k) ((b / 2 ^ k % 2 : Nat) : Int)
def dgs (b c : Nat) : List Int := dgP b c c
theorem dgP_length (b c : Nat) : ∀ k, (dgP b c k).length = c
  | 0 => by simp [dgP]
  | k + 1 => by simp [dgP, dgP_length b c k]
theorem dgP_bit (b c : Nat) : ∀ k, ∀ x ∈ dgP b c k, x = 0 ∨ x = 1
  | 0, x, h => by left; exact (List.mem_replicate.1 h).2
  | k + 1, x, h => by
    rcases List.mem_or_eq_of_mem_set h with h | h
    · exact dgP_bit b c k x h
    · have := Nat.mod_lt (b / 2 ^ k) (show 0 < 2 by decide)
      omega
/-- The number of digits, after k of them. -/
def nmF (l : List Int) : Nat → Int
  | 0 => 0
  | k + 1 => 2 * nmF l k + l.getD k default
theorem nmF_le {l : List Int} (h : ∀ x ∈ l, x = 0 ∨ x = 1) : ∀ k, k ≤ l.length → 0 ≤ nmF l k ∧ nmF l k < 2 ^ k
  | 0, _ => by simp [nmF]
  | k + 1, hk => by
    have ih := nmF_le h k (by omega)
    have hx := h (l.getD k default) (by
      have hk' : k < l.length := by omega
      simp [hk'])
    have e : (2 : Int) ^ (k + 1) = 2 * 2 ^ k := by rw [Int.pow_succ, Int.mul_comm]
    rw [nmF, e]
    omega
theorem nmF_lt {l : List Int} (h : ∀ x ∈ l, x = 0 ∨ x = 1) {k : Nat} (hk : k ≤ l.length) (h60 : k ≤ 60) : 0 ≤ nmF l k ∧ nmF l k < 1152921504606846976 := by
  have h1 := nmF_le h k hk
  have h2 : 2 ^ k ≤ 2 ^ 60 := Nat.pow_le_pow_right (by decide) h60
  have h3 : (2 : Int) ^ k = ((2 ^ k : Nat) : Int) := by rw [Int.natCast_pow]; rfl
  have h4 : (2 : Nat) ^ 60 = 1152921504606846976 := by decide
  rw [h3] at h1
  rw [h4] at h2
  generalize 2 ^ k = z at *
  omega
/-- The shares whose bit is set, among the first i. -/
def chs (l : List Sh) (b : Nat) : Nat → List Sh
  | 0 => []
  | i + 1 => chs l b i ++ (if b / 2 ^ i % 2 = 1 then [l.getD i default] else [])
theorem chs_length_le (l : List Sh) (b : Nat) : ∀ i, (chs l b i).length ≤ i
  | 0 => Nat.le_refl _
  | i + 1 => by
    have := chs_length_le l b i
    rw [chs, List.length_append]
    split <;> simp <;> omega
end Go.M
