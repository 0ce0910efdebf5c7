/- Plain functions: the field of 256 elements, by the program's own steps. No program in sight. -/
namespace Go.M

/-- Twice an element. -/
def xt (x : Nat) : Nat := if 2 * x > 255 then (2 * x) ^^^ 285 else 2 * x
def gmF : Nat → Nat → Nat → Nat → Nat
  | 0, _, _, s => s
  | n + 1, x, b, s => if b = 0 then s else gmF n (xt x) (b / 2) (if b % 2 = 1 then s ^^^ x else s)
def gmul (a b : UInt8) : UInt8 := UInt8.ofNat (gmF 8 a.toNat b.toNat 0)

theorem xt_lt {x : Nat} (h : x < 256) : xt x < 256 := by
  have key : ∀ x : Fin 256, xt x.val < 256 := by decide +kernel
  exact key ⟨x, h⟩
theorem xor_lt {a b : Nat} (h : a < 256) (k : b < 256) : a ^^^ b < 256 := Nat.xor_lt_two_pow (n := 8) h k
theorem gmF_lt : ∀ (n x b s : Nat), x < 256 → s < 256 → gmF n x b s < 256
  | 0, _, _, s, _, h => h
  | n + 1, x, b, s, hx, hs => by
    unfold gmF
    split
    · exact hs
    · refine gmF_lt n _ _ _ (xt_lt hx) ?_
      split
      · exact xor_lt hs hx
      · exact hs
theorem gmF_zero (n x s : Nat) : gmF n x 0 s = s := by cases n <;> simp [gmF]

/-- A power, by squares. -/
def pwF : Nat → UInt8 → UInt8 → Nat → UInt8
  | 0, out, _, _ => out
  | k + 1, out, a, n => if n = 0 then out else pwF k (if n % 2 = 1 then gmul out a else out) (gmul a a) (n / 2)
def gpow (a : UInt8) (n : Nat) : UInt8 := pwF 64 1 a n
theorem pwF_zero (k : Nat) (out a : UInt8) : pwF k out a 0 = out := by cases k <;> simp [pwF]
def ginv (a : UInt8) : UInt8 := gpow a 254
def gdiv (a b : UInt8) : UInt8 := gmul a (gpow b 254)
theorem gdiv_zero (a : UInt8) : gdiv a 0 = 0 := by
  have h : gpow 0 254 = 0 := by decide +kernel
  unfold gdiv
  rw [h]
  simp [gmul, gmF_zero]

/-- The quotient, by trying. -/
def quoF (a b : UInt8) : Nat → Nat → UInt8
  | 0, _ => 0
  | k + 1, n => if gmul (UInt8.ofNat n) b = a then UInt8.ofNat n else quoF a b k (n + 1)
def gquo (a b : UInt8) : UInt8 := quoF a b 256 0
theorem one_mul (a : UInt8) : gmul 1 a = a := by
  have key : ∀ a : Fin 256, gmul 1 (UInt8.ofNat a.val) = UInt8.ofNat a.val := by decide +kernel
  have := key ⟨a.toNat, a.toNat_lt⟩
  simpa using this
end Go.M
