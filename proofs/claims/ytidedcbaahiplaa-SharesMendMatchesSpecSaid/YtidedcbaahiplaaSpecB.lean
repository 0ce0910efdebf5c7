/- Plain functions: Mend. No program in sight. -/
import Derived.Test.YtidedcbaahiplaaSpec
namespace Go.M

/-- The positions of shares that do not fit a base, from i on; nothing if they are too many. -/
def wrF (base l : List Sh) (most : Int) : Nat → Nat → List Int → Option (List Int)
  | 0, _, acc => some acc
  | n + 1, i, acc => if atS base (kb (l.getD i default).1) = (l.getD i default).2 then wrF base l most n (i + 1) acc
    else if most < ((acc.length + 1 : Nat) : Int) then none else wrF base l most n (i + 1) (acc ++ [(i : Int)])
def pk (l : List Sh) (ch : List Int) : List Sh := ch.map fun i => l.getD i.toNat default
def mst (l : List Sh) (most : Int) (ch : List Int) : Option (List UInt8 × List Int) :=
  (wrF (pk l ch) l most l.length 0 []).map fun b => (atS (pk l ch) 0, b)
/-- The first answer among increasing lists of k numbers below n that begin so and go on from n - d. -/
def vis {R : Type} (step : List Int → Option R) (k n : Nat) : Nat → List Int → Option R
  | 0, ch => if ch.length = k then step ch else none
  | d + 1, ch => if ch.length = k then step ch else match vis step k n d (ch ++ [((n - (d + 1) : Nat) : Int)]) with
    | some r => some r
    | none => vis step k n d ch
def mnR (l : List Sh) (m : Int) : Option (List UInt8 × List Int) := vis (mst l (((l.length : Int) - m) / 2)) m.toNat l.length l.length []
def mnF (l : List Sh) (m : Int) : Int × Int := if chkAll l m ≠ (0, 0) then chkAll l m else if (mnR l m).isNone then (19, -1) else (0, 0)
def mnS (l : List Sh) (m : Int) : List UInt8 := if mnF l m = (0, 0) then ((mnR l m).getD ([], [])).1 else []
def mnB (l : List Sh) (m : Int) : List Int := if mnF l m = (0, 0) then ((mnR l m).getD ([], [])).2 else []

theorem pk_length (l : List Sh) (ch : List Int) : (pk l ch).length = ch.length := by simp [pk]
theorem pk_get {l : List Sh} {ch : List Int} {i : Nat} (h : i < ch.length) : (pk l ch).getD i default = l.getD (ch.getD i default).toNat default := by
  simp [pk, h]
theorem pk_succ {l : List Sh} {ch : List Int} {k : Nat} (h : k < ch.length) : pk l (ch.take (k + 1)) = pk l (ch.take k) ++ [l.getD (ch.getD k default).toNat default] := by
  unfold pk
  rw [List.take_succ_eq_append_getElem h, List.map_append]
  simp [h]
/-- Positions in a list. -/
def Ins (l : List Sh) (ch : List Int) : Prop := ∀ i, i < ch.length → 0 ≤ ch.getD i default ∧ ch.getD i default < l.length
theorem pk_good {l : List Sh} {ch : List Int} (hg : Good l) (hi : Ins l ch) (h0 : 0 < ch.length) (hn : ch.length ≤ 11) : Good (pk l ch) := by
  refine ⟨fun i h => ?_, fun i h => ?_, ?_, by rw [pk_length]; exact hn⟩
  · rw [pk_length] at h
    rw [pk_get h]; exact hg.k _ (by have := hi i h; omega)
  · rw [pk_length] at h
    rw [pk_get h, pk_get h0, hg.d (ch.getD i default).toNat (by have := hi i h; omega), hg.d (ch.getD 0 default).toNat (by have := hi 0 h0; omega)]
  · rw [pk_get h0, hg.d _ (by have := hi 0 h0; omega)]; exact hg.m
theorem Ins.push {l : List Sh} {ch : List Int} {i : Nat} (h : Ins l ch) (hi : i < l.length) : Ins l (ch ++ [(i : Int)]) := by
  intro j hj
  simp only [List.length_append, List.length_singleton] at hj
  rcases Nat.lt_or_ge j ch.length with h1 | h1
  · have := h j h1
    rwa [List.getD_eq_getElem?_getD, List.getElem?_append_left h1, ← List.getD_eq_getElem?_getD]
  · obtain rfl : j = ch.length := by omega
    simp; omega
theorem wr_next {base l : List Sh} {most : Int} {i : Nat} {acc : List Int} {r : Option (List Int)} (h : wrF base l most (l.length - i) i acc = r) (hi : i < l.length) (hf : atS base (kb (l.getD i default).1) = (l.getD i default).2) : wrF base l most (l.length - (i + 1)) (i + 1) acc = r := by
  rw [show l.length - i = (l.length - (i + 1)) + 1 by omega, wrF, if_pos hf] at h; exact h
theorem wr_push {base l : List Sh} {most : Int} {i : Nat} {acc : List Int} {r : Option (List Int)} (h : wrF base l most (l.length - i) i acc = r) (hi : i < l.length) (hf : ¬ atS base (kb (l.getD i default).1) = (l.getD i default).2) (hm : ¬ most < ((acc.length + 1 : Nat) : Int)) : wrF base l most (l.length - (i + 1)) (i + 1) (acc ++ [(i : Int)]) = r := by
  rw [show l.length - i = (l.length - (i + 1)) + 1 by omega, wrF, if_neg hf, if_neg hm] at h; exact h
theorem wr_over {base l : List Sh} {most : Int} {i : Nat} {acc : List Int} {r : Option (List Int)} (h : wrF base l most (l.length - i) i acc = r) (hi : i < l.length) (hf : ¬ atS base (kb (l.getD i default).1) = (l.getD i default).2) (hm : most < ((acc.length + 1 : Nat) : Int)) : r = none := by
  rw [show l.length - i = (l.length - (i + 1)) + 1 by omega, wrF, if_neg hf, if_pos hm] at h; exact h.symm
theorem wr_end {base l : List Sh} {most : Int} {i : Nat} {acc : List Int} {r : Option (List Int)} (h : wrF base l most (l.length - i) i acc = r) (hi : l.length ≤ i) : r = some acc := by
  rw [show l.length - i = 0 by omega, wrF] at h; exact h.symm
theorem mst_none {l : List Sh} {most : Int} {ch : List Int} (h : wrF (pk l ch) l most l.length 0 [] = none) : mst l most ch = none := by rw [mst, h]; rfl
theorem mst_some {l : List Sh} {most : Int} {ch b : List Int} (h : wrF (pk l ch) l most l.length 0 [] = some b) : mst l most ch = some (atS (pk l ch) 0, b) := by rw [mst, h]; rfl
theorem vis_full {R : Type} {step : List Int → Option R} {k n d : Nat} {ch : List Int} (h : ch.length = k) : vis step k n d ch = step ch := by cases d <;> simp [vis, h]
theorem vis_zero {R : Type} {step : List Int → Option R} {k n : Nat} {ch : List Int} (h : ch.length ≠ k) : vis step k n 0 ch = none := by simp [vis, h]
theorem vis_some {R : Type} {step : List Int → Option R} {k n i : Nat} {ch : List Int} {x : R} (hi : i < n) (h : ch.length ≠ k) (hx : vis step k n (n - (i + 1)) (ch ++ [(i : Int)]) = some x) : vis step k n (n - i) ch = some x := by
  rw [show n - i = (n - (i + 1)) + 1 by omega]
  unfold vis
  rw [if_neg h, show n - (n - (i + 1) + 1) = i by omega, hx]
theorem vis_none {R : Type} {step : List Int → Option R} {k n i : Nat} {ch : List Int} (hi : i < n) (h : ch.length ≠ k) (hx : vis step k n (n - (i + 1)) (ch ++ [(i : Int)]) = none) : vis step k n (n - i) ch = vis step k n (n - (i + 1)) ch := by
  rw [show n - i = (n - (i + 1)) + 1 by omega, vis, if_neg h, show n - (n - (i + 1) + 1) = i by omega, hx]

/-! ### The reference's functions -/
def rgF (f : Int × Int) (n lo hi ix : Int) : Int × Int := if f.1 = 0 ∧ ¬ (lo ≤ n ∧ n ≤ hi) then (4, ix) else f
def sfW (m k : Int) : Int × Int := rgF (rgF (0, 0) m 1 10 (-2)) k m 10 (-3)
def sfF (s : Nat) (m k r : Int) : Int × Int := if 4096 < s then (3, -1) else if (sfW m k).1 = 0 ∧ r ≠ (m - 1) * s then (9, -4) else sfW m k
theorem sfW_ok {m k : Int} (h : (sfW m k).1 = 0) : 1 ≤ m ∧ m ≤ 10 ∧ m ≤ k ∧ k ≤ 10 ∧ sfW m k = (0, 0) := by
  by_cases h1 : 1 ≤ m ∧ m ≤ 10
  · have e1 : rgF (0, 0) m 1 10 (-2) = (0, 0) := by rw [rgF, if_neg (fun h => h.2 h1)]
    by_cases h2 : m ≤ k ∧ k ≤ 10
    · have e2 : sfW m k = (0, 0) := by rw [sfW, e1, rgF, if_neg (fun h => h.2 h2)]
      exact ⟨h1.1, h1.2, h2.1, h2.2, e2⟩
    · have e2 : sfW m k = (4, -3) := by rw [sfW, e1, rgF, if_pos ⟨rfl, h2⟩]
      rw [e2] at h; exact absurd h (by decide)
  · have e1 : rgF (0, 0) m 1 10 (-2) = (4, -2) := by rw [rgF, if_pos ⟨rfl, h1⟩]
    have e2 : sfW m k = (4, -2) := by rw [sfW, e1, rgF, if_neg (fun h => absurd h.1 (by decide))]
    rw [e2] at h; exact absurd h (by decide)
theorem sfF_spF (S R : List UInt8) (m k : Int) : sfF S.length m k R.length = spF S m k R := by
  unfold sfF spF
  by_cases h0 : 4096 < S.length
  · rw [if_pos h0, if_pos h0]
  · rw [if_neg h0, if_neg h0]
    by_cases h1 : 1 ≤ m ∧ m ≤ 10
    · have e1 : rgF (0, 0) m 1 10 (-2) = (0, 0) := by rw [rgF, if_neg (fun h => h.2 h1)]
      by_cases h2 : m ≤ k ∧ k ≤ 10
      · have e2 : sfW m k = (0, 0) := by rw [sfW, e1, rgF, if_neg (fun h => h.2 h2)]
        rw [e2]
        by_cases h3 : (R.length : Int) ≠ (m - 1) * S.length
        · rw [if_pos ⟨rfl, h3⟩, if_neg (fun h => h h1), if_neg (by omega), if_pos h3]
        · rw [if_neg (fun h => h3 h.2), if_neg (fun h => h h1), if_neg (by omega), if_neg h3]
      · have e2 : sfW m k = (4, -3) := by rw [sfW, e1, rgF, if_pos ⟨rfl, h2⟩]
        rw [e2, if_neg (fun h => absurd h.1 (by decide)), if_neg (fun h => h h1), if_pos (by omega)]
    · have e1 : rgF (0, 0) m 1 10 (-2) = (4, -2) := by rw [rgF, if_pos ⟨rfl, h1⟩]
      have e2 : sfW m k = (4, -2) := by rw [sfW, e1, rgF, if_neg (fun h => absurd h.1 (by decide))]
      rw [e2, if_neg (fun h => absurd h.1 (by decide)), if_pos h1]
/-- The value of a polynomial, after k of its coefficients. -/
def vaF (l : List UInt8) (x : UInt8) : Nat → UInt8
  | 0 => 0
  | k + 1 => vaF l x k ^^^ gmul (l.getD k default) (evP x k)
def va (l : List UInt8) (x : UInt8) : UInt8 := vaF l x l.length
/-- The coefficients for byte i. -/
def cof (S R : List UInt8) (i k : Nat) : List UInt8 := S.getD i default :: (List.range k).map fun j => R.getD (j * S.length + i) default
theorem cof_succ (S R : List UInt8) (i k : Nat) : cof S R i (k + 1) = cof S R i k ++ [R.getD (k * S.length + i) default] := by simp [cof, List.range_succ]
theorem cof_length (S R : List UInt8) (i k : Nat) : (cof S R i k).length = k + 1 := by simp [cof]
def shF (S : List UInt8) (m : Nat) (R : List UInt8) (x : UInt8) (i : Nat) : List UInt8 := (List.range i).map fun i => va (cof S R i (m - 1)) x
def shd (S : List UInt8) (m : Nat) (R : List UInt8) (x : UInt8) : List UInt8 := shF S m R x S.length
theorem shF_succ (S : List UInt8) (m : Nat) (R : List UInt8) (x : UInt8) (i : Nat) : shF S m R x (i + 1) = shF S m R x i ++ [va (cof S R i (m - 1)) x] := by simp [shF, List.range_succ]
theorem shF_length (S : List UInt8) (m : Nat) (R : List UInt8) (x : UInt8) (i : Nat) : (shF S m R x i).length = i := by simp [shF]
end Go.M
