/- Plain laws on the order of suffixes. -/
import Derived.Test.YtmifkdfaaaaicaaP3
namespace Go.L
open Go
theorem cmp_less : ∀ l m : List UInt8, Lib.compareBytes l m < 0 ↔ Op.bytesLess l m = true
  | [], [] => by simp [Lib.compareBytes, Op.bytesLess]
  | [], _ :: _ => by simp [Lib.compareBytes, Op.bytesLess]
  | _ :: _, [] => by simp [Lib.compareBytes, Op.bytesLess]
  | a :: l, b :: m => by
    have ih := cmp_less l m
    unfold Lib.compareBytes Op.bytesLess
    by_cases h1 : a < b
    · rw [if_pos h1]; simp [h1]
    · rw [if_neg h1]
      by_cases h2 : b < a
      · have hne : a ≠ b := fun e => by subst e; exact h1 h2
        rw [if_pos h2]; simp [h1, hne]
      · have e : a = b := u8_eq_of h1 h2
        rw [if_neg h2, ih]; simp [h1, e]
/-- The length of the longest common beginning. -/
def lcp : List UInt8 → List UInt8 → Nat
  | a :: l, b :: m => if a = b then lcp l m + 1 else 0
  | _, _ => 0
theorem lcp_cons (a b : UInt8) (l m : List UInt8) : lcp (a :: l) (b :: m) = if a = b then lcp l m + 1 else 0 := rfl
theorem lcp_le : ∀ l m : List UInt8, lcp l m ≤ l.length ∧ lcp l m ≤ m.length
  | [], _ => by simp [lcp]
  | _ :: _, [] => by simp [lcp]
  | a :: l, b :: m => by
    have := lcp_le l m
    unfold lcp
    split <;> simp <;> omega
theorem lcp_drop : ∀ (k : Nat) (l m : List UInt8), k ≤ lcp l m → lcp l m = k + lcp (l.drop k) (m.drop k)
  | 0, l, m, _ => by simp
  | k + 1, [], m, h => by simp [lcp] at h
  | k + 1, _ :: _, [], h => by simp [lcp] at h
  | k + 1, a :: l, b :: m, h => by
    unfold lcp at h ⊢
    split at h
    · rename_i e
      rw [if_pos e, lcp_drop k l m (by omega)]
      simp only [List.drop_succ_cons]
      cases hl : l.drop k <;> cases hm : m.drop k <;> simp [lcp] <;> omega
    · omega
theorem lcp_lt {l m : List UInt8} (h : 0 < lcp l m) : ∃ a l' m', l = a :: l' ∧ m = a :: m' := by
  cases l with
  | nil => simp [lcp] at h
  | cons a l =>
    cases m with
    | nil => simp [lcp] at h
    | cons b m =>
      unfold lcp at h
      split at h
      · rename_i e; exact ⟨a, l, m, rfl, by rw [e]⟩
      · omega

section
variable (a : List UInt8)
theorem sufF_perm : (sufF a).Perm (iotaF a.length) := List.mergeSort_perm _ _
theorem sufArr_perm : (sufArr a).Perm (iota a.length) := by
  unfold sufArr
  rw [← iotaF_val]
  exact (sufF_perm a).map _
theorem sufArr_length : (sufArr a).length = a.length := by rw [(sufArr_perm a).length_eq, iota_length]
theorem iota_mem {n : Nat} {x : Int} : x ∈ iota n ↔ 0 ≤ x ∧ x < n := by
  unfold iota
  rw [List.mem_map]
  constructor
  · rintro ⟨i, hi, rfl⟩
    have := List.mem_range.1 hi
    omega
  · intro h
    exact ⟨x.toNat, List.mem_range.2 (by omega), by omega⟩
theorem sufArr_mem {x : Int} : x ∈ sufArr a ↔ 0 ≤ x ∧ x < a.length := by rw [(sufArr_perm a).mem_iff, iota_mem]
theorem iota_nodup (n : Nat) : (iota n).Nodup := by
  unfold iota List.Nodup
  rw [List.pairwise_map]
  exact List.pairwise_lt_range.imp fun h => by omega
theorem sufArr_nodup : (sufArr a).Nodup := (sufArr_perm a).symm.nodup (iota_nodup _)
/-- Each suffix is less than the later ones. -/
theorem sufArr_sorted : (sufArr a).Pairwise fun x y => Lib.compareBytes (a.drop x.toNat) (a.drop y.toNat) < 0 := by
  have hO := cmp_swo (fun x : Fin (a.length + 1) => a.drop x.val)
  have h := List.pairwise_mergeSort (le := fun x y => !(Go.Proofs.ltOf (sufCmp a)) y x) (fun x y z h1 h2 => by
      simp only [Bool.not_eq_true'] at *
      exact hO.ntrans z y x h2 h1) (fun x y => by
      have := cmp_swap (a.drop y.val) (a.drop x.val)
      by_cases h : Lib.compareBytes (a.drop y.val) (a.drop x.val) < 0
      · have h' : ¬ Lib.compareBytes (a.drop x.val) (a.drop y.val) < 0 := by omega
        simp [Go.Proofs.ltOf, sufCmp, h']
      · simp [Go.Proofs.ltOf, sufCmp, h]) (iotaF a.length)
  have hn : (sufF a).Nodup := by
    have := sufArr_nodup a
    unfold sufArr List.Nodup at this
    rw [List.pairwise_map] at this
    exact this.imp fun h e => h (by rw [e])
  unfold sufArr
  rw [List.pairwise_map]
  have h2 := List.Pairwise.and h hn
  refine h2.imp fun {x y} ⟨h3, h4⟩ => ?_
  replace h3 : ¬ Lib.compareBytes (a.drop y.val) (a.drop x.val) < 0 := by
    intro hc
    have : Go.Proofs.ltOf (sufCmp a) y x = true := by simp [Go.Proofs.ltOf, sufCmp, hc]
    rw [this] at h3; cases h3
  simp only [Int.toNat_natCast]
  have s := cmp_swap (a.drop x.val) (a.drop y.val)
  rcases Int.lt_trichotomy (Lib.compareBytes (a.drop x.val) (a.drop y.val)) 0 with h | h | h
  · exact h
  · exact absurd (sufCmp_total a x y (decide_eq_false (show ¬ Lib.compareBytes (a.drop x.val) (a.drop y.val) < 0 by omega)) (decide_eq_false h3)) h4
  · omega
/-- There is one order only. -/
theorem sufArr_eq {a : List UInt8} {l : List Int} (hp : l.Perm (iota a.length)) (hs : l.Pairwise fun x y => Lib.compareBytes (a.drop x.toNat) (a.drop y.toNat) < 0) : sufArr a = l := by
  refine List.Perm.eq_of_pairwise (le := fun x y => Lib.compareBytes (a.drop x.toNat) (a.drop y.toNat) < 0) (fun x y _ _ h1 h2 => ?_) (sufArr_sorted a) hs ((sufArr_perm a).trans hp.symm)
  have := cmp_swap (a.drop x.toNat) (a.drop y.toNat)
  omega
end

/-- Whether a list begins with another. -/
def pre (l p : List UInt8) : Bool := decide (l.take p.length = p)
/-- How many of the first k suffixes are less than a pattern without beginning with it, and how many begin with it. -/
def fs (a p : List UInt8) : Nat → Nat × Nat
  | 0 => (0, 0)
  | k + 1 => if pre (a.drop k) p then ((fs a p k).1, (fs a p k).2 + 1) else if Op.bytesLess (a.drop k) p then ((fs a p k).1 + 1, (fs a p k).2) else fs a p k
theorem fs_succ (a p : List UInt8) (k : Nat) : fs a p (k + 1) = if pre (a.drop k) p then ((fs a p k).1, (fs a p k).2 + 1) else if Op.bytesLess (a.drop k) p then ((fs a p k).1 + 1, (fs a p k).2) else fs a p k := rfl
theorem fs_le (a p : List UInt8) : ∀ k, (fs a p k).1 + (fs a p k).2 ≤ k
  | 0 => Nat.le_refl _
  | k + 1 => by
    have := fs_le a p k
    unfold fs
    split
    · simp only; omega
    · split
      · simp only; omega
      · omega
end Go.L
