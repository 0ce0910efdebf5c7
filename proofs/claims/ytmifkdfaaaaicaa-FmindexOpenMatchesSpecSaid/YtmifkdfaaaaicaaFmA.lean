/- The rows of an index of a text, plainly: positions in the order of their suffixes, the symbol in front of each, the row in front of each. -/
import Derived.Test.YtmifkdfaaaaicaaSufG
import Derived.Test.YtmifkdfaaaaicaaQ4
namespace Go.L
open Go

theorem cmp_cons (x y : UInt8) (l m : List UInt8) : Lib.compareBytes (x :: l) (y :: m) < 0 ↔ x.toNat < y.toNat ∨ x.toNat = y.toNat ∧ Lib.compareBytes l m < 0 := by
  show (if x < y then (-1 : Int) else if y < x then 1 else Lib.compareBytes l m) < 0 ↔ _
  by_cases h1 : x < y
  · rw [if_pos h1]
    have := UInt8.lt_iff_toNat_lt.1 h1
    exact ⟨fun _ => .inl this, fun _ => by decide⟩
  · rw [if_neg h1]
    have h1' : ¬ x.toNat < y.toNat := fun h => h1 (UInt8.lt_iff_toNat_lt.2 h)
    by_cases h2 : y < x
    · rw [if_pos h2]
      have := UInt8.lt_iff_toNat_lt.1 h2
      exact ⟨fun h => absurd h (by decide), fun h => by omega⟩
    · rw [if_neg h2]
      have h2' : ¬ y.toNat < x.toNat := fun h => h2 (UInt8.lt_iff_toNat_lt.2 h)
      exact ⟨fun h => .inr ⟨by omega, h⟩, fun h => by rcases h with h | h; exact absurd h h1'; exact h.2⟩
def lt (a : List UInt8) (x y : Nat) : Bool := decide (Lib.compareBytes (a.drop x) (a.drop y) < 0)
theorem lt_irr (a : List UInt8) (x : Nat) : lt a x x = false := by
  unfold lt; rw [cmp_self]; decide
theorem lt_asy {a : List UInt8} {x y : Nat} (h : lt a x y = true) : lt a y x = false := by
  unfold lt at *
  have := of_decide_eq_true h
  have := cmp_swap (a.drop x) (a.drop y)
  exact decide_eq_false (by omega)
/-- The positions of the rows. -/
def op (a : List UInt8) : List Nat := a.length :: (sufArr a).map Int.toNat
theorem op_length (a : List UInt8) : (op a).length = a.length + 1 := by simp [op, sufArr_length]
theorem op_perm (a : List UInt8) : (op a).Perm (List.range (a.length + 1)) := by
  have h := (sufArr_perm a).map Int.toNat
  have e : (iota a.length).map Int.toNat = List.range a.length := by
    unfold iota; rw [List.map_map]
    conv => rhs; rw [← List.map_id (List.range a.length)]
    rfl
  rw [e] at h
  unfold op
  rw [List.range_succ]
  exact (h.cons a.length).trans (List.perm_append_comm (l₁ := [a.length]))
theorem op_sorted (a : List UInt8) : (op a).Pairwise fun x y => lt a x y = true := by
  unfold op
  refine List.pairwise_cons.2 ⟨fun y hy => ?_, ?_⟩
  · obtain ⟨z, hz, rfl⟩ := List.mem_map.1 hy
    have hz := (sufArr_mem a).1 hz
    unfold lt
    rw [List.drop_length]
    cases hd : a.drop z.toNat with
    | nil => have := congrArg List.length hd; rw [List.length_drop] at this; simp at this; omega
    | cons b l => rfl
  · rw [List.pairwise_map]
    exact (sufArr_sorted a).imp fun h => decide_eq_true h
theorem rank_count {α : Type} (f : α → α → Bool) (irr : ∀ x, f x x = false) (asy : ∀ x y, f x y = true → f y x = false) : ∀ (l : List α), l.Pairwise (fun x y => f x y = true) → ∀ r (h : r < l.length), l.countP (fun x => f x l[r]) = r
  | x :: l, hp, 0, _ => by
    have hx := (List.pairwise_cons.1 hp).1
    simp only [List.getElem_cons_zero, List.countP_cons, irr]
    rw [List.countP_eq_zero.2 (fun y hy => by rw [asy _ _ (hx y hy)]; decide)]
    rfl
  | x :: l, hp, r + 1, h => by
    have h' : r < l.length := by simpa using h
    have hx := (List.pairwise_cons.1 hp).1
    have ih := rank_count f irr asy l (List.pairwise_cons.1 hp).2 r h'
    simp only [List.getElem_cons_succ, List.countP_cons, ih, hx l[r] (List.getElem_mem h')]
    rfl
theorem op_rank (a : List UInt8) {r : Nat} (h : r < (op a).length) : (op a).countP (fun x => lt a x (op a)[r]) = r := rank_count (lt a) (lt_irr a) (fun _ _ => lt_asy) _ (op_sorted a) r h
theorem op_le (a : List UInt8) {r : Nat} (h : r < (op a).length) : (op a)[r] ≤ a.length := by
  have := (op_perm a).mem_iff.1 (List.getElem_mem h)
  have := List.mem_range.1 this
  omega
theorem op_onto {a : List UInt8} {p : Nat} (h : p ≤ a.length) : ∃ r, ∃ hr : r < (op a).length, (op a)[r] = p := by
  have hm : p ∈ op a := (op_perm a).mem_iff.2 (List.mem_range.2 (by omega))
  obtain ⟨r, hr, e⟩ := List.getElem_of_mem hm
  exact ⟨r, hr, e⟩
theorem op_lt (a : List UInt8) {k r : Nat} (hk : k < (op a).length) (hr : r < (op a).length) : lt a (op a)[k] (op a)[r] = true ↔ k < r := by
  have hp := List.pairwise_iff_getElem.1 (op_sorted a)
  rcases Nat.lt_trichotomy k r with h | h | h
  · exact ⟨fun _ => h, fun _ => hp k r hk hr h⟩
  · subst h; rw [lt_irr]; exact ⟨fun h => (by cases h), fun h => by omega⟩
  · rw [lt_asy (hp r k hr hk h)]; exact ⟨fun h => (by cases h), fun h => by omega⟩
theorem op_inj {a : List UInt8} {k r : Nat} (hk : k < (op a).length) (hr : r < (op a).length) (h : (op a)[k] = (op a)[r]) : k = r := by
  have h1 := op_lt a hk hr
  have h2 := op_lt a hr hk
  rw [h, lt_irr] at h1
  rw [h, lt_irr] at h2
  simp only [Bool.false_eq_true, false_iff] at h1 h2
  omega
/-- The symbol in front of a position. -/
def symOf (a : List UInt8) (q : Nat) : Int := if q = 0 then -1 else ((a.getD (q - 1) default).toNat : Int)
def sym (a : List UInt8) : List Int := (op a).map (symOf a)
theorem sym_length (a : List UInt8) : (sym a).length = a.length + 1 := by rw [sym, List.length_map, op_length]
theorem sym_get (a : List UInt8) {r : Nat} (h : r < (op a).length) : (sym a).getD r default = symOf a (op a)[r] := by
  unfold sym
  rw [List.getD_eq_getElem?_getD, List.getElem?_map, List.getElem?_eq_getElem h]; rfl
theorem symOf_nonneg (a : List UInt8) (q : Nat) : 0 ≤ symOf a q ↔ 1 ≤ q := by unfold symOf; split <;> omega
theorem symOf_lt (a : List UInt8) (q : Nat) : symOf a q < 256 := by
  unfold symOf; split
  · omega
  · have := (a.getD (q - 1) default).toNat_lt; omega
theorem drop_cons {a : List UInt8} {q : Nat} (h1 : 1 ≤ q) (h : q ≤ a.length) : a.drop (q - 1) = a.getD (q - 1) default :: a.drop q := by
  rw [List.drop_eq_getElem_cons (by omega : q - 1 < a.length), List.getD_eq_getElem?_getD, List.getElem?_eq_getElem (by omega : q - 1 < a.length), show q - 1 + 1 = q by omega]; rfl
/-- One more than the number of rows whose symbols come first. -/
def befC (s : List Int) (r : Nat) : Nat := 1 + (List.range s.length).countP fun k => decide (0 ≤ s.getD k default ∧ (s.getD k default < s.getD r default ∨ s.getD k default = s.getD r default ∧ k < r))
def befL (s : List Int) : List Int := (List.range s.length).map fun r => if s.getD r default < 0 then 0 else (befC s r : Int)
theorem befL_length (s : List Int) : (befL s).length = s.length := by simp [befL]
theorem befL_get (s : List Int) {r : Nat} (h : r < s.length) : (befL s).getD r default = if s.getD r default < 0 then 0 else (befC s r : Int) := by
  unfold befL
  rw [List.getD_eq_getElem?_getD, List.getElem?_map, List.getElem?_range h]; rfl
theorem range_get {α β : Type} [Inhabited β] (l : List α) (d : α) (f : α → Bool) : (List.range l.length).countP (fun k => f (l.getD k d)) = l.countP f := by
  have e : l = (List.range l.length).map fun k => l.getD k d := by
    apply List.ext_getElem
    · simp
    · intro k h1 h2
      rw [List.getElem_map, List.getElem_range, List.getD_eq_getElem?_getD, List.getElem?_eq_getElem h1]; rfl
  conv => rhs; rw [e, List.countP_map]
  rfl
theorem op_countP (a : List UInt8) (g : Nat → Bool) : (List.range (sym a).length).countP (fun k => g ((op a).getD k 0)) = (List.range (a.length + 1)).countP g := by
  have h := range_get (β := Nat) (op a) 0 g
  rw [op_length] at h
  rw [sym_length, h, (op_perm a).countP_eq]
theorem countP_shift (n : Nat) (g : Nat → Bool) (h0 : g 0 = false) : (List.range (n + 1)).countP g = (List.range n).countP fun q => g (q + 1) := by
  rw [List.range_succ_eq_map, List.countP_cons, List.countP_map, h0]; rfl
theorem opD {a : List UInt8} {k : Nat} (h : k < (op a).length) : (op a).getD k 0 = (op a)[k] := by rw [List.getD_eq_getElem?_getD, List.getElem?_eq_getElem h]; rfl
/-- The row in front. -/
theorem bef_row {a : List UInt8} {r r' : Nat} (hr : r < (op a).length) (hr' : r' < (op a).length) (hp : (op a)[r] = (op a)[r'] + 1) : befC (sym a) r = r' := by
  have hle := op_le a hr
  generalize hq' : (op a)[r'] = p' at *
  have e1 : (op a).countP (fun x => lt a x p') = r' := by have := op_rank a hr'; rw [hq'] at this; exact this
  rw [(op_perm a).countP_eq, List.range_succ, List.countP_append, List.countP_singleton] at e1
  have hend : lt a a.length p' = true := by
    unfold lt
    rw [List.drop_length]
    cases hd : a.drop p' with
    | nil => have := congrArg List.length hd; rw [List.length_drop] at this; simp at this; omega
    | cons b l => rfl
  rw [hend, if_pos rfl] at e1
  have e2 : (List.range (sym a).length).countP (fun k => decide (0 ≤ (sym a).getD k default ∧ ((sym a).getD k default < (sym a).getD r default ∨ (sym a).getD k default = (sym a).getD r default ∧ k < r))) = (List.range (sym a).length).countP (fun k => (fun q => decide (1 ≤ q) && lt a (q - 1) p') ((op a).getD k 0)) := by
    apply List.countP_congr
    intro k hk
    have hk : k < (op a).length := by have := List.mem_range.1 hk; rw [sym_length] at this; rw [op_length]; exact this
    have hkl := op_le a hk
    rw [sym_get a hk, sym_get a hr, opD hk, hp]
    have hlt := op_lt a hk hr
    rw [hp] at hlt
    generalize (op a)[k] = q at *
    simp only [decide_eq_true_eq, Bool.and_eq_true]
    rw [symOf_nonneg, ← hlt]
    rw [hp] at hle
    constructor
    · rintro ⟨h1, h2⟩
      refine ⟨h1, ?_⟩
      have hd := drop_cons h1 hkl
      have hd' := drop_cons (q := p' + 1) (by omega) hle
      rw [Nat.add_sub_cancel] at hd'
      unfold lt
      rw [hd, hd']
      refine decide_eq_true ((cmp_cons _ _ _ _).2 ?_)
      unfold symOf at h2
      rw [if_neg (by omega), if_neg (by omega), Nat.add_sub_cancel] at h2
      rcases h2 with h2 | ⟨h2, h3⟩
      · exact .inl (by omega)
      · exact .inr ⟨by omega, of_decide_eq_true h3⟩
    · rintro ⟨h1, h2⟩
      refine ⟨h1, ?_⟩
      have hd := drop_cons h1 hkl
      have hd' := drop_cons (q := p' + 1) (by omega) hle
      rw [Nat.add_sub_cancel] at hd'
      unfold lt at h2
      rw [hd, hd'] at h2
      unfold symOf
      rw [if_neg (by omega), if_neg (by omega), Nat.add_sub_cancel]
      rcases (cmp_cons _ _ _ _).1 (of_decide_eq_true h2) with h | ⟨h, h'⟩
      · exact .inl (by omega)
      · exact .inr ⟨by omega, decide_eq_true h'⟩
  unfold befC
  rw [e2, op_countP a (fun q => decide (1 ≤ q) && lt a (q - 1) p'), countP_shift _ _ (by simp)]
  have e3 : (List.range a.length).countP (fun q => decide (1 ≤ q + 1) && lt a (q + 1 - 1) p') = (List.range a.length).countP (fun x => lt a x p') := by
    apply List.countP_congr
    intro k _
    simp
  rw [e3]; omega
end Go.L
