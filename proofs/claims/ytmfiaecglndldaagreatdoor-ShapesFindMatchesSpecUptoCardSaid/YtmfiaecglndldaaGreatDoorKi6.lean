/- Texts of a claim, merged. -/
import Derived.Test.YtmfiaecglndldaaGreatDoorKi5
import Derived.KernelRfl
set_option linter.unusedVariables false
set_option linter.unusedSimpArgs false
section
namespace Go.L
/-- What m yields, m' yields. -/
def Ap {α : Type} (m m' : Option α) : Prop := ∀ r, m = some r → m' = some r
theorem apR {α : Type} (m : Option α) : Ap m m := fun _ h => h
theorem apB {α β : Type} {m m' : Option α} {f f' : α → Option β} (h : Ap m m') (k : ∀ x, Ap (f x) (f' x)) : Ap (Option.bind m f) (Option.bind m' f') := fun r e => by
  obtain ⟨x, h1, h2⟩ := bind_some e;rw [h x h1, Option.bind_some];exact k x r h2
theorem apC {α : Type} {p : Prop} [Decidable p] {m m' : Option α} (h : Ap m m') : Ap (Go.L.chk p m) (Go.L.chk p m') := fun r e => by
  obtain ⟨h1, h2⟩ := chk_some e;rw [chk_pos h1];exact h r h2
theorem apI {α : Type} {p : Prop} [Decidable p] {a b a' b' : Option α} (h : Ap a a') (k : Ap b b') : Ap (if p then a else b) (if p then a' else b') := fun r e => by
  by_cases hp : p
  · rw [if_pos hp] at e ⊢; exact h r e
  · rw [if_neg hp] at e ⊢; exact k r e
theorem apM {α β : Type} {f : α → β} {m m' : Option α} (h : Ap m m') : Ap (Option.map f m) (Option.map f m') := fun r e => by
  cases m with
  | none => cases e
  | some x => rw [h x rfl]; exact e
theorem apO {α β : Type} {x : Option α} {ex ex' : Option β} {k k' : α → Option β} (h : Ap ex ex') (hk : ∀ y, Ap (k y) (k' y)) : Ap (Go.L.onX x ex k) (Go.L.onX x ex' k') := by
  cases x with
  | none => exact h
  | some y => exact hk y
theorem Ap.itr {σ ρ : Type} {b b' : σ → Option (σ ⊕ ρ)} (h : ∀ s, Ap (b s) (b' s)) : ∀ (n : Nat) (s : σ), Ap (itr b n s) (itr b' n s)
  | 0, _ => fun _ e => by cases e
  | n + 1, s => fun r e => by
    obtain ⟨m, x, hm, h1, h2⟩ := itr_some e;obtain rfl : n = m := by omega
    rw [Go.L.itr, h s x h1]
    cases x with
    | inl s' => exact Ap.itr h n s' r h2
    | inr y => exact congrArg some h2
theorem Ap.run {σ ρ : Type} {b b' : σ → Option (σ ⊕ ρ)} (h : ∀ s, Ap (b s) (b' s)) (n : Nat) (s : σ) : Ap (Go.L.itr b n s) (Go.L.run b' s) := fun r e => run_of (Ap.itr h n s r e)
/-- A computation with its loops cut off. -/
class Mi {α : Type} (m : Option α) where
  c : Option α
  h : Ap c m
noncomputable instance {α : Type} (x : α) : Mi (some x) := ⟨some x, apR _⟩
noncomputable instance {α : Type} : Mi (none : Option α) := ⟨none, apR _⟩
noncomputable instance iB {α β : Type} (m : Option α) (f : α → Option β) [i : Mi m] [j : ∀ x, Mi (f x)] : Mi (Option.bind m f) := ⟨Option.bind i.c fun x => (j x).c, apB i.h fun x => (j x).h⟩
noncomputable instance iC {α : Type} (p : Prop) [Decidable p] (m : Option α) [i : Mi m] : Mi (Go.L.chk p m) := ⟨Go.L.chk p i.c, apC i.h⟩
noncomputable instance iI {α : Type} (p : Prop) [Decidable p] (a b : Option α) [i : Mi a] [j : Mi b] : Mi (if p then a else b) := ⟨if p then i.c else j.c, apI i.h j.h⟩
noncomputable instance {α β : Type} (f : α → β) (m : Option α) [i : Mi m] : Mi (Option.map f m) := ⟨Option.map f i.c, apM i.h⟩
noncomputable instance {α β : Type} (x : Option α) (ex : Option β) (k : α → Option β) [i : Mi ex] [j : ∀ y, Mi (k y)] : Mi (Go.L.onX x ex k) := ⟨Go.L.onX x i.c fun y => (j y).c, apO i.h fun y => (j y).h⟩
noncomputable instance {σ ρ : Type} (b : σ → Option (σ ⊕ ρ)) (s : σ) [i : ∀ s, Mi (b s)] : Mi (Go.L.run b s) := ⟨Go.L.itr (fun s => (i s).c) 200 s, Ap.run (fun s => (i s).h) 200 s⟩
end Go.L
namespace Go.L
/-! ### Sorting by insertion -/
def insB {α : Type} (le : α → α → Bool) (a : α) : List α → List α
  | [] => [a]
  | b :: l => if le a b then a :: b :: l else b :: insB le a l
def isB {α : Type} (le : α → α → Bool) : List α → List α
  | [] => []
  | a :: l => insB le a (isB le l)
section
variable {α : Type} {le : α → α → Bool}
theorem insB_perm (a : α) : ∀ l : List α, (insB le a l).Perm (a :: l)
  | [] => .refl _
  | b :: l => by
    unfold insB
    split
    · exact .refl _
    · exact ((insB_perm a l).cons b).trans (.swap a b l)
theorem isB_perm : ∀ l : List α, (isB le l).Perm l
  | [] => .refl _
  | a :: l => (insB_perm a _).trans ((isB_perm l).cons a)
theorem insB_sorted (htr : ∀ a b c, le a b = true → le b c = true → le a c = true) (hto : ∀ a b, le a b = true ∨ le b a = true) (a : α) : ∀ l : List α, l.Pairwise (fun x y => le x y = true) → (insB le a l).Pairwise fun x y => le x y = true
  | [], _ => List.pairwise_singleton _ _
  | b :: l, h => by
    unfold insB
    split
    · rename_i h1;refine .cons (fun x hx => ?_) h
      rcases List.mem_cons.1 hx with rfl | hx
      · exact h1
      · exact htr _ _ _ h1 ((List.pairwise_cons.1 h).1 x hx)
    · rename_i h1;have h2 : le b a = true := by rcases hto a b with h | h; exact absurd h h1; exact h
      refine .cons (fun x hx => ?_) (insB_sorted htr hto a l (List.pairwise_cons.1 h).2)
      rcases List.mem_cons.1 ((insB_perm a l).mem_iff.1 hx) with rfl | hx
      · exact h2
      · exact (List.pairwise_cons.1 h).1 x hx
theorem isB_sorted (htr : ∀ a b c, le a b = true → le b c = true → le a c = true) (hto : ∀ a b, le a b = true ∨ le b a = true) : ∀ l : List α, (isB le l).Pairwise fun x y => le x y = true
  | [] => .nil
  | a :: l => insB_sorted htr hto a _ (isB_sorted htr hto l)
theorem sorted_eq (has : ∀ a b, le a b = true → le b a = true → a = b) : ∀ {l m : List α}, l.Perm m → l.Pairwise (fun x y => le x y = true) → m.Pairwise (fun x y => le x y = true) → l = m
  | [], m, hp, _, _ => hp.nil_eq
  | a :: l, m, hp, hl, hm => by
    cases m with
    | nil => exact absurd hp.symm.nil_eq (by simp)
    | cons b m =>
      obtain ⟨l1, l2⟩ := List.pairwise_cons.1 hl;obtain ⟨m1, m2⟩ := List.pairwise_cons.1 hm
      have hab : a = b := by
        rcases List.mem_cons.1 (hp.mem_iff.1 (.head _)) with h1 | h1
        · exact h1
        · rcases List.mem_cons.1 (hp.mem_iff.2 (.head _)) with h2 | h2
          · exact h2.symm
          · exact has a b (l1 b h2) (m1 a h1)
      subst hab;rw [sorted_eq has hp.cons_inv l2 m2]
theorem isB_eq (htr : ∀ a b c, le a b = true → le b c = true → le a c = true) (hto : ∀ a b, le a b = true ∨ le b a = true) (has : ∀ a b, le a b = true → le b a = true → a = b) (l : List α) : isB le l = l.mergeSort le :=
  sorted_eq has ((isB_perm l).trans (List.mergeSort_perm l _).symm) (isB_sorted htr hto l) (List.pairwise_mergeSort htr (fun a b => by simpa using hto a b) l)
end
def isS (l : List (List UInt8)) : List (List UInt8) := isB (fun x y => decide (x ≤ y)) l
def isI (l : List Int) : List Int := isB (fun x y => decide (x ≤ y)) l
def isL (l : List Lf) : List Lf := isB (fun x y => !(Go.Proofs.ltOf lfCmp) y x) l
theorem isI_eq (l : List Int) : isI l = Go.E.srtI l := isB_eq (fun a b c h1 h2 => by simp only [decide_eq_true_eq] at *; omega) (fun a b => by simp only [decide_eq_true_eq]; omega) (fun a b h1 h2 => by simp only [decide_eq_true_eq] at *; omega) l
theorem isS_eq (l : List (List UInt8)) : isS l = Go.E.srtS l := isB_eq (fun a b c h1 h2 => by simp only [decide_eq_true_eq] at *; exact List.le_trans h1 h2) (fun a b => by simp only [decide_eq_true_eq]; exact List.le_total a b) (fun a b h1 h2 => by simp only [decide_eq_true_eq] at *; exact List.le_antisymm h1 h2) l
theorem isL_eq (l : List Lf) : isL l = srtL l := by
  have hlt : ∀ a b, (!(Go.Proofs.ltOf lfCmp) b a) = true ↔ ¬ lfCmp b a < 0 := fun a b => by simp [Go.Proofs.ltOf]
  refine isB_eq (fun a b c h1 h2 => ?_) (fun a b => ?_) (fun a b h1 h2 => ?_) l
  · rw [hlt] at *;intro h3;have s1 := ordLf.swap a b
    rcases Int.lt_trichotomy (lfCmp a b) 0 with h4 | h4 | h4
    · exact h2 (ordLf.trans c a b h3 h4)
    · rw [ordLf.zero a b h4] at h3; exact h2 h3
    · omega
  · rw [hlt, hlt];have s1 := ordLf.swap a b;omega
  · exact ordLf.parts a b (by simpa using h2) (by simpa using h1)
end Go.L
namespace Go.Proofs.YtmfiaecglndldaaGreatDoor
open Go Go.E Go.L
noncomputable def sortedKi (l : List (Lf × List Int)) : Option (List Lf) := Go.L.chk (Go.E.Cap 48 l.length) (some (isL (l.map Prod.fst)))
theorem sortedKi_eq (l : List (Lf × List Int)) : sortedKi l = sortedK l := by unfold sortedKi sortedK; rw [isL_eq]
noncomputable instance (l : List (Lf × List Int)) : Mi (sortedK l) := ⟨sortedKi l, by rw [sortedKi_eq]; exact apR _⟩
end Go.Proofs.YtmfiaecglndldaaGreatDoor
end
section
namespace Go.L
section
variable {α : Type} {le : α → α → Prop}
/-- Two lists in strict order with the same elements are one. -/
theorem uniq_sorted (has : ∀ a b, le a b → le b a → a = b) : ∀ {l m : List α}, l.Pairwise (fun a b => le a b ∧ a ≠ b) → m.Pairwise (fun a b => le a b ∧ a ≠ b) → (∀ x, x ∈ l ↔ x ∈ m) → l = m
  | [], m, _, _, h => by
    cases m with
    | nil => rfl
    | cons b m => exact absurd ((h b).2 (.head _)) (by simp)
  | a :: l, [], _, _, h => absurd ((h a).1 (.head _)) (by simp)
  | a :: l, b :: m, hl, hm, h => by
    obtain ⟨l1, l2⟩ := List.pairwise_cons.1 hl;obtain ⟨m1, m2⟩ := List.pairwise_cons.1 hm
    have hab : a = b := by
      rcases List.mem_cons.1 ((h a).1 (.head _)) with h1 | h1
      · exact h1
      · rcases List.mem_cons.1 ((h b).2 (.head _)) with h2 | h2
        · exact h2.symm
        · exact has a b (l1 b h2).1 (m1 a h1).1
    subst hab
    have : l = m := uniq_sorted has l2 m2 fun x => by
      constructor
      · intro hx
        rcases List.mem_cons.1 ((h x).1 (.tail _ hx)) with h1 | h1
        · exact absurd h1.symm (l1 x hx).2
        · exact h1
      · intro hx
        rcases List.mem_cons.1 ((h x).2 (.tail _ hx)) with h1 | h1
        · exact absurd h1.symm (m1 x hx).2
        · exact h1
    rw [this]
theorem compactUpTo_spec [Inhabited α] [DecidableEq α] (hre : ∀ a, le a a) (htr : ∀ a b c, le a b → le b c → le a c) (has : ∀ a b, le a b → le b a → a = b) (d : Array α) (hs : ∀ i j, i < j → j < d.size → le d[i]! d[j]!) : ∀ m, m ≤ d.size →
    (Lib.compactUpTo d m).Pairwise (fun a b => le a b ∧ a ≠ b) ∧ (∀ x, x ∈ Lib.compactUpTo d m ↔ ∃ j, j < m ∧ x = d[j]!)
  | 0, _ => ⟨by simp [Lib.compactUpTo], fun x => by simp [Lib.compactUpTo]⟩
  | m + 1, hm => by
    obtain ⟨h1, h2⟩ := compactUpTo_spec hre htr has d hs m (by omega);rw [Lib.compactUpTo_succ]
    by_cases hk : Lib.keeps d m = true
    · rw [if_pos hk];refine ⟨List.pairwise_append.2 ⟨h1, List.pairwise_singleton _ _, fun a ha b hb => ?_⟩, fun x => ?_⟩
      · rw [List.mem_singleton] at hb;subst hb;obtain ⟨j, hj, rfl⟩ := (h2 a).1 ha;refine ⟨hs j m hj (by omega), fun e => ?_⟩;unfold Lib.keeps at hk;rw [decide_eq_true_eq] at hk
        rcases hk with hk | hk
        · omega
        · refine hk (has _ _ ?_ ?_)
          · by_cases hjm : j = m - 1
            · rw [← e, hjm]; exact hre _
            · rw [← e]; exact hs j (m - 1) (by omega) (by omega)
          · exact hs (m - 1) m (by omega) (by omega)
      · rw [List.mem_append, h2, List.mem_singleton]
        constructor
        · rintro (⟨j, hj, rfl⟩ | rfl)
          · exact ⟨j, by omega, rfl⟩
          · exact ⟨m, by omega, rfl⟩
        · rintro ⟨j, hj, rfl⟩
          by_cases hjm : j = m
          · subst hjm; exact .inr rfl
          · exact .inl ⟨j, by omega, rfl⟩
    · have hk' : ¬ (m = 0 ∨ d[m]! ≠ d[m - 1]!) := by
        unfold Lib.keeps at hk
        simpa using hk
      rw [if_neg hk, List.append_nil];refine ⟨h1, fun x => (h2 x).trans ?_⟩
      constructor
      · rintro ⟨j, hj, rfl⟩; exact ⟨j, by omega, rfl⟩
      · rintro ⟨j, hj, rfl⟩
        by_cases hjm : j = m
        · subst hjm;have e : d[j]! = d[j - 1]! := Decidable.not_not.1 fun h => hk' (.inr h);have h0 : j ≠ 0 := fun h => hk' (.inl h);exact ⟨j - 1, by omega, e⟩
        · exact ⟨j, by omega, rfl⟩
theorem compact_spec [Inhabited α] [DecidableEq α] (hre : ∀ a, le a a) (htr : ∀ a b c, le a b → le b c → le a c) (has : ∀ a b, le a b → le b a → a = b) {l : List α} (hs : l.Pairwise le) : (Lib.compact l).Pairwise (fun a b => le a b ∧ a ≠ b) ∧ ∀ x, x ∈ Lib.compact l ↔ x ∈ l := by
  have hget : ∀ i, i < l.length → l.toArray[i]! = l.getD i default := fun i hi => by simp [hi]
  have := compactUpTo_spec hre htr has l.toArray (fun i j hij hj => by
    have hj' : j < l.length := by simpa using hj
    have hi' : i < l.length := by omega
    have := List.pairwise_iff_getElem.1 hs i j hi' hj' hij
    simpa [hi', hj'] using this) l.length (by simp)
  refine ⟨this.1, fun x => (this.2 x).trans ?_⟩
  constructor
  · rintro ⟨j, hj, rfl⟩;simp [hj]
  · intro hx;obtain ⟨j, hj, rfl⟩ := List.getElem_of_mem hx;exact ⟨j, hj, by simp [hj]⟩
end
theorem srtI_perm (l : List Int) : (Go.E.srtI l).Perm l := List.mergeSort_perm l _
theorem srtI_sorted (l : List Int) : (Go.E.srtI l).Pairwise (fun x y => x ≤ y) := by
  have := List.pairwise_mergeSort (le := fun x y : Int => decide (x ≤ y)) (fun a b c h1 h2 => by simp only [decide_eq_true_eq] at *; omega) (fun a b => by simpa using Int.le_total a b) l;exact this.imp fun h => by simpa using h
def setI (l : List Int) : List Int := Lib.compact (Go.E.srtI l)
theorem setI_spec (l : List Int) : (setI l).Pairwise (fun a b => a ≤ b ∧ a ≠ b) ∧ ∀ x, x ∈ setI l ↔ x ∈ l := by
  have := compact_spec (le := fun a b : Int => a ≤ b) Int.le_refl (fun _ _ _ => Int.le_trans) (fun _ _ => Int.le_antisymm) (srtI_sorted l);exact ⟨this.1, fun x => (this.2 x).trans (srtI_perm l).mem_iff⟩
theorem setI_eq {l m : List Int} (hm : m.Pairwise (fun a b => a ≤ b ∧ a ≠ b)) (h : ∀ x, x ∈ m ↔ x ∈ l) : setI l = m :=
  uniq_sorted (fun _ _ => Int.le_antisymm) (setI_spec l).1 hm fun x => ((setI_spec l).2 x).trans (h x).symm
end Go.L
end
section
namespace Go.L
section
variable {κ β : Type} [DecidableEq κ]
theorem mget_mput (d : β) (k k' : κ) (y : β) : ∀ M : List (κ × β), mget d k' (mput k y M) = if k' = k then y else mget d k' M
  | [] => by simp only [mput, mget]
  | (a, z) :: M => by
    unfold mput
    by_cases h : k = a
    · subst h;rw [if_pos rfl];unfold mget
      by_cases h2 : k' = k
      · rw [if_pos h2, if_pos h2]
      · rw [if_neg h2, if_neg h2]; rw [if_neg h2]
    · rw [if_neg h];unfold mget;rw [mget_mput d k k' y M]
      by_cases h2 : k' = a
      · rw [if_pos h2, if_neg (fun e => h (e.symm.trans h2)), if_pos h2]
      · rw [if_neg h2, if_neg h2]
theorem mput_mem {k : κ} (y : β) : ∀ {M : List (κ × β)}, k ∈ M.map Prod.fst → (mput k y M).map Prod.fst = M.map Prod.fst
  | [], h => by cases h
  | (a, z) :: M, h => by
    unfold mput
    by_cases hk : k = a
    · subst hk; rw [if_pos rfl]; rfl
    · rw [if_neg hk];simp only [List.map_cons, List.mem_cons] at h ⊢;rw [mput_mem y (h.resolve_left hk)]
theorem mput_new {k : κ} (y : β) : ∀ {M : List (κ × β)}, k ∉ M.map Prod.fst → mput k y M = M ++ [(k, y)]
  | [], _ => rfl
  | (a, z) :: M, h => by
    unfold mput;simp only [List.map_cons, List.mem_cons, not_or] at h;rw [if_neg h.1, mput_new y h.2]
    rfl
end
/-- An item of a leaf. -/
def addI (k : Lf) (i : Int) (M : List (Lf × List Int)) : List (Lf × List Int) := mput k (mget [] k M ++ [i]) M
def addL (k : Lf) (d : Int) (M : List (Lf × List Int)) (l : List Int) : List (Lf × List Int) := l.foldl (fun M z => addI k (z + d) M) M
end Go.L
namespace Go.Proofs.YtmfiaecglndldaaGreatDoor
open Go Go.L
/-- A good index. -/
structure GI (n : Int) (es : List En) : Prop where
  n0 : 0 ≤ n
  n64 : n ≤ 64
  ev : ∀ e ∈ es, EV n e
  sz : ∀ e ∈ es, EnS e
  len : es.length ≤ 1000000
  inc : es.Pairwise (fun a b => lfCmp a.1 b.1 < 0)
/-! ### build -/
/-- The entries of what was found. -/
def kIdx (M : List (Lf × List Int)) : List En := (srtL (M.map Prod.fst)).map fun k => (k, setI (mget [] k M))
def MS (M : List (Lf × List Int)) : Prop := M.length ≤ 1000000 ∧ ∀ k ∈ M.map Prod.fst, k.1.length ≤ 2000000 ∧ I64 k.2.1 ∧ I64 k.2.2.1 ∧ k.2.2.2.length ≤ 2000000 ∧ (mget [] k M).length ≤ 1000000 ∧ ∀ z ∈ mget [] k M, I64 z
theorem srtL_perm' (l : List Lf) : (srtL l).Perm l := List.mergeSort_perm l _
theorem setI_len (l : List Int) : (setI l).length ≤ l.length := Nat.le_trans (Go.E.compact_le _) (Nat.le_of_eq (srtI_perm l).length_eq)
theorem kIdx_S {M : List (Lf × List Int)} (h : MS M) : ∀ e ∈ kIdx M, EnS e := by
  intro e he;obtain ⟨k, hk, rfl⟩ := List.mem_map.1 he;obtain ⟨h1, h2, h3, h4, h5, h6⟩ := h.2 k ((srtL_perm' _).mem_iff.1 hk);exact ⟨h1, h2, h3, h4, fun z hz => h6 z (((setI_spec _).2 z).1 hz), Nat.le_trans (setI_len _) h5⟩
theorem kIdx_len (M : List (Lf × List Int)) : (kIdx M).length = M.length := by unfold kIdx; rw [List.length_map, srtL_length, List.length_map]
/-- What build answers. -/
def bres (n : Int) (M : List (Lf × List Int)) : (Int × List En) × (Int × Int) := if 16384 < (iform n (kIdx M)).length then ((0, []), (14, -1)) else ((n, kIdx M), (0, 0))
theorem build_eq {n : Int} {M : List (Lf × List Int)} (hn : I64 n) (h : MS M) : shapes_build n M = some (bres n M) := by
  unfold shapes_build sortedK;have hM := h.1;rw [chk_pos (by unfold Go.E.Cap; omega), Option.bind_some];unfold shapes_build_l2
  have hk1 : shapes_build_k1 n (kIdx M) = some (bres n M) := by
    unfold shapes_build_k1 shapes_fault bres;rw [bytes_eq hn (by rw [kIdx_len]; exact hM) (kIdx_S h), Option.bind_some]
    by_cases hc : 16384 < (iform n (kIdx M)).length
    · rw [if_pos (by omega), if_pos hc]; rfl
    · rw [if_neg (by omega), if_neg hc]
  have hkl : (srtL (M.map Prod.fst)).length = M.length := by rw [srtL_length, List.length_map]
  refine run_count (fun i => (((srtL (M.map Prod.fst)).take i).map (fun k => (k, setI (mget [] k M))), ((i : Nat) : Int))) (srtL (M.map Prod.fst)).length (fun i hi => ?_) ?_ 0 (Nat.zero_le _)
  · obtain ⟨h1, h2, h3, h4, h5, h6⟩ := h.2 _ ((srtL_perm' _).mem_iff.1 (getD_mem hi))
    have ht : ((srtL (M.map Prod.fst)).take (i + 1)).map (fun k => (k, setI (mget [] k M))) = ((srtL (M.map Prod.fst)).take i).map (fun k => (k, setI (mget [] k M))) ++ [((srtL (M.map Prod.fst)).getD i default, setI (mget [] ((srtL (M.map Prod.fst)).getD i default) M))] := by
      rw [List.take_add_one, List.getElem?_eq_getElem hi, Option.toList_some, List.map_append];simp [List.getD_eq_getElem?_getD, List.getElem?_eq_getElem hi]
    rw [ht];unfold shapes_build_bl2 slices_Clone_int_int;dsimp only;rw [if_pos (by omega), chk_pos (by omega), Int.toNat_natCast];generalize (srtL (M.map Prod.fst)).getD i default = k at *;have e5 : ((k.1, k.2.1, k.2.2.1, k.2.2.2) : Lf) = k := rfl;simp only [e5];rw [chk_pos (by unfold Go.E.Cap; simp only [List.length_nil]; show (0 + (mget [] k M).length) * 8 ≤ _ ∧ _; omega), Option.bind_some]
    show Go.L.chk (([] ++ mget [] k M).length < _) _ = _
    rw [List.nil_append, chk_pos (by omega), chk_pos (by rw [(srtI_perm _).length_eq]; omega), chk_pos (by unfold Go.E.Cap; simp only [List.length_map, List.length_take, List.length_cons, List.length_nil]; omega), chk_pos (by unfold I64; omega)]
    rfl
  · unfold shapes_build_bl2;dsimp only;rw [if_neg (by omega), List.take_length];exact congrArg (Option.map Sum.inr) hk1
/-! ### Merge -/
def addE (d : Int) (M : List (Lf × List Int)) (e : En) : List (Lf × List Int) := addL e.1 d M e.2
def Bd (N : Nat) (M : List (Lf × List Int)) : Prop := ∀ k, (mget [] k M).length ≤ N
/-- What two indexes have found. -/
def both (n1 : Int) (es1 es2 : List En) : List (Lf × List Int) := es2.foldl (addE n1) (es1.foldl (addE 0) [])
end Go.Proofs.YtmfiaecglndldaaGreatDoor
end
section
namespace Go.L
/-- Marks. -/
def Mk (L : List Bool) (n : Nat) (Q : Int → Prop) : Prop := L.length = n ∧ ∀ i : Nat, i < n → (L.getD i default = true ↔ Q i)
theorem Mk.set {L : List Bool} {n : Nat} {Q : Int → Prop} (h : Mk L n Q) {at' : Nat} (ha : at' < n) (c : Bool) : Mk (L.set at' (L.getD at' default || c)) n (fun z => Q z ∨ (c = true ∧ z = (at' : Int))) := by
  refine ⟨by rw [List.length_set]; exact h.1, fun i hi => ?_⟩;rw [List.getD_eq_getElem?_getD, List.getElem?_set]
  by_cases he : at' = i
  · subst he;rw [if_pos rfl, if_pos (by rw [h.1]; exact ha)];have := h.2 at' ha
    show (L.getD at' default || c) = true ↔ _
    rw [Bool.or_eq_true, this];exact ⟨fun h => h.imp id fun h => ⟨h, rfl⟩, fun h => h.imp id fun h => h.1⟩
  · rw [if_neg he, ← List.getD_eq_getElem?_getD, h.2 i hi];exact ⟨.inl, fun h => h.resolve_right fun h => he (by omega)⟩
/-- The items of the entries for which f holds. -/
def collected (f : (List UInt8 × Int × Int × List UInt8) × List Int → Bool) (es : List ((List UInt8 × Int × Int × List UInt8) × List Int)) : List Int := (es.filter f).flatMap (·.2)
theorem collected_mem {f : (List UInt8 × Int × Int × List UInt8) × List Int → Bool} {es : List ((List UInt8 × Int × Int × List UInt8) × List Int)} {z : Int} : z ∈ collected f es ↔ ∃ e ∈ es, f e = true ∧ z ∈ e.2 := by
  unfold collected;rw [List.mem_flatMap]
  constructor
  · rintro ⟨e, he, hz⟩;obtain ⟨h1, h2⟩ := List.mem_filter.1 he;exact ⟨e, h1, h2, hz⟩
  · rintro ⟨e, h1, h2, hz⟩;exact ⟨e, List.mem_filter.2 ⟨h1, h2⟩, hz⟩
theorem collected_take (f : (List UInt8 × Int × Int × List UInt8) × List Int → Bool) {es : List ((List UInt8 × Int × Int × List UInt8) × List Int)} {i : Nat} (h : i < es.length) : collected f (es.take (i + 1)) = collected f (es.take i) ++ if f (es.getD i default) then (es.getD i default).2 else [] := by
  unfold collected;rw [List.take_add_one, List.getElem?_eq_getElem h, List.filter_append, List.flatMap_append]
  congr 1
  have e : es.getD i default = es[i] := by simp [List.getD_eq_getElem?_getD, List.getElem?_eq_getElem h]
  rw [e];simp only [Option.toList_some, List.filter_cons, List.filter_nil]
  by_cases hf : f es[i] = true
  · simp [hf]
  · simp [hf]
theorem collected_len (f : (List UInt8 × Int × Int × List UInt8) × List Int → Bool) : ∀ {es : List ((List UInt8 × Int × Int × List UInt8) × List Int)}, (∀ e ∈ es, e.2.length ≤ 64) → (collected f es).length ≤ 64 * es.length
  | [], _ => by simp [collected]
  | e :: es, h => by
    have h1 := h e (.head _);have h2 := collected_len f (es := es) fun x hx => h x (.tail _ hx);unfold collected at h2 ⊢;rw [List.filter_cons]
    split
    · rw [List.flatMap_cons, List.length_append, List.length_cons]; omega
    · rw [List.length_cons]; omega
end Go.L
namespace Go.Proofs.YtmfiaecglndldaaGreatDoor
open Go Go.L
/-- What a pattern says of an entry. -/
def pmE (pat : List UInt8) (e : (List UInt8 × Int × Int × List UInt8) × List Int) : Bool := fits (col (sl pat)) (sl e.1.1)
def qmE (pat : List UInt8) (lo hi : Int) (e : (List UInt8 × Int × Int × List UInt8) × List Int) : Bool := pmE pat e && decide (e.1.2.1 = 1 ∧ lo ≤ e.1.2.2.1 ∧ e.1.2.2.1 ≤ hi)
theorem srtI_len (l : List Int) : (Go.E.srtI l).length = l.length := List.length_mergeSort _
theorem collect_eq {n : Int} {es : List En} {pat : List UInt8} (hp : pat.length < 900) (hl : es.length ≤ 1000000) (h64 : ∀ e ∈ es, e.2.length ≤ 64) (hpath : ∀ e ∈ es, e.1.1.length ≤ 330) : shapes_Index_collect (n, es) pat = some (setI (collected (pmE pat) es)) := by
  unfold shapes_Index_collect shapes_Index_collect_l2;refine run_count (fun i => (collected (pmE pat) (es.take i), ((i : Nat) : Int))) es.length (fun i hi => ?_) ?_ 0 (Nat.zero_le _)
  · have hlen := collected_len (pmE pat) (es := es.take i) fun e he => h64 e (List.mem_of_mem_take he);rw [List.length_take] at hlen;have h1 := h64 _ (getD_mem hi);have h2 := hpath _ (getD_mem hi);have hm : shapes_matches pat (es.getD i default).1.1 = some (pmE pat (es.getD i default)) := matches_eq hp (by omega);unfold shapes_Index_collect_bl2 shapes_Index_Find_1;dsimp only;rw [if_pos (by omega), chk_pos (by omega), Int.toNat_natCast, Option.bind_some, if_pos rfl, hm, Option.bind_some, collected_take _ hi]
    by_cases hf : pmE pat (es.getD i default) = true
    · rw [if_pos hf, if_pos hf, chk_pos (by unfold Go.E.Cap; omega), chk_pos (by unfold I64; omega)]
      rfl
    · rw [if_neg hf, if_neg hf, chk_pos (by unfold I64; omega), List.append_nil]
      rfl
  · have hlen := collected_len (pmE pat) h64;unfold shapes_Index_collect_bl2 shapes_Index_collect_k1;dsimp only;rw [if_neg (by omega), List.take_length, chk_pos (by omega), chk_pos (by rw [srtI_len]; omega)]
    rfl
theorem num1_eq (e : En) (lo hi : Int) : shapes_Index_Number_1 e lo hi = some (decide (e.1.2.1 = 1 ∧ lo ≤ e.1.2.2.1 ∧ e.1.2.2.1 ≤ hi), lo, hi) := by
  unfold shapes_Index_Number_1
  by_cases h1 : e.1.2.1 = 1
  · by_cases h2 : lo ≤ e.1.2.2.1
    · rw [if_pos h1, if_pos h2]; simp [h1, h2]
    · rw [if_pos h1, if_neg h2]; simp [h1, h2]
  · rw [if_neg h1]; simp [h1]
theorem collect2_eq {n : Int} {es : List En} {pat : List UInt8} {lo hi : Int} (hp : pat.length < 900) (hl : es.length ≤ 1000000) (h64 : ∀ e ∈ es, e.2.length ≤ 64) (hpath : ∀ e ∈ es, e.1.1.length ≤ 330) : shapes_Index_collect_s2 (n, es) pat lo hi = some (setI (collected (qmE pat lo hi) es), lo, hi) := by
  unfold shapes_Index_collect_s2 shapes_Index_collect_s2_l2;refine run_count (fun i => (collected (qmE pat lo hi) (es.take i), lo, hi, ((i : Nat) : Int))) es.length (fun i hi' => ?_) ?_ 0 (Nat.zero_le _)
  · have hlen := collected_len (qmE pat lo hi) (es := es.take i) fun e he => h64 e (List.mem_of_mem_take he);rw [List.length_take] at hlen;have h1 := h64 _ (getD_mem hi');have h2 := hpath _ (getD_mem hi');have hm : shapes_matches pat (es.getD i default).1.1 = some (pmE pat (es.getD i default)) := matches_eq hp (by omega);have hn : shapes_Index_Number_1 (((es.getD i default).1.1, (es.getD i default).1.2.1, (es.getD i default).1.2.2.1, (es.getD i default).1.2.2.2), (es.getD i default).2) lo hi = _ := num1_eq (es.getD i default) lo hi;unfold shapes_Index_collect_s2_bl2;dsimp only;rw [if_pos (by omega), chk_pos (by omega), Int.toNat_natCast, hn, Option.bind_some, collected_take _ hi'];have hqe : qmE pat lo hi (es.getD i default) = (pmE pat (es.getD i default) && decide ((es.getD i default).1.2.1 = 1 ∧ lo ≤ (es.getD i default).1.2.2.1 ∧ (es.getD i default).1.2.2.1 ≤ hi)) := rfl;rw [hqe]
    by_cases hq : (es.getD i default).1.2.1 = 1 ∧ lo ≤ (es.getD i default).1.2.2.1 ∧ (es.getD i default).1.2.2.1 ≤ hi
    · rw [decide_eq_true hq, if_pos rfl, hm, Option.bind_some, Bool.and_true]
      by_cases hf : pmE pat (es.getD i default) = true
      · rw [if_pos hf, if_pos hf, chk_pos (by unfold Go.E.Cap; omega), chk_pos (by unfold I64; omega)]
        rfl
      · rw [if_neg hf, if_neg hf, chk_pos (by unfold I64; omega), List.append_nil]
        rfl
    · rw [decide_eq_false hq, Bool.and_false, if_neg Bool.false_ne_true, if_neg Bool.false_ne_true, chk_pos (by unfold I64; omega), List.append_nil]
      rfl
  · have hlen := collected_len (qmE pat lo hi) h64;unfold shapes_Index_collect_s2_bl2 shapes_Index_collect_s2_k1;dsimp only;rw [if_neg (by omega), List.take_length, chk_pos (by omega), chk_pos (by rw [srtI_len]; omega)]
    rfl
theorem find_eq {n : Int} {es : List En} {pat : List UInt8} (hp : (pf pat).1 = 0) (hl : es.length ≤ 1000000) (h64 : ∀ e ∈ es, e.2.length ≤ 64) (hpath : ∀ e ∈ es, e.1.1.length ≤ 330) : shapes_Index_Find (n, es) pat = some (setI (collected (pmE pat) es), (0, 0)) := by
  obtain ⟨h1, h2⟩ := pf_zero pat hp;unfold shapes_Index_Find;rw [check_eq, Option.bind_some, h1, if_pos ⟨rfl, rfl⟩, collect_eq (by omega) hl h64 hpath]
  rfl
theorem numb_eq {n : Int} {es : List En} {pat : List UInt8} {lo hi : Int} (hp : (pf pat).1 = 0) (hlo : ¬ hi < lo) (hl : es.length ≤ 1000000) (h64 : ∀ e ∈ es, e.2.length ≤ 64) (hpath : ∀ e ∈ es, e.1.1.length ≤ 330) : shapes_Index_Number (n, es) pat lo hi = some (setI (collected (qmE pat lo hi) es), (0, 0)) := by
  obtain ⟨h1, h2⟩ := pf_zero pat hp;unfold shapes_Index_Number;rw [check_eq, Option.bind_some, h1, if_pos ⟨rfl, rfl⟩, if_neg hlo, collect2_eq (by omega) hl h64 hpath]
  rfl
end Go.Proofs.YtmfiaecglndldaaGreatDoor
end
section
namespace Go.L
/-- Steps with slashes between them. -/
def jn : List (List UInt8) → List UInt8
  | [] => []
  | x :: l => if l = [] then x else x ++ 47 :: jn l
theorem jn_snoc : ∀ (l : List (List UInt8)) (x : List UInt8), jn (l ++ [x]) = if l = [] then x else jn l ++ 47 :: x
  | [], x => by simp [jn]
  | y :: l, x => by
    have ih := jn_snoc l x;simp only [List.cons_append, jn, List.append_eq_nil_iff, List.cons_ne_nil, and_false, if_false, reduceCtorEq];rw [ih]
    by_cases h : l = []
    · subst h; simp
    · simp [h]
theorem jn_len : ∀ {l : List (List UInt8)}, l ≠ [] → (jn l).length + 1 = tot l
  | x :: l, _ => by
    unfold jn tot
    by_cases h : l = []
    · subst h; simp [tot]
    · have := jn_len h;rw [if_neg h, List.length_append, List.length_cons];omega
theorem pcs_slash : ∀ (x cur s : List UInt8), 47 ∉ x → pcs cur (x ++ 47 :: s) = (cur ++ x) :: pcs [] s
  | [], cur, s, _ => by simp [pcs]
  | c :: x, cur, s, h => by
    have hc : c ≠ 47 := fun e => h (by rw [e]; exact .head _);simp only [List.cons_append, pcs, if_neg hc];rw [pcs_slash x (cur ++ [c]) s (fun hh => h (.tail _ hh))];simp
theorem pcs_last : ∀ (x cur : List UInt8), 47 ∉ x → pcs cur x = [cur ++ x]
  | [], cur, _ => by simp [pcs]
  | c :: x, cur, h => by
    have hc : c ≠ 47 := fun e => h (by rw [e]; exact .head _);simp only [pcs, if_neg hc];rw [pcs_last x (cur ++ [c]) (fun hh => h (.tail _ hh))];simp
theorem pcs_jn : ∀ {l : List (List UInt8)}, l ≠ [] → (∀ x ∈ l, 47 ∉ x) → pcs [] (jn l) = l
  | x :: l, _, h => by
    unfold jn
    by_cases hl : l = []
    · subst hl;rw [if_pos rfl, pcs_last x [] (h x (.head _))]; simp
    · rw [if_neg hl, pcs_slash x [] _ (h x (.head _)), pcs_jn hl (fun y hy => h y (.tail _ hy))]; simp
theorem sl_jn {l : List (List UInt8)} (hne : ∀ x ∈ l, x ≠ []) (h : ∀ x ∈ l, 47 ∉ x) : sl (jn l) = l := by
  unfold sl
  cases l with
  | nil => simp [jn]
  | cons x l =>
    have : jn (x :: l) ≠ [] := by
      unfold jn;have := hne x (.head _)
      split
      · exact this
      · simp
    rw [if_neg this, pcs_jn (by simp) h]
/-- A step of a path. -/
def stp (x : List UInt8) : Bool := nok x || decide (x = [35])
theorem stp_ne {x : List UInt8} (h : stp x = true) : x ≠ [] ∧ 47 ∉ x ∧ x ≠ [42] ∧ x ≠ [42, 42] := by
  unfold stp at h;rw [Bool.or_eq_true, decide_eq_true_eq] at h
  rcases h with h | rfl
  · unfold nok at h;rw [Bool.and_eq_true, decide_eq_true_eq] at h;obtain ⟨h1, h2⟩ := h;have hall := List.all_eq_true.1 h2;refine ⟨fun e => by subst e; simp at h1, fun hh => ?_, fun e => by subst e; simp at h1, fun e => by subst e; simp at h1⟩;have := hall 47 hh
    revert this; decide
  · decide
theorem wr_ok {w : Bool} {l : List (List UInt8)} : ∀ {a : Int}, (∀ x ∈ l, (stp x || (w && (decide (x = [42]) || decide (x = [42, 42])))) = true) → wr w a l = -1 := by
  induction l with
  | nil => intro a _; rfl
  | cons y l ih =>
    intro a h;unfold wr;have := h y (.head _);unfold stp at this;rw [if_pos this];exact ih (fun x hx => h x (.tail _ hx))
end Go.L
end
section
namespace Go.L
theorem sum_drop {α : Type} [Inhabited α] (f : α → Nat) {l : List α} {i : Nat} (h : i < l.length) : ((l.drop i).map f).sum = f (l.getD i default) + ((l.drop (i + 1)).map f).sum := by rw [drop_cons h]; simp
end Go.L
namespace Go.Proofs.YtmfiaecglndldaaGreatDoor
open Go Go.L
theorem chk_loop {d : Nat} {v : Pv} {a2 : Int} {self : Pv → Int → Int → Option (Int × (Int × Int))} (hlen : v.f.2.2.2.2.length ≤ 1000) (ha : I64 (a2 + 1))
    (hs : ∀ p ∈ v.f.2.2.2.2, ∀ m : Int, 0 ≤ m → ∃ r, self p m (a2 + 1) = some r ∧ ((r.2 = (0, 0) ∧ Vd d p ∧ r.1 = m + (nodes d p : Nat) ∧ r.1 ≤ 600) ∨ r.2.1 ≠ 0)) :
    ∀ (k i : Nat) (m : Int), i + k = v.f.2.2.2.2.length → 0 ≤ m → m ≤ 600 → ∃ r, Go.L.run (value_check_body_bl2 v a2 self) (m, (i : Int)) = some r ∧ ((r.2 = (0, 0) ∧ (∀ p ∈ v.f.2.2.2.2.drop i, Vd d p) ∧ r.1 = m + (((v.f.2.2.2.2.drop i).map (nodes d)).sum : Nat) ∧ r.1 ≤ 600) ∨ r.2.1 ≠ 0)
  | 0, i, m, hi, h0, h6 => by
    refine ⟨(m, 0, 0), run_inr (m := some (m, 0, 0)) ?_, .inl ⟨rfl, ?_⟩⟩
    · unfold value_check_body_bl2 value_check_body_k1;dsimp only;rw [if_neg (by omega)]
    · rw [List.drop_eq_nil_of_le (by omega)];exact ⟨by simp, by simp, h6⟩
  | k + 1, i, m, hi, h0, h6 => by
    have hil : i < v.f.2.2.2.2.length := by omega
    obtain ⟨r, h1, h2⟩ := hs _ (getD_mem hil) m h0
    rcases h2 with ⟨hr, g1, g2, g3⟩ | hr
    · have hb : value_check_body_bl2 v a2 self (m, (i : Int)) = some (.inl (r.1, ((i + 1 : Nat) : Int))) := by
        unfold value_check_body_bl2;dsimp only;rw [if_pos (by omega), chk_pos (by omega), chk_pos ha, Int.toNat_natCast, h1, Option.bind_some, if_pos (by rw [hr]; exact ⟨rfl, rfl⟩), chk_pos (by unfold I64; omega)]
        rfl
      obtain ⟨q, k1, k2⟩ := chk_loop hlen ha hs k (i + 1) r.1 (by omega) (by omega) g3;refine ⟨q, by rw [run_inl hb, k1], ?_⟩
      rcases k2 with ⟨hq, l1, l2, l3⟩ | hq
      rotate_left
      · exact .inr hq
      rw [drop_cons hil];refine .inl ⟨hq, fun p hp => ?_, ?_, l3⟩
      · rcases List.mem_cons.1 hp with rfl | hp
        · exact g1
        · exact l1 p hp
      · rw [List.map_cons, List.sum_cons, l2, g2]; omega
    · refine ⟨(0, r.2.1, r.2.2), run_inr (m := some (0, r.2.1, r.2.2)) ?_, .inr hr⟩;unfold value_check_body_bl2;dsimp only;rw [if_pos (by omega), chk_pos (by omega), chk_pos ha, Int.toNat_natCast, h1, Option.bind_some, if_neg (fun hh => hr hh.1)]
theorem chk_ex {B : Nat} (hB : B ≤ 100000000000) : ∀ (d n : Nat) (v : Pv) (m : Int), d < n → Sm B d v → d ≤ 10 → 0 ≤ m → ∃ r, value_check_n n v m (11 - (d : Int)) = some r ∧ ((r.2 = (0, 0) ∧ Vd d v ∧ r.1 = m + (nodes d v : Nat) ∧ r.1 ≤ 600) ∨ r.2.1 ≠ 0)
  | _, 0, _, _, h, _, _, _ => absurd h (by omega)
  | 0, n + 1, v, m, _, _, _, _ => by
    refine ⟨(0, 2, m), ?_, .inr (by simp)⟩
    show value_check_body (value_check_n n) v m _ = _
    unfold value_check_body;rw [if_pos (by right; omega)]
    rfl
  | d + 1, n + 1, v, m, hn, hs, hd, hm => by
    obtain ⟨s1, s2, s3, s4, s5, s6, s7⟩ := hs
    show ∃ r, value_check_body (value_check_n n) v m _ = some r ∧ _
    unfold value_check_body
    by_cases h1 : (600 : Int) ≤ m
    · rw [if_pos (.inl h1)];exact ⟨(0, 2, m), rfl, .inr (by simp)⟩
    · rw [if_neg (by omega)];obtain ⟨c, h2, h3⟩ := checkNode_ex v (by omega);rw [h2, Option.bind_some]
      by_cases hc : c = 0
      · rw [if_pos hc, chk_pos (by unfold I64; omega)];have hok := h3 hc
        obtain ⟨r, k1, k2⟩ := chk_loop (d := d) (v := v) (a2 := 11 - ((d + 1 : Nat) : Int)) (self := value_check_n n) (by have := hok.many; omega) (by unfold I64; omega)
          (fun p hp q hq => by
            have := chk_ex hB d n p q (by omega) (s7 p hp) (by omega) hq
            rwa [show (11 : Int) - ((d + 1 : Nat) : Int) + 1 = 11 - (d : Int) by omega]) v.f.2.2.2.2.length 0 (m + 1) (by omega) (by omega) (by omega)
        refine ⟨r, k1, ?_⟩
        rcases k2 with ⟨hr, l1, l2, l3⟩ | hr
        rotate_left
        · exact .inr hr
        rw [List.drop_zero] at l1 l2;refine .inl ⟨hr, ⟨hok, l1⟩, ?_, l3⟩;rw [l2];unfold nodes;omega
      · rw [if_neg hc];exact ⟨(0, c, m), rfl, .inr hc⟩
/-! ### Encoding -/
theorem chunk_ex {B : Nat} (hB : B ≤ 100000000000) {b : List UInt8} (h : b.length ≤ B) : wire_Chunk b = some (vint (zz (b.length : Int)) ++ b) := by
  unfold wire_Chunk;have := vint_len (zz (b.length : Int));rw [number_eq (by unfold I64; omega), Option.bind_some, chk_pos (by unfold Go.E.Cap; omega)]
theorem enc_loop {B d : Nat} (hB : B ≤ 100000000000) {v : Pv} {self : Pv → Option (List UInt8)} (hlen : v.f.2.2.2.2.length ≤ 600) (hsame : v.f.1 = 4 → v.f.2.2.2.1.length = v.f.2.2.2.2.length) (hnm : ∀ x ∈ v.f.2.2.2.1, x.length ≤ 32)
    (hnod : ((v.f.2.2.2.2).map (nodes d)).sum ≤ 600)
    (hs : ∀ p ∈ v.f.2.2.2.2, ∃ b, self p = some b ∧ b.length + 42 ≤ nodes d p * (B + 100)) :
    ∀ (k i : Nat) (L : List UInt8) (C : Nat), i + k = v.f.2.2.2.2.length → C ≤ 700 → L.length + 42 + (((v.f.2.2.2.2.drop i).map (nodes d)).sum) * (B + 100) ≤ C * (B + 100) → ∃ b, Go.L.run (value_encode_body_bl2 v self) (L, (i : Int)) = some b ∧ b.length + 42 ≤ C * (B + 100)
  | 0, i, L, C, hi, hC, hL => by
    refine ⟨L, run_inr (m := some L) ?_, by omega⟩;unfold value_encode_body_bl2 value_encode_body_k1;dsimp only;rw [if_neg (by omega)]
  | k + 1, i, L, C, hi, hC, hL => by
    have hil : i < v.f.2.2.2.2.length := by omega
    obtain ⟨b, h1, h2⟩ := hs _ (getD_mem hil);rw [sum_drop _ hil, Nat.add_mul] at hL;have hCB : C * (B + 100) ≤ 700 * (100000000000 + 100) := Nat.mul_le_mul hC (by omega)
    have hk3 : ∀ M : List UInt8, M.length + b.length + 42 + ((v.f.2.2.2.2.drop (i + 1)).map (nodes d)).sum * (B + 100) ≤ C * (B + 100) → value_encode_body_k3 v (i : Int) self M = some (.inl (M ++ b, ((i + 1 : Nat) : Int))) := by
      intro M hM;unfold value_encode_body_k3;rw [Int.toNat_natCast, h1, Option.bind_some, chk_pos (by unfold Go.E.Cap; omega), chk_pos (by unfold I64; omega)]
      rfl
    by_cases h4 : v.f.1 = 4
    · have hin : i < v.f.2.2.2.1.length := by rw [hsame h4]; exact hil
      have hx := hnm _ (getD_mem hin);have hv := vint_len (zz ((v.f.2.2.2.1.getD i default).length : Int))
      have hb : value_encode_body_bl2 v self (L, (i : Int)) = some (.inl ((L ++ (vint (zz ((v.f.2.2.2.1.getD i default).length : Int)) ++ v.f.2.2.2.1.getD i default)) ++ b, ((i + 1 : Nat) : Int))) := by
        unfold value_encode_body_bl2;dsimp only;rw [if_pos (by omega), chk_pos (by omega), if_pos h4, chk_pos (by omega), Int.toNat_natCast, chk_pos (by omega), chunk_ex (B := 32) (by decide) hx, Option.bind_some, chk_pos (by unfold Go.E.Cap; simp only [List.length_append]; omega)];exact hk3 _ (by simp only [List.length_append]; omega)
      obtain ⟨q, k1, k2⟩ := enc_loop hB hlen hsame hnm hnod hs k (i + 1) _ C (by omega) hC (show ((L ++ (vint (zz ((v.f.2.2.2.1.getD i default).length : Int)) ++ v.f.2.2.2.1.getD i default)) ++ b).length + 42 + _ ≤ _ by simp only [List.length_append]; omega);exact ⟨q, by rw [run_inl hb, k1], k2⟩
    · have hb : value_encode_body_bl2 v self (L, (i : Int)) = some (.inl (L ++ b, ((i + 1 : Nat) : Int))) := by
        unfold value_encode_body_bl2;dsimp only;rw [if_pos (by omega), chk_pos (by omega), if_neg h4];exact hk3 _ (by omega)
      obtain ⟨q, k1, k2⟩ := enc_loop hB hlen hsame hnm hnod hs k (i + 1) _ C (by omega) hC (show (L ++ b).length + 42 + _ ≤ _ by simp only [List.length_append]; omega);exact ⟨q, by rw [run_inl hb, k1], k2⟩
theorem nok_len {x : List UInt8} (h : nok x = true) : x.length ≤ 32 := by
  unfold nok at h;rw [Bool.and_eq_true, decide_eq_true_eq] at h;omega
theorem nodes_mem {d : Nat} {l : List Pv} {p : Pv} (h : p ∈ l) : nodes d p ≤ (l.map (nodes d)).sum := by
  induction l with
  | nil => cases h
  | cons a l ih =>
    rw [List.map_cons, List.sum_cons]
    rcases List.mem_cons.1 h with rfl | h
    · omega
    · have := ih h; omega
theorem enc_ex {B : Nat} (hB : B ≤ 100000000000) : ∀ (d n : Nat) (v : Pv), d ≤ n → Sm B d v → Vd d v → nodes d v ≤ 600 → ∃ b, value_encode_n n v = some b ∧ b.length + 42 ≤ nodes d v * (B + 100)
  | 0, _, _, _, _, h, _ => h.elim
  | d + 1, 0, _, h, _, _, _ => absurd h (by omega)
  | d + 1, n + 1, v, hn, hs, hv, hnod => by
    obtain ⟨s1, s2, s3, s4, s5, s6, s7⟩ := hs;obtain ⟨hok, hvp⟩ := hv;unfold nodes at hnod
    show ∃ b, value_encode_body (value_encode_n n) v = some b ∧ _
    unfold value_encode_body;have l1 := vint_len (zz v.f.1);have l2 := vint_len (zz v.f.2.1);have l3 := vint_len (zz (v.f.2.2.1.length : Int));have l4 := vint_len (zz (v.f.2.2.2.2.length : Int));have hN : 1 * (B + 100) ≤ nodes (d + 1) v * (B + 100) := Nat.mul_le_mul_right _ (by unfold nodes; omega);rw [number_eq s5, Option.bind_some]
    by_cases k1 : v.f.1 = 1
    · rw [if_pos k1, number_eq s6, Option.bind_some, chk_pos (by unfold Go.E.Cap; omega)];exact ⟨_, rfl, by simp only [List.length_append]; omega⟩
    · rw [if_neg k1]
      by_cases k2 : v.f.1 = 2
      · rw [if_pos k2, chunk_ex hB s1, Option.bind_some, chk_pos (by unfold Go.E.Cap; simp only [List.length_append]; omega)];exact ⟨_, rfl, by simp only [List.length_append]; omega⟩
      · have hmany := hok.many;rw [if_neg k2, number_eq (by unfold I64; omega), Option.bind_some, chk_pos (by unfold Go.E.Cap; omega)]
        obtain ⟨b, h1, h2⟩ := enc_loop (d := d) hB (v := v) (self := value_encode_n n) hok.many hok.same (fun x hx => nok_len (hok.nok x hx)) (by omega)
          (fun p hp => enc_ex hB d n p (by omega) (s7 p hp) (hvp p hp) (by have := nodes_mem (d := d) hp; omega)) v.f.2.2.2.2.length 0 (vint (zz v.f.1) ++ vint (zz (v.f.2.2.2.2.length : Int))) ((v.f.2.2.2.2.map (nodes d)).sum + 1) (by omega) (by omega)
          (by rw [List.drop_zero, Nat.add_mul]; simp only [List.length_append]; omega)
        refine ⟨b, h1, ?_⟩;unfold nodes
        rwa [Nat.add_comm 1]
theorem validate_ex {B : Nat} (hB : B ≤ 100000000000) {v : Pv} (hs : Sm B 10 v) : ∃ f, value_Validate v = some f ∧ ((f = (0, 0) ∧ Vd 10 v ∧ nodes 10 v ≤ 600) ∨ f.1 ≠ 0) := by
  obtain ⟨r, h1, h2⟩ := chk_ex hB 10 1000 v 0 (by omega) hs (by omega) (Int.le_refl _);have h1' : value_check v 0 1 = some r := h1;unfold value_Validate value_Encode;rw [h1', Option.bind_some]
  rcases h2 with ⟨hr, k1, k2, k3⟩ | hr
  · rw [if_pos (by rw [hr]; exact ⟨rfl, rfl⟩)];obtain ⟨b, h3, h4⟩ := enc_ex hB 10 1000 v (by omega) hs k1 (by omega);have h3' : value_encode v = some b := h3;rw [h3', Option.bind_some]
    by_cases h5 : (4000 : Int) < (b.length : Int)
    · rw [if_pos h5];exact ⟨(14, -1), rfl, .inr (by simp)⟩
    · rw [if_neg h5];exact ⟨(0, 0), rfl, .inl ⟨rfl, k1, by omega⟩⟩
  · rw [if_neg (fun h => hr h.1)];exact ⟨r.2, rfl, .inr hr⟩
end Go.Proofs.YtmfiaecglndldaaGreatDoor
end
section
namespace Go.L
/-- A list, taken element by element. -/
def foldO {σ α : Type} (step : σ → α → Option σ) : σ → List α → Option σ
  | s, [] => some s
  | s, x :: l => (step s x).bind fun s' => foldO step s' l
theorem foldO_append {σ α : Type} {step : σ → α → Option σ} : ∀ (l m : List α) (s : σ), foldO step s (l ++ m) = (foldO step s l).bind fun s' => foldO step s' m
  | [], _, _ => rfl
  | x :: l, m, s => by
    simp only [List.cons_append, foldO]
    cases step s x with
    | none => rfl
    | some s' => exact foldO_append l m s'
/-- The step to a part. -/
def cst (v : Pv) (i : Nat) : List UInt8 := if v.f.1 = 4 then v.f.2.2.2.1.getD i default else [35]
/-- The leaves of a value on a path. -/
def lvs : Nat → Pv → List (List UInt8) → List Lf
  | 0, _, _ => []
  | d + 1, v, p => (jn p, v.f.1, v.f.2.1, v.f.2.2.1) :: (List.range' 0 v.f.2.2.2.2.length).flatMap fun i => lvs d (v.f.2.2.2.2.getD i default) (p ++ [cst v i])
theorem map_getD {α : Type} [Inhabited α] (l : List α) : (List.range' 0 l.length).map (fun i => l.getD i default) = l := by
  rw [← List.range_eq_range'];apply List.ext_getElem
  · simp
  · intro i h1 h2;simp [List.getD_eq_getElem?_getD, h2]
theorem lvs_len : ∀ (d : Nat) (v : Pv) (p : List (List UInt8)), (lvs d v p).length = nodes d v
  | 0, _, _ => rfl
  | d + 1, v, p => by
    unfold lvs nodes;rw [List.length_cons, List.length_flatMap, Nat.add_comm]
    congr 2
    conv => rhs; rw [← map_getD v.f.2.2.2.2]
    rw [List.map_map];apply List.map_congr_left;intro i _;exact lvs_len d _ _
theorem join_jn : ∀ p : List (List UInt8), Lib.join p [47] = jn p
  | [] => rfl
  | x :: l => by
    have key : ∀ (l : List (List UInt8)) (x : List UInt8), jn (x :: l) = x ++ Lib.joinTail [47] l := by
      intro l
      induction l with
      | nil => intro x; simp [jn, Lib.joinTail]
      | cons y l ih =>
        intro x;unfold jn;rw [if_neg (by simp), ih y];simp [Lib.joinTail]
    rw [Lib.join_cons, key]
/-- A path of a valid value. -/
def POk (p : List (List UInt8)) : Prop := ∀ x ∈ p, stp x = true
theorem stp_len {x : List UInt8} (h : stp x = true) : x.length ≤ 32 := by
  unfold stp at h;rw [Bool.or_eq_true, decide_eq_true_eq] at h
  rcases h with h | rfl
  · unfold nok at h; rw [Bool.and_eq_true, decide_eq_true_eq] at h; omega
  · decide
theorem POk.tot {p : List (List UInt8)} (h : POk p) : tot p ≤ 33 * p.length := by
  induction p with
  | nil => simp [Go.L.tot]
  | cons x p ih =>
    have := stp_len (h x (.head _));have := ih fun y hy => h y (.tail _ hy);unfold Go.L.tot;simp only [List.length_cons];omega
theorem POk.jn_len {p : List (List UInt8)} (h : POk p) : (jn p).length ≤ 33 * p.length := by
  by_cases h0 : p = []
  · subst h0; simp [jn]
  · have := Go.L.jn_len h0;have := h.tot;omega
theorem POk.snoc {p : List (List UInt8)} (h : POk p) {x : List UInt8} (hx : stp x = true) : POk (p ++ [x]) := fun y hy => by
  rcases List.mem_append.1 hy with hy | hy
  · exact h y hy
  · rw [List.mem_singleton] at hy; subst hy; exact hx
theorem cst_ok {v : Pv} (h : NodeOk v) {i : Nat} (hi : i < v.f.2.2.2.2.length) : stp (cst v i) = true := by
  unfold cst
  by_cases h4 : v.f.1 = 4
  · rw [if_pos h4];have := h.nok _ (getD_mem (by rw [h.same h4]; exact hi));unfold stp;rw [this]; rfl
  · rw [if_neg h4]; decide
theorem POk.nil {p : List (List UInt8)} (h : POk p) : jn p = [] ↔ p = [] := by
  constructor
  · intro hj
    cases p with
    | nil => rfl
    | cons x p =>
      have := (stp_ne (h x (.head _))).1;unfold jn at hj
      split at hj
      · exact absurd hj this
      · simp at hj
  · rintro rfl; rfl
end Go.L
namespace Go.Proofs.YtmfiaecglndldaaGreatDoor
open Go Go.L
section
variable {σ : Type} {step : σ → Lf → Option σ}
theorem lv_loop {v : Pv} {p : List (List UInt8)} {self : Pv → List (List UInt8) → σ → Option σ} {d : Nat} (hv : NodeOk v) (hp : p.length ≤ 20) (hs : ∀ i s, i < v.f.2.2.2.2.length → self (v.f.2.2.2.2.getD i default) (p ++ [cst v i]) s = foldO step s (lvs d (v.f.2.2.2.2.getD i default) (p ++ [cst v i]))) :
    ∀ (k i : Nat) (s : σ), i + k = v.f.2.2.2.2.length → Go.L.run (shapes_leaves_body_bl1 v p self) ((i : Int), s) = foldO step s ((List.range' i k).flatMap fun i => lvs d (v.f.2.2.2.2.getD i default) (p ++ [cst v i]))
  | 0, i, s, hi => by
    refine run_inr (m := some s) ?_;unfold shapes_leaves_body_bl1;dsimp only;rw [if_neg (by omega)]
  | k + 1, i, s, hi => by
    have hil : i < v.f.2.2.2.2.length := by omega
    have hmany := hv.many;rw [List.range'_succ, List.flatMap_cons, foldO_append, ← hs i s hil]
    have hk : ∀ x, x = cst v i → shapes_leaves_body_k2 v p (i : Int) self x s = (self (v.f.2.2.2.2.getD i default) (p ++ [cst v i]) s).bind fun s' => some (.inl (((i + 1 : Nat) : Int), s')) := by
      rintro x rfl;unfold shapes_leaves_body_k2 slices_Clone_string_string;rw [chk_pos (by unfold Go.E.Cap; simp; omega), Option.bind_some, chk_pos (by unfold Go.E.Cap; simp; omega), Int.toNat_natCast, List.nil_append];refine congrArg (Option.bind _) (funext fun x => ?_);rw [chk_pos (by unfold I64; omega)]
      rfl
    have hb : shapes_leaves_body_bl1 v p self ((i : Int), s) = (self (v.f.2.2.2.2.getD i default) (p ++ [cst v i]) s).bind fun s' => some (.inl (((i + 1 : Nat) : Int), s')) := by
      unfold shapes_leaves_body_bl1;dsimp only;rw [if_pos (by omega), chk_pos (by omega)]
      by_cases h4 : v.f.1 = 4
      · have := hv.same h4;rw [if_pos h4, chk_pos (by omega), Int.toNat_natCast];exact hk _ (by unfold cst; rw [if_pos h4])
      · rw [if_neg h4];exact hk _ (by unfold cst; rw [if_neg h4])
    cases hc : self (v.f.2.2.2.2.getD i default) (p ++ [cst v i]) s with
    | none =>
      rw [hc] at hb;exact run_inr (m := none) hb
    | some s' =>
      rw [hc] at hb;rw [run_inl hb];exact lv_loop hv hp hs k (i + 1) s' (by omega)
theorem lv_n : ∀ (d n : Nat) (v : Pv) (p : List (List UInt8)) (s : σ), d ≤ n → Vd d v → POk p → p.length + d ≤ 20 → shapes_leaves_n step n v p s = foldO step s (lvs d v p)
  | 0, _, _, _, _, _, h, _, _ => h.elim
  | d + 1, 0, _, _, _, h, _, _, _ => absurd h (by omega)
  | d + 1, n + 1, v, p, s, hn, hv, hp, hl => by
    obtain ⟨hok, hvp⟩ := hv
    show shapes_leaves_body step (shapes_leaves_n step n) v p s = _
    unfold shapes_leaves_body joinL lvs;have := hp.jn_len;rw [join_jn, chk_pos (by omega), Option.bind_some]
    show (step s (jn p, v.f.1, v.f.2.1, v.f.2.2.1)).bind _ = (step s (jn p, v.f.1, v.f.2.1, v.f.2.2.1)).bind _
    congr 1
    funext s'
    exact lv_loop hok (by omega) (fun i s hi => lv_n d n _ _ s (by omega) (hvp _ (getD_mem hi)) (hp.snoc (cst_ok hok hi)) (by simp; omega)) v.f.2.2.2.2.length 0 s' (by omega)
theorem leaves_eq {v : Pv} (hv : Vd 10 v) (s : σ) : shapes_leaves step v [] s = foldO step s (lvs 10 v []) := lv_n 10 1000 v [] s (by omega) hv (fun x hx => by cases hx) (by simp)
end
end Go.Proofs.YtmfiaecglndldaaGreatDoor
end
section
namespace Go.Proofs.YtmfiaecglndldaaGreatDoor
open Go Go.E Go.RowKit
set_option maxHeartbeats 1000000
set_option maxRecDepth 10000
open _root_.Go.Proofs.Tryz
noncomputable def ref4_Leaves_body_k4 (a0 : Go.L.Pv) (l84 : List ((List UInt8) × Int × Int × (List UInt8))) (s6_85 : Int) (self : Go.L.Pv → (List UInt8) → Option ((List ((List UInt8) × Int × Int × (List UInt8))))) (s7_111 : List UInt8) : Option (((List ((List UInt8) × Int × Int × (List UInt8))) × Int) ⊕ ((List ((List UInt8) × Int × Int × (List UInt8))))) :=
 Go.L.chk (0 ≤ s6_85 ∧ s6_85 < (a0.f.2.2.2.2.length : Int)) (Option.bind (self (a0.f.2.2.2.2.getD s6_85.toNat default) s7_111) (fun x122 => Go.L.chk (Go.E.Cap 48 (l84.length + x122.length)) (Go.L.chk (Go.L.I64 (s6_85 + (1 : Int))) (some (Sum.inl ((l84 ++ x122), (s6_85 + (1 : Int))))))))
noncomputable def ref4_Leaves_body_k3 (a0 : Go.L.Pv) (a1 : List UInt8) (l84 : List ((List UInt8) × Int × Int × (List UInt8))) (s6_85 : Int) (self : Go.L.Pv → (List UInt8) → Option ((List ((List UInt8) × Int × Int × (List UInt8))))) (s7_96 : List UInt8) : Option (((List ((List UInt8) × Int × Int × (List UInt8))) × Int) ⊕ ((List ((List UInt8) × Int × Int × (List UInt8))))) :=
 if a1 = ([] : List UInt8) then (ref4_Leaves_body_k4 a0 l84 s6_85 self) s7_96 else Go.L.chk (a1.length + ([47] : List UInt8).length ≤ 9223372036854775807) (Go.L.chk ((a1 ++ ([47] : List UInt8)).length + s7_96.length ≤ 9223372036854775807) ((ref4_Leaves_body_k4 a0 l84 s6_85 self) ((a1 ++ ([47] : List UInt8)) ++ s7_96)))
noncomputable def ref4_Leaves_body_k1 (l56 : List ((List UInt8) × Int × Int × (List UInt8))) : Option ((List ((List UInt8) × Int × Int × (List UInt8)))) :=
 some (l56)
noncomputable def ref4_Leaves_body_bl2 (a0 : Go.L.Pv) (a1 : List UInt8) (self : Go.L.Pv → (List UInt8) → Option ((List ((List UInt8) × Int × Int × (List UInt8))))) : (List ((List UInt8) × Int × Int × (List UInt8))) × Int → Option (((List ((List UInt8) × Int × Int × (List UInt8))) × Int) ⊕ ((List ((List UInt8) × Int × Int × (List UInt8))))) := fun ⟨l84, s6_85⟩ =>
 if s6_85 < (a0.f.2.2.2.2.length : Int) then (if a0.f.1 = (4 : Int) then Go.L.chk (0 ≤ s6_85 ∧ s6_85 < (a0.f.2.2.2.1.length : Int)) ((ref4_Leaves_body_k3 a0 a1 l84 s6_85 self) (a0.f.2.2.2.1.getD s6_85.toNat default)) else (ref4_Leaves_body_k3 a0 a1 l84 s6_85 self) ([35] : List UInt8)) else Option.map Sum.inr (ref4_Leaves_body_k1 l84)
noncomputable def ref4_Leaves_body_l2 (a0 : Go.L.Pv) (a1 : List UInt8) (self : Go.L.Pv → (List UInt8) → Option ((List ((List UInt8) × Int × Int × (List UInt8))))) (s : (List ((List UInt8) × Int × Int × (List UInt8))) × Int) : Option ((List ((List UInt8) × Int × Int × (List UInt8)))) := Go.L.run (ref4_Leaves_body_bl2 a0 a1 self) s
noncomputable def ref4_Leaves_body (self : Go.L.Pv → (List UInt8) → Option ((List ((List UInt8) × Int × Int × (List UInt8))))) (a0 : Go.L.Pv) (a1 : List UInt8) : Option ((List ((List UInt8) × Int × Int × (List UInt8)))) :=
 (ref4_Leaves_body_l2 a0 a1 self) ([(a1, a0.f.1, a0.f.2.1, a0.f.2.2.1)], (0 : Int))
noncomputable def ref4_Leaves_n : Nat → Go.L.Pv → (List UInt8) → Option ((List ((List UInt8) × Int × Int × (List UInt8))))
 | 0 => fun _ _ => none
 | n + 1 => ref4_Leaves_body (ref4_Leaves_n n)
noncomputable def ref4_Leaves : Go.L.Pv → (List UInt8) → Option ((List ((List UInt8) × Int × Int × (List UInt8)))) := ref4_Leaves_n 1000
theorem ref4_Leaves_body_ok (self : Go.L.Pv → (List UInt8) → Option ((List ((List UInt8) × Int × Int × (List UInt8))))) (hself : ∀ (w : World) (H : PH) (hH : Le H (hp w)) {a0 : Go.L.Pv} {a1 : List UInt8} {v0_0 : Value} {v0_1 : Value} {v0_2 : Value} (h0_0 : Vec .byte H v0_0 (a0.f.2.2.1)) (h0_1 : Vec .st H v0_1 (a0.f.2.2.2.1)) (h0_2 : Vec .tree H v0_2 (a0.f.2.2.2.2)) {r : (List ((List UInt8) × Int × Int × (List UInt8)))} (h : self a0 a1 = some r), Ok Tryz.prog 56 [.agg #[.int .i64 a0.f.1, .int .i64 a0.f.2.1, v0_0, v0_1, v0_2], .string ⟨(a1).toArray⟩] w (fun v w' => Ext w w' ∧ ∃ u0, v = u0 ∧ OwnH 73 (.pair .st (.pair (.int .i64) (.pair (.int .i64) .st))) H w w' u0 (r))) (w : World) (H : PH) (hH : Le H (hp w)) {a0 : Go.L.Pv} {a1 : List UInt8} {v0_0 : Value} {v0_1 : Value} {v0_2 : Value} (h0_0 : Vec .byte H v0_0 (a0.f.2.2.1)) (h0_1 : Vec .st H v0_1 (a0.f.2.2.2.1)) (h0_2 : Vec .tree H v0_2 (a0.f.2.2.2.2)) {r : (List ((List UInt8) × Int × Int × (List UInt8)))} (h : ref4_Leaves_body self a0 a1 = some r) :
  Ok Tryz.prog 56 [.agg #[.int .i64 a0.f.1, .int .i64 a0.f.2.1, v0_0, v0_1, v0_2], .string ⟨(a1).toArray⟩] w (fun v w' => Ext w w' ∧ ∃ u0, v = u0 ∧ OwnH 73 (.pair .st (.pair (.int .i64) (.pair (.int .i64) .st))) H w w' u0 (r)) := by
 refine Ok_enter (n := 49) [(0, .agg #[.int .i64 a0.f.1, .int .i64 a0.f.2.1, v0_0, v0_1, v0_2]), (1, .string ⟨(a1).toArray⟩)] func56 rfl rfl rfl rfl rfl ?_;have hL := Lcl.start w;refine W_seqr ?_;refine S_box (t := 38) rfl rfl rfl hL ?_;intro w1 b1 hL1 hle1 _;refine S_pz 1 rfl ?_;refine W_p 1 rfl ?_;refine S_v (r_field rfl underlying38 rfl zr3 (by decide)) rfl ?_;refine S_v (r_loadB1 0 rfl underlying3 rfl hL1 rfl rfl) rfl ?_;refine S_v (r_field rfl underlying38 rfl zr3 (by decide)) rfl ?_;refine S_v (r_loadB1 0 rfl underlying3 rfl hL1 rfl rfl) rfl ?_;refine S_v (r_field rfl underlying38 rfl zr35 (by decide)) rfl ?_;refine S_v (r_loadB1 0 rfl underlying35 rfl hL1 rfl rfl) rfl ?_;refine S_v (r_str rfl underlying35 underlying5 underlying9 h0_0 (hH.trans hL1.arg)) rfl ?_;refine S_v (r_build rfl (fun _ => bld73_0_1_2_3 _ rfl _ _ _ rfl _)) rfl ?_;refine S_litO (r := (.pair .st (.pair (.int .i64) (.pair (.int .i64) .st)))) (l := [(a1, a0.f.1, a0.f.2.1, a0.f.2.2.1)]) rfl (fun _ => bsl67_1 _ _ _ _ _) rfl (show 1 ≤ 9223372036854775807 by decide) hH hL1 (.c4 ⟨_, _, rfl, rfl, ⟨_, _, rfl, rfl, ⟨_, _, rfl, rfl, rfl⟩⟩⟩ .nil) ?_;intro v2 w2 xs2 hL2 hle2 he2;refine S_pz 1 rfl ?_
 refine W_cut (σ := (List ((List UInt8) × Int × Int × (List UInt8))) × Value × (List Value)) (fun ⟨l56, vl56, xsl56⟩ => [(5, vl56)]) (fun ⟨l56, vl56, xsl56⟩ wr => InO w [.row (vl56) 73 4 (l56).length (xsl56), .box b1 [.int .i64 a0.f.1, .int .i64 a0.f.2.1, v0_0, v0_1, v0_2] 38] wr fun Oz => Elems (.pair .st (.pair (.int .i64) (.pair (.int .i64) .st))) (gz H w wr Oz) (l56) (xsl56) ∧ ref4_Leaves_body_k1 l56 = some r) ?_ ?_
 ·refine W_pz 1 rfl ?_;refine W_block ?_;obtain ⟨n86, h⟩ := Go.L.run_some h;refine W_loop (σ := (List ((List UInt8) × Int × Int × (List UInt8))) × Int × Value × (List Value) × Nat) (fun ⟨l84, s6_85, vl84, xsl84, n⟩ => [(1, .string ⟨(a1).toArray⟩), (2, .pointer (some ⟨b1, 0, none⟩)), (5, vl84), (6, .int .i64 s6_85)]) (fun ⟨l84, s6_85, vl84, xsl84, n⟩ wr => InO w [.row (vl84) 73 4 (l84).length (xsl84), .box b1 [.int .i64 a0.f.1, .int .i64 a0.f.2.1, v0_0, v0_1, v0_2] 38] wr fun Oz => Elems (.pair .st (.pair (.int .i64) (.pair (.int .i64) .st))) (gz H w wr Oz) (l84) (xsl84) ∧ Go.L.itr (ref4_Leaves_body_bl2 a0 a1 self) n (l84, s6_85) = some r) (fun ⟨l84, s6_85, vl84, xsl84, n⟩ => n) ([(a1, a0.f.1, a0.f.2.1, a0.f.2.2.1)], (0 : Int), v2, xs2, n86) (.cons rfl (.cons rfl (.cons rfl (.cons rfl (Sub.nil _))))) ⟨hL2, he2, h⟩ ?_;rintro ⟨l84, s6_85, vl84, xsl84, nn86⟩ wr86 ⟨hL86, hel84, h⟩;obtain ⟨n86, e86, rfl, h, hm86⟩ := Go.L.itr_some h;refine W_seq ?_;refine W_p 1 rfl ?_;refine S_v (r_field rfl underlying38 rfl zr36 (by decide)) rfl ?_;refine S_v (r_loadB1 1 rfl underlying36 rfl hL86 rfl rfl) rfl ?_;refine S_v (r_len rfl underlying36 h0_2) rfl ?_;refine S_pz 1 rfl ?_;refine W_if rfl (fun hc88 => ?_) (fun hc88 => ?_)
  ·replace h := Go.L.ite_p hc88 h;refine W_skip ?_;refine At_seq ?_;refine W_seq ?_;refine W_block ?_;refine W_pz 1 rfl ?_;refine W_cut (σ := (List UInt8)) (fun s7_96 => [(1, .string ⟨(a1).toArray⟩), (2, .pointer (some ⟨b1, 0, none⟩)), (5, vl84), (6, .int .i64 s6_85), (7, .string ⟨(s7_96).toArray⟩)]) (fun s7_96 wr => InO w [.row (vl84) 73 4 (l84).length (xsl84), .box b1 [.int .i64 a0.f.1, .int .i64 a0.f.2.1, v0_0, v0_1, v0_2] 38] wr fun Oz => Elems (.pair .st (.pair (.int .i64) (.pair (.int .i64) .st))) (gz H w wr Oz) (l84) (xsl84) ∧ (ref4_Leaves_body_k3 a0 a1 l84 s6_85 self) s7_96 = some e86) ?_ ?_
   ·refine W_seqr ?_;refine S_v (r_field rfl underlying38 rfl zr3 (by decide)) rfl ?_;refine S_v (r_loadB1 1 rfl underlying3 rfl hL86 rfl rfl) rfl ?_;refine S_pz 1 rfl ?_;refine W_if rfl (fun hc99 => ?_) (fun hc99 => ?_)
    ·replace h := Go.L.ite_p hc99 h;refine W_region ?_;refine S_v (r_field rfl underlying38 rfl zr30 (by decide)) rfl ?_;refine S_v (r_loadB1 1 rfl underlying30 rfl hL86 rfl rfl) rfl ?_;refine S_pu 1 rfl ?_;obtain ⟨hk102, h⟩ := Go.L.chk_some h;refine S_index rfl rfl underlying30 zr9 h0_1 s6_85.toNat (Int.toNat_of_nonneg hk102.1).symm (idx_lt hk102) rfl ?_;rintro p101 _ rfl hp101;refine S_v (r_load1 rfl underlying9 rfl hp101 (hH.trans hL86.arg)) rfl ?_;refine S_pu 1 rfl ?_;refine S_nil ?_;refine At_cut (a0.f.2.2.2.1.getD s6_85.toNat default) (.cons rfl (.cons rfl (.cons rfl (.cons rfl (.cons rfl (Sub.nil _)))))) ⟨hL86, hel84, h⟩
    ·replace h := Go.L.ite_n hc99 h;refine W_skip ?_;refine At_cut ([35] : List UInt8) (.cons rfl (.cons rfl (.cons rfl (.cons rfl (.cons rfl (Sub.nil _)))))) ⟨hL86, hel84, h⟩
   ·rintro s7_96 wr97 ⟨hL97, hel84, h⟩;refine W_cut (σ := (List UInt8)) (fun s7_111 => [(1, .string ⟨(a1).toArray⟩), (2, .pointer (some ⟨b1, 0, none⟩)), (5, vl84), (6, .int .i64 s6_85), (7, .string ⟨(s7_111).toArray⟩)]) (fun s7_111 wr => InO w [.row (vl84) 73 4 (l84).length (xsl84), .box b1 [.int .i64 a0.f.1, .int .i64 a0.f.2.1, v0_0, v0_1, v0_2] 38] wr fun Oz => Elems (.pair .st (.pair (.int .i64) (.pair (.int .i64) .st))) (gz H w wr Oz) (l84) (xsl84) ∧ (ref4_Leaves_body_k4 a0 l84 s6_85 self) s7_111 = some e86) ?_ ?_
    ·refine W_p 1 rfl ?_;refine S_v (r_sne rfl rfl) rfl ?_;refine S_seqnil ?_;refine W_ifn rfl (fun hc114 => ?_) (fun hc114 => ?_)
     ·replace h := Go.L.ite_n hc114 h;refine W_region ?_;refine S_pu 1 rfl ?_;obtain ⟨hk116, h⟩ := Go.L.chk_some h;refine S_v (r_cat rfl rfl hk116) rfl ?_;refine S_pu 1 rfl ?_;obtain ⟨hk117, h⟩ := Go.L.chk_some h;refine S_v (r_cat rfl rfl hk117) rfl ?_;refine S_pu 1 rfl ?_;refine S_nil ?_;refine At_cut ((a1 ++ ([47] : List UInt8)) ++ s7_96) (.cons rfl (.cons rfl (.cons rfl (.cons rfl (.cons rfl (Sub.nil _)))))) ⟨hL97, hel84, h⟩
     ·replace h := Go.L.ite_p hc114 h;refine W_skip ?_;refine At_cut s7_96 (.cons rfl (.cons rfl (.cons rfl (.cons rfl (.cons rfl (Sub.nil _)))))) ⟨hL97, hel84, h⟩
    ·rintro s7_111 wr112 ⟨hL112, hel84, h⟩;refine W_region ?_;refine S_pu 1 rfl ?_;refine S_v (r_field rfl underlying38 rfl zr36 (by decide)) rfl ?_;refine S_v (r_loadB1 1 rfl underlying36 rfl hL112 rfl rfl) rfl ?_;refine S_pu 1 rfl ?_;obtain ⟨hk121, h⟩ := Go.L.chk_some h;refine S_index rfl rfl underlying36 zr38 h0_2 s6_85.toNat (Int.toNat_of_nonneg hk121.1).symm (idx_lt hk121) rfl ?_;rintro p120 _ e120t0 hp120;obtain ⟨_, _, rfl, rfl, ⟨_, _, rfl, rfl, ⟨_, _, rfl, ⟨e120v2, rfl, e120h2⟩, ⟨_, _, rfl, ⟨e120v3, rfl, e120h3⟩, ⟨e120v4, rfl, e120h4⟩⟩⟩⟩⟩ := Go.E.Rp.tree_open e120t0;refine S_v (r_loadN rfl underlying38 rfl zr38 hp120 (hH.trans hL112.arg)) rfl ?_;refine S_pu 1 rfl ?_;obtain ⟨x122, hb122, h⟩ := Go.L.bind_some h;refine S_callL rfl rfl hL112 (hself _ _ (gz_le hH hL112) (e120h2.mono (gz_left hH)) (e120h3.mono (gz_left hH)) (e120h4.mono (gz_left hH)) hb122) ?_;rintro u123_0 w123 ⟨_, rfl, hR123_0⟩ hx123 hL123 hle123;have hv123_0 := hR123_0.vecG hH hL112 hx123;replace hel84 := hel84.mono (gz_mono hH hle123);obtain ⟨hk125, h⟩ := Go.L.chk_some h;refine S_appE (r := (.pair .st (.pair (.int .i64) (.pair (.int .i64) .st)))) (l := l84) (m := x122) 0 rfl rfl underlying67 zr73 rfl (by decide) rfl hH hL123 rfl hel84 hv123_0 hk125 ?_;intro v124 w124 xs124 hL124 hle124 he124;replace hv123_0 := hv123_0.mono (gz_mono hH hle124);refine S_pu 1 rfl ?_;refine S_nil ?_;refine At_block ?_;refine At_seq ?_;refine W_region ?_;refine S_pu 1 rfl ?_;obtain ⟨hk126, h⟩ := Go.L.chk_some h
     refine S_v (r_ar64 rfl rfl rfl hk126) rfl ?_;refine S_pu 1 rfl ?_;refine S_nil ?_;have h := Go.L.Nxt.again h hm86;refine At_round ((l84 ++ x122), (s6_85 + (1 : Int)), v124, xs124, n86) (.cons rfl (.cons rfl (.cons rfl (.cons rfl (Sub.nil _))))) ⟨hL124, he124, h⟩ (Nat.lt_succ_self _)
  ·replace h := Go.L.ite_n hc88 h;refine W_exit ?_;refine At_seq_exit ?_;refine At_loop_exit ?_;replace h := Go.L.Nxt.out h hm86;refine At_exit ?_;refine At_cut (l84, vl84, xsl84) (.cons rfl (Sub.nil _)) ⟨hL86, hel84, h⟩
 ·rintro ⟨l56, vl56, xsl56⟩ wr57 ⟨hL57, hel56, h⟩;refine W_pz 2 rfl ?_;refine W_ret ?_;obtain rfl := Option.some.inj h;refine At_body rfl rfl ?_;exact ⟨hL57.ext, _, rfl, (hL57.ownH hH (i := 0) rfl hel56)⟩
theorem ref4_Leaves_n_ok (n : Nat) : ∀ (w : World) (H : PH) (hH : Le H (hp w)) {a0 : Go.L.Pv} {a1 : List UInt8} {v0_0 : Value} {v0_1 : Value} {v0_2 : Value} (h0_0 : Vec .byte H v0_0 (a0.f.2.2.1)) (h0_1 : Vec .st H v0_1 (a0.f.2.2.2.1)) (h0_2 : Vec .tree H v0_2 (a0.f.2.2.2.2)) {r : (List ((List UInt8) × Int × Int × (List UInt8)))} (h : ref4_Leaves_n n a0 a1 = some r), Ok Tryz.prog 56 [.agg #[.int .i64 a0.f.1, .int .i64 a0.f.2.1, v0_0, v0_1, v0_2], .string ⟨(a1).toArray⟩] w (fun v w' => Ext w w' ∧ ∃ u0, v = u0 ∧ OwnH 73 (.pair .st (.pair (.int .i64) (.pair (.int .i64) .st))) H w w' u0 (r)) := by
 induction n with
 | zero => intros; rename_i h; cases h
 | succ n ih => exact @ref4_Leaves_body_ok (ref4_Leaves_n n) ih
theorem ref4_Leaves_ok (w : World) (H : PH) (hH : Le H (hp w)) {a0 : Go.L.Pv} {a1 : List UInt8} {v0_0 : Value} {v0_1 : Value} {v0_2 : Value} (h0_0 : Vec .byte H v0_0 (a0.f.2.2.1)) (h0_1 : Vec .st H v0_1 (a0.f.2.2.2.1)) (h0_2 : Vec .tree H v0_2 (a0.f.2.2.2.2)) {r : (List ((List UInt8) × Int × Int × (List UInt8)))} (h : ref4_Leaves a0 a1 = some r) : Ok Tryz.prog 56 [.agg #[.int .i64 a0.f.1, .int .i64 a0.f.2.1, v0_0, v0_1, v0_2], .string ⟨(a1).toArray⟩] w (fun v w' => Ext w w' ∧ ∃ u0, v = u0 ∧ OwnH 73 (.pair .st (.pair (.int .i64) (.pair (.int .i64) .st))) H w w' u0 (r)) := ref4_Leaves_n_ok 1000 w H hH h0_0 h0_1 h0_2 h
noncomputable def ref4_HasPath_k1 : Option (Bool) :=
 some (false)
noncomputable def ref4_HasPath_bl2 (a1 : List UInt8) (x2 : (List ((List UInt8) × Int × Int × (List UInt8)))) : Int → Option ((Int) ⊕ (Bool)) := fun s6_47 =>
 if s6_47 < (x2.length : Int) then Go.L.chk (0 ≤ s6_47 ∧ s6_47 < (x2.length : Int)) (Option.bind (ref4_Matches a1 ((x2.getD s6_47.toNat default).1)) (fun x55 => if x55 then Option.map Sum.inr (some (true)) else Go.L.chk (Go.L.I64 (s6_47 + (1 : Int))) (some (Sum.inl (s6_47 + (1 : Int)))))) else Option.map Sum.inr (ref4_HasPath_k1)
noncomputable def ref4_HasPath_l2 (a1 : List UInt8) (x2 : (List ((List UInt8) × Int × Int × (List UInt8)))) (s : Int) : Option (Bool) := Go.L.run (ref4_HasPath_bl2 a1 x2) s
noncomputable def ref4_HasPath (a0 : Go.L.Pv) (a1 : List UInt8) : Option (Bool) :=
 Option.bind (ref4_Leaves a0 ([] : List UInt8)) (fun x2 => (ref4_HasPath_l2 a1 x2) (0 : Int))
theorem ref4_HasPath_ok (w : World) (H : PH) (hH : Le H (hp w)) {a0 : Go.L.Pv} {a1 : List UInt8} {v0_0 : Value} {v0_1 : Value} {v0_2 : Value} (h0_0 : Vec .byte H v0_0 (a0.f.2.2.1)) (h0_1 : Vec .st H v0_1 (a0.f.2.2.2.1)) (h0_2 : Vec .tree H v0_2 (a0.f.2.2.2.2)) {r : Bool} (h : ref4_HasPath a0 a1 = some r) :
  Ok Tryz.prog 31 [.agg #[.int .i64 a0.f.1, .int .i64 a0.f.2.1, v0_0, v0_1, v0_2], .string ⟨(a1).toArray⟩] w (fun v w' => Ext w w' ∧ v = .bool r) := by
 refine Ok_enter (n := 22) [(0, .agg #[.int .i64 a0.f.1, .int .i64 a0.f.2.1, v0_0, v0_1, v0_2]), (1, .string ⟨(a1).toArray⟩)] func31 rfl rfl rfl rfl rfl ?_;have hL := Lcl.start w;refine W_seqr ?_;refine S_box (t := 38) rfl rfl rfl hL ?_;intro w1 b1 hL1 hle1 _;refine S_pz 1 rfl ?_;refine W_seqr ?_;refine S_v (r_loadBN 0 rfl underlying38 rfl zr38 hL1 rfl) rfl ?_;obtain ⟨x2, hb2, h⟩ := Go.L.bind_some h;refine S_callL rfl rfl hL1 (ref4_Leaves_ok (a0 := a0) _ _ (gz_le hH hL1) (h0_0.mono (gz_left hH)) (h0_1.mono (gz_left hH)) (h0_2.mono (gz_left hH)) hb2) ?_;rintro u3_0 w3 ⟨_, rfl, hR3_0⟩ hx3 hL3 hle3;have hv3_0 := hR3_0.vecG hH hL1 hx3;refine S_pz 1 rfl ?_;refine W_cut (σ := Unit) (fun (_ : Unit) => []) (fun (_ : Unit) wr => Lcl w [.box b1 [.int .i64 a0.f.1, .int .i64 a0.f.2.1, v0_0, v0_1, v0_2] 38] wr ∧ ref4_HasPath_k1 = some r) ?_ ?_
 ·refine W_pz 1 rfl ?_;refine W_block ?_;obtain ⟨n48, h⟩ := Go.L.run_some h;refine W_loop (σ := Int × Nat) (fun ⟨s6_47, n⟩ => [(1, .string ⟨(a1).toArray⟩), (5, u3_0), (6, .int .i64 s6_47)]) (fun ⟨s6_47, n⟩ wr => InO w [.box b1 [.int .i64 a0.f.1, .int .i64 a0.f.2.1, v0_0, v0_1, v0_2] 38] wr fun Oz => Vec (.pair .st (.pair (.int .i64) (.pair (.int .i64) .st))) (gz H w wr Oz) (u3_0) (x2) ∧ Go.L.itr (ref4_HasPath_bl2 a1 x2) n s6_47 = some r) (fun ⟨s6_47, n⟩ => n) ((0 : Int), n48) (.cons rfl (.cons rfl (.cons rfl (Sub.nil _)))) ⟨hL3, hv3_0, h⟩ ?_;rintro ⟨s6_47, nn48⟩ wr48 ⟨hL48, hf48_0, h⟩;obtain ⟨n48, e48, rfl, h, hm48⟩ := Go.L.itr_some h;refine W_seq ?_;refine W_p 2 rfl ?_;refine S_v (r_len rfl underlying67 hf48_0) rfl ?_;refine S_pz 1 rfl ?_;refine W_if rfl (fun hc50 => ?_) (fun hc50 => ?_)
  ·replace h := Go.L.ite_p hc50 h;refine W_skip ?_;refine At_seq ?_;refine W_seq ?_;refine W_block ?_;refine W_p 3 rfl ?_;obtain ⟨hk53, h⟩ := Go.L.chk_some h;refine S_index rfl rfl underlying67 zr73 hf48_0 s6_47.toNat (Int.toNat_of_nonneg hk53.1).symm (idx_lt hk53) rfl ?_;rintro p52 _ ⟨_, _, rfl, rfl, ⟨_, _, rfl, rfl, ⟨_, _, rfl, rfl, rfl⟩⟩⟩ hp52;refine S_v (r_field rfl underlying73 rfl zr9 (by decide)) rfl ?_;have hp54 := hp52.add 0;refine S_v (r_load1 rfl underlying9 rfl hp54 (gz_le hH hL48)) rfl ?_;obtain ⟨x55, hb55, h⟩ := Go.L.bind_some h;refine S_callL rfl rfl hL48 (ref4_Matches_ok _ _ (gz_le hH hL48) hb55) ?_;rintro _ w56 rfl hx56 hL56 hle56;replace hf48_0 := hf48_0.mono (gz_mono hH hle56);replace hp52 := hp52.mono (gz_mono hH hle56);replace hp54 := hp54.mono (gz_mono hH hle56);refine S_seqnil ?_;refine W_cond rfl (fun hc57 => ?_) (fun hc57 => ?_)
   ·replace h := Go.L.ite_t hc57 h;refine W_pz 1 rfl ?_;refine W_ret ?_;refine At_block_ret ?_;refine At_seq_ret ?_;refine At_loop_ret ?_;replace h := Go.L.Nxt.out h hm48;refine At_block_ret ?_;refine At_cut_ret ?_;obtain rfl := Option.some.inj h;refine At_body rfl rfl ?_;exact ⟨hL56.ext, rfl⟩
   ·replace h := Go.L.ite_f hc57 h;refine W_skip ?_;refine At_block ?_;refine At_seq ?_;refine W_region ?_;refine S_pu 1 rfl ?_;obtain ⟨hk60, h⟩ := Go.L.chk_some h;refine S_v (r_ar64 rfl rfl rfl hk60) rfl ?_;refine S_pu 1 rfl ?_;refine S_nil ?_;have h := Go.L.Nxt.again h hm48;refine At_round ((s6_47 + (1 : Int)), n48) (.cons rfl (.cons rfl (.cons rfl (Sub.nil _)))) ⟨hL56, hf48_0, h⟩ (Nat.lt_succ_self _)
  ·replace h := Go.L.ite_n hc50 h;refine W_exit ?_;refine At_seq_exit ?_;refine At_loop_exit ?_;replace h := Go.L.Nxt.out h hm48;refine At_exit ?_;refine At_cut () (Sub.nil _) ⟨hL48, h⟩
 ·rintro _ wr32 ⟨hL32, h⟩;refine W_pz 1 rfl ?_;refine W_ret ?_;obtain rfl := Option.some.inj h;refine At_body rfl rfl ?_;exact ⟨hL32.ext, rfl⟩
noncomputable def ref4_HasNumber_k1 : Option (Bool) :=
 some (false)
noncomputable def ref4_HasNumber_bl2 (a1 : List UInt8) (a2 : Int) (a3 : Int) (x2 : (List ((List UInt8) × Int × Int × (List UInt8)))) : Int → Option ((Int) ⊕ (Bool)) := fun s10_95 =>
 if s10_95 < (x2.length : Int) then Go.L.chk (0 ≤ s10_95 ∧ s10_95 < (x2.length : Int)) (if (x2.getD s10_95.toNat default).2.1 = (1 : Int) then Go.L.chk (0 ≤ s10_95 ∧ s10_95 < (x2.length : Int)) (Option.bind (ref3_In ((x2.getD s10_95.toNat default).2.2.1) a2 a3) (fun x108 => if x108 then Go.L.chk (0 ≤ s10_95 ∧ s10_95 < (x2.length : Int)) (Option.bind (ref4_Matches a1 ((x2.getD s10_95.toNat default).1)) (fun x115 => if x115 then Option.map Sum.inr (some (true)) else Go.L.chk (Go.L.I64 (s10_95 + (1 : Int))) (some (Sum.inl (s10_95 + (1 : Int)))))) else Go.L.chk (Go.L.I64 (s10_95 + (1 : Int))) (some (Sum.inl (s10_95 + (1 : Int)))))) else Go.L.chk (Go.L.I64 (s10_95 + (1 : Int))) (some (Sum.inl (s10_95 + (1 : Int))))) else Option.map Sum.inr (ref4_HasNumber_k1)
noncomputable def ref4_HasNumber_l2 (a1 : List UInt8) (a2 : Int) (a3 : Int) (x2 : (List ((List UInt8) × Int × Int × (List UInt8)))) (s : Int) : Option (Bool) := Go.L.run (ref4_HasNumber_bl2 a1 a2 a3 x2) s
noncomputable def ref4_HasNumber (a0 : Go.L.Pv) (a1 : List UInt8) (a2 : Int) (a3 : Int) : Option (Bool) :=
 Option.bind (ref4_Leaves a0 ([] : List UInt8)) (fun x2 => (ref4_HasNumber_l2 a1 a2 a3 x2) (0 : Int))
theorem ref4_HasNumber_ok (w : World) (H : PH) (hH : Le H (hp w)) {a0 : Go.L.Pv} {a1 : List UInt8} {a2 : Int} {a3 : Int} {v0_0 : Value} {v0_1 : Value} {v0_2 : Value} (h0_0 : Vec .byte H v0_0 (a0.f.2.2.1)) (h0_1 : Vec .st H v0_1 (a0.f.2.2.2.1)) (h0_2 : Vec .tree H v0_2 (a0.f.2.2.2.2)) {r : Bool} (h : ref4_HasNumber a0 a1 a2 a3 = some r) :
  Ok Tryz.prog 32 [.agg #[.int .i64 a0.f.1, .int .i64 a0.f.2.1, v0_0, v0_1, v0_2], .string ⟨(a1).toArray⟩, .int .i64 a2, .int .i64 a3] w (fun v w' => Ext w w' ∧ v = .bool r) := by
 refine Ok_enter (n := 44) [(0, .agg #[.int .i64 a0.f.1, .int .i64 a0.f.2.1, v0_0, v0_1, v0_2]), (1, .string ⟨(a1).toArray⟩), (2, .int .i64 a2), (3, .int .i64 a3)] func32 rfl rfl rfl rfl rfl ?_;have hL := Lcl.start w;refine W_seqr ?_;refine S_box (t := 38) rfl rfl rfl hL ?_;intro w1 b1 hL1 hle1 _;refine S_pz 1 rfl ?_;refine W_seqr ?_;refine S_v (r_loadBN 0 rfl underlying38 rfl zr38 hL1 rfl) rfl ?_;obtain ⟨x2, hb2, h⟩ := Go.L.bind_some h;refine S_callL rfl rfl hL1 (ref4_Leaves_ok (a0 := a0) _ _ (gz_le hH hL1) (h0_0.mono (gz_left hH)) (h0_1.mono (gz_left hH)) (h0_2.mono (gz_left hH)) hb2) ?_;rintro u3_0 w3 ⟨_, rfl, hR3_0⟩ hx3 hL3 hle3;have hv3_0 := hR3_0.vecG hH hL1 hx3;refine S_pz 1 rfl ?_;refine W_cut (σ := Unit) (fun (_ : Unit) => []) (fun (_ : Unit) wr => Lcl w [.box b1 [.int .i64 a0.f.1, .int .i64 a0.f.2.1, v0_0, v0_1, v0_2] 38] wr ∧ ref4_HasNumber_k1 = some r) ?_ ?_
 ·refine W_pz 1 rfl ?_;refine W_block ?_;obtain ⟨n96, h⟩ := Go.L.run_some h;refine W_loop (σ := Int × Nat) (fun ⟨s10_95, n⟩ => [(1, .string ⟨(a1).toArray⟩), (2, .int .i64 a2), (3, .int .i64 a3), (9, u3_0), (10, .int .i64 s10_95)]) (fun ⟨s10_95, n⟩ wr => InO w [.box b1 [.int .i64 a0.f.1, .int .i64 a0.f.2.1, v0_0, v0_1, v0_2] 38] wr fun Oz => Vec (.pair .st (.pair (.int .i64) (.pair (.int .i64) .st))) (gz H w wr Oz) (u3_0) (x2) ∧ Go.L.itr (ref4_HasNumber_bl2 a1 a2 a3 x2) n s10_95 = some r) (fun ⟨s10_95, n⟩ => n) ((0 : Int), n96) (.cons rfl (.cons rfl (.cons rfl (.cons rfl (.cons rfl (Sub.nil _)))))) ⟨hL3, hv3_0, h⟩ ?_;rintro ⟨s10_95, nn96⟩ wr96 ⟨hL96, hf96_0, h⟩;obtain ⟨n96, e96, rfl, h, hm96⟩ := Go.L.itr_some h;refine W_seq ?_;refine W_p 2 rfl ?_;refine S_v (r_len rfl underlying67 hf96_0) rfl ?_;refine S_pz 1 rfl ?_;refine W_if rfl (fun hc98 => ?_) (fun hc98 => ?_)
  ·replace h := Go.L.ite_p hc98 h;refine W_skip ?_;refine At_seq ?_;refine W_seq ?_;refine W_block ?_;refine W_p 2 rfl ?_;obtain ⟨hk101, h⟩ := Go.L.chk_some h;refine S_index rfl rfl underlying67 zr73 hf96_0 s10_95.toNat (Int.toNat_of_nonneg hk101.1).symm (idx_lt hk101) rfl ?_;rintro p100 _ ⟨_, _, rfl, rfl, ⟨_, _, rfl, rfl, ⟨_, _, rfl, rfl, rfl⟩⟩⟩ hp100;refine S_v (r_field rfl underlying73 rfl zr3 (by decide)) rfl ?_;have hp102 := hp100.add 1;refine S_v (r_load1 rfl underlying3 rfl hp102 (gz_le hH hL96)) rfl ?_;refine S_pu 2 rfl ?_;refine S_split (s := 25) rfl (fun hg103 => ?_) (fun hg103 => ?_)
   ·replace h := Go.L.ite_p (of_decide_eq_true hg103) h;refine S_guarded rfl rfl hg103 ?_;refine S_v (RunsAt_pu rfl) rfl ?_;refine S_guarded rfl rfl hg103 ?_;refine S_v (RunsAt_pu rfl) rfl ?_;refine S_guarded rfl rfl hg103 ?_;obtain ⟨hk106, h⟩ := Go.L.chk_some h;refine S_index rfl rfl underlying67 zr73 hf96_0 s10_95.toNat (Int.toNat_of_nonneg hk106.1).symm (idx_lt hk106) rfl ?_;rintro p105 _ ⟨_, _, rfl, rfl, ⟨_, _, rfl, rfl, ⟨_, _, rfl, rfl, rfl⟩⟩⟩ hp105;refine S_guarded rfl rfl hg103 ?_;refine S_v (r_field rfl underlying73 rfl zr3 (by decide)) rfl ?_;have hp107 := hp105.add 2;refine S_guarded rfl rfl hg103 ?_;refine S_v (r_load1 rfl underlying3 rfl hp107 (gz_le hH hL96)) rfl ?_;refine S_guarded rfl rfl hg103 ?_;refine S_v (RunsAt_pu rfl) rfl ?_;refine S_guarded rfl rfl hg103 ?_;refine S_v (RunsAt_pu rfl) rfl ?_;refine S_guarded rfl rfl hg103 ?_;obtain ⟨x108, hb108, h⟩ := Go.L.bind_some h;refine S_callL rfl rfl hL96 (ref3_In_ok _ _ (gz_le hH hL96) hb108) ?_;rintro _ w109 rfl hx109 hL109 hle109;replace hf96_0 := hf96_0.mono (gz_mono hH hle109);replace hp100 := hp100.mono (gz_mono hH hle109);replace hp102 := hp102.mono (gz_mono hH hle109);replace hp105 := hp105.mono (gz_mono hH hle109);replace hp107 := hp107.mono (gz_mono hH hle109);refine S_v (r_pickT rfl hg103 rfl) rfl ?_;refine S_pu 1 rfl ?_;refine S_split (s := 35) rfl (fun hg110 => ?_) (fun hg110 => ?_)
    ·replace h := Go.L.ite_t hg110 h;refine S_guarded rfl rfl hg110 ?_;refine S_v (RunsAt_pu rfl) rfl ?_;refine S_guarded rfl rfl hg110 ?_;refine S_v (RunsAt_pu rfl) rfl ?_;refine S_guarded rfl rfl hg110 ?_;refine S_v (RunsAt_pu rfl) rfl ?_;refine S_guarded rfl rfl hg110 ?_;obtain ⟨hk113, h⟩ := Go.L.chk_some h;refine S_index rfl rfl underlying67 zr73 hf96_0 s10_95.toNat (Int.toNat_of_nonneg hk113.1).symm (idx_lt hk113) rfl ?_;rintro p112 _ ⟨_, _, rfl, rfl, ⟨_, _, rfl, rfl, ⟨_, _, rfl, rfl, rfl⟩⟩⟩ hp112;refine S_guarded rfl rfl hg110 ?_;refine S_v (r_field rfl underlying73 rfl zr9 (by decide)) rfl ?_;have hp114 := hp112.add 0;refine S_guarded rfl rfl hg110 ?_;refine S_v (r_load1 rfl underlying9 rfl hp114 (gz_le hH hL109)) rfl ?_;refine S_guarded rfl rfl hg110 ?_;obtain ⟨x115, hb115, h⟩ := Go.L.bind_some h;refine S_callL rfl rfl hL109 (ref4_Matches_ok _ _ (gz_le hH hL109) hb115) ?_;rintro _ w116 rfl hx116 hL116 hle116;replace hf96_0 := hf96_0.mono (gz_mono hH hle116);replace hp100 := hp100.mono (gz_mono hH hle116);replace hp102 := hp102.mono (gz_mono hH hle116);replace hp105 := hp105.mono (gz_mono hH hle116);replace hp107 := hp107.mono (gz_mono hH hle116);replace hp112 := hp112.mono (gz_mono hH hle116);replace hp114 := hp114.mono (gz_mono hH hle116);refine S_v (r_pickT rfl hg110 rfl) rfl ?_;refine S_seqnil ?_;refine W_cond rfl (fun hc117 => ?_) (fun hc117 => ?_)
     ·replace h := Go.L.ite_t hc117 h;refine W_pz 1 rfl ?_;refine W_ret ?_;refine At_block_ret ?_;refine At_seq_ret ?_;refine At_loop_ret ?_;replace h := Go.L.Nxt.out h hm96;refine At_block_ret ?_;refine At_cut_ret ?_;obtain rfl := Option.some.inj h;refine At_body rfl rfl ?_;exact ⟨hL116.ext, rfl⟩
     ·replace h := Go.L.ite_f hc117 h;refine W_skip ?_;refine At_block ?_;refine At_seq ?_;refine W_region ?_;refine S_pu 1 rfl ?_;obtain ⟨hk120, h⟩ := Go.L.chk_some h;refine S_v (r_ar64 rfl rfl rfl hk120) rfl ?_;refine S_pu 1 rfl ?_;refine S_nil ?_;have h := Go.L.Nxt.again h hm96;refine At_round ((s10_95 + (1 : Int)), n96) (.cons rfl (.cons rfl (.cons rfl (.cons rfl (.cons rfl (Sub.nil _)))))) ⟨hL116, hf96_0, h⟩ (Nat.lt_succ_self _)
    ·replace h := Go.L.ite_f hg110 h
     iterate 7 refine S_unwanted rfl rfl hg110 rfl ?_
     refine S_v (r_pickF rfl hg110 rfl) rfl ?_;refine S_seqnil ?_;refine W_false rfl ?_;refine W_skip ?_;refine At_block ?_;refine At_seq ?_;refine W_region ?_;refine S_pu 1 rfl ?_;obtain ⟨hk122, h⟩ := Go.L.chk_some h;refine S_v (r_ar64 rfl rfl rfl hk122) rfl ?_;refine S_pu 1 rfl ?_;refine S_nil ?_;have h := Go.L.Nxt.again h hm96;refine At_round ((s10_95 + (1 : Int)), n96) (.cons rfl (.cons rfl (.cons rfl (.cons rfl (.cons rfl (Sub.nil _)))))) ⟨hL109, hf96_0, h⟩ (Nat.lt_succ_self _)
   ·replace h := Go.L.ite_n (of_decide_eq_false hg103) h
    iterate 8 refine S_unwanted rfl rfl hg103 rfl ?_
    refine S_v (r_pickF rfl hg103 rfl) rfl ?_;refine S_pu 1 rfl ?_
    iterate 7 refine S_unwanted rfl rfl rfl rfl ?_
    refine S_v (r_pickF rfl rfl rfl) rfl ?_;refine S_seqnil ?_;refine W_false rfl ?_;refine W_skip ?_;refine At_block ?_;refine At_seq ?_;refine W_region ?_;refine S_pu 1 rfl ?_;obtain ⟨hk124, h⟩ := Go.L.chk_some h;refine S_v (r_ar64 rfl rfl rfl hk124) rfl ?_;refine S_pu 1 rfl ?_;refine S_nil ?_;have h := Go.L.Nxt.again h hm96;refine At_round ((s10_95 + (1 : Int)), n96) (.cons rfl (.cons rfl (.cons rfl (.cons rfl (.cons rfl (Sub.nil _)))))) ⟨hL96, hf96_0, h⟩ (Nat.lt_succ_self _)
  ·replace h := Go.L.ite_n hc98 h;refine W_exit ?_;refine At_seq_exit ?_;refine At_loop_exit ?_;replace h := Go.L.Nxt.out h hm96;refine At_exit ?_;refine At_cut () (Sub.nil _) ⟨hL96, h⟩
 ·rintro _ wr64 ⟨hL64, h⟩;refine W_pz 1 rfl ?_;refine W_ret ?_;obtain rfl := Option.some.inj h;refine At_body rfl rfl ?_;exact ⟨hL64.ext, rfl⟩
noncomputable def ref4_HasBytes_k1 : Option (Bool) :=
 some (false)
noncomputable def ref4_HasBytes_bl2 (a1 : List UInt8) (a2 : List UInt8) (x2 : (List ((List UInt8) × Int × Int × (List UInt8)))) : Int → Option ((Int) ⊕ (Bool)) := fun s8_113 =>
 if s8_113 < (x2.length : Int) then Go.L.chk (0 ≤ s8_113 ∧ s8_113 < (x2.length : Int)) (if (x2.getD s8_113.toNat default).2.1 = (2 : Int) then Go.L.chk (0 ≤ s8_113 ∧ s8_113 < (x2.length : Int)) (if (x2.getD s8_113.toNat default).2.2.2 = a2 then Go.L.chk (0 ≤ s8_113 ∧ s8_113 < (x2.length : Int)) (Option.bind (ref4_Matches a1 ((x2.getD s8_113.toNat default).1)) (fun x133 => if x133 then Option.map Sum.inr (some (true)) else Go.L.chk (Go.L.I64 (s8_113 + (1 : Int))) (some (Sum.inl (s8_113 + (1 : Int)))))) else Go.L.chk (Go.L.I64 (s8_113 + (1 : Int))) (some (Sum.inl (s8_113 + (1 : Int))))) else Go.L.chk (Go.L.I64 (s8_113 + (1 : Int))) (some (Sum.inl (s8_113 + (1 : Int))))) else Option.map Sum.inr (ref4_HasBytes_k1)
noncomputable def ref4_HasBytes_l2 (a1 : List UInt8) (a2 : List UInt8) (x2 : (List ((List UInt8) × Int × Int × (List UInt8)))) (s : Int) : Option (Bool) := Go.L.run (ref4_HasBytes_bl2 a1 a2 x2) s
noncomputable def ref4_HasBytes (a0 : Go.L.Pv) (a1 : List UInt8) (a2 : List UInt8) : Option (Bool) :=
 Option.bind (ref4_Leaves a0 ([] : List UInt8)) (fun x2 => (ref4_HasBytes_l2 a1 a2 x2) (0 : Int))
theorem ref4_HasBytes_ok (w : World) (H : PH) (hH : Le H (hp w)) {a0 : Go.L.Pv} {a1 : List UInt8} {a2 : List UInt8} {v0_0 : Value} {v0_1 : Value} {v0_2 : Value} {v2_0 : Value} (h0_0 : Vec .byte H v0_0 (a0.f.2.2.1)) (h0_1 : Vec .st H v0_1 (a0.f.2.2.2.1)) (h0_2 : Vec .tree H v0_2 (a0.f.2.2.2.2)) (h2_0 : Vec .byte H v2_0 (a2)) {r : Bool} (h : ref4_HasBytes a0 a1 a2 = some r) :
  Ok Tryz.prog 33 [.agg #[.int .i64 a0.f.1, .int .i64 a0.f.2.1, v0_0, v0_1, v0_2], .string ⟨(a1).toArray⟩, v2_0] w (fun v w' => Ext w w' ∧ v = .bool r) := by
 refine Ok_enter (n := 42) [(0, .agg #[.int .i64 a0.f.1, .int .i64 a0.f.2.1, v0_0, v0_1, v0_2]), (1, .string ⟨(a1).toArray⟩), (2, v2_0)] func33 rfl rfl rfl rfl rfl ?_;have hL := Lcl.start w;refine W_seqr ?_;refine S_box (t := 38) rfl rfl rfl hL ?_;intro w1 b1 hL1 hle1 _;refine S_pz 1 rfl ?_;refine W_seqr ?_;refine S_v (r_loadBN 0 rfl underlying38 rfl zr38 hL1 rfl) rfl ?_;obtain ⟨x2, hb2, h⟩ := Go.L.bind_some h;refine S_callL rfl rfl hL1 (ref4_Leaves_ok (a0 := a0) _ _ (gz_le hH hL1) (h0_0.mono (gz_left hH)) (h0_1.mono (gz_left hH)) (h0_2.mono (gz_left hH)) hb2) ?_;rintro u3_0 w3 ⟨_, rfl, hR3_0⟩ hx3 hL3 hle3;have hv3_0 := hR3_0.vecG hH hL1 hx3;refine S_pz 1 rfl ?_;refine W_cut (σ := Unit) (fun (_ : Unit) => []) (fun (_ : Unit) wr => Lcl w [.box b1 [.int .i64 a0.f.1, .int .i64 a0.f.2.1, v0_0, v0_1, v0_2] 38] wr ∧ ref4_HasBytes_k1 = some r) ?_ ?_
 ·refine W_pz 1 rfl ?_;refine W_block ?_;obtain ⟨n114, h⟩ := Go.L.run_some h;refine W_loop (σ := Int × Nat) (fun ⟨s8_113, n⟩ => [(1, .string ⟨(a1).toArray⟩), (2, v2_0), (7, u3_0), (8, .int .i64 s8_113)]) (fun ⟨s8_113, n⟩ wr => InO w [.box b1 [.int .i64 a0.f.1, .int .i64 a0.f.2.1, v0_0, v0_1, v0_2] 38] wr fun Oz => Vec (.pair .st (.pair (.int .i64) (.pair (.int .i64) .st))) (gz H w wr Oz) (u3_0) (x2) ∧ Go.L.itr (ref4_HasBytes_bl2 a1 a2 x2) n s8_113 = some r) (fun ⟨s8_113, n⟩ => n) ((0 : Int), n114) (.cons rfl (.cons rfl (.cons rfl (.cons rfl (Sub.nil _))))) ⟨hL3, hv3_0, h⟩ ?_;rintro ⟨s8_113, nn114⟩ wr114 ⟨hL114, hf114_0, h⟩;obtain ⟨n114, e114, rfl, h, hm114⟩ := Go.L.itr_some h;refine W_seq ?_;refine W_p 2 rfl ?_;refine S_v (r_len rfl underlying67 hf114_0) rfl ?_;refine S_pz 1 rfl ?_;refine W_if rfl (fun hc116 => ?_) (fun hc116 => ?_)
  ·replace h := Go.L.ite_p hc116 h;refine W_skip ?_;refine At_seq ?_;refine W_seq ?_;refine W_block ?_;refine W_seqd (.q 0 (.q 1 (.q 2 (.q 3 (.q 4 (.q 5 (.q 6 (.q 7 (.q 8 (.q 9 (.q 10 (.q 11 (.q 12 (.q 13 (.q 14 (.q 15 (.q 16 (.q 17 (.q 18 (.q 19 (.q 20 (.q 21 (.q 22 (.q 23 (.q 24 (.tail 25)))))))))))))))))))))))))) mixed (by kernel_rfl) (fun w118 hx118 => ?_);have hL119 := hL114.call hx118;have hle119 := fz_ext hL114 hx118;replace hf114_0 := hf114_0.mono (gz_mono hH hle119);refine D_pu 2 rfl ?_;obtain ⟨hk121, h⟩ := Go.L.chk_some h;refine D_index rfl rfl rfl underlying67 zr73 hf114_0 s8_113.toNat (Int.toNat_of_nonneg hk121.1).symm (idx_lt hk121) rfl ?_;rintro p120 _ ⟨_, _, rfl, rfl, ⟨_, _, rfl, rfl, ⟨_, _, rfl, rfl, rfl⟩⟩⟩ hp120;refine D_v (r_field rfl underlying73 rfl zr3 (by decide)) rfl rfl ?_;have hp122 := hp120.add 1;refine D_v (r_load1 rfl underlying3 rfl hp122 (gz_le hH hL119)) rfl rfl ?_;refine D_pu 2 rfl ?_;refine D_split (s := 23) rfl (fun hg123 => ?_) (fun hg123 => ?_)
   ·replace h := Go.L.ite_p (of_decide_eq_true hg123) h
    iterate 2 refine D_vg (RunsAt_pu rfl) rfl rfl rfl rfl hg123 rfl ?_
    obtain ⟨hk126, h⟩ := Go.L.chk_some h;refine D_indexg rfl rfl rfl rfl hg123 rfl rfl underlying67 zr73 hf114_0 s8_113.toNat (Int.toNat_of_nonneg hk126.1).symm (idx_lt hk126) rfl ?_;rintro p125 _ ⟨_, _, rfl, rfl, ⟨_, _, rfl, rfl, ⟨_, _, rfl, rfl, rfl⟩⟩⟩ hp125;refine D_vg (r_field rfl underlying73 rfl zr9 (by decide)) rfl rfl rfl rfl hg123 rfl ?_;have hp127 := hp125.add 3;refine D_vg (r_load1 rfl underlying9 rfl hp127 (gz_le hH hL119)) rfl rfl rfl rfl hg123 rfl ?_;refine D_vg (RunsAt_pu rfl) rfl rfl rfl rfl hg123 rfl ?_;refine D_vg (r_str rfl underlying35 underlying5 underlying9 h2_0 (hH.trans hL119.arg)) rfl rfl rfl rfl hg123 rfl ?_;refine D_vg (r_seq rfl rfl) rfl rfl rfl rfl hg123 rfl ?_;refine D_v (r_pickT rfl hg123 rfl) rfl rfl ?_;refine D_pu 1 rfl ?_;refine D_split (s := 33) rfl (fun hg128 => ?_) (fun hg128 => ?_)
    ·replace h := Go.L.ite_p (of_decide_eq_true hg128) h
     iterate 3 refine D_vg (RunsAt_pu rfl) rfl rfl rfl rfl hg128 rfl ?_
     obtain ⟨hk131, h⟩ := Go.L.chk_some h;refine D_indexg rfl rfl rfl rfl hg128 rfl rfl underlying67 zr73 hf114_0 s8_113.toNat (Int.toNat_of_nonneg hk131.1).symm (idx_lt hk131) rfl ?_;rintro p130 _ ⟨_, _, rfl, rfl, ⟨_, _, rfl, rfl, ⟨_, _, rfl, rfl, rfl⟩⟩⟩ hp130;refine D_vg (r_field rfl underlying73 rfl zr9 (by decide)) rfl rfl rfl rfl hg128 rfl ?_;have hp132 := hp130.add 0;refine D_vg (r_load1 rfl underlying9 rfl hp132 (gz_le hH hL119)) rfl rfl rfl rfl hg128 rfl ?_;obtain ⟨x133, hb133, h⟩ := Go.L.bind_some h;refine D_callg rfl rfl rfl rfl hg128 rfl rfl (fun w134 hx134 => ref4_Matches_ok _ _ (Le.refl _) hb133) ?_;refine D_v (r_pickT rfl hg128 rfl) rfl rfl ?_;refine D_tail (fun w135 hx135 => ?_);have hL136 := hL119.call hx135;have hle136 := fz_ext hL119 hx135;replace hf114_0 := hf114_0.mono (gz_mono hH hle136);replace hp120 := hp120.mono (gz_mono hH hle136);replace hp122 := hp122.mono (gz_mono hH hle136);replace hp125 := hp125.mono (gz_mono hH hle136);replace hp127 := hp127.mono (gz_mono hH hle136);replace hp130 := hp130.mono (gz_mono hH hle136);replace hp132 := hp132.mono (gz_mono hH hle136);refine S_seqnil ?_;refine W_cond rfl (fun hc137 => ?_) (fun hc137 => ?_)
     ·replace h := Go.L.ite_t hc137 h;refine W_pz 1 rfl ?_;refine W_ret ?_;refine At_block_ret ?_;refine At_seq_ret ?_;refine At_loop_ret ?_;replace h := Go.L.Nxt.out h hm114;refine At_block_ret ?_;refine At_cut_ret ?_;obtain rfl := Option.some.inj h;refine At_body rfl rfl ?_;exact ⟨hL136.ext, rfl⟩
     ·replace h := Go.L.ite_f hc137 h;refine W_skip ?_;refine At_block ?_;refine At_seq ?_;refine W_region ?_;refine S_pu 1 rfl ?_;obtain ⟨hk140, h⟩ := Go.L.chk_some h;refine S_v (r_ar64 rfl rfl rfl hk140) rfl ?_;refine S_pu 1 rfl ?_;refine S_nil ?_;have h := Go.L.Nxt.again h hm114;refine At_round ((s8_113 + (1 : Int)), n114) (.cons rfl (.cons rfl (.cons rfl (.cons rfl (Sub.nil _))))) ⟨hL136, hf114_0, h⟩ (Nat.lt_succ_self _)
    ·replace h := Go.L.ite_n (of_decide_eq_false hg128) h
     iterate 7 refine D_no rfl rfl rfl rfl hg128 rfl ?_
     refine D_v (r_pickF rfl hg128 rfl) rfl rfl ?_;refine D_tail (fun w142 hx142 => ?_);have hL143 := hL119.call hx142;have hle143 := fz_ext hL119 hx142;replace hf114_0 := hf114_0.mono (gz_mono hH hle143);replace hp120 := hp120.mono (gz_mono hH hle143);replace hp122 := hp122.mono (gz_mono hH hle143);replace hp125 := hp125.mono (gz_mono hH hle143);replace hp127 := hp127.mono (gz_mono hH hle143);refine S_seqnil ?_;refine W_false rfl ?_;refine W_skip ?_;refine At_block ?_;refine At_seq ?_;refine W_region ?_;refine S_pu 1 rfl ?_;obtain ⟨hk144, h⟩ := Go.L.chk_some h;refine S_v (r_ar64 rfl rfl rfl hk144) rfl ?_;refine S_pu 1 rfl ?_;refine S_nil ?_;have h := Go.L.Nxt.again h hm114;refine At_round ((s8_113 + (1 : Int)), n114) (.cons rfl (.cons rfl (.cons rfl (.cons rfl (Sub.nil _))))) ⟨hL143, hf114_0, h⟩ (Nat.lt_succ_self _)
   ·replace h := Go.L.ite_n (of_decide_eq_false hg123) h
    iterate 8 refine D_no rfl rfl rfl rfl hg123 rfl ?_
    refine D_v (r_pickF rfl hg123 rfl) rfl rfl ?_;refine D_pu 1 rfl ?_
    iterate 7 refine D_no rfl rfl rfl rfl rfl rfl ?_
    refine D_v (r_pickF rfl rfl rfl) rfl rfl ?_;refine D_tail (fun w146 hx146 => ?_);have hL147 := hL119.call hx146;have hle147 := fz_ext hL119 hx146;replace hf114_0 := hf114_0.mono (gz_mono hH hle147);replace hp120 := hp120.mono (gz_mono hH hle147);replace hp122 := hp122.mono (gz_mono hH hle147);refine S_seqnil ?_;refine W_false rfl ?_;refine W_skip ?_;refine At_block ?_;refine At_seq ?_;refine W_region ?_;refine S_pu 1 rfl ?_;obtain ⟨hk148, h⟩ := Go.L.chk_some h;refine S_v (r_ar64 rfl rfl rfl hk148) rfl ?_;refine S_pu 1 rfl ?_;refine S_nil ?_;have h := Go.L.Nxt.again h hm114;refine At_round ((s8_113 + (1 : Int)), n114) (.cons rfl (.cons rfl (.cons rfl (.cons rfl (Sub.nil _))))) ⟨hL147, hf114_0, h⟩ (Nat.lt_succ_self _)
  ·replace h := Go.L.ite_n hc116 h;refine W_exit ?_;refine At_seq_exit ?_;refine At_loop_exit ?_;replace h := Go.L.Nxt.out h hm114;refine At_exit ?_;refine At_cut () (Sub.nil _) ⟨hL114, h⟩
 ·rintro _ wr76 ⟨hL76, h⟩;refine W_pz 1 rfl ?_;refine W_ret ?_;obtain rfl := Option.some.inj h;refine At_body rfl rfl ?_;exact ⟨hL76.ext, rfl⟩
end Go.Proofs.YtmfiaecglndldaaGreatDoor
end
section
namespace Go.Proofs.YtmfiaecglndldaaGreatDoor
open Go Go.L
theorem rl_loop {v : Pv} {p : List (List UInt8)} {self : Pv → List UInt8 → Option (List Lf)} {d : Nat} (hv : NodeOk v) (hpo : POk p) (hp : p.length ≤ 20)
    (hs : ∀ i, i < v.f.2.2.2.2.length → self (v.f.2.2.2.2.getD i default) (jn (p ++ [cst v i])) = some (lvs d (v.f.2.2.2.2.getD i default) (p ++ [cst v i]))) :
    ∀ (k i : Nat) (L : List Lf), i + k = v.f.2.2.2.2.length → (L ++ (List.range' i k).flatMap fun i => lvs d (v.f.2.2.2.2.getD i default) (p ++ [cst v i])).length ≤ 1000000 →
      Go.L.run (ref4_Leaves_body_bl2 v (jn p) self) (L, (i : Int)) = some (L ++ (List.range' i k).flatMap fun i => lvs d (v.f.2.2.2.2.getD i default) (p ++ [cst v i]))
  | 0, i, L, hi, _ => by
    refine run_inr (m := some (L ++ (List.range' i 0).flatMap fun i => lvs d (v.f.2.2.2.2.getD i default) (p ++ [cst v i]))) ?_;unfold ref4_Leaves_body_bl2 ref4_Leaves_body_k1;dsimp only;rw [if_neg (by omega)];simp
  | k + 1, i, L, hi, hL => by
    have hil : i < v.f.2.2.2.2.length := by omega
    have hmany := hv.many;have hpl := hpo.jn_len;have hcl := stp_len (cst_ok hv hil);rw [List.range'_succ, List.flatMap_cons, ← List.append_assoc] at hL ⊢
    have hk4 : ref4_Leaves_body_k4 v L (i : Int) self (jn (p ++ [cst v i])) = some (.inl (L ++ lvs d (v.f.2.2.2.2.getD i default) (p ++ [cst v i]), ((i + 1 : Nat) : Int))) := by
      unfold ref4_Leaves_body_k4;rw [chk_pos (by omega), Int.toNat_natCast, hs i hil, Option.bind_some, chk_pos (by unfold Go.E.Cap; simp only [List.length_append] at hL; omega), chk_pos (by unfold I64; omega)]
      rfl
    have hk3 : ∀ x, x = cst v i → ref4_Leaves_body_k3 v (jn p) L (i : Int) self x = some (.inl (L ++ lvs d (v.f.2.2.2.2.getD i default) (p ++ [cst v i]), ((i + 1 : Nat) : Int))) := by
      rintro x rfl;rw [jn_snoc] at hk4;unfold ref4_Leaves_body_k3
      by_cases h0 : p = []
      · rw [if_pos (hpo.nil.2 h0)];rw [if_pos h0] at hk4;exact hk4
      · rw [if_neg (fun h => h0 (hpo.nil.1 h)), chk_pos (by simp; omega), chk_pos (by simp; omega)];rw [if_neg h0] at hk4;rw [show (jn p ++ [47]) ++ cst v i = jn p ++ 47 :: cst v i by simp];exact hk4
    have hb : ref4_Leaves_body_bl2 v (jn p) self (L, (i : Int)) = some (.inl (L ++ lvs d (v.f.2.2.2.2.getD i default) (p ++ [cst v i]), ((i + 1 : Nat) : Int))) := by
      unfold ref4_Leaves_body_bl2;dsimp only;rw [if_pos (by omega)]
      by_cases h4 : v.f.1 = 4
      · have := hv.same h4;rw [if_pos h4, chk_pos (by omega), Int.toNat_natCast];exact hk3 _ (by unfold cst; rw [if_pos h4])
      · rw [if_neg h4];exact hk3 _ (by unfold cst; rw [if_neg h4])
    rw [run_inl hb];exact rl_loop hv hpo hp hs k (i + 1) _ (by omega) hL
theorem rl_n : ∀ (d n : Nat) (v : Pv) (p : List (List UInt8)), d ≤ n → Vd d v → POk p → p.length + d ≤ 20 → nodes d v ≤ 1000000 → ref4_Leaves_n n v (jn p) = some (lvs d v p)
  | 0, _, _, _, _, h, _, _, _ => h.elim
  | d + 1, 0, _, _, h, _, _, _, _ => absurd h (by omega)
  | d + 1, n + 1, v, p, hn, hv, hp, hl, hnd => by
    have hlen := lvs_len (d + 1) v p;obtain ⟨hok, hvp⟩ := hv
    show ref4_Leaves_body (ref4_Leaves_n n) v (jn p) = _
    unfold ref4_Leaves_body ref4_Leaves_body_l2
    have := rl_loop (d := d) (self := ref4_Leaves_n n) hok hp (by omega) (fun i hi => rl_n d n _ _ (by omega) (hvp _ (getD_mem hi)) (hp.snoc (cst_ok hok hi)) (by simp; omega) (by
      unfold nodes at hnd;have := nodes_mem (d := d) (getD_mem hi);omega)) v.f.2.2.2.2.length 0 [(jn p, v.f.1, v.f.2.1, v.f.2.2.1)] (by omega) (by
      unfold lvs at hlen;simp only [List.singleton_append];rw [hlen]; exact hnd)
    exact this
theorem ref_leaves {v : Pv} (hv : Vd 10 v) (hn : nodes 10 v ≤ 1000000) : ref4_Leaves v [] = some (lvs 10 v []) := by
  unfold ref4_Leaves;exact rl_n 10 1000 v [] (by omega) hv (fun x hx => by cases hx) (by simp) hn
/-! ### Insertion -/
end Go.Proofs.YtmfiaecglndldaaGreatDoor
end
section
namespace Go.Proofs.YtmfiaecglndldaaGreatDoor
open Go Go.E Go.RowKit
set_option maxHeartbeats 1000000
set_option maxRecDepth 10000
open _root_.Go.Proofs.Tryz
noncomputable def shapes_Paths (a0 : Go.L.Pv) : Option ((List (List UInt8)) × (Int × Int)) :=
 Option.bind (value_Validate a0) (fun x3 => if x3.1 = (0 : Int) ∧ x3.2 = (0 : Int) then Option.bind (shapes_leaves pathStep a0 ([] : List (List UInt8)) ([] : List (List UInt8))) (fun x18 => Go.L.chk (x18.length < 4611686018427387904) (Go.L.chk ((srtS x18).length ≤ 9223372036854775807) (some ((Lib.compact (srtS x18)), ((0 : Int), (0 : Int)))))) else some ([], (x3.1, x3.2)))
theorem shapes_Paths_ok (w : World) (H : PH) (hH : Le H (hp w)) {a0 : Go.L.Pv} {v0_0 : Value} {v0_1 : Value} {v0_2 : Value} (h0_0 : Vec .byte H v0_0 (a0.f.2.2.1)) (h0_1 : Vec .st H v0_1 (a0.f.2.2.2.1)) (h0_2 : Vec .tree H v0_2 (a0.f.2.2.2.2)) {r : (List (List UInt8)) × (Int × Int)} (h : shapes_Paths a0 = some r) :
  Ok Tryz.prog 21 [.agg #[.int .i64 a0.f.1, .int .i64 a0.f.2.1, v0_0, v0_1, v0_2]] w (fun v w' => Ext w w' ∧ ∃ u0, v = .tuple #[u0, .agg #[.int .i64 r.2.1, .int .i64 r.2.2]] ∧ OwnH 9 .st H w w' u0 (r.1)) := by
 refine Ok_enter (n := 20) [(0, .agg #[.int .i64 a0.f.1, .int .i64 a0.f.2.1, v0_0, v0_1, v0_2])] func21 rfl rfl rfl rfl rfl ?_;have hL := Lcl.start w;refine W_seqr ?_;refine S_box (t := 38) rfl rfl rfl hL ?_;intro w1 b1 hL1 hle1 _;refine S_pu 1 rfl ?_;refine S_alloc zr23 rfl rfl hL1 ?_;intro w2 b2 hL2 hle2 _;refine S_seqnil ?_;refine W_seq ?_;refine W_seqr ?_;refine S_v (r_loadBN 1 rfl underlying38 rfl zr38 hL2 rfl) rfl ?_;obtain ⟨x3, hb3, h⟩ := Go.L.bind_some h;refine S_callL rfl rfl hL2 (value_Validate_ok (a0 := a0) _ _ (gz_le hH hL2) (h0_0.mono (gz_left hH)) (h0_1.mono (gz_left hH)) (h0_2.mono (gz_left hH)) hb3) ?_;rintro _ w4 rfl hx4 hL4 hle4;refine S_alloc zr23 rfl rfl hL4 ?_;intro w5 b5 hL5 hle5 _;refine S_storeBN 0 rfl rfl rfl zr23 hL5 rfl rfl (onc rfl (onc rfl on0)) ?_;intro w6 hL6 hle6;refine S_seqnil ?_;refine W_seqr ?_;refine S_v (r_loadBN 0 rfl underlying23 rfl zr23 hL6 rfl) rfl ?_;refine S_v (r_build rfl (fun _ => bld23_z _)) rfl ?_;refine S_v (r_neA rfl rfl eqg23 (eq23 _ _ _ _ )) rfl ?_;refine S_seqnil ?_;refine W_ifn rfl (fun hc7 => ?_) (fun hc7 => ?_)
 ·replace h := Go.L.ite_n hc7 h;refine W_seqd (.q 0 (.q 1 (.tail 2))) mixed (by kernel_rfl) (fun w9 hx9 => ?_);have hL10 := hL6.call hx9;refine D_v (r_loadBN 0 rfl underlying23 rfl zr23 hL10 rfl) rfl rfl ?_;refine D_pu 1 rfl ?_;refine D_tail (fun w11 hx11 => ?_);have hL12 := hL10.call hx11;refine S_storeBN 1 rfl rfl rfl zr23 hL12 rfl rfl (onc rfl (onc rfl on0)) ?_;intro w13 hL13 hle13;refine S_seqnil ?_;refine W_ret ?_;refine At_seq_ret ?_;obtain rfl := Option.some.inj h;refine At_got2 rfl (.tmp rfl) (.cell rfl underlying23 rfl zr23 (box_ptr (i := 1) hL13 rfl)) ?_;exact ⟨hL13.ext, _, rfl, OwnH.nil⟩
 ·replace h := Go.L.ite_p hc7 h;refine W_skip ?_;refine At_seq ?_;refine W_seqr ?_;refine S_alloc zr30 rfl rfl hL6 ?_;intro w15 b15 hL15 hle15 _;refine S_seqnil ?_;refine W_seqr ?_;refine S_v (r_loadBN 3 rfl underlying38 rfl zr38 hL15 rfl) rfl ?_;refine S_pu 1 rfl ?_;obtain ⟨hL16, hle16, he16⟩ := row_nilE .st H 9 hL15;have hL17 : Lcl w [.box b15 [.slice none 0 0] 30, .row (.slice none 0 0) 9 1 (([] : List (List UInt8))).length ([]), .box b5 [.int .i64 x3.1, .int .i64 x3.2] 23, .box b2 [.int .i64 (0 : Int), .int .i64 (0 : Int)] 23, .box b1 [.int .i64 a0.f.1, .int .i64 a0.f.2.1, v0_0, v0_1, v0_2] 38] w15 := hL16.picks [1] rfl;have hle17 := fz_picks [1] hL16 hL17 rfl;replace he16 := he16.mono (gz_mono hH hle17);obtain ⟨x18, hb18, h⟩ := Go.L.bind_some h;refine S_call rfl rfl (leaves_paths hH (O := [.box b5 [.int .i64 x3.1, .int .i64 x3.2] 23, .box b2 [.int .i64 (0 : Int), .int .i64 (0 : Int)] 23, .box b1 [.int .i64 a0.f.1, .int .i64 a0.f.2.1, v0_0, v0_1, v0_2] 38]) (a0 := a0) (a1 := ([] : List (List UInt8))) (s := ([] : List (List UInt8))) hL17 he16 (h0_0.mono (gz_left hH)) (h0_1.mono (gz_left hH)) (h0_2.mono (gz_left hH)) (Vec.nil _ _) hb18) ?_;rintro _ w19 ⟨rfl, u19, y19, hL19, hle19, he19⟩;refine S_seqnil ?_;refine W_seqr ?_;refine S_v (r_loadB1 0 rfl underlying30 rfl hL19 rfl rfl) rfl ?_;obtain ⟨hk21, h⟩ := Go.L.chk_some h;refine S_sortS (i := 1) Tryz.laySS rfl ⟨Tryz.f53, _, func53, rfl, rfl⟩ rfl rfl hH hL19 rfl he19 hk21 ?_;intro w20 xs20 hL20 hle20 he20;refine S_seqnil ?_
  refine W_seqr ?_;refine S_v (r_loadB1 0 rfl underlying30 rfl hL20 rfl rfl) rfl ?_;obtain ⟨hk23, h⟩ := Go.L.chk_some h;refine S_compS (i := 1) Tryz.layCS rfl ⟨Tryz.f54, _, func54, rfl, rfl⟩ rfl rfl hH hL20 rfl he20 hk23 ?_;intro v22 w22 xs22 hL22 hle22 he22;refine S_v (r_build rfl (fun _ => bld23_z _)) rfl ?_;refine S_pu 1 rfl ?_;refine S_storeBN 3 rfl rfl rfl zr23 hL22 rfl rfl (onc rfl (onc rfl on0)) ?_;intro w24 hL24 hle24;replace he22 := he22.mono (gz_mono hH hle24);refine S_seqnil ?_;refine W_ret ?_;obtain rfl := Option.some.inj h;refine At_got2 rfl (.tmp rfl) (.cell rfl underlying23 rfl zr23 (box_ptr (i := 3) hL24 rfl)) ?_;exact ⟨hL24.ext, _, rfl, (hL24.ownH hH (i := 1) rfl he22)⟩
end Go.Proofs.YtmfiaecglndldaaGreatDoor
end
section
namespace Go.Proofs.YtmfiaecglndldaaGreatDoor
open Go Go.E Go.RowKit
set_option maxHeartbeats 1000000
set_option maxRecDepth 10000
open _root_.Go.Proofs.Tryz
noncomputable def law4_shaped : Option (Bool) :=
 Option.bind (shapes_Match ([42, 42, 47, 99] : List UInt8) ([97, 47, 98, 47, 99] : List UInt8)) (fun x1 => Option.bind (shapes_Match ([42, 47, 99] : List UInt8) ([97, 47, 98, 47, 99] : List UInt8)) (fun x5 => Option.bind (law4_record (5 : Int)) (fun x9 => Option.bind (shapes_Paths x9) (fun x11 => Option.bind (law4_number (5 : Int)) (fun x15 => Option.bind (law4_record (5 : Int)) (fun x17 => Option.bind (shapes_Build ([x15, x17])) (fun x20 => Option.bind (shapes_Index_Number (x20.1.1, x20.1.2) ([97] : List UInt8) (1 : Int) (5 : Int)) (fun x26 => Option.bind (shapes_Index_Find (x20.1.1, x20.1.2) ([42, 42] : List UInt8)) (fun x31 => Option.bind (shapes_Index_Text (x20.1.1, x20.1.2) ([97] : List UInt8) ([])) (fun x35 => Option.bind (shapes_Open ([(0 : UInt8), (0 : UInt8)])) (fun x40 => if x1.2.1 = (0 : Int) then if x5.2.1 = (0 : Int) then if x11.2.1 = (0 : Int) then if x20.2.1 = (0 : Int) then if x26.2.1 = (0 : Int) then if x31.2.1 = (0 : Int) then if x35.2.1 = (0 : Int) then if x40.2.1 = (0 : Int) then (if (bif x1.1 then !x5.1 else false) then Option.bind (ref4_Texts x11.1 ([([] : List UInt8), ([97] : List UInt8)])) (fun x74 => if x74 then Option.bind (ref3_Ints x26.1 ([(1 : Int)])) (fun x79 => if x79 then Option.bind (ref3_Ints x31.1 ([(0 : Int), (1 : Int)])) (fun x84 => if x84 then if (x35.1.length : Int) = (0 : Int) then Option.bind (shapes_Index_Items (x40.1.1, x40.1.2)) (fun x90 => if x90 = (0 : Int) then Option.bind (shapes_Check ([97, 47, 47, 98] : List UInt8)) (fun x94 => Option.bind (ref3_At (1 : Int) (2 : Int)) (fun x96 => some (decide (x94.1 = x96.1 ∧ x94.2 = x96.2)))) else some (false)) else some (false) else some (false)) else some (false)) else some (false)) else some (false)) else some (false) else some (false) else some (false) else some (false) else some (false) else some (false) else some (false) else some (false))))))))))))
theorem law4_shaped_ok (w : World) (H : PH) (hH : Le H (hp w))    {r : Bool} (h : law4_shaped = some r) :
  Ok Tryz.prog 14 [] w (fun v w' => Ext w w' ∧ v = .bool r) := by
 refine Ok_enter (n := 130) [] func14 rfl rfl rfl rfl rfl ?_;have hL := Lcl.start w;refine W_pz 1 rfl ?_;refine W_seqr ?_;obtain ⟨x1, hb1, h⟩ := Go.L.bind_some h;refine S_callL rfl rfl hL (shapes_Match_ok _ _ (gz_le hH hL) hb1) ?_;rintro _ w2 rfl hx2 hL2 hle2;refine S_pu 3 rfl ?_;refine S_alloc zr23 rfl rfl hL2 ?_;intro w3 b3 hL3 hle3 _;refine S_pu 1 rfl ?_;refine S_storeBN 0 rfl rfl rfl zr23 hL3 rfl rfl (onc rfl (onc rfl on0)) ?_;intro w4 hL4 hle4;refine S_seqnil ?_;refine W_seqr ?_;obtain ⟨x5, hb5, h⟩ := Go.L.bind_some h;refine S_callL rfl rfl hL4 (shapes_Match_ok _ _ (gz_le hH hL4) hb5) ?_;rintro _ w6 rfl hx6 hL6 hle6;refine S_pu 3 rfl ?_;refine S_alloc zr23 rfl rfl hL6 ?_;intro w7 b7 hL7 hle7 _;refine S_pu 1 rfl ?_;refine S_storeBN 0 rfl rfl rfl zr23 hL7 rfl rfl (onc rfl (onc rfl on0)) ?_;intro w8 hL8 hle8;refine S_seqnil ?_;refine W_seqr ?_;obtain ⟨x9, hb9, h⟩ := Go.L.bind_some h;refine S_callL rfl rfl hL8 (law4_record_ok _ _ (gz_le hH hL8) hb9) ?_;rintro _ w10 ⟨u10_0, u10_1, u10_2, rfl, hR10_0, hR10_1, hR10_2⟩ hx10 hL10 hle10;have hv10_0 := hR10_0.vecG hH hL8 hx10;have hv10_1 := hR10_1.mono (gz_nw hH hL8 hx10);have hv10_2 := hR10_2.mono (gz_nw hH hL8 hx10);obtain ⟨x11, hb11, h⟩ := Go.L.bind_some h;refine S_callL rfl rfl hL10 (shapes_Paths_ok (a0 := x9) _ _ (gz_le hH hL10) hv10_0 hv10_1 hv10_2 hb11) ?_;rintro _ w12 ⟨u12_0, rfl, hR12_0⟩ hx12 hL12 hle12;have hv12_0 := hR12_0.vecG hH hL10 hx12;replace hv10_0 := hv10_0.mono (gz_mono hH hle12)
 replace hv10_1 := hv10_1.mono (gz_mono hH hle12);replace hv10_2 := hv10_2.mono (gz_mono hH hle12);refine S_pu 3 rfl ?_;refine S_alloc zr23 rfl rfl hL12 ?_;intro w13 b13 hL13 hle13 _;replace hv10_0 := hv10_0.mono (gz_mono hH hle13);replace hv10_1 := hv10_1.mono (gz_mono hH hle13);replace hv10_2 := hv10_2.mono (gz_mono hH hle13);replace hv12_0 := hv12_0.mono (gz_mono hH hle13);refine S_pu 1 rfl ?_;refine S_storeBN 0 rfl rfl rfl zr23 hL13 rfl rfl (onc rfl (onc rfl on0)) ?_;intro w14 hL14 hle14;replace hv10_0 := hv10_0.mono (gz_mono hH hle14);replace hv10_1 := hv10_1.mono (gz_mono hH hle14);replace hv10_2 := hv10_2.mono (gz_mono hH hle14);replace hv12_0 := hv12_0.mono (gz_mono hH hle14);refine S_seqnil ?_;refine W_seqr ?_;obtain ⟨x15, hb15, h⟩ := Go.L.bind_some h;refine S_callL rfl rfl hL14 (law4_number_ok _ _ (gz_le hH hL14) hb15) ?_;rintro _ w16 ⟨u16_0, u16_1, u16_2, rfl, hR16_0, hR16_1, hR16_2⟩ hx16 hL16 hle16;have hv16_0 := hR16_0.vecG hH hL14 hx16;have hv16_1 := hR16_1.vecG hH hL14 hx16;have hv16_2 := hR16_2.vecG hH hL14 hx16;replace hv12_0 := hv12_0.mono (gz_mono hH hle16);obtain ⟨x17, hb17, h⟩ := Go.L.bind_some h;refine S_callL rfl rfl hL16 (law4_record_ok _ _ (gz_le hH hL16) hb17) ?_;rintro _ w18 ⟨u18_0, u18_1, u18_2, rfl, hR18_0, hR18_1, hR18_2⟩ hx18 hL18 hle18;have hv18_0 := hR18_0.vecG hH hL16 hx18;have hv18_1 := hR18_1.mono (gz_nw hH hL16 hx18);have hv18_2 := hR18_2.mono (gz_nw hH hL16 hx18);replace hv12_0 := hv12_0.mono (gz_mono hH hle18)
 replace hv16_0 := hv16_0.mono (gz_mono hH hle18);replace hv16_1 := hv16_1.mono (gz_mono hH hle18);replace hv16_2 := hv16_2.mono (gz_mono hH hle18);refine S_litE (r := .tree) (l := [x15, x17]) rfl (fun _ => bsl36_2 _ _ _ _ _ _ _ _ _ _ _) rfl (show 2 ≤ 9223372036854775807 by decide) hH hL18 (.c5 (Go.E.Rp.tree_close ⟨_, _, rfl, rfl, ⟨_, _, rfl, rfl, ⟨_, _, rfl, ⟨_, rfl, hv16_0⟩, ⟨_, _, rfl, ⟨_, rfl, hv16_1⟩, ⟨_, rfl, hv16_2⟩⟩⟩⟩⟩) (.c5 (Go.E.Rp.tree_close ⟨_, _, rfl, rfl, ⟨_, _, rfl, rfl, ⟨_, _, rfl, ⟨_, rfl, hv18_0⟩, ⟨_, _, rfl, ⟨_, rfl, hv18_1⟩, ⟨_, rfl, hv18_2⟩⟩⟩⟩⟩) .nil)) ?_;intro v19 w19 hx19 hL19 hle19 hv19;replace hv12_0 := hv12_0.mono (gz_mono hH hle19);replace hv16_0 := hv16_0.mono (gz_mono hH hle19);replace hv16_1 := hv16_1.mono (gz_mono hH hle19);replace hv16_2 := hv16_2.mono (gz_mono hH hle19);replace hv18_0 := hv18_0.mono (gz_mono hH hle19);replace hv18_1 := hv18_1.mono (gz_mono hH hle19);replace hv18_2 := hv18_2.mono (gz_mono hH hle19);obtain ⟨x20, hb20, h⟩ := Go.L.bind_some h;refine S_callL rfl rfl hL19 (shapes_Build_ok _ _ (gz_le hH hL19) hv19 hb20) ?_;rintro _ w21 ⟨u21_0, rfl, hR21_0⟩ hx21 hL21 hle21;have hv21_0 := hR21_0.mono (gz_nw hH hL19 hx21);replace hv12_0 := hv12_0.mono (gz_mono hH hle21);replace hv16_0 := hv16_0.mono (gz_mono hH hle21);replace hv16_1 := hv16_1.mono (gz_mono hH hle21);replace hv16_2 := hv16_2.mono (gz_mono hH hle21);replace hv18_0 := hv18_0.mono (gz_mono hH hle21);replace hv18_1 := hv18_1.mono (gz_mono hH hle21)
 replace hv18_2 := hv18_2.mono (gz_mono hH hle21);replace hv19 := hv19.mono (gz_mono hH hle21);refine S_pu 3 rfl ?_;refine S_alloc zr47 rfl rfl hL21 ?_;intro w22 b22 hL22 hle22 _;replace hv12_0 := hv12_0.mono (gz_mono hH hle22);replace hv16_0 := hv16_0.mono (gz_mono hH hle22);replace hv16_1 := hv16_1.mono (gz_mono hH hle22);replace hv16_2 := hv16_2.mono (gz_mono hH hle22);replace hv18_0 := hv18_0.mono (gz_mono hH hle22);replace hv18_1 := hv18_1.mono (gz_mono hH hle22);replace hv18_2 := hv18_2.mono (gz_mono hH hle22);replace hv19 := hv19.mono (gz_mono hH hle22);replace hv21_0 := hv21_0.mono (gz_mono hH hle22);refine S_alloc zr23 rfl rfl hL22 ?_;intro w23 b23 hL23 hle23 _;replace hv12_0 := hv12_0.mono (gz_mono hH hle23);replace hv16_0 := hv16_0.mono (gz_mono hH hle23);replace hv16_1 := hv16_1.mono (gz_mono hH hle23);replace hv16_2 := hv16_2.mono (gz_mono hH hle23);replace hv18_0 := hv18_0.mono (gz_mono hH hle23);replace hv18_1 := hv18_1.mono (gz_mono hH hle23);replace hv18_2 := hv18_2.mono (gz_mono hH hle23);replace hv19 := hv19.mono (gz_mono hH hle23);replace hv21_0 := hv21_0.mono (gz_mono hH hle23);refine S_storeBN 1 rfl rfl rfl zr47 hL23 rfl rfl (onc rfl (onc hv21_0.one on0)) ?_;intro w24 hL24 hle24;replace hv12_0 := hv12_0.mono (gz_mono hH hle24);replace hv16_0 := hv16_0.mono (gz_mono hH hle24);replace hv16_1 := hv16_1.mono (gz_mono hH hle24);replace hv16_2 := hv16_2.mono (gz_mono hH hle24);replace hv18_0 := hv18_0.mono (gz_mono hH hle24)
 replace hv18_1 := hv18_1.mono (gz_mono hH hle24);replace hv18_2 := hv18_2.mono (gz_mono hH hle24);replace hv19 := hv19.mono (gz_mono hH hle24);replace hv21_0 := hv21_0.mono (gz_mono hH hle24);refine S_storeBN 0 rfl rfl rfl zr23 hL24 rfl rfl (onc rfl (onc rfl on0)) ?_;intro w25 hL25 hle25;replace hv12_0 := hv12_0.mono (gz_mono hH hle25);replace hv16_0 := hv16_0.mono (gz_mono hH hle25);replace hv16_1 := hv16_1.mono (gz_mono hH hle25);replace hv16_2 := hv16_2.mono (gz_mono hH hle25);replace hv18_0 := hv18_0.mono (gz_mono hH hle25);replace hv18_1 := hv18_1.mono (gz_mono hH hle25);replace hv18_2 := hv18_2.mono (gz_mono hH hle25);replace hv19 := hv19.mono (gz_mono hH hle25);replace hv21_0 := hv21_0.mono (gz_mono hH hle25);refine S_seqnil ?_;refine W_seqr ?_;refine S_v (r_loadBN 1 rfl underlying47 rfl zr47 hL25 rfl) rfl ?_;obtain ⟨x26, hb26, h⟩ := Go.L.bind_some h;refine S_callL rfl rfl hL25 (shapes_Index_Number_ok (a0 := (x20.1.1, x20.1.2)) _ _ (gz_le hH hL25) hv21_0 hb26) ?_;rintro _ w27 ⟨u27_0, rfl, hR27_0⟩ hx27 hL27 hle27;have hv27_0 := hR27_0.vecG hH hL25 hx27;replace hv12_0 := hv12_0.mono (gz_mono hH hle27);replace hv21_0 := hv21_0.mono (gz_mono hH hle27);refine S_pu 3 rfl ?_;refine S_alloc zr23 rfl rfl hL27 ?_;intro w28 b28 hL28 hle28 _;replace hv12_0 := hv12_0.mono (gz_mono hH hle28);replace hv21_0 := hv21_0.mono (gz_mono hH hle28);replace hv27_0 := hv27_0.mono (gz_mono hH hle28);refine S_pu 1 rfl ?_
 refine S_storeBN 0 rfl rfl rfl zr23 hL28 rfl rfl (onc rfl (onc rfl on0)) ?_;intro w29 hL29 hle29;replace hv12_0 := hv12_0.mono (gz_mono hH hle29);replace hv21_0 := hv21_0.mono (gz_mono hH hle29);replace hv27_0 := hv27_0.mono (gz_mono hH hle29);refine S_seqnil ?_;have hG30 := hL29.rG H;refine W_seqr ?_;refine S_v (r_loadBN 2 rfl underlying47 rfl zr47 hL29 rfl) rfl ?_;obtain ⟨x31, hb31, h⟩ := Go.L.bind_some h;refine S_callL rfl rfl hL29 (shapes_Index_Find_ok (a0 := (x20.1.1, x20.1.2)) _ _ (gz_le hH hL29) (hv21_0.mono hG30) hb31) ?_;rintro _ w32 ⟨u32_0, rfl, hR32_0⟩ hx32 hL32 hle32;have hv32_0 := hR32_0.vecG hH hL29 hx32;replace hG30 := hG30.trans (gz_mono hH hle32);refine S_pu 3 rfl ?_;refine S_alloc zr23 rfl rfl hL32 ?_;intro w33 b33 hL33 hle33 _;replace hv32_0 := hv32_0.mono (gz_mono hH hle33);replace hG30 := hG30.trans (gz_mono hH hle33);refine S_pu 1 rfl ?_;refine S_storeBN 0 rfl rfl rfl zr23 hL33 rfl rfl (onc rfl (onc rfl on0)) ?_;intro w34 hL34 hle34;replace hv32_0 := hv32_0.mono (gz_mono hH hle34);replace hG30 := hG30.trans (gz_mono hH hle34);refine S_seqnil ?_;refine W_seqr ?_;refine S_v (r_loadBN 3 rfl underlying47 rfl zr47 hL34 rfl) rfl ?_;obtain ⟨x35, hb35, h⟩ := Go.L.bind_some h;refine S_callL rfl rfl hL34 (shapes_Index_Text_ok (a0 := (x20.1.1, x20.1.2)) _ _ (gz_le hH hL34) (hv21_0.mono hG30) (Vec.nil _ _) hb35) ?_;rintro _ w36 ⟨u36_0, rfl, hR36_0⟩ hx36 hL36 hle36;have hv36_0 := hR36_0.vecG hH hL34 hx36;replace hv32_0 := hv32_0.mono (gz_mono hH hle36)
 replace hG30 := hG30.trans (gz_mono hH hle36);refine S_pu 3 rfl ?_;refine S_alloc zr23 rfl rfl hL36 ?_;intro w37 b37 hL37 hle37 _;replace hv32_0 := hv32_0.mono (gz_mono hH hle37);replace hv36_0 := hv36_0.mono (gz_mono hH hle37);replace hG30 := hG30.trans (gz_mono hH hle37);refine S_pu 1 rfl ?_;refine S_storeBN 0 rfl rfl rfl zr23 hL37 rfl rfl (onc rfl (onc rfl on0)) ?_;intro w38 hL38 hle38;replace hv32_0 := hv32_0.mono (gz_mono hH hle38);replace hv36_0 := hv36_0.mono (gz_mono hH hle38);replace hG30 := hG30.trans (gz_mono hH hle38);refine S_seqnil ?_;refine W_seqr ?_;refine S_litE (r := .byte) (l := [(0 : UInt8), (0 : UInt8)]) rfl (fun _ => bsl35_2 _ _ _) rfl (show 2 ≤ 9223372036854775807 by decide) hH hL38 (.c1 rfl (.c1 rfl .nil)) ?_;intro v39 w39 hx39 hL39 hle39 hv39;replace hv32_0 := hv32_0.mono (gz_mono hH hle39);replace hv36_0 := hv36_0.mono (gz_mono hH hle39);replace hG30 := hG30.trans (gz_mono hH hle39);obtain ⟨x40, hb40, h⟩ := Go.L.bind_some h;refine S_callL rfl rfl hL39 (shapes_Open_ok _ _ (gz_le hH hL39) hv39 hb40) ?_;rintro _ w41 ⟨u41_0, rfl, hR41_0⟩ hx41 hL41 hle41;have hv41_0 := hR41_0.mono (gz_nw hH hL39 hx41);replace hv32_0 := hv32_0.mono (gz_mono hH hle41);replace hv36_0 := hv36_0.mono (gz_mono hH hle41);replace hv39 := hv39.mono (gz_mono hH hle41);replace hG30 := hG30.trans (gz_mono hH hle41);refine S_pu 3 rfl ?_;refine S_alloc zr47 rfl rfl hL41 ?_;intro w42 b42 hL42 hle42 _;replace hv32_0 := hv32_0.mono (gz_mono hH hle42)
 replace hv36_0 := hv36_0.mono (gz_mono hH hle42);replace hv39 := hv39.mono (gz_mono hH hle42);replace hv41_0 := hv41_0.mono (gz_mono hH hle42);replace hG30 := hG30.trans (gz_mono hH hle42);refine S_alloc zr23 rfl rfl hL42 ?_;intro w43 b43 hL43 hle43 _;replace hv32_0 := hv32_0.mono (gz_mono hH hle43);replace hv36_0 := hv36_0.mono (gz_mono hH hle43);replace hv39 := hv39.mono (gz_mono hH hle43);replace hv41_0 := hv41_0.mono (gz_mono hH hle43);replace hG30 := hG30.trans (gz_mono hH hle43);refine S_storeBN 1 rfl rfl rfl zr47 hL43 rfl rfl (onc rfl (onc hv41_0.one on0)) ?_;intro w44 hL44 hle44;replace hv32_0 := hv32_0.mono (gz_mono hH hle44);replace hv36_0 := hv36_0.mono (gz_mono hH hle44);replace hv39 := hv39.mono (gz_mono hH hle44);replace hv41_0 := hv41_0.mono (gz_mono hH hle44);replace hG30 := hG30.trans (gz_mono hH hle44);refine S_storeBN 0 rfl rfl rfl zr23 hL44 rfl rfl (onc rfl (onc rfl on0)) ?_;intro w45 hL45 hle45;replace hv32_0 := hv32_0.mono (gz_mono hH hle45);replace hv36_0 := hv36_0.mono (gz_mono hH hle45);replace hv39 := hv39.mono (gz_mono hH hle45);replace hv41_0 := hv41_0.mono (gz_mono hH hle45);replace hG30 := hG30.trans (gz_mono hH hle45);refine S_seqnil ?_;refine W_seq ?_;have hG46 := hL45.rG H;refine W_seqr ?_;refine S_v (r_field rfl underlying23 rfl zr3 (by decide)) rfl ?_;refine S_v (r_loadB1 9 rfl underlying3 rfl hL45 rfl rfl) rfl ?_;refine S_pu 2 rfl ?_;refine S_split (s := 60) rfl (fun hg47 => ?_) (fun hg47 => ?_)
 ·replace h := Go.L.ite_n (not_dec_t hg47) h
  iterate 3 refine S_unwanted rfl rfl hg47 rfl ?_
  refine S_v (r_pickT rfl hg47 rfl) rfl ?_;refine S_pu 1 rfl ?_
  iterate 3 refine S_unwanted rfl rfl rfl rfl ?_
  refine S_v (r_pickT rfl rfl rfl) rfl ?_;refine S_pu 1 rfl ?_
  iterate 3 refine S_unwanted rfl rfl rfl rfl ?_
  refine S_v (r_pickT rfl rfl rfl) rfl ?_;refine S_pu 1 rfl ?_
  iterate 3 refine S_unwanted rfl rfl rfl rfl ?_
  refine S_v (r_pickT rfl rfl rfl) rfl ?_;refine S_pu 1 rfl ?_
  iterate 3 refine S_unwanted rfl rfl rfl rfl ?_
  refine S_v (r_pickT rfl rfl rfl) rfl ?_;refine S_pu 1 rfl ?_
  iterate 3 refine S_unwanted rfl rfl rfl rfl ?_
  refine S_v (r_pickT rfl rfl rfl) rfl ?_;refine S_pu 1 rfl ?_
  iterate 3 refine S_unwanted rfl rfl rfl rfl ?_
  refine S_v (r_pickT rfl rfl rfl) rfl ?_;refine S_seqnil ?_;refine W_true rfl ?_;refine W_pz 1 rfl ?_;refine W_ret ?_;refine At_seq_ret ?_;obtain rfl := Option.some.inj h;refine At_body rfl rfl ?_;exact ⟨hL45.ext, rfl⟩
 ·replace h := Go.L.ite_p (not_dec_f hg47) h;refine S_guarded rfl rfl hg47 ?_;refine S_v (r_field rfl underlying23 rfl zr3 (by decide)) rfl ?_;refine S_guarded rfl rfl hg47 ?_;refine S_v (r_loadB1 8 rfl underlying3 rfl hL45 rfl rfl) rfl ?_;refine S_guarded rfl rfl hg47 ?_;refine S_v (RunsAt_pu rfl) rfl ?_;refine S_v (r_pickF rfl hg47 rfl) rfl ?_;refine S_pu 1 rfl ?_;refine S_split (s := 65) rfl (fun hg50 => ?_) (fun hg50 => ?_)
  ·replace h := Go.L.ite_n (not_dec_t hg50) h
   iterate 3 refine S_unwanted rfl rfl hg50 rfl ?_
   refine S_v (r_pickT rfl hg50 rfl) rfl ?_;refine S_pu 1 rfl ?_
   iterate 3 refine S_unwanted rfl rfl rfl rfl ?_
   refine S_v (r_pickT rfl rfl rfl) rfl ?_;refine S_pu 1 rfl ?_
   iterate 3 refine S_unwanted rfl rfl rfl rfl ?_
   refine S_v (r_pickT rfl rfl rfl) rfl ?_;refine S_pu 1 rfl ?_
   iterate 3 refine S_unwanted rfl rfl rfl rfl ?_
   refine S_v (r_pickT rfl rfl rfl) rfl ?_;refine S_pu 1 rfl ?_
   iterate 3 refine S_unwanted rfl rfl rfl rfl ?_
   refine S_v (r_pickT rfl rfl rfl) rfl ?_;refine S_pu 1 rfl ?_
   iterate 3 refine S_unwanted rfl rfl rfl rfl ?_
   refine S_v (r_pickT rfl rfl rfl) rfl ?_;refine S_seqnil ?_;refine W_true rfl ?_;refine W_pz 1 rfl ?_;refine W_ret ?_;refine At_seq_ret ?_;obtain rfl := Option.some.inj h;refine At_body rfl rfl ?_;exact ⟨hL45.ext, rfl⟩
  ·replace h := Go.L.ite_p (not_dec_f hg50) h;refine S_guarded rfl rfl hg50 ?_;refine S_v (r_field rfl underlying23 rfl zr3 (by decide)) rfl ?_;refine S_guarded rfl rfl hg50 ?_;refine S_v (r_loadB1 7 rfl underlying3 rfl hL45 rfl rfl) rfl ?_;refine S_guarded rfl rfl hg50 ?_;refine S_v (RunsAt_pu rfl) rfl ?_;refine S_v (r_pickF rfl hg50 rfl) rfl ?_;refine S_pu 1 rfl ?_;refine S_split (s := 70) rfl (fun hg53 => ?_) (fun hg53 => ?_)
   ·replace h := Go.L.ite_n (not_dec_t hg53) h
    iterate 3 refine S_unwanted rfl rfl hg53 rfl ?_
    refine S_v (r_pickT rfl hg53 rfl) rfl ?_;refine S_pu 1 rfl ?_
    iterate 3 refine S_unwanted rfl rfl rfl rfl ?_
    refine S_v (r_pickT rfl rfl rfl) rfl ?_;refine S_pu 1 rfl ?_
    iterate 3 refine S_unwanted rfl rfl rfl rfl ?_
    refine S_v (r_pickT rfl rfl rfl) rfl ?_;refine S_pu 1 rfl ?_
    iterate 3 refine S_unwanted rfl rfl rfl rfl ?_
    refine S_v (r_pickT rfl rfl rfl) rfl ?_;refine S_pu 1 rfl ?_
    iterate 3 refine S_unwanted rfl rfl rfl rfl ?_
    refine S_v (r_pickT rfl rfl rfl) rfl ?_;refine S_seqnil ?_;refine W_true rfl ?_;refine W_pz 1 rfl ?_;refine W_ret ?_;refine At_seq_ret ?_;obtain rfl := Option.some.inj h;refine At_body rfl rfl ?_;exact ⟨hL45.ext, rfl⟩
   ·replace h := Go.L.ite_p (not_dec_f hg53) h;refine S_guarded rfl rfl hg53 ?_;refine S_v (r_field rfl underlying23 rfl zr3 (by decide)) rfl ?_;refine S_guarded rfl rfl hg53 ?_;refine S_v (r_loadB1 5 rfl underlying3 rfl hL45 rfl rfl) rfl ?_;refine S_guarded rfl rfl hg53 ?_;refine S_v (RunsAt_pu rfl) rfl ?_;refine S_v (r_pickF rfl hg53 rfl) rfl ?_;refine S_pu 1 rfl ?_;refine S_split (s := 75) rfl (fun hg56 => ?_) (fun hg56 => ?_)
    ·replace h := Go.L.ite_n (not_dec_t hg56) h
     iterate 3 refine S_unwanted rfl rfl hg56 rfl ?_
     refine S_v (r_pickT rfl hg56 rfl) rfl ?_;refine S_pu 1 rfl ?_
     iterate 3 refine S_unwanted rfl rfl rfl rfl ?_
     refine S_v (r_pickT rfl rfl rfl) rfl ?_;refine S_pu 1 rfl ?_
     iterate 3 refine S_unwanted rfl rfl rfl rfl ?_
     refine S_v (r_pickT rfl rfl rfl) rfl ?_;refine S_pu 1 rfl ?_
     iterate 3 refine S_unwanted rfl rfl rfl rfl ?_
     refine S_v (r_pickT rfl rfl rfl) rfl ?_;refine S_seqnil ?_;refine W_true rfl ?_;refine W_pz 1 rfl ?_;refine W_ret ?_;refine At_seq_ret ?_;obtain rfl := Option.some.inj h;refine At_body rfl rfl ?_;exact ⟨hL45.ext, rfl⟩
    ·replace h := Go.L.ite_p (not_dec_f hg56) h;refine S_guarded rfl rfl hg56 ?_;refine S_v (r_field rfl underlying23 rfl zr3 (by decide)) rfl ?_;refine S_guarded rfl rfl hg56 ?_;refine S_v (r_loadB1 4 rfl underlying3 rfl hL45 rfl rfl) rfl ?_;refine S_guarded rfl rfl hg56 ?_;refine S_v (RunsAt_pu rfl) rfl ?_;refine S_v (r_pickF rfl hg56 rfl) rfl ?_;refine S_pu 1 rfl ?_;refine S_split (s := 80) rfl (fun hg59 => ?_) (fun hg59 => ?_)
     ·replace h := Go.L.ite_n (not_dec_t hg59) h
      iterate 3 refine S_unwanted rfl rfl hg59 rfl ?_
      refine S_v (r_pickT rfl hg59 rfl) rfl ?_;refine S_pu 1 rfl ?_
      iterate 3 refine S_unwanted rfl rfl rfl rfl ?_
      refine S_v (r_pickT rfl rfl rfl) rfl ?_;refine S_pu 1 rfl ?_
      iterate 3 refine S_unwanted rfl rfl rfl rfl ?_
      refine S_v (r_pickT rfl rfl rfl) rfl ?_;refine S_seqnil ?_;refine W_true rfl ?_;refine W_pz 1 rfl ?_;refine W_ret ?_;refine At_seq_ret ?_;obtain rfl := Option.some.inj h;refine At_body rfl rfl ?_;exact ⟨hL45.ext, rfl⟩
     ·replace h := Go.L.ite_p (not_dec_f hg59) h;refine S_guarded rfl rfl hg59 ?_;refine S_v (r_field rfl underlying23 rfl zr3 (by decide)) rfl ?_;refine S_guarded rfl rfl hg59 ?_;refine S_v (r_loadB1 3 rfl underlying3 rfl hL45 rfl rfl) rfl ?_;refine S_guarded rfl rfl hg59 ?_;refine S_v (RunsAt_pu rfl) rfl ?_;refine S_v (r_pickF rfl hg59 rfl) rfl ?_;refine S_pu 1 rfl ?_;refine S_split (s := 85) rfl (fun hg62 => ?_) (fun hg62 => ?_)
      ·replace h := Go.L.ite_n (not_dec_t hg62) h
       iterate 3 refine S_unwanted rfl rfl hg62 rfl ?_
       refine S_v (r_pickT rfl hg62 rfl) rfl ?_;refine S_pu 1 rfl ?_
       iterate 3 refine S_unwanted rfl rfl rfl rfl ?_
       refine S_v (r_pickT rfl rfl rfl) rfl ?_;refine S_seqnil ?_;refine W_true rfl ?_;refine W_pz 1 rfl ?_;refine W_ret ?_;refine At_seq_ret ?_;obtain rfl := Option.some.inj h;refine At_body rfl rfl ?_;exact ⟨hL45.ext, rfl⟩
      ·replace h := Go.L.ite_p (not_dec_f hg62) h;refine S_guarded rfl rfl hg62 ?_;refine S_v (r_field rfl underlying23 rfl zr3 (by decide)) rfl ?_;refine S_guarded rfl rfl hg62 ?_;refine S_v (r_loadB1 2 rfl underlying3 rfl hL45 rfl rfl) rfl ?_;refine S_guarded rfl rfl hg62 ?_;refine S_v (RunsAt_pu rfl) rfl ?_;refine S_v (r_pickF rfl hg62 rfl) rfl ?_;refine S_pu 1 rfl ?_;refine S_split (s := 90) rfl (fun hg65 => ?_) (fun hg65 => ?_)
       ·replace h := Go.L.ite_n (not_dec_t hg65) h
        iterate 3 refine S_unwanted rfl rfl hg65 rfl ?_
        refine S_v (r_pickT rfl hg65 rfl) rfl ?_;refine S_seqnil ?_;refine W_true rfl ?_;refine W_pz 1 rfl ?_;refine W_ret ?_;refine At_seq_ret ?_;obtain rfl := Option.some.inj h;refine At_body rfl rfl ?_;exact ⟨hL45.ext, rfl⟩
       ·replace h := Go.L.ite_p (not_dec_f hg65) h;refine S_guarded rfl rfl hg65 ?_;refine S_v (r_field rfl underlying23 rfl zr3 (by decide)) rfl ?_;refine S_guarded rfl rfl hg65 ?_;refine S_v (r_loadB1 0 rfl underlying3 rfl hL45 rfl rfl) rfl ?_;refine S_guarded rfl rfl hg65 ?_;refine S_v (RunsAt_pu rfl) rfl ?_;refine S_v (r_pickF rfl hg65 rfl) rfl ?_;refine S_seqnil ?_;refine W_ifn rfl (fun hc68 => ?_) (fun hc68 => ?_)
        ·replace h := Go.L.ite_n hc68 h;refine W_pz 1 rfl ?_;refine W_ret ?_;refine At_seq_ret ?_;obtain rfl := Option.some.inj h;refine At_body rfl rfl ?_;exact ⟨hL45.ext, rfl⟩
        ·replace h := Go.L.ite_p hc68 h;refine W_skip ?_;refine At_seq ?_;refine W_p 2 rfl ?_;refine S_pickT 2 1 rfl rfl rfl rfl rfl rfl rfl ?_;refine S_pu 1 rfl ?_;refine S_split (s := 100) rfl (fun hg71 => ?_) (fun hg71 => ?_)
         ·replace h := Go.L.ite_t hg71 h;refine S_guarded rfl rfl hg71 ?_;refine S_v (RunsAt_pu rfl) rfl ?_;refine S_guarded rfl rfl hg71 ?_;refine S_litE (r := .st) (l := [([] : List UInt8), ([97] : List UInt8)]) rfl (fun _ => bsl30_2 _ rfl _ rfl _) rfl (show 2 ≤ 9223372036854775807 by decide) hH hL45 (.c1 rfl (.c1 rfl .nil)) ?_;intro v73 w73 hx73 hL73 hle73 hv73;replace hG46 := hG46.trans (gz_mono hH hle73);refine S_guarded rfl rfl hg71 ?_;obtain ⟨x74, hb74, h⟩ := Go.L.bind_some h;refine S_callL rfl rfl hL73 (ref4_Texts_ok _ _ (gz_le hH hL73) ((hv12_0.mono hG30).mono hG46) hv73 hb74) ?_;rintro _ w75 rfl hx75 hL75 hle75;replace hv73 := hv73.mono (gz_mono hH hle75);replace hG46 := hG46.trans (gz_mono hH hle75);refine S_v (r_pickT rfl hg71 rfl) rfl ?_;refine S_pu 1 rfl ?_;refine S_split (s := 105) rfl (fun hg76 => ?_) (fun hg76 => ?_)
          ·replace h := Go.L.ite_t hg76 h;refine S_guarded rfl rfl hg76 ?_;refine S_v (RunsAt_pu rfl) rfl ?_;refine S_guarded rfl rfl hg76 ?_;refine S_litE (r := (.int .i64)) (l := [(1 : Int)]) rfl (fun _ => bsl52_1 _ _) rfl (show 1 ≤ 9223372036854775807 by decide) hH hL75 (.c1 rfl .nil) ?_;intro v78 w78 hx78 hL78 hle78 hv78;replace hv73 := hv73.mono (gz_mono hH hle78);replace hG46 := hG46.trans (gz_mono hH hle78);refine S_guarded rfl rfl hg76 ?_;obtain ⟨x79, hb79, h⟩ := Go.L.bind_some h;refine S_callL rfl rfl hL78 (ref3_Ints_ok _ _ (gz_le hH hL78) ((hv27_0.mono hG30).mono hG46) hv78 hb79) ?_;rintro _ w80 rfl hx80 hL80 hle80;replace hv73 := hv73.mono (gz_mono hH hle80);replace hv78 := hv78.mono (gz_mono hH hle80);replace hG46 := hG46.trans (gz_mono hH hle80);refine S_v (r_pickT rfl hg76 rfl) rfl ?_;refine S_pu 1 rfl ?_;refine S_split (s := 110) rfl (fun hg81 => ?_) (fun hg81 => ?_)
           ·replace h := Go.L.ite_t hg81 h;refine S_guarded rfl rfl hg81 ?_;refine S_v (RunsAt_pu rfl) rfl ?_;refine S_guarded rfl rfl hg81 ?_;refine S_litE (r := (.int .i64)) (l := [(0 : Int), (1 : Int)]) rfl (fun _ => bsl52_2 _ _ _) rfl (show 2 ≤ 9223372036854775807 by decide) hH hL80 (.c1 rfl (.c1 rfl .nil)) ?_;intro v83 w83 hx83 hL83 hle83 hv83;replace hv73 := hv73.mono (gz_mono hH hle83);replace hv78 := hv78.mono (gz_mono hH hle83);replace hG46 := hG46.trans (gz_mono hH hle83);refine S_guarded rfl rfl hg81 ?_;obtain ⟨x84, hb84, h⟩ := Go.L.bind_some h;refine S_callL rfl rfl hL83 (ref3_Ints_ok _ _ (gz_le hH hL83) (hv32_0.mono hG46) hv83 hb84) ?_;rintro _ w85 rfl hx85 hL85 hle85;replace hv73 := hv73.mono (gz_mono hH hle85);replace hv78 := hv78.mono (gz_mono hH hle85);replace hv83 := hv83.mono (gz_mono hH hle85);replace hG46 := hG46.trans (gz_mono hH hle85);refine S_v (r_pickT rfl hg81 rfl) rfl ?_;refine S_pu 1 rfl ?_;refine S_split (s := 115) rfl (fun hg86 => ?_) (fun hg86 => ?_)
            ·replace h := Go.L.ite_t hg86 h;refine S_guarded rfl rfl hg86 ?_;refine S_v (RunsAt_pu rfl) rfl ?_;refine S_guarded rfl rfl hg86 ?_;refine S_v (r_len rfl underlying52 (hv36_0.mono hG46)) rfl ?_;refine S_guarded rfl rfl hg86 ?_;refine S_v (RunsAt_pu rfl) rfl ?_;refine S_v (r_pickT rfl hg86 rfl) rfl ?_;refine S_pu 1 rfl ?_;refine S_split (s := 120) rfl (fun hg88 => ?_) (fun hg88 => ?_)
             ·replace h := Go.L.ite_p (of_decide_eq_true hg88) h;refine S_guarded rfl rfl hg88 ?_;refine S_v (r_loadBN 1 rfl underlying47 rfl zr47 hL85 rfl) rfl ?_;refine S_guarded rfl rfl hg88 ?_;obtain ⟨x90, hb90, h⟩ := Go.L.bind_some h;refine S_callL rfl rfl hL85 (shapes_Index_Items_ok (a0 := (x40.1.1, x40.1.2)) _ _ (gz_le hH hL85) (hv41_0.mono hG46) hb90) ?_;rintro _ w91 rfl hx91 hL91 hle91;replace hv73 := hv73.mono (gz_mono hH hle91);replace hv78 := hv78.mono (gz_mono hH hle91);replace hv83 := hv83.mono (gz_mono hH hle91);replace hG46 := hG46.trans (gz_mono hH hle91);refine S_guarded rfl rfl hg88 ?_;refine S_v (RunsAt_pu rfl) rfl ?_;refine S_v (r_pickT rfl hg88 rfl) rfl ?_;refine S_pu 1 rfl ?_;refine S_split (s := 125) rfl (fun hg92 => ?_) (fun hg92 => ?_)
              ·replace h := Go.L.ite_p (of_decide_eq_true hg92) h;refine S_guarded rfl rfl hg92 ?_;obtain ⟨x94, hb94, h⟩ := Go.L.bind_some h;refine S_callL rfl rfl hL91 (shapes_Check_ok _ _ (gz_le hH hL91) hb94) ?_;rintro _ w95 rfl hx95 hL95 hle95;replace hv73 := hv73.mono (gz_mono hH hle95);replace hv78 := hv78.mono (gz_mono hH hle95);replace hv83 := hv83.mono (gz_mono hH hle95);replace hG46 := hG46.trans (gz_mono hH hle95);refine S_guarded rfl rfl hg92 ?_;obtain ⟨x96, hb96, h⟩ := Go.L.bind_some h;refine S_callL rfl rfl hL95 (ref3_At_ok _ _ (gz_le hH hL95) hb96) ?_;rintro _ w97 rfl hx97 hL97 hle97;replace hv73 := hv73.mono (gz_mono hH hle97);replace hv78 := hv78.mono (gz_mono hH hle97);replace hv83 := hv83.mono (gz_mono hH hle97);replace hG46 := hG46.trans (gz_mono hH hle97);refine S_guarded rfl rfl hg92 ?_;refine S_v (r_eqA rfl rfl eqg23 (eq23 _ _ _ _ )) rfl ?_;refine S_v (r_pickT rfl hg92 rfl) rfl ?_;refine S_pz 1 rfl ?_;refine W_ret ?_;obtain rfl := Option.some.inj h;refine At_body rfl rfl ?_;exact ⟨hL97.ext, rfl⟩
              ·replace h := Go.L.ite_n (of_decide_eq_false hg92) h
               iterate 3 refine S_unwanted rfl rfl hg92 rfl ?_
               refine S_v (r_pickF rfl hg92 rfl) rfl ?_;refine S_pz 1 rfl ?_;refine W_ret ?_;obtain rfl := Option.some.inj h;refine At_body rfl rfl ?_;exact ⟨hL91.ext, rfl⟩
             ·replace h := Go.L.ite_n (of_decide_eq_false hg88) h
              iterate 3 refine S_unwanted rfl rfl hg88 rfl ?_
              refine S_v (r_pickF rfl hg88 rfl) rfl ?_;refine S_pu 1 rfl ?_
              iterate 3 refine S_unwanted rfl rfl rfl rfl ?_
              refine S_v (r_pickF rfl rfl rfl) rfl ?_;refine S_pz 1 rfl ?_;refine W_ret ?_;obtain rfl := Option.some.inj h;refine At_body rfl rfl ?_;exact ⟨hL85.ext, rfl⟩
            ·replace h := Go.L.ite_f hg86 h
             iterate 3 refine S_unwanted rfl rfl hg86 rfl ?_
             refine S_v (r_pickF rfl hg86 rfl) rfl ?_;refine S_pu 1 rfl ?_
             iterate 3 refine S_unwanted rfl rfl rfl rfl ?_
             refine S_v (r_pickF rfl rfl rfl) rfl ?_;refine S_pu 1 rfl ?_
             iterate 3 refine S_unwanted rfl rfl rfl rfl ?_
             refine S_v (r_pickF rfl rfl rfl) rfl ?_;refine S_pz 1 rfl ?_;refine W_ret ?_;obtain rfl := Option.some.inj h;refine At_body rfl rfl ?_;exact ⟨hL85.ext, rfl⟩
           ·replace h := Go.L.ite_f hg81 h
            iterate 3 refine S_unwanted rfl rfl hg81 rfl ?_
            refine S_v (r_pickF rfl hg81 rfl) rfl ?_;refine S_pu 1 rfl ?_
            iterate 3 refine S_unwanted rfl rfl rfl rfl ?_
            refine S_v (r_pickF rfl rfl rfl) rfl ?_;refine S_pu 1 rfl ?_
            iterate 3 refine S_unwanted rfl rfl rfl rfl ?_
            refine S_v (r_pickF rfl rfl rfl) rfl ?_;refine S_pu 1 rfl ?_
            iterate 3 refine S_unwanted rfl rfl rfl rfl ?_
            refine S_v (r_pickF rfl rfl rfl) rfl ?_;refine S_pz 1 rfl ?_;refine W_ret ?_;obtain rfl := Option.some.inj h;refine At_body rfl rfl ?_;exact ⟨hL80.ext, rfl⟩
          ·replace h := Go.L.ite_f hg76 h
           iterate 3 refine S_unwanted rfl rfl hg76 rfl ?_
           refine S_v (r_pickF rfl hg76 rfl) rfl ?_;refine S_pu 1 rfl ?_
           iterate 3 refine S_unwanted rfl rfl rfl rfl ?_
           refine S_v (r_pickF rfl rfl rfl) rfl ?_;refine S_pu 1 rfl ?_
           iterate 3 refine S_unwanted rfl rfl rfl rfl ?_
           refine S_v (r_pickF rfl rfl rfl) rfl ?_;refine S_pu 1 rfl ?_
           iterate 3 refine S_unwanted rfl rfl rfl rfl ?_
           refine S_v (r_pickF rfl rfl rfl) rfl ?_;refine S_pu 1 rfl ?_
           iterate 3 refine S_unwanted rfl rfl rfl rfl ?_
           refine S_v (r_pickF rfl rfl rfl) rfl ?_;refine S_pz 1 rfl ?_;refine W_ret ?_;obtain rfl := Option.some.inj h;refine At_body rfl rfl ?_;exact ⟨hL75.ext, rfl⟩
         ·replace h := Go.L.ite_f hg71 h
          iterate 3 refine S_unwanted rfl rfl hg71 rfl ?_
          refine S_v (r_pickF rfl hg71 rfl) rfl ?_;refine S_pu 1 rfl ?_
          iterate 3 refine S_unwanted rfl rfl rfl rfl ?_
          refine S_v (r_pickF rfl rfl rfl) rfl ?_;refine S_pu 1 rfl ?_
          iterate 3 refine S_unwanted rfl rfl rfl rfl ?_
          refine S_v (r_pickF rfl rfl rfl) rfl ?_;refine S_pu 1 rfl ?_
          iterate 3 refine S_unwanted rfl rfl rfl rfl ?_
          refine S_v (r_pickF rfl rfl rfl) rfl ?_;refine S_pu 1 rfl ?_
          iterate 3 refine S_unwanted rfl rfl rfl rfl ?_
          refine S_v (r_pickF rfl rfl rfl) rfl ?_;refine S_pu 1 rfl ?_
          iterate 3 refine S_unwanted rfl rfl rfl rfl ?_
          refine S_v (r_pickF rfl rfl rfl) rfl ?_;refine S_pz 1 rfl ?_;refine W_ret ?_;obtain rfl := Option.some.inj h;refine At_body rfl rfl ?_;exact ⟨hL45.ext, rfl⟩
end Go.Proofs.YtmfiaecglndldaaGreatDoor
end
section
namespace Go.Proofs.YtmfiaecglndldaaGreatDoor
open Go Go.E Go.RowKit Go.L
noncomputable instance (a b c d) : Mi (genSplitL a b c d) := ⟨_, apR _⟩
noncomputable instance (a b) : Mi (idxbL a b) := ⟨_, apR _⟩
noncomputable instance (a b) : Mi (joinL a b) := ⟨_, apR _⟩
noncomputable instance (a) : Mi (nameCF a) := ⟨_, apR _⟩
noncomputable instance (a0 : Int) (a1 : Int) : Mi (shapes_fault a0 a1) := by delta shapes_fault; infer_instance
noncomputable instance (a0 : List UInt8) (a1 : List UInt8) : Mi (strings_Split a0 a1) := by delta strings_Split; infer_instance
noncomputable instance (a0 : List UInt8) : Mi (shapes_steps a0) := by delta shapes_steps; infer_instance
noncomputable instance (a0 : List UInt8) : Mi (value_Name a0) := by delta value_Name; infer_instance
noncomputable instance  : Mi (shapes_Check_k1) := by delta shapes_Check_k1; infer_instance
noncomputable instance (x85 : (List (List UInt8))) (s) : Mi (shapes_Check_bl2 x85 s) := by obtain ⟨s3_122, s13_123⟩ := s; delta shapes_Check_bl2; dsimp only; repeat' first | (show Mi _; infer_instance) | refine @iB _ _ _ _ ?_ (fun _ => ?_) | refine @iC _ _ _ _ ?_ | refine @iI _ _ _ _ _ ?_ ?_
noncomputable instance (x85 : (List (List UInt8))) (s : Int × Int) : Mi (shapes_Check_l2 x85 s) := by delta shapes_Check_l2; infer_instance
noncomputable instance (a0 : List UInt8) : Mi (shapes_Check a0) := by delta shapes_Check; infer_instance
noncomputable instance (a0 : List UInt8) : Mi (shapes_isPath_1 a0) := by delta shapes_isPath_1; infer_instance
noncomputable instance  : Mi (idxf_isPath_1_k1) := by delta idxf_isPath_1_k1; infer_instance
noncomputable instance (a0 : List (List UInt8)) (s) : Mi (idxf_isPath_1_bl2 a0 s) := by delta idxf_isPath_1_bl2; infer_instance
noncomputable instance (a0 : List (List UInt8)) (s : Int) : Mi (idxf_isPath_1_l2 a0 s) := by delta idxf_isPath_1_l2; infer_instance
noncomputable instance (a0 : List (List UInt8)) : Mi (idxf_isPath_1 a0) := by delta idxf_isPath_1; infer_instance
noncomputable instance (a0 : List (List UInt8)) : Mi (conf_isPath_1 a0) := by delta conf_isPath_1; infer_instance
noncomputable instance (a0 : List UInt8) : Mi (shapes_isPath a0) := by delta shapes_isPath; infer_instance
noncomputable instance (a0 : List UInt8) (a1 : List UInt8) : Mi (shapes_matches_1 a0 a1) := by delta shapes_matches_1; infer_instance
noncomputable instance (l233 : List (List UInt8)) (s5_234 : Int) : Mi (slices_CompactFunc_string_string_k4 l233 s5_234) := by delta slices_CompactFunc_string_string_k4; infer_instance
noncomputable instance (s5_128 : Int) (s) : Mi (slices_CompactFunc_string_string_bl5 s5_128 s) := by obtain ⟨l263, s5_264, s7_265⟩ := s; delta slices_CompactFunc_string_string_bl5; dsimp only; infer_instance
noncomputable instance (s5_128 : Int) (s : (List (List UInt8)) × Int × Int) : Mi (slices_CompactFunc_string_string_l5 s5_128 s) := by delta slices_CompactFunc_string_string_l5; infer_instance
noncomputable instance (l127 : List (List UInt8)) (s5_186 : Int) : Mi (slices_CompactFunc_string_string_k3 l127 s5_186) := by delta slices_CompactFunc_string_string_k3; infer_instance
noncomputable instance (l65 : List (List UInt8)) : Mi (slices_CompactFunc_string_string_k1 l65) := by delta slices_CompactFunc_string_string_k1; infer_instance
noncomputable instance  (s) : Mi (slices_CompactFunc_string_string_bl2 s) := by obtain ⟨l127, s5_128⟩ := s; delta slices_CompactFunc_string_string_bl2; dsimp only; infer_instance
noncomputable instance (s : (List (List UInt8)) × Int) : Mi (slices_CompactFunc_string_string_l2 s) := by delta slices_CompactFunc_string_string_l2; infer_instance
noncomputable instance (a0 : List (List UInt8)) : Mi (slices_CompactFunc_string_string a0) := by delta slices_CompactFunc_string_string; infer_instance
noncomputable instance  : Mi (shapes_match_body_k2) := by delta shapes_match_body_k2; infer_instance
noncomputable instance (a0 : List (List UInt8)) (a1 : List (List UInt8)) (self : (List (List UInt8)) → (List (List UInt8)) → Option (Bool)) [∀ x0 x1, Mi (self x0 x1)] (s) : Mi (shapes_match_body_bl3 a0 a1 self s) := by delta shapes_match_body_bl3; infer_instance
noncomputable instance (a0 : List (List UInt8)) (a1 : List (List UInt8)) (self : (List (List UInt8)) → (List (List UInt8)) → Option (Bool)) [∀ x0 x1, Mi (self x0 x1)] (s : Int) : Mi (shapes_match_body_l3 a0 a1 self s) := by delta shapes_match_body_l3; infer_instance
noncomputable instance (a0 : List (List UInt8)) (a1 : List (List UInt8)) (self : (List (List UInt8)) → (List (List UInt8)) → Option (Bool)) [∀ x0 x1, Mi (self x0 x1)] : Mi (shapes_match_body_k1 a0 a1 self) := by delta shapes_match_body_k1; infer_instance
noncomputable instance (self : (List (List UInt8)) → (List (List UInt8)) → Option (Bool)) [∀ x0 x1, Mi (self x0 x1)] (a0 : List (List UInt8)) (a1 : List (List UInt8)) : Mi (shapes_match_body self a0 a1) := by delta shapes_match_body; infer_instance
noncomputable instance shapes_match_nMi  : ∀ (n : Nat) (y0) (y1), Mi (shapes_match_n n y0 y1)
 | 0, _, _ => ⟨none, fun _ h => by cases h⟩
 | n + 1, y0, y1 => by
  haveI := shapes_match_nMi n
  show Mi (shapes_match_body (shapes_match_n n) y0 y1)
  infer_instance
noncomputable instance  (y0) (y1) : Mi (shapes_match y0 y1) := by delta shapes_match; infer_instance
noncomputable instance (a0 : List UInt8) (a1 : List UInt8) : Mi (shapes_matches a0 a1) := by delta shapes_matches; infer_instance
noncomputable instance (a0 : List UInt8) (a1 : List UInt8) : Mi (shapes_Match a0 a1) := by delta shapes_Match; infer_instance
noncomputable instance (a0 : Int) : Mi (law4_number a0) := by delta law4_number; infer_instance
noncomputable instance (a0 : Int) : Mi (law4_record a0) := by delta law4_record; infer_instance
noncomputable instance (a0 : Int) (a1 : Int) : Mi (value_fault a0 a1) := by delta value_fault; infer_instance
noncomputable instance  : Mi (slices_Index_int_int_k1) := by delta slices_Index_int_int_k1; infer_instance
noncomputable instance (a0 : List Int) (a1 : Int) (s) : Mi (slices_Index_int_int_bl2 a0 a1 s) := by delta slices_Index_int_int_bl2; infer_instance
noncomputable instance (a0 : List Int) (a1 : Int) (s : Int) : Mi (slices_Index_int_int_l2 a0 a1 s) := by delta slices_Index_int_int_l2; infer_instance
noncomputable instance (a0 : List Int) (a1 : Int) : Mi (slices_Index_int_int a0 a1) := by delta slices_Index_int_int; infer_instance
noncomputable instance (a0 : List Int) (a1 : Int) : Mi (slices_Contains_int_int a0 a1) := by delta slices_Contains_int_int; infer_instance
noncomputable instance (a0 : List Int) (a1 : Go.L.Pv) : Mi (value_checkNode_1 a0 a1) := by delta value_checkNode_1; infer_instance
noncomputable instance (a0 : List UInt8) : Mi (value_checkNode_2 a0) := by delta value_checkNode_2; infer_instance
noncomputable instance  : Mi (idxf_checkNode_2_k1) := by delta idxf_checkNode_2_k1; infer_instance
noncomputable instance (a0 : List (List UInt8)) (s) : Mi (idxf_checkNode_2_bl2 a0 s) := by delta idxf_checkNode_2_bl2; infer_instance
noncomputable instance (a0 : List (List UInt8)) (s : Int) : Mi (idxf_checkNode_2_l2 a0 s) := by delta idxf_checkNode_2_l2; infer_instance
noncomputable instance (a0 : List (List UInt8)) : Mi (idxf_checkNode_2 a0) := by delta idxf_checkNode_2; infer_instance
noncomputable instance (a0 : List (List UInt8)) : Mi (conf_checkNode_2 a0) := by delta conf_checkNode_2; infer_instance
noncomputable instance  : Mi (slices_Index_string_string_k1) := by delta slices_Index_string_string_k1; infer_instance
noncomputable instance (a0 : List (List UInt8)) (a1 : List UInt8) (s) : Mi (slices_Index_string_string_bl2 a0 a1 s) := by delta slices_Index_string_string_bl2; infer_instance
noncomputable instance (a0 : List (List UInt8)) (a1 : List UInt8) (s : Int) : Mi (slices_Index_string_string_l2 a0 a1 s) := by delta slices_Index_string_string_l2; infer_instance
noncomputable instance (a0 : List (List UInt8)) (a1 : List UInt8) : Mi (slices_Index_string_string a0 a1) := by delta slices_Index_string_string; infer_instance
noncomputable instance (a0 : List (List UInt8)) (a1 : List UInt8) : Mi (slices_Contains_string_string a0 a1) := by delta slices_Contains_string_string; infer_instance
noncomputable instance  : Mi (value_checkNode_k5) := by delta value_checkNode_k5; infer_instance
noncomputable instance (c87 : List (List UInt8)) (s) : Mi (value_checkNode_bl6 c87 s) := by delta value_checkNode_bl6; infer_instance
noncomputable instance (c87 : List (List UInt8)) (s : Int) : Mi (value_checkNode_l6 c87 s) := by delta value_checkNode_l6; infer_instance
noncomputable instance (_c84 : Int) (_c85 : Int) (_c86 : List UInt8) (c87 : List (List UInt8)) (c88 : List Go.L.Pv) (s12_89 : Bool) : Mi (value_checkNode_k1 _c84 _c85 _c86 c87 c88 s12_89) := by delta value_checkNode_k1; infer_instance
noncomputable instance (c154 : Int) (c155 : Int) (c156 : List UInt8) (c157 : List (List UInt8)) (c158 : List Go.L.Pv) (s12_159 : Bool) : Mi (value_checkNode_k4 c154 c155 c156 c157 c158 s12_159) := by delta value_checkNode_k4; infer_instance
noncomputable instance (c127 : Int) (c128 : Int) (c129 : List UInt8) (c130 : List (List UInt8)) (c131 : List Go.L.Pv) (s12_132 : Bool) : Mi (value_checkNode_k3 c127 c128 c129 c130 c131 s12_132) := by delta value_checkNode_k3; infer_instance
noncomputable instance (c100 : Int) (c101 : Int) (c102 : List UInt8) (c103 : List (List UInt8)) (c104 : List Go.L.Pv) (s12_105 : Bool) : Mi (value_checkNode_k2 c100 c101 c102 c103 c104 s12_105) := by delta value_checkNode_k2; infer_instance
noncomputable instance (a0 : Go.L.Pv) : Mi (value_checkNode a0) := by delta value_checkNode; infer_instance
noncomputable instance (s9_65 : Int) : Mi (value_check_body_k1 s9_65) := by delta value_check_body_k1; infer_instance
noncomputable instance (a0 : Go.L.Pv) (a2 : Int) (self : Go.L.Pv → Int → Int → Option (Int × (Int × Int))) [∀ x0 x1 x2, Mi (self x0 x1 x2)] (s) : Mi (value_check_body_bl2 a0 a2 self s) := by obtain ⟨s9_90, s33_91⟩ := s; delta value_check_body_bl2; dsimp only; infer_instance
noncomputable instance (a0 : Go.L.Pv) (a2 : Int) (self : Go.L.Pv → Int → Int → Option (Int × (Int × Int))) [∀ x0 x1 x2, Mi (self x0 x1 x2)] (s : Int × Int) : Mi (value_check_body_l2 a0 a2 self s) := by delta value_check_body_l2; infer_instance
noncomputable instance (self : Go.L.Pv → Int → Int → Option (Int × (Int × Int))) [∀ x0 x1 x2, Mi (self x0 x1 x2)] (a0 : Go.L.Pv) (a1 : Int) (a2 : Int) : Mi (value_check_body self a0 a1 a2) := by delta value_check_body; infer_instance
noncomputable instance value_check_nMi  : ∀ (n : Nat) (y0) (y1) (y2), Mi (value_check_n n y0 y1 y2)
 | 0, _, _, _ => ⟨none, fun _ h => by cases h⟩
 | n + 1, y0, y1, y2 => by
  haveI := value_check_nMi n
  show Mi (value_check_body (value_check_n n) y0 y1 y2)
  infer_instance
noncomputable instance  (y0) (y1) (y2) : Mi (value_check y0 y1 y2) := by delta value_check; infer_instance
noncomputable instance (l12 : List UInt8) (s3_13 : Int) : Mi (wire_Number_k1 l12 s3_13) := by delta wire_Number_k1; infer_instance
noncomputable instance  (s) : Mi (wire_Number_bl2 s) := by obtain ⟨l23, s3_24⟩ := s; delta wire_Number_bl2; dsimp only; infer_instance
noncomputable instance (s : (List UInt8) × Int) : Mi (wire_Number_l2 s) := by delta wire_Number_l2; infer_instance
noncomputable instance (a0 : Int) : Mi (wire_Number a0) := by delta wire_Number; infer_instance
noncomputable instance (a0 : List UInt8) : Mi (wire_Chunk a0) := by delta wire_Chunk; infer_instance
noncomputable instance (a0 : Go.L.Pv) (s34_107 : Int) (self : Go.L.Pv → Option ((List UInt8))) [∀ x0, Mi (self x0)] (l128 : List UInt8) : Mi (value_encode_body_k3 a0 s34_107 self l128) := by delta value_encode_body_k3; infer_instance
noncomputable instance (l77 : List UInt8) : Mi (value_encode_body_k1 l77) := by delta value_encode_body_k1; infer_instance
noncomputable instance (a0 : Go.L.Pv) (self : Go.L.Pv → Option ((List UInt8))) [∀ x0, Mi (self x0)] (s) : Mi (value_encode_body_bl2 a0 self s) := by obtain ⟨l106, s34_107⟩ := s; delta value_encode_body_bl2; dsimp only; infer_instance
noncomputable instance (a0 : Go.L.Pv) (self : Go.L.Pv → Option ((List UInt8))) [∀ x0, Mi (self x0)] (s : (List UInt8) × Int) : Mi (value_encode_body_l2 a0 self s) := by delta value_encode_body_l2; infer_instance
noncomputable instance (self : Go.L.Pv → Option ((List UInt8))) [∀ x0, Mi (self x0)] (a0 : Go.L.Pv) : Mi (value_encode_body self a0) := by delta value_encode_body; infer_instance
noncomputable instance value_encode_nMi  : ∀ (n : Nat) (y0), Mi (value_encode_n n y0)
 | 0, _ => ⟨none, fun _ h => by cases h⟩
 | n + 1, y0 => by
  haveI := value_encode_nMi n
  show Mi (value_encode_body (value_encode_n n) y0)
  infer_instance
noncomputable instance  (y0) : Mi (value_encode y0) := by delta value_encode; infer_instance
noncomputable instance (a0 : Go.L.Pv) : Mi (value_Encode a0) := by delta value_Encode; infer_instance
noncomputable instance (a0 : Go.L.Pv) : Mi (value_Validate a0) := by delta value_Validate; infer_instance
noncomputable instance (a0 : List (List UInt8)) : Mi (slices_Clone_string_string a0) := by delta slices_Clone_string_string; infer_instance
noncomputable instance {σ : Type} (a0 : Go.L.Pv) (a1 : List (List UInt8)) (s24_45 : Int) (self : Go.L.Pv → (List (List UInt8)) → σ → Option σ) [∀ x0 x1 x2, Mi (self x0 x1 x2)] (s8_62 : List UInt8) (sJ63 : σ) : Mi (shapes_leaves_body_k2 a0 a1 s24_45 self s8_62 sJ63) := by delta shapes_leaves_body_k2; infer_instance
noncomputable instance {σ : Type} (a0 : Go.L.Pv) (a1 : List (List UInt8)) (self : Go.L.Pv → (List (List UInt8)) → σ → Option σ) [∀ x0 x1 x2, Mi (self x0 x1 x2)] (s) : Mi (shapes_leaves_body_bl1 a0 a1 self s) := by obtain ⟨s24_45, sJ46⟩ := s; delta shapes_leaves_body_bl1; dsimp only; infer_instance
noncomputable instance {σ : Type} (a0 : Go.L.Pv) (a1 : List (List UInt8)) (self : Go.L.Pv → (List (List UInt8)) → σ → Option σ) [∀ x0 x1 x2, Mi (self x0 x1 x2)] (s : Int × σ) : Mi (shapes_leaves_body_l1 a0 a1 self s) := by delta shapes_leaves_body_l1; infer_instance
noncomputable instance {σ : Type} (step : σ → ((List UInt8) × Int × Int × (List UInt8)) → Option σ) [∀ x0 x1, Mi (step x0 x1)] (self : Go.L.Pv → (List (List UInt8)) → σ → Option σ) [∀ x0 x1 x2, Mi (self x0 x1 x2)] (a0 : Go.L.Pv) (a1 : List (List UInt8)) (s : σ) : Mi (shapes_leaves_body step self a0 a1 s) := by delta shapes_leaves_body; infer_instance
noncomputable instance shapes_leaves_nMi {σ : Type} (step : σ → ((List UInt8) × Int × Int × (List UInt8)) → Option σ) [∀ x0 x1, Mi (step x0 x1)] : ∀ (n : Nat) (y0) (y1) (y2), Mi (shapes_leaves_n step n y0 y1 y2)
 | 0, _, _, _ => ⟨none, fun _ h => by cases h⟩
 | n + 1, y0, y1, y2 => by
  haveI := shapes_leaves_nMi step n
  show Mi (shapes_leaves_body step (shapes_leaves_n step n) y0 y1 y2)
  infer_instance
noncomputable instance {σ : Type} (step : σ → ((List UInt8) × Int × Int × (List UInt8)) → Option σ) [∀ x0 x1, Mi (step x0 x1)] (y0) (y1) (y2) : Mi (shapes_leaves step y0 y1 y2) := by delta shapes_leaves; infer_instance
noncomputable instance (a0 : (List UInt8) × Int × Int × (List UInt8)) (a1 : List (List UInt8)) : Mi (shapes_Paths_1 a0 a1) := by delta shapes_Paths_1; infer_instance
noncomputable instance (s : List (List UInt8)) (x : Lf) : Mi (pathStep s x) := by delta pathStep; infer_instance
noncomputable def shapes_Paths_is (a0 : Go.L.Pv) : Option ((List (List UInt8)) × (Int × Int)) := 
  Option.bind (value_Validate a0) (fun x3 => if x3.1 = (0 : Int) ∧ x3.2 = (0 : Int) then Option.bind (shapes_leaves pathStep a0 ([] : List (List UInt8)) ([] : List (List UInt8))) (fun x18 => Go.L.chk (x18.length < 4611686018427387904) (Go.L.chk ((isS x18).length ≤ 9223372036854775807) (some ((Lib.compact (isS x18)), ((0 : Int), (0 : Int)))))) else some ([], (x3.1, x3.2)))
theorem shapes_Paths_isE : @shapes_Paths_is = @shapes_Paths := by
  unfold shapes_Paths_is shapes_Paths;simp only [isS_eq, isI_eq]
noncomputable instance (a0 : Go.L.Pv) : Mi (shapes_Paths_is a0) := by delta shapes_Paths_is; infer_instance
noncomputable instance (a0 : Go.L.Pv) : Mi (shapes_Paths a0) := ⟨(inferInstance : Mi (shapes_Paths_is a0)).c, by rw [← shapes_Paths_isE]; exact (inferInstance : Mi (shapes_Paths_is a0)).h⟩
noncomputable instance (i : Int) (l : List (Lf × List Int)) (x : Lf) : Mi (buildStep i l x) := by delta buildStep; infer_instance
noncomputable instance (a0 : List Int) : Mi (slices_Clone_int_int a0) := by delta slices_Clone_int_int; infer_instance
noncomputable instance (l16 : List UInt8) : Mi (wslice_Number_k1 l16) := by delta wslice_Number_k1; infer_instance
noncomputable instance (a0 : List Int) (s) : Mi (wslice_Number_bl2 a0 s) := by obtain ⟨l30, s13_31⟩ := s; delta wslice_Number_bl2; dsimp only; infer_instance
noncomputable instance (a0 : List Int) (s : (List UInt8) × Int) : Mi (wslice_Number_l2 a0 s) := by delta wslice_Number_l2; infer_instance
noncomputable instance (a0 : List Int) : Mi (wslice_Number a0) := by delta wslice_Number; infer_instance
noncomputable instance (a1 : Int) : Mi (slices_Grow_byte_byte_k1 a1) := by delta slices_Grow_byte_byte_k1; infer_instance
noncomputable instance (_a0 : List UInt8) (a1 : Int) : Mi (slices_Grow_byte_byte _a0 a1) := by delta slices_Grow_byte_byte; infer_instance
noncomputable instance (l57 : List UInt8) : Mi (slices_Concat_byte_byte_k3 l57) := by delta slices_Concat_byte_byte_k3; infer_instance
noncomputable instance (a0 : List (List UInt8)) (s) : Mi (slices_Concat_byte_byte_bl4 a0 s) := by obtain ⟨l69, s27_70⟩ := s; delta slices_Concat_byte_byte_bl4; dsimp only; infer_instance
noncomputable instance (a0 : List (List UInt8)) (s : (List UInt8) × Int) : Mi (slices_Concat_byte_byte_l4 a0 s) := by delta slices_Concat_byte_byte_l4; infer_instance
noncomputable instance (a0 : List (List UInt8)) (s3_15 : Int) : Mi (slices_Concat_byte_byte_k1 a0 s3_15) := by delta slices_Concat_byte_byte_k1; infer_instance
noncomputable instance (a0 : List (List UInt8)) (s) : Mi (slices_Concat_byte_byte_bl2 a0 s) := by obtain ⟨s3_29, s11_30⟩ := s; delta slices_Concat_byte_byte_bl2; dsimp only; infer_instance
noncomputable instance (a0 : List (List UInt8)) (s : Int × Int) : Mi (slices_Concat_byte_byte_l2 a0 s) := by delta slices_Concat_byte_byte_l2; infer_instance
noncomputable instance (a0 : List (List UInt8)) : Mi (slices_Concat_byte_byte a0) := by delta slices_Concat_byte_byte; infer_instance
noncomputable instance (l117 : List UInt8) : Mi (shapes_form_k1 l117) := by delta shapes_form_k1; infer_instance
noncomputable instance (a0 : ((List UInt8) × Int × Int × (List UInt8)) × (List Int)) : Mi (shapes_form a0) := by delta shapes_form; infer_instance
noncomputable instance (l18 : List UInt8) : Mi (wslice_form_k1 l18) := by delta wslice_form_k1; infer_instance
noncomputable instance (a0 : List (((List UInt8) × Int × Int × (List UInt8)) × (List Int))) (s) : Mi (wslice_form_bl2 a0 s) := by obtain ⟨l34, s13_35⟩ := s; delta wslice_form_bl2; dsimp only; infer_instance
noncomputable instance (a0 : List (((List UInt8) × Int × Int × (List UInt8)) × (List Int))) (s : (List UInt8) × Int) : Mi (wslice_form_l2 a0 s) := by delta wslice_form_l2; infer_instance
noncomputable instance (a0 : List (((List UInt8) × Int × Int × (List UInt8)) × (List Int))) : Mi (wslice_form a0) := by delta wslice_form; infer_instance
noncomputable instance (a0 : Int × (List (((List UInt8) × Int × Int × (List UInt8)) × (List Int)))) : Mi (shapes_Index_Bytes a0) := by delta shapes_Index_Bytes; infer_instance
noncomputable instance (a0 : Int) (l71 : List (((List UInt8) × Int × Int × (List UInt8)) × (List Int))) : Mi (shapes_build_k1 a0 l71) := by delta shapes_build_k1; infer_instance
noncomputable def shapes_build_bl2_is (a0 : Int) (a1 : List (((List UInt8) × Int × Int × (List UInt8)) × (List Int))) (x74 : (List ((List UInt8) × Int × Int × (List UInt8)))) : (List (((List UInt8) × Int × Int × (List UInt8)) × (List Int))) × Int → Option (((List (((List UInt8) × Int × Int × (List UInt8)) × (List Int))) × Int) ⊕ ((Int × (List (((List UInt8) × Int × Int × (List UInt8)) × (List Int)))) × (Int × Int))) := fun ⟨l102, s15_103⟩ =>
  if s15_103 < (x74.length : Int) then Go.L.chk (0 ≤ s15_103 ∧ s15_103 < (x74.length : Int)) (Option.bind (slices_Clone_int_int (Go.L.mget [] ((x74.getD s15_103.toNat default).1, (x74.getD s15_103.toNat default).2.1, (x74.getD s15_103.toNat default).2.2.1, (x74.getD s15_103.toNat default).2.2.2) a1)) (fun x114 => Go.L.chk (x114.length < 4611686018427387904) (Go.L.chk ((isI x114).length ≤ 9223372036854775807) (Go.L.chk (Go.E.Cap 72 (l102.length + ([(((x74.getD s15_103.toNat default).1, (x74.getD s15_103.toNat default).2.1, (x74.getD s15_103.toNat default).2.2.1, (x74.getD s15_103.toNat default).2.2.2), (Lib.compact (isI x114)))]).length)) (Go.L.chk (Go.L.I64 (s15_103 + (1 : Int))) (some (Sum.inl ((l102 ++ [(((x74.getD s15_103.toNat default).1, (x74.getD s15_103.toNat default).2.1, (x74.getD s15_103.toNat default).2.2.1, (x74.getD s15_103.toNat default).2.2.2), (Lib.compact (isI x114)))]), (s15_103 + (1 : Int)))))))))) else Option.map Sum.inr ((shapes_build_k1 a0) l102)
theorem shapes_build_bl2_isE : @shapes_build_bl2_is = @shapes_build_bl2 := by
  unfold shapes_build_bl2_is shapes_build_bl2;simp only [isS_eq, isI_eq]
noncomputable instance (a0 : Int) (a1 : List (((List UInt8) × Int × Int × (List UInt8)) × (List Int))) (x74 : (List ((List UInt8) × Int × Int × (List UInt8)))) (s) : Mi (shapes_build_bl2_is a0 a1 x74 s) := by obtain ⟨l102, s15_103⟩ := s; delta shapes_build_bl2_is; dsimp only; infer_instance
noncomputable instance (a0 : Int) (a1 : List (((List UInt8) × Int × Int × (List UInt8)) × (List Int))) (x74 : (List ((List UInt8) × Int × Int × (List UInt8)))) (s) : Mi (shapes_build_bl2 a0 a1 x74 s) := ⟨(inferInstance : Mi (shapes_build_bl2_is a0 a1 x74 s)).c, by rw [← shapes_build_bl2_isE]; exact (inferInstance : Mi (shapes_build_bl2_is a0 a1 x74 s)).h⟩
noncomputable instance (a0 : Int) (a1 : List (((List UInt8) × Int × Int × (List UInt8)) × (List Int))) (x74 : (List ((List UInt8) × Int × Int × (List UInt8)))) (s : (List (((List UInt8) × Int × Int × (List UInt8)) × (List Int))) × Int) : Mi (shapes_build_l2 a0 a1 x74 s) := by delta shapes_build_l2; infer_instance
noncomputable instance (a0 : Int) (a1 : List (((List UInt8) × Int × Int × (List UInt8)) × (List Int))) : Mi (shapes_build a0 a1) := by delta shapes_build; infer_instance
noncomputable instance (a0 : List Go.L.Pv) (l68 : List (((List UInt8) × Int × Int × (List UInt8)) × (List Int))) : Mi (shapes_Build_k1 a0 l68) := by delta shapes_Build_k1; infer_instance
noncomputable instance (a0 : List Go.L.Pv) (s) : Mi (shapes_Build_bl2 a0 s) := by obtain ⟨l97, s16_98⟩ := s; delta shapes_Build_bl2; dsimp only; infer_instance
noncomputable instance (a0 : List Go.L.Pv) (s : (List (((List UInt8) × Int × Int × (List UInt8)) × (List Int))) × Int) : Mi (shapes_Build_l2 a0 s) := by delta shapes_Build_l2; infer_instance
noncomputable instance (a0 : List Go.L.Pv) : Mi (shapes_Build a0) := by delta shapes_Build; infer_instance
noncomputable instance (a0 : ((List UInt8) × Int × Int × (List UInt8)) × (List Int)) (a1 : Int) (a2 : Int) : Mi (shapes_Index_Number_1 a0 a1 a2) := by delta shapes_Index_Number_1; infer_instance
noncomputable def shapes_Index_collect_s2_k1_is (l58 : List Int) (c59 : Int) (c60 : Int) : Option ((List Int) × Int × Int) := 
  Go.L.chk (l58.length < 4611686018427387904) (Go.L.chk ((isI l58).length ≤ 9223372036854775807) (some ((Lib.compact (isI l58)), c59, c60)))
theorem shapes_Index_collect_s2_k1_isE : @shapes_Index_collect_s2_k1_is = @shapes_Index_collect_s2_k1 := by
  unfold shapes_Index_collect_s2_k1_is shapes_Index_collect_s2_k1;simp only [isS_eq, isI_eq]
noncomputable instance (l58 : List Int) (c59 : Int) (c60 : Int) : Mi (shapes_Index_collect_s2_k1_is l58 c59 c60) := by delta shapes_Index_collect_s2_k1_is; infer_instance
noncomputable instance (l58 : List Int) (c59 : Int) (c60 : Int) : Mi (shapes_Index_collect_s2_k1 l58 c59 c60) := ⟨(inferInstance : Mi (shapes_Index_collect_s2_k1_is l58 c59 c60)).c, by rw [← shapes_Index_collect_s2_k1_isE]; exact (inferInstance : Mi (shapes_Index_collect_s2_k1_is l58 c59 c60)).h⟩
noncomputable instance (a0 : Int × (List (((List UInt8) × Int × Int × (List UInt8)) × (List Int)))) (a1 : List UInt8) (s) : Mi (shapes_Index_collect_s2_bl2 a0 a1 s) := by obtain ⟨l88, c89, c90, s13_91⟩ := s; delta shapes_Index_collect_s2_bl2; dsimp only; infer_instance
noncomputable instance (a0 : Int × (List (((List UInt8) × Int × Int × (List UInt8)) × (List Int)))) (a1 : List UInt8) (s : (List Int) × Int × Int × Int) : Mi (shapes_Index_collect_s2_l2 a0 a1 s) := by delta shapes_Index_collect_s2_l2; infer_instance
noncomputable instance (a0 : Int × (List (((List UInt8) × Int × Int × (List UInt8)) × (List Int)))) (a1 : List UInt8) (a2_c0 : Int) (a2_c1 : Int) : Mi (shapes_Index_collect_s2 a0 a1 a2_c0 a2_c1) := by delta shapes_Index_collect_s2; infer_instance
noncomputable instance (a0 : Int × (List (((List UInt8) × Int × Int × (List UInt8)) × (List Int)))) (a1 : List UInt8) (a2 : Int) (a3 : Int) : Mi (shapes_Index_Number a0 a1 a2 a3) := by delta shapes_Index_Number; infer_instance
noncomputable instance (_a0 : ((List UInt8) × Int × Int × (List UInt8)) × (List Int)) : Mi (shapes_Index_Find_1 _a0) := by delta shapes_Index_Find_1; infer_instance
noncomputable def shapes_Index_collect_k1_is (l54 : List Int) : Option ((List Int)) := 
  Go.L.chk (l54.length < 4611686018427387904) (Go.L.chk ((isI l54).length ≤ 9223372036854775807) (some ((Lib.compact (isI l54)))))
theorem shapes_Index_collect_k1_isE : @shapes_Index_collect_k1_is = @shapes_Index_collect_k1 := by
  unfold shapes_Index_collect_k1_is shapes_Index_collect_k1;simp only [isS_eq, isI_eq]
noncomputable instance (l54 : List Int) : Mi (shapes_Index_collect_k1_is l54) := by delta shapes_Index_collect_k1_is; infer_instance
noncomputable instance (l54 : List Int) : Mi (shapes_Index_collect_k1 l54) := ⟨(inferInstance : Mi (shapes_Index_collect_k1_is l54)).c, by rw [← shapes_Index_collect_k1_isE]; exact (inferInstance : Mi (shapes_Index_collect_k1_is l54)).h⟩
noncomputable instance (a0 : Int × (List (((List UInt8) × Int × Int × (List UInt8)) × (List Int)))) (a1 : List UInt8) (s) : Mi (shapes_Index_collect_bl2 a0 a1 s) := by obtain ⟨l81, s13_82⟩ := s; delta shapes_Index_collect_bl2; dsimp only; infer_instance
noncomputable instance (a0 : Int × (List (((List UInt8) × Int × Int × (List UInt8)) × (List Int)))) (a1 : List UInt8) (s : (List Int) × Int) : Mi (shapes_Index_collect_l2 a0 a1 s) := by delta shapes_Index_collect_l2; infer_instance
noncomputable instance (a0 : Int × (List (((List UInt8) × Int × Int × (List UInt8)) × (List Int)))) (a1 : List UInt8) : Mi (shapes_Index_collect a0 a1) := by delta shapes_Index_collect; infer_instance
noncomputable instance (a0 : Int × (List (((List UInt8) × Int × Int × (List UInt8)) × (List Int)))) (a1 : List UInt8) : Mi (shapes_Index_Find a0 a1) := by delta shapes_Index_Find; infer_instance
noncomputable instance (a0 : ((List UInt8) × Int × Int × (List UInt8)) × (List Int)) (a1 : List UInt8) : Mi (shapes_Index_Text_1 a0 a1) := by delta shapes_Index_Text_1; infer_instance
noncomputable def shapes_Index_collect_s3_k1_is (l59 : List Int) (c60 : List UInt8) : Option ((List Int) × (List UInt8)) := 
  Go.L.chk (l59.length < 4611686018427387904) (Go.L.chk ((isI l59).length ≤ 9223372036854775807) (some ((Lib.compact (isI l59)), c60)))
theorem shapes_Index_collect_s3_k1_isE : @shapes_Index_collect_s3_k1_is = @shapes_Index_collect_s3_k1 := by
  unfold shapes_Index_collect_s3_k1_is shapes_Index_collect_s3_k1;simp only [isS_eq, isI_eq]
noncomputable instance (l59 : List Int) (c60 : List UInt8) : Mi (shapes_Index_collect_s3_k1_is l59 c60) := by delta shapes_Index_collect_s3_k1_is; infer_instance
noncomputable instance (l59 : List Int) (c60 : List UInt8) : Mi (shapes_Index_collect_s3_k1 l59 c60) := ⟨(inferInstance : Mi (shapes_Index_collect_s3_k1_is l59 c60)).c, by rw [← shapes_Index_collect_s3_k1_isE]; exact (inferInstance : Mi (shapes_Index_collect_s3_k1_is l59 c60)).h⟩
noncomputable instance (a0 : Int × (List (((List UInt8) × Int × Int × (List UInt8)) × (List Int)))) (a1 : List UInt8) (s) : Mi (shapes_Index_collect_s3_bl2 a0 a1 s) := by obtain ⟨l89, c90, s13_91⟩ := s; delta shapes_Index_collect_s3_bl2; dsimp only; infer_instance
noncomputable instance (a0 : Int × (List (((List UInt8) × Int × Int × (List UInt8)) × (List Int)))) (a1 : List UInt8) (s : (List Int) × (List UInt8) × Int) : Mi (shapes_Index_collect_s3_l2 a0 a1 s) := by delta shapes_Index_collect_s3_l2; infer_instance
noncomputable instance (a0 : Int × (List (((List UInt8) × Int × Int × (List UInt8)) × (List Int)))) (a1 : List UInt8) (a2_c0 : List UInt8) : Mi (shapes_Index_collect_s3 a0 a1 a2_c0) := by delta shapes_Index_collect_s3; infer_instance
noncomputable instance (a0 : Int × (List (((List UInt8) × Int × Int × (List UInt8)) × (List Int)))) (a1 : List UInt8) (a2 : List UInt8) : Mi (shapes_Index_Text a0 a1 a2) := by delta shapes_Index_Text; infer_instance
noncomputable instance (a0 : Int) (a1 : Int) : Mi (wire_fault a0 a1) := by delta wire_fault; infer_instance
noncomputable instance (a1 : Int) : Mi (wire_ReadNumber_k1 a1) := by delta wire_ReadNumber_k1; infer_instance
noncomputable instance (a0 : List UInt8) (a1 : Int) (s) : Mi (wire_ReadNumber_bl2 a0 a1 s) := by obtain ⟨s7_160, s19_161⟩ := s; delta wire_ReadNumber_bl2; dsimp only; repeat' first | (show Mi _; infer_instance) | refine @iB _ _ _ _ ?_ (fun _ => ?_) | refine @iC _ _ _ _ ?_ | refine @iI _ _ _ _ _ ?_ ?_
noncomputable instance (a0 : List UInt8) (a1 : Int) (s : Int × Int) : Mi (wire_ReadNumber_l2 a0 a1 s) := by delta wire_ReadNumber_l2; infer_instance
noncomputable instance (a0 : List UInt8) (a1 : Int) : Mi (wire_ReadNumber a0 a1) := by delta wire_ReadNumber; infer_instance
noncomputable instance (c26 : Int) (c27 : Int) (c28 : Int) : Mi (shapes_Open_k1 c26 c27 c28) := by delta shapes_Open_k1; infer_instance
noncomputable instance (a0 : List UInt8) (a1 : Int) : Mi (wire_ReadChunk a0 a1) := by delta wire_ReadChunk; infer_instance
noncomputable instance (l65 : List Int) (s12_66 : Int) : Mi (wreads_Number_k1 l65 s12_66) := by delta wreads_Number_k1; infer_instance
noncomputable instance (a0 : List UInt8) (x2 : Int × Int × (Int × Int)) (s) : Mi (wreads_Number_bl2 a0 x2 s) := by obtain ⟨l89, s12_90, s41_91⟩ := s; delta wreads_Number_bl2; dsimp only; infer_instance
noncomputable instance (a0 : List UInt8) (x2 : Int × Int × (Int × Int)) (s : (List Int) × Int × Int) : Mi (wreads_Number_l2 a0 x2 s) := by delta wreads_Number_l2; infer_instance
noncomputable instance (a0 : List UInt8) (a1 : Int) (a2 : Int) : Mi (wreads_Number a0 a1 a2) := by delta wreads_Number; infer_instance
noncomputable instance (x111 : (List Int) × Int × (Int × Int)) (c123 : List UInt8) (c124 : Int) (c125 : Int) (c126 : List UInt8) (s5_128 : Int) : Mi (shapes_readEntry_k5 x111 c123 c124 c125 c126 s5_128) := by delta shapes_readEntry_k5; infer_instance
noncomputable instance (x84 : (List UInt8) × Int × (Int × Int)) (c95 : List UInt8) (c96 : Int) (c97 : Int) (c98 : List UInt8) (s5_100 : Int) : Mi (shapes_readEntry_k4 x84 c95 c96 c97 c98 s5_100) := by delta shapes_readEntry_k4; infer_instance
noncomputable instance (x57 : Int × Int × (Int × Int)) (c69 : List UInt8) (c70 : Int) (c71 : Int) (c72 : List UInt8) (s5_74 : Int) : Mi (shapes_readEntry_k3 x57 c69 c70 c71 c72 s5_74) := by delta shapes_readEntry_k3; infer_instance
noncomputable instance (x30 : Int × Int × (Int × Int)) (c42 : List UInt8) (c43 : Int) (c44 : Int) (c45 : List UInt8) (s5_47 : Int) : Mi (shapes_readEntry_k2 x30 c42 c43 c44 c45 s5_47) := by delta shapes_readEntry_k2; infer_instance
noncomputable instance (x3 : (List UInt8) × Int × (Int × Int)) (c14 : List UInt8) (c15 : Int) (c16 : Int) (c17 : List UInt8) (s5_19 : Int) : Mi (shapes_readEntry_k1 x3 c14 c15 c16 c17 s5_19) := by delta shapes_readEntry_k1; infer_instance
noncomputable instance (a0 : List UInt8) (a1 : Int) : Mi (shapes_readEntry a0 a1) := by delta shapes_readEntry; infer_instance
noncomputable instance (l69 : List (((List UInt8) × Int × Int × (List UInt8)) × (List Int))) (s12_70 : Int) : Mi (wreads_entry_k1 l69 s12_70) := by delta wreads_entry_k1; infer_instance
noncomputable instance (a0 : List UInt8) (x2 : Int × Int × (Int × Int)) (s) : Mi (wreads_entry_bl2 a0 x2 s) := by obtain ⟨l95, s12_96, s41_97⟩ := s; delta wreads_entry_bl2; dsimp only; infer_instance
noncomputable instance (a0 : List UInt8) (x2 : Int × Int × (Int × Int)) (s : (List (((List UInt8) × Int × Int × (List UInt8)) × (List Int))) × Int × Int) : Mi (wreads_entry_l2 a0 x2 s) := by delta wreads_entry_l2; infer_instance
noncomputable instance (a0 : List UInt8) (a1 : Int) (a2 : Int) : Mi (wreads_entry a0 a1 a2) := by delta wreads_entry; infer_instance
noncomputable instance  : Mi (shapes_entry_valid_k3) := by delta shapes_entry_valid_k3; infer_instance
noncomputable instance (a0 : ((List UInt8) × Int × Int × (List UInt8)) × (List Int)) (a1 : Int) (s) : Mi (shapes_entry_valid_bl4 a0 a1 s) := by delta shapes_entry_valid_bl4; infer_instance
noncomputable instance (a0 : ((List UInt8) × Int × Int × (List UInt8)) × (List Int)) (a1 : Int) (s : Int) : Mi (shapes_entry_valid_l4 a0 a1 s) := by delta shapes_entry_valid_l4; infer_instance
noncomputable instance (a0 : ((List UInt8) × Int × Int × (List UInt8)) × (List Int)) (a1 : Int) : Mi (shapes_entry_valid_k1 a0 a1) := by delta shapes_entry_valid_k1; infer_instance
noncomputable instance (a0 : ((List UInt8) × Int × Int × (List UInt8)) × (List Int)) (a1 : Int) (s7_75 : Bool) : Mi (shapes_entry_valid_k2 a0 a1 s7_75) := by delta shapes_entry_valid_k2; infer_instance
noncomputable instance (a0 : ((List UInt8) × Int × Int × (List UInt8)) × (List Int)) (a1 : Int) : Mi (shapes_entry_valid a0 a1) := by delta shapes_entry_valid; infer_instance
noncomputable instance (c255 : Int) (c256 : Int) (c257 : Int) : Mi (shapes_Open_k5 c255 c256 c257) := by delta shapes_Open_k5; infer_instance
noncomputable instance (a0 : List UInt8) (a1 : List UInt8) : Mi (internal_bytealg_CompareString a0 a1) := by delta internal_bytealg_CompareString; infer_instance
noncomputable instance (a0 : List UInt8) (a1 : List UInt8) : Mi (strings_Compare a0 a1) := by delta strings_Compare; infer_instance
noncomputable instance (a0 : Int) : Mi (cmp_isNaN_int a0) := by delta cmp_isNaN_int; infer_instance
noncomputable instance (a0 : Int) (a1 : Int) : Mi (cmp_Compare_int a0 a1) := by delta cmp_Compare_int; infer_instance
noncomputable instance  : Mi (cmp_Or_int_k1) := by delta cmp_Or_int_k1; infer_instance
noncomputable instance (a0 : List Int) (s) : Mi (cmp_Or_int_bl2 a0 s) := by delta cmp_Or_int_bl2; infer_instance
noncomputable instance (a0 : List Int) (s : Int) : Mi (cmp_Or_int_l2 a0 s) := by delta cmp_Or_int_l2; infer_instance
noncomputable instance (a0 : List Int) : Mi (cmp_Or_int a0) := by delta cmp_Or_int; infer_instance
noncomputable instance (a0 : (List UInt8) × Int × Int × (List UInt8)) (a1 : (List UInt8) × Int × Int × (List UInt8)) : Mi (shapes_leaf_compare a0 a1) := by delta shapes_leaf_compare; infer_instance
noncomputable instance (c286 : Int) (c287 : Int) (c288 : Int) : Mi (shapes_Open_k6 c286 c287 c288) := by delta shapes_Open_k6; infer_instance
noncomputable instance (a0 : List UInt8) (a1 : List UInt8) : Mi (bytes_Equal a0 a1) := by delta bytes_Equal; infer_instance
noncomputable instance (c322 : Int) (c323 : Int) (c324 : Int) : Mi (shapes_Open_k7 c322 c323 c324) := by delta shapes_Open_k7; infer_instance
noncomputable instance (a0 : List UInt8) (x10 : (Int × Int)) (x14 : Int × Int × (Int × Int)) (x39 : (List (((List UInt8) × Int × Int × (List UInt8)) × (List Int))) × Int × (Int × Int)) : Mi (shapes_Open_k3 a0 x10 x14 x39) := by delta shapes_Open_k3; infer_instance
noncomputable instance (a0 : List UInt8) (x10 : (Int × Int)) (x14 : Int × Int × (Int × Int)) (x39 : (List (((List UInt8) × Int × Int × (List UInt8)) × (List Int))) × Int × (Int × Int)) (s) : Mi (shapes_Open_bl4 a0 x10 x14 x39 s) := by delta shapes_Open_bl4; infer_instance
noncomputable instance (a0 : List UInt8) (x10 : (Int × Int)) (x14 : Int × Int × (Int × Int)) (x39 : (List (((List UInt8) × Int × Int × (List UInt8)) × (List Int))) × Int × (Int × Int)) (s : Int) : Mi (shapes_Open_l4 a0 x10 x14 x39 s) := by delta shapes_Open_l4; infer_instance
noncomputable instance (c50 : Int) (c51 : Int) (c52 : Int) : Mi (shapes_Open_k2 c50 c51 c52) := by delta shapes_Open_k2; infer_instance
noncomputable instance (a0 : List UInt8) : Mi (shapes_Open a0) := by delta shapes_Open; infer_instance
noncomputable instance  : Mi (ref4_Texts_k1) := by delta ref4_Texts_k1; infer_instance
noncomputable instance (a0 : List (List UInt8)) (a1 : List (List UInt8)) (s) : Mi (ref4_Texts_bl2 a0 a1 s) := by delta ref4_Texts_bl2; infer_instance
noncomputable instance (a0 : List (List UInt8)) (a1 : List (List UInt8)) (s : Int) : Mi (ref4_Texts_l2 a0 a1 s) := by delta ref4_Texts_l2; infer_instance
noncomputable instance (a0 : List (List UInt8)) (a1 : List (List UInt8)) : Mi (ref4_Texts a0 a1) := by delta ref4_Texts; infer_instance
noncomputable instance  : Mi (ref3_Ints_k1) := by delta ref3_Ints_k1; infer_instance
noncomputable instance (a0 : List Int) (a1 : List Int) (s) : Mi (ref3_Ints_bl2 a0 a1 s) := by delta ref3_Ints_bl2; infer_instance
noncomputable instance (a0 : List Int) (a1 : List Int) (s : Int) : Mi (ref3_Ints_l2 a0 a1 s) := by delta ref3_Ints_l2; infer_instance
noncomputable instance (a0 : List Int) (a1 : List Int) : Mi (ref3_Ints a0 a1) := by delta ref3_Ints; infer_instance
noncomputable instance (a0 : Int × (List (((List UInt8) × Int × Int × (List UInt8)) × (List Int)))) : Mi (shapes_Index_Items a0) := by delta shapes_Index_Items; infer_instance
noncomputable instance (a0 : Int) (a1 : Int) : Mi (ref3_At a0 a1) := by delta ref3_At; infer_instance
noncomputable instance  : Mi (law4_shaped) := by delta law4_shaped; repeat' first | (show Mi _; infer_instance) | refine @iB _ _ _ _ ?_ (fun _ => ?_) | refine @iC _ _ _ _ ?_ | refine @iI _ _ _ _ _ ?_ ?_
theorem shaped_true : law4_shaped = some true := (inferInstance : Mi law4_shaped).h true (by kernel_rfl)
end Go.Proofs.YtmfiaecglndldaaGreatDoor
end
section
namespace Go.Proofs.YtmfiaecglndldaaGreatDoor
open Go Go.L
theorem inc_len : ∀ {l : List Int} {lo n : Int}, l.Pairwise (fun a b => a < b) → (∀ z ∈ l, lo ≤ z ∧ z < n) → lo ≤ n → (l.length : Int) ≤ n - lo
  | [], lo, n, _, _, h => by simp; omega
  | a :: l, lo, n, hp, hz, h => by
    obtain ⟨p1, p2⟩ := List.pairwise_cons.1 hp;have ha := hz a (.head _);have := inc_len (lo := a + 1) (n := n) p2 (fun z hzz => ⟨by have := p1 z hzz; omega, (hz z (.tail _ hzz)).2⟩) (by omega);simp only [List.length_cons];omega
theorem GI.few {n : Int} {es : List En} (h : GI n es) : ∀ e ∈ es, e.2.length ≤ 64 := fun e he => by
  have := inc_len (lo := 0) (n := n) (h.ev e he).inc (h.ev e he).items h.n0;have := h.n64;omega
end Go.Proofs.YtmfiaecglndldaaGreatDoor
end
section
namespace Go.L
/-- Pairs of a leaf and an item, added one after the other. -/
def adds (P : List (Lf × Int)) (M : List (Lf × List Int)) : List (Lf × List Int) := P.foldl (fun M p => addI p.1 p.2 M) M
theorem adds_append (P Q : List (Lf × Int)) (M : List (Lf × List Int)) : adds (P ++ Q) M = adds Q (adds P M) := List.foldl_append
theorem addI_mem (k k' : Lf) (i z : Int) (M : List (Lf × List Int)) : z ∈ mget [] k' (addI k i M) ↔ z ∈ mget [] k' M ∨ (k' = k ∧ z = i) := by
  unfold addI;rw [mget_mput]
  by_cases h : k' = k
  · subst h; simp
  · simp [h]
theorem addI_keys (k k' : Lf) (i : Int) (M : List (Lf × List Int)) : k' ∈ (addI k i M).map Prod.fst ↔ k' = k ∨ k' ∈ M.map Prod.fst := by
  unfold addI
  by_cases h : k ∈ M.map Prod.fst
  · rw [mput_mem _ h];exact ⟨.inr, fun hh => by rcases hh with rfl | hh; exact h; exact hh⟩
  · rw [mput_new _ h];simp only [List.map_append, List.map_cons, List.map_nil, List.mem_append, List.mem_singleton];exact ⟨fun hh => hh.symm, fun hh => hh.symm⟩
theorem addI_nodup (k : Lf) (i : Int) {M : List (Lf × List Int)} (h : (M.map Prod.fst).Nodup) : ((addI k i M).map Prod.fst).Nodup := by
  unfold addI
  by_cases hk : k ∈ M.map Prod.fst
  · rw [mput_mem _ hk]; exact h
  · rw [mput_new _ hk, List.map_append]
    exact List.nodup_append.2 ⟨h, List.pairwise_singleton _ _, fun a ha b hb e => by
      simp only [List.map_cons, List.map_nil, List.mem_singleton] at hb;subst hb; subst e; exact hk ha⟩
theorem adds_mem (k : Lf) (z : Int) : ∀ (P : List (Lf × Int)) (M : List (Lf × List Int)), z ∈ mget [] k (adds P M) ↔ z ∈ mget [] k M ∨ (k, z) ∈ P
  | [], M => by simp [adds]
  | p :: P, M => by
    show z ∈ mget [] k (adds P (addI p.1 p.2 M)) ↔ _
    rw [adds_mem k z P, addI_mem, List.mem_cons, or_assoc];have : (k = p.1 ∧ z = p.2) ↔ (k, z) = p := ⟨fun h => Prod.ext h.1 h.2, fun h => by rw [← h]; exact ⟨rfl, rfl⟩⟩;rw [this]
theorem adds_keys (k : Lf) : ∀ (P : List (Lf × Int)) (M : List (Lf × List Int)), k ∈ (adds P M).map Prod.fst ↔ k ∈ M.map Prod.fst ∨ ∃ z, (k, z) ∈ P
  | [], M => by simp [adds]
  | p :: P, M => by
    show k ∈ (adds P (addI p.1 p.2 M)).map Prod.fst ↔ _
    rw [adds_keys k P, addI_keys]
    constructor
    · rintro ((rfl | h) | ⟨z, h⟩)
      · exact .inr ⟨p.2, .head _⟩
      · exact .inl h
      · exact .inr ⟨z, .tail _ h⟩
    · rintro (h | ⟨z, h⟩)
      · exact .inl (.inr h)
      · rcases List.mem_cons.1 h with rfl | h
        · exact .inl (.inl rfl)
        · exact .inr ⟨z, h⟩
theorem adds_nodup : ∀ (P : List (Lf × Int)) {M : List (Lf × List Int)}, (M.map Prod.fst).Nodup → ((adds P M).map Prod.fst).Nodup
  | [], _, h => h
  | p :: P, _, h => adds_nodup P (addI_nodup p.1 p.2 h)
theorem addI_len (k : Lf) (i : Int) (M : List (Lf × List Int)) (k' : Lf) : (mget [] k' (addI k i M)).length ≤ (mget [] k' M).length + 1 := by
  unfold addI;rw [mget_mput]
  split
  · rename_i h; subst h; simp
  · omega
theorem addI_count (k : Lf) (i : Int) (M : List (Lf × List Int)) : (addI k i M).length ≤ M.length + 1 := by
  unfold addI
  by_cases h : k ∈ M.map Prod.fst
  · have := congrArg List.length (mput_mem (mget [] k M ++ [i]) h);rw [List.length_map, List.length_map] at this;omega
  · rw [mput_new _ h]; simp
theorem adds_len (k : Lf) : ∀ (P : List (Lf × Int)) (M : List (Lf × List Int)), (mget [] k (adds P M)).length ≤ (mget [] k M).length + P.length
  | [], M => by simp [adds]
  | p :: P, M => by
    have h1 := adds_len k P (addI p.1 p.2 M);have h2 := addI_len p.1 p.2 M k
    show (mget [] k (adds P (addI p.1 p.2 M))).length ≤ _
    rw [List.length_cons]; omega
theorem adds_count : ∀ (P : List (Lf × Int)) (M : List (Lf × List Int)), (adds P M).length ≤ M.length + P.length
  | [], M => by simp [adds]
  | p :: P, M => by
    have h1 := adds_count P (addI p.1 p.2 M);have h2 := addI_count p.1 p.2 M
    show (adds P (addI p.1 p.2 M)).length ≤ _
    rw [List.length_cons]; omega
end Go.L
namespace Go.Proofs.YtmfiaecglndldaaGreatDoor
open Go Go.L
theorem kIdx_mem {P : List (Lf × Int)} {e : En} : e ∈ kIdx (adds P []) ↔ (∃ z, (e.1, z) ∈ P) ∧ e.2 = setI (mget [] e.1 (adds P [])) := by
  unfold kIdx;rw [List.mem_map]
  constructor
  · rintro ⟨k, hk, rfl⟩;have := (adds_keys k P []).1 ((srtL_perm' _).mem_iff.1 hk);simp only [List.map_nil, List.not_mem_nil, false_or] at this;exact ⟨this, rfl⟩
  · rintro ⟨h1, h2⟩;exact ⟨e.1, (srtL_perm' _).mem_iff.2 ((adds_keys e.1 P []).2 (.inr h1)), Prod.ext rfl h2.symm⟩
/-! ### Build -/
/-- The pairs of values. -/
def prB : Int → List Pv → List (Lf × Int)
  | _, [] => []
  | i, v :: l => ((lvs 10 v []).map fun x => (x, i)) ++ prB (i + 1) l
theorem prB_append : ∀ (i : Int) (a b : List Pv), prB i (a ++ b) = prB i a ++ prB (i + a.length) b
  | i, [], b => by simp [prB]
  | i, v :: a, b => by
    simp only [List.cons_append, prB, List.append_assoc];rw [prB_append (i + 1) a b];simp only [List.length_cons];rw [show i + 1 + (a.length : Int) = i + ((a.length + 1 : Nat) : Int) by omega]
theorem prB_mem : ∀ {i : Int} {a : List Pv} {p : Lf × Int}, p ∈ prB i a ↔ ∃ j : Nat, j < a.length ∧ p.2 = i + j ∧ p.1 ∈ lvs 10 (a.getD j default) []
  | _, [], p => by simp [prB]
  | i, v :: a, p => by
    simp only [prB, List.mem_append, List.mem_map];rw [prB_mem]
    constructor
    · rintro (⟨x, hx, rfl⟩ | ⟨j, h1, h2, h3⟩)
      · exact ⟨0, by simp, by simp, hx⟩
      · exact ⟨j + 1, by simp; omega, by omega, h3⟩
    · rintro ⟨j, h1, h2, h3⟩
      cases j with
      | zero => exact .inl ⟨p.1, h3, Prod.ext rfl (by simpa using h2.symm)⟩
      | succ j => exact .inr ⟨j, by simpa using h1, by omega, h3⟩
theorem prB_len : ∀ (i : Int) {a : List Pv}, (∀ v ∈ a, nodes 10 v ≤ 600) → (prB i a).length ≤ 600 * a.length
  | _, [], _ => by simp [prB]
  | i, v :: a, h => by
    simp only [prB, List.length_append, List.length_map, List.length_cons];have h1 := prB_len (i + 1) fun v hv => h v (.tail _ hv);have h2 := h v (.head _);rw [lvs_len];omega
theorem fold_build (i : Int) : ∀ (l : List Lf) (M : List (Lf × List Int)) (N : Nat), Bd N M → N + l.length ≤ 1000000000 → foldO (buildStep i) M l = some (adds (l.map fun x => (x, i)) M)
  | [], _, _, _, _ => rfl
  | x :: l, M, N, hM, hN => by
    rw [List.length_cons] at hN;unfold foldO;have hx := hM x
    have e : buildStep i M x = some (addI x i M) := by
      unfold buildStep;rw [chk_pos (by unfold Go.E.Cap; omega)]
      rfl
    rw [e, Option.bind_some, fold_build i l (addI x i M) (N + 1) (fun k => by have := addI_len x i M k; have := hM k; omega) (by omega)]
    rfl
/-- All values are valid. -/
def AllV (a : List Pv) : Prop := ∀ v ∈ a, value_Validate v = some (0, 0) ∧ Vd 10 v ∧ nodes 10 v ≤ 600
theorem bd_adds (P : List (Lf × Int)) : Bd P.length (adds P []) := fun k => by have := adds_len k P []; simpa [mget] using this
/-- What Build answers: a fault of a value, or build's answer. -/
theorem build_run {B : Nat} (hB : B ≤ 100000000000) {a : List Pv} (hl : a.length ≤ 64) (hs : ∀ v ∈ a, Sm B 10 v) : ∀ (k i : Nat), i + k = a.length → AllV (a.take i) →
    (∃ j f, j < a.length ∧ value_Validate (a.getD j default) = some f ∧ f.1 ≠ 0 ∧ AllV (a.take j) ∧ Go.L.run (shapes_Build_bl2 a) (adds (prB 0 (a.take i)) [], (i : Int)) = some ((0, []), (f.1, (j : Int)))) ∨
    (AllV a ∧ Go.L.run (shapes_Build_bl2 a) (adds (prB 0 (a.take i)) [], (i : Int)) = shapes_build (a.length : Int) (adds (prB 0 a) []))
  | 0, i, hi, hv => by
    right
    rw [List.take_of_length_le (by omega)] at hv ⊢;refine ⟨hv, ?_⟩
    have e : shapes_Build_bl2 a (adds (prB 0 a) [], (i : Int)) = (shapes_build (a.length : Int) (adds (prB 0 a) [])).map Sum.inr := by
      unfold shapes_Build_bl2 shapes_Build_k1;dsimp only;rw [if_neg (by omega)]
      cases shapes_build (a.length : Int) (adds (prB 0 a) []) <;> rfl
    exact run_inr e
  | k + 1, i, hi, hv => by
    have hil : i < a.length := by omega
    obtain ⟨f, h1, h2⟩ := validate_ex hB (hs _ (getD_mem hil))
    have htk : a.take (i + 1) = a.take i ++ [a.getD i default] := by
      rw [List.take_add_one, List.getElem?_eq_getElem hil]; simp [List.getD_eq_getElem?_getD, List.getElem?_eq_getElem hil]
    rcases h2 with ⟨rfl, h3, h4⟩ | hf
    · have hlen := prB_len 0 fun v hvm => (hv v hvm).2.2;rw [List.length_take] at hlen
      have hadd : prB 0 (a.take (i + 1)) = prB 0 (a.take i) ++ (lvs 10 (a.getD i default) []).map fun x => (x, (i : Int)) := by
        rw [htk, prB_append];simp only [prB, List.append_nil, List.length_take];rw [show (0 : Int) + ((min i a.length : Nat) : Int) = (i : Int) by omega]
      have hb : shapes_Build_bl2 a (adds (prB 0 (a.take i)) [], (i : Int)) = some (.inl (adds (prB 0 (a.take (i + 1))) [], ((i + 1 : Nat) : Int))) := by
        unfold shapes_Build_bl2;dsimp only;rw [if_pos (by omega), chk_pos (by omega), Int.toNat_natCast, h1, Option.bind_some, if_pos ⟨rfl, rfl⟩, leaves_eq h3, fold_build (i : Int) _ _ _ (bd_adds _) (by rw [lvs_len]; omega), Option.bind_some, chk_pos (by unfold I64; omega), hadd, adds_append]
        rfl
      rw [run_inl hb];refine build_run hB hl hs k (i + 1) (by omega) ?_;rw [htk];intro v hvm
      rcases List.mem_append.1 hvm with h | h
      · exact hv v h
      · rw [List.mem_singleton] at h; subst h; exact ⟨h1, h3, h4⟩
    · left
      refine ⟨i, f, hil, h1, hf, hv, run_inr (m := some ((0, []), (f.1, (i : Int)))) ?_⟩;unfold shapes_Build_bl2 shapes_fault;dsimp only;rw [if_pos (by omega), chk_pos (by omega), Int.toNat_natCast, h1, Option.bind_some, if_neg (fun h => hf h.1)]
      rfl
theorem lvs_mem : ∀ (d : Nat) (v : Pv) (p : List (List UInt8)) {x : Lf}, Vd d v → POk p → x ∈ lvs d v p → ∃ (q : List (List UInt8)) (u : Pv), x = (jn q, u.f.1, u.f.2.1, u.f.2.2.1) ∧ POk q ∧ q.length + 1 ≤ p.length + d ∧ NodeOk u ∧ ∀ B, Sm B d v → I64 u.f.1 ∧ I64 u.f.2.1 ∧ u.f.2.2.1.length ≤ B
  | 0, _, _, _, h, _, _ => h.elim
  | d + 1, v, p, x, hv, hp, hx => by
    obtain ⟨hok, hvp⟩ := hv;unfold lvs at hx
    rcases List.mem_cons.1 hx with rfl | hx
    · exact ⟨p, v, rfl, hp, by omega, hok, fun B hB => ⟨hB.2.2.2.2.1, hB.2.2.2.2.2.1, hB.1⟩⟩
    · obtain ⟨i, hi, hxi⟩ := List.mem_flatMap.1 hx
      have hil : i < v.f.2.2.2.2.length := by
        have := List.mem_range'_1.1 hi; omega
      obtain ⟨q, u, h1, h2, h3, h4, h5⟩ := lvs_mem d _ _ (hvp _ (getD_mem hil)) (hp.snoc (cst_ok hok hil)) hxi;refine ⟨q, u, h1, h2, by simp at h3; omega, h4, fun B hB => h5 B (hB.2.2.2.2.2.2 _ (getD_mem hil))⟩
theorem leaf_ok {v : Pv} {x : Lf} (hv : Vd 10 v) (hs : Sm 1048576 10 v) (hx : x ∈ lvs 10 v []) : (x.1.length ≤ 330 ∧ ¬ 0 ≤ wr false 0 (sl x.1)) ∧ (1 ≤ x.2.1 ∧ x.2.1 ≤ 4) ∧ (x.2.2.1 = 0 ∨ x.2.1 = 1) ∧ (x.2.2.2 = [] ∨ x.2.1 = 2) ∧ I64 x.2.2.1 ∧ x.2.2.2.length ≤ 1048576 := by
  obtain ⟨q, u, rfl, h2, h3, h4, h5⟩ := lvs_mem 10 v [] hv (fun y hy => by cases hy) hx;obtain ⟨g1, g2, g3⟩ := h5 _ hs;have hj := h2.jn_len;simp only [List.length_nil] at h3;refine ⟨⟨by show (jn q).length ≤ 330; omega, ?_⟩, ?_, ?_, ?_, g2, g3⟩
  · show ¬ 0 ≤ wr false 0 (sl (jn q))
    rw [sl_jn (fun y hy => (stp_ne (h2 y hy)).1) (fun y hy => (stp_ne (h2 y hy)).2.1), wr_ok (fun y hy => by rw [h2 y hy]; rfl)]
    decide
  · show 1 ≤ u.f.1 ∧ u.f.1 ≤ 4
    rcases h4.kind with h | h | h | h <;> omega
  · show u.f.2.1 = 0 ∨ u.f.1 = 1
    exact h4.num.symm
  · show u.f.2.2.1 = [] ∨ u.f.1 = 2
    exact h4.bytes.symm
theorem ms_adds {P : List (Lf × Int)} (hP : P.length ≤ 1000000) (h : ∀ p ∈ P, p.1.1.length ≤ 2000000 ∧ I64 p.1.2.1 ∧ I64 p.1.2.2.1 ∧ p.1.2.2.2.length ≤ 2000000 ∧ I64 p.2) : MS (adds P []) := by
  refine ⟨by have := adds_count P []; simp at this; omega, fun k hk => ?_⟩
  rcases (adds_keys k P []).1 hk with h0 | ⟨z, hz⟩
  · cases h0
  · obtain ⟨h1, h2, h3, h4, _⟩ := h _ hz;refine ⟨h1, h2, h3, h4, by have := bd_adds P k; omega, fun y hy => ?_⟩
    rcases (adds_mem k y P []).1 hy with h0 | hy
    · simp [mget] at h0
    · exact (h _ hy).2.2.2.2
theorem srtL_strict {l : List Lf} (h : l.Nodup) : (srtL l).Pairwise (fun a b => lfCmp a b < 0) := by
  have hsorted : (srtL l).Pairwise fun x y => (!(Go.Proofs.ltOf lfCmp) y x) = true := by
    rw [← isL_eq];have hlt : ∀ a b, (!(Go.Proofs.ltOf lfCmp) b a) = true ↔ ¬ lfCmp b a < 0 := fun a b => by simp [Go.Proofs.ltOf]
    refine isB_sorted (fun a b c h1 h2 => ?_) (fun a b => ?_) l
    · rw [hlt] at *;intro h3;have s1 := ordLf.swap a b
      rcases Int.lt_trichotomy (lfCmp a b) 0 with h4 | h4 | h4
      · exact h2 (ordLf.trans c a b h3 h4)
      · rw [ordLf.zero a b h4] at h3; exact h2 h3
      · omega
    · rw [hlt, hlt];have s1 := ordLf.swap a b;omega
  have hn : (srtL l).Nodup := (srtL_perm' l).nodup_iff.2 h;refine (List.pairwise_and_iff.2 ⟨hsorted, hn⟩).imp fun {a b} hab => ?_;obtain ⟨h1, h2⟩ := hab;have h1' : ¬ lfCmp b a < 0 := by simpa [Go.Proofs.ltOf] using h1
  have s1 := ordLf.swap a b;have : lfCmp a b ≠ 0 := fun e => h2 (ordLf.zero a b e);omega
/-- The index of valid values is good. -/
theorem gi_build {a : List Pv} (hl : a.length ≤ 64) (hv : AllV a) (hs : ∀ v ∈ a, Sm 1048576 10 v) : GI (a.length : Int) (kIdx (adds (prB 0 a) [])) ∧ MS (adds (prB 0 a) []) := by
  have hlen := prB_len 0 fun v hvm => (hv v hvm).2.2
  have hp : ∀ p ∈ prB 0 a, ((p.1.1.length ≤ 330 ∧ ¬ 0 ≤ wr false 0 (sl p.1.1)) ∧ (1 ≤ p.1.2.1 ∧ p.1.2.1 ≤ 4) ∧ (p.1.2.2.1 = 0 ∨ p.1.2.1 = 1) ∧ (p.1.2.2.2 = [] ∨ p.1.2.1 = 2) ∧ I64 p.1.2.2.1 ∧ p.1.2.2.2.length ≤ 1048576) ∧ 0 ≤ p.2 ∧ p.2 < a.length := fun p hpm => by
    obtain ⟨j, h1, h2, h3⟩ := prB_mem.1 hpm;exact ⟨leaf_ok (hv _ (getD_mem h1)).2.1 (hs _ (getD_mem h1)) h3, by omega, by omega⟩
  have hMS : MS (adds (prB 0 a) []) := ms_adds (by omega) fun p hpm => by
    obtain ⟨⟨h1, h2, h3, h4, h5, h6⟩, h7, h8⟩ := hp p hpm;exact ⟨by omega, by unfold I64; omega, h5, by omega, by unfold I64; omega⟩
  refine ⟨⟨by omega, by omega, fun e he => ?_, kIdx_S hMS, by rw [kIdx_len]; exact hMS.1, ?_⟩, hMS⟩
  · obtain ⟨⟨z, hz⟩, h2⟩ := kIdx_mem.1 he;obtain ⟨⟨g1, g2, g3, g4, g5, g6⟩, g7, g8⟩ := hp _ hz
    have hm : ∀ y, y ∈ e.2 ↔ (e.1, y) ∈ prB 0 a := fun y => by
      rw [h2, (setI_spec _).2, adds_mem];simp [mget]
    refine ⟨g1, g2, g3, g4, fun h0 => ?_, fun y hy => ?_, ?_⟩
    · have := (hm z).2 hz;rw [h0] at this
      cases this
    · exact (hp _ ((hm y).1 hy)).2
    · rw [h2];exact (setI_spec _).1.imp fun {a b} h => by omega
  · unfold kIdx;rw [List.pairwise_map];exact srtL_strict (adds_nodup _ (by simp))
/-- What Build answers. -/
theorem build_ex {a : List Pv} (hs : ∀ v ∈ a, Sm 1048576 10 v) : ∃ r, shapes_Build a = some r ∧ ((64 < a.length ∧ r = ((0, []), (2, -1))) ∨
    (a.length ≤ 64 ∧ ∃ j f, j < a.length ∧ value_Validate (a.getD j default) = some f ∧ f.1 ≠ 0 ∧ AllV (a.take j) ∧ r = ((0, []), (f.1, (j : Int)))) ∨
    (a.length ≤ 64 ∧ AllV a ∧ r = bres (a.length : Int) (adds (prB 0 a) []))) := by
  unfold shapes_Build shapes_fault
  by_cases h : 64 < a.length
  · rw [if_pos (by omega)];exact ⟨_, rfl, .inl ⟨h, rfl⟩⟩
  · rw [if_neg (by omega)];unfold shapes_Build_l2
    rcases build_run (B := 1048576) (by omega) (by omega) hs a.length 0 (by omega) (fun v hv => by simp at hv) with ⟨j, f, h1, h2, h3, h4, h5⟩ | ⟨h1, h2⟩
    · exact ⟨_, h5, .inr (.inl ⟨by omega, j, f, h1, h2, h3, h4, rfl⟩)⟩
    · refine ⟨bres (a.length : Int) (adds (prB 0 a) []), ?_, .inr (.inr ⟨by omega, h1, rfl⟩)⟩;have := h2.trans (build_eq (by unfold I64; omega) (gi_build (by omega) h1 hs).2);exact this
end Go.Proofs.YtmfiaecglndldaaGreatDoor
end
section
namespace Go.Proofs.YtmfiaecglndldaaGreatDoor
open Go Go.E Go.RowKit
set_option maxHeartbeats 1000000
set_option maxRecDepth 10000
open _root_.Go.Proofs.Tryz
noncomputable def law4_valuesFault_k1 : Option ((Int × Int)) :=
 some (((0 : Int), (0 : Int)))
noncomputable def law4_valuesFault_bl2 (a0 : List Go.L.Pv) : Int → Option ((Int) ⊕ ((Int × Int))) := fun s3_63 =>
 if s3_63 < (a0.length : Int) then Go.L.chk (0 ≤ s3_63 ∧ s3_63 < (a0.length : Int)) (Option.bind (value_Validate (a0.getD s3_63.toNat default)) (fun x70 => if x70.1 = (0 : Int) then Go.L.chk (Go.L.I64 (s3_63 + (1 : Int))) (some (Sum.inl (s3_63 + (1 : Int)))) else Option.bind (ref3_At x70.1 s3_63) (fun x76 => Option.map Sum.inr (some ((x76.1, x76.2)))))) else Option.map Sum.inr (law4_valuesFault_k1)
noncomputable def law4_valuesFault_l2 (a0 : List Go.L.Pv) (s : Int) : Option ((Int × Int)) := Go.L.run (law4_valuesFault_bl2 a0) s
noncomputable def law4_valuesFault (a0 : List Go.L.Pv) : Option ((Int × Int)) :=
 if (64 : Int) < (a0.length : Int) then Option.bind (ref3_At (2 : Int) (-1 : Int)) (fun x4 => some ((x4.1, x4.2))) else (law4_valuesFault_l2 a0) (0 : Int)
theorem law4_valuesFault_ok (w : World) (H : PH) (hH : Le H (hp w)) {a0 : List Go.L.Pv} {v0_0 : Value} (h0_0 : Vec .tree H v0_0 (a0)) {r : (Int × Int)} (h : law4_valuesFault a0 = some r) :
  Ok Tryz.prog 26 [v0_0] w (fun v w' => Ext w w' ∧ v = .agg #[.int .i64 r.1, .int .i64 r.2]) := by
 refine Ok_enter (n := 28) [(0, v0_0)] func26 rfl rfl rfl rfl rfl ?_;have hL := Lcl.start w;refine W_seqr ?_;refine S_alloc zr23 rfl rfl hL ?_;intro w1 b1 hL1 hle1 _;refine S_seqnil ?_;refine W_seq ?_;refine W_p 1 rfl ?_;refine S_v (r_len rfl underlying36 h0_0) rfl ?_;refine S_pz 1 rfl ?_;refine W_if rfl (fun hc2 => ?_) (fun hc2 => ?_)
 ·replace h := Go.L.ite_p hc2 h;refine W_seqr ?_;obtain ⟨x4, hb4, h⟩ := Go.L.bind_some h;refine S_callL rfl rfl hL1 (ref3_At_ok _ _ (gz_le hH hL1) hb4) ?_;rintro _ w5 rfl hx5 hL5 hle5;refine S_storeBN 0 rfl rfl rfl zr23 hL5 rfl rfl (onc rfl (onc rfl on0)) ?_;intro w6 hL6 hle6;refine S_seqnil ?_;refine W_ret ?_;refine At_seq_ret ?_;obtain rfl := Option.some.inj h;refine At_got1 rfl (.cell rfl underlying23 rfl zr23 (box_ptr (i := 0) hL6 rfl)) ?_;exact ⟨hL6.ext, rfl⟩
 ·replace h := Go.L.ite_n hc2 h;refine W_skip ?_;refine At_seq ?_;refine W_cut (σ := Unit) (fun (_ : Unit) => [(2, .pointer (some ⟨b1, 0, none⟩))]) (fun (_ : Unit) wr => Lcl w [.box b1 [.int .i64 (0 : Int), .int .i64 (0 : Int)] 23] wr ∧ law4_valuesFault_k1 = some r) ?_ ?_
  ·refine W_pz 1 rfl ?_;refine W_block ?_;obtain ⟨n64, h⟩ := Go.L.run_some h;refine W_loop (σ := Int × Nat) (fun ⟨s3_63, n⟩ => [(0, v0_0), (2, .pointer (some ⟨b1, 0, none⟩)), (3, .int .i64 s3_63)]) (fun ⟨s3_63, n⟩ wr => Lcl w [.box b1 [.int .i64 (0 : Int), .int .i64 (0 : Int)] 23] wr ∧ Go.L.itr (law4_valuesFault_bl2 a0) n s3_63 = some r) (fun ⟨s3_63, n⟩ => n) ((0 : Int), n64) (.cons rfl (.cons rfl (.cons rfl (Sub.nil _)))) ⟨hL1, h⟩ ?_;rintro ⟨s3_63, nn64⟩ wr64 ⟨hL64, h⟩;obtain ⟨n64, e64, rfl, h, hm64⟩ := Go.L.itr_some h;refine W_seq ?_;refine W_p 2 rfl ?_;refine S_v (r_len rfl underlying36 h0_0) rfl ?_;refine S_pz 1 rfl ?_;refine W_if rfl (fun hc66 => ?_) (fun hc66 => ?_)
   ·replace h := Go.L.ite_p hc66 h;refine W_skip ?_;refine At_seq ?_;refine W_seq ?_;refine W_block ?_;refine W_p 2 rfl ?_;obtain ⟨hk69, h⟩ := Go.L.chk_some h;refine S_index rfl rfl underlying36 zr38 h0_0 s3_63.toNat (Int.toNat_of_nonneg hk69.1).symm (idx_lt hk69) rfl ?_;rintro p68 _ e68t0 hp68;obtain ⟨_, _, rfl, rfl, ⟨_, _, rfl, rfl, ⟨_, _, rfl, ⟨e68v2, rfl, e68h2⟩, ⟨_, _, rfl, ⟨e68v3, rfl, e68h3⟩, ⟨e68v4, rfl, e68h4⟩⟩⟩⟩⟩ := Go.E.Rp.tree_open e68t0;refine S_v (r_loadN rfl underlying38 rfl zr38 hp68 (hH.trans hL64.arg)) rfl ?_;obtain ⟨x70, hb70, h⟩ := Go.L.bind_some h;refine S_callL rfl rfl hL64 (value_Validate_ok (a0 := (a0.getD s3_63.toNat default)) _ _ (gz_le hH hL64) (e68h2.mono (gz_left hH)) (e68h3.mono (gz_left hH)) (e68h4.mono (gz_left hH)) hb70) ?_;rintro _ w71 rfl hx71 hL71 hle71;refine S_alloc zr23 rfl rfl hL71 ?_;intro w72 b72 hL72 hle72 _;refine S_storeBN 0 rfl rfl rfl zr23 hL72 rfl rfl (onc rfl (onc rfl on0)) ?_;intro w73 hL73 hle73;refine S_seqnil ?_;refine W_seqr ?_;refine S_v (r_field rfl underlying23 rfl zr3 (by decide)) rfl ?_;refine S_v (r_loadB1 0 rfl underlying3 rfl hL73 rfl rfl) rfl ?_;refine S_pz 1 rfl ?_;refine W_ifn rfl (fun hc74 => ?_) (fun hc74 => ?_)
    ·replace h := Go.L.ite_n hc74 h;refine W_seqr ?_;refine S_v (r_field rfl underlying23 rfl zr3 (by decide)) rfl ?_;refine S_v (r_loadB1 0 rfl underlying3 rfl hL73 rfl rfl) rfl ?_;refine S_pu 1 rfl ?_;obtain ⟨x76, hb76, h⟩ := Go.L.bind_some h;refine S_callL rfl rfl hL73 (ref3_At_ok _ _ (gz_le hH hL73) hb76) ?_;rintro _ w77 rfl hx77 hL77 hle77;refine S_storeBN 1 rfl rfl rfl zr23 hL77 rfl rfl (onc rfl (onc rfl on0)) ?_;intro w78 hL78 hle78;refine S_seqnil ?_;refine W_ret ?_;refine At_block_ret ?_;refine At_seq_ret ?_;refine At_loop_ret ?_;replace h := Go.L.Nxt.out h hm64;refine At_block_ret ?_;refine At_cut_ret ?_;obtain rfl := Option.some.inj h;refine At_got1 rfl (.cell rfl underlying23 rfl zr23 (box_ptr (i := 1) hL78 rfl)) ?_;exact ⟨hL78.ext, rfl⟩
    ·replace h := Go.L.ite_p hc74 h;refine W_skip ?_;refine At_block ?_;refine At_seq ?_;refine W_region ?_;refine S_pu 1 rfl ?_;obtain ⟨hk80, h⟩ := Go.L.chk_some h;refine S_v (r_ar64 rfl rfl rfl hk80) rfl ?_;refine S_pu 1 rfl ?_;refine S_nil ?_;have hL81 := hL73.dropAt (i := 0) rfl;have h := Go.L.Nxt.again h hm64;refine At_round ((s3_63 + (1 : Int)), n64) (.cons rfl (.cons rfl (.cons rfl (Sub.nil _)))) ⟨hL81, h⟩ (Nat.lt_succ_self _)
   ·replace h := Go.L.ite_n hc66 h;refine W_exit ?_;refine At_seq_exit ?_;refine At_loop_exit ?_;replace h := Go.L.Nxt.out h hm64;refine At_exit ?_;refine At_cut () (.cons rfl (Sub.nil _)) ⟨hL64, h⟩
  ·rintro _ wr44 ⟨hL44, h⟩;refine W_seqr ?_;refine S_v (r_build rfl (fun _ => bld23_z _)) rfl ?_;refine S_storeBN 0 rfl rfl rfl zr23 hL44 rfl rfl (onc rfl (onc rfl on0)) ?_;intro w84 hL84 hle84;refine S_seqnil ?_;refine W_ret ?_;obtain rfl := Option.some.inj h;refine At_got1 rfl (.cell rfl underlying23 rfl zr23 (box_ptr (i := 0) hL84 rfl)) ?_;exact ⟨hL84.ext, rfl⟩
end Go.Proofs.YtmfiaecglndldaaGreatDoor
end
section
namespace Go.Proofs.YtmfiaecglndldaaGreatDoor
open Go Go.L
/-- The first fault of values. -/
theorem values_fault {a : List Pv} (hl : a.length ≤ 64) (hs : ∀ v ∈ a, Sm 1048576 10 v) : (∃ j f, j < a.length ∧ value_Validate (a.getD j default) = some f ∧ f.1 ≠ 0 ∧ AllV (a.take j) ∧ law4_valuesFault a = some (f.1, (j : Int))) ∨ (AllV a ∧ law4_valuesFault a = some (0, 0)) := by
  have key : ∀ (k i : Nat), i + k = a.length → AllV (a.take i) →
      (∃ j f, j < a.length ∧ value_Validate (a.getD j default) = some f ∧ f.1 ≠ 0 ∧ AllV (a.take j) ∧ Go.L.run (law4_valuesFault_bl2 a) (i : Int) = some (f.1, (j : Int))) ∨ (AllV a ∧ Go.L.run (law4_valuesFault_bl2 a) (i : Int) = some (0, 0)) := by
    intro k
    induction k with
    | zero =>
      intro i hi hv
      right
      rw [List.take_of_length_le (by omega)] at hv;refine ⟨hv, run_inr (m := some (0, 0)) ?_⟩;unfold law4_valuesFault_bl2 law4_valuesFault_k1;rw [if_neg (by omega)]
    | succ k ih =>
      intro i hi hv;have hil : i < a.length := by omega
      obtain ⟨f, h1, h2⟩ := validate_ex (by omega) (hs _ (getD_mem hil))
      have htk : a.take (i + 1) = a.take i ++ [a.getD i default] := by
        rw [List.take_add_one, List.getElem?_eq_getElem hil]; simp [List.getD_eq_getElem?_getD, List.getElem?_eq_getElem hil]
      rcases h2 with ⟨rfl, h3, h4⟩ | hf
      · have hb : law4_valuesFault_bl2 a (i : Int) = some (.inl ((i + 1 : Nat) : Int)) := by
          unfold law4_valuesFault_bl2;rw [if_pos (by omega), chk_pos (by omega), Int.toNat_natCast, h1, Option.bind_some, if_pos rfl, chk_pos (by unfold I64; omega)]
          rfl
        rw [run_inl hb];refine ih (i + 1) (by omega) ?_;rw [htk];intro v hvm
        rcases List.mem_append.1 hvm with h | h
        · exact hv v h
        · rw [List.mem_singleton] at h; subst h; exact ⟨h1, h3, h4⟩
      · left
        refine ⟨i, f, hil, h1, hf, hv, run_inr (m := some (f.1, (i : Int))) ?_⟩;unfold law4_valuesFault_bl2 ref3_At;rw [if_pos (by omega), chk_pos (by omega), Int.toNat_natCast, h1, Option.bind_some, if_neg hf]
        rfl
  have := key a.length 0 (by omega) (fun v hv => by simp at hv);unfold law4_valuesFault law4_valuesFault_l2;rw [if_neg (by omega)];exact this
/-- The first fault is one. -/
theorem fault_uniq {a : List Pv} {i j : Nat} {f g : Int × Int} (hi : value_Validate (a.getD i default) = some f) (hj : value_Validate (a.getD j default) = some g) (hf : f.1 ≠ 0) (hg : g.1 ≠ 0) (hil : i < a.length) (hjl : j < a.length) (vi : AllV (a.take i)) (vj : AllV (a.take j)) : i = j := by
  have : ∀ {i j : Nat} {f : Int × Int}, value_Validate (a.getD i default) = some f → f.1 ≠ 0 → i < a.length → AllV (a.take j) → ¬ i < j := fun {i j f} h1 h2 h3 h4 h5 => by
    have hm : a.getD i default ∈ a.take j := by
      have e : a.getD i default = (a.take j).getD i default := by
        rw [List.getD_eq_getElem?_getD, List.getD_eq_getElem?_getD, List.getElem?_take, if_pos h5]
      rw [e];exact getD_mem (by rw [List.length_take]; omega)
    have := (h4 _ hm).1;rw [h1] at this
    cases this
    exact h2 rfl
  have h1 := this hi hf hil vj;have h2 := this hj hg hjl vi;omega
end Go.Proofs.YtmfiaecglndldaaGreatDoor
end
section
namespace Go.Proofs.YtmfiaecglndldaaGreatDoor
open Go Go.L
theorem bres_cases (n : Int) (M : List (Lf × List Int)) : (16384 < (iform n (kIdx M)).length ∧ bres n M = ((0, []), (14, -1))) ∨ ((iform n (kIdx M)).length ≤ 16384 ∧ bres n M = ((n, kIdx M), (0, 0))) := by
  unfold bres
  by_cases h : 16384 < (iform n (kIdx M)).length
  · rw [if_pos h]; exact .inl ⟨h, rfl⟩
  · rw [if_neg h]; exact .inr ⟨by omega, rfl⟩
end Go.Proofs.YtmfiaecglndldaaGreatDoor
end
