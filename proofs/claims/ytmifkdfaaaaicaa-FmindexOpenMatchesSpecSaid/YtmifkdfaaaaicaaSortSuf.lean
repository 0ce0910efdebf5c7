/- The sort of suffixes, as a rule of the walk of this seat's suffix.array. -/
import Derived.Test.YtmifkdfaaaaicaaP1
import Derived.Test.YtmifkdfaaaaicaaSort
import Derived.Test.YtmifkdfaaaaicaaShelf
namespace Go.L
/-- The numbers below n. -/
def iota (n : Nat) : List Int := (List.range n).map fun i : Nat => (i : Int)
theorem u8_eq_of {a b : UInt8} (h1 : ¬ a < b) (h2 : ¬ b < a) : a = b := UInt8.toNat.inj (by rw [UInt8.lt_iff_toNat_lt] at h1 h2; omega)
theorem iota_length (n : Nat) : (iota n).length = n := by simp [iota]
/-- The same ones, of a type that holds no greater ones than n. -/
def iotaF (n : Nat) : List (Fin (n + 1)) := (List.range n).map fun i => Fin.ofNat (n + 1) i
theorem iotaF_val (n : Nat) : (iotaF n).map (fun x => (x.val : Int)) = iota n := by
  unfold iotaF iota
  rw [List.map_map]
  apply List.map_congr_left
  intro i hi
  have := List.mem_range.1 hi
  show ((i % (n + 1) : Nat) : Int) = (i : Int)
  rw [Nat.mod_eq_of_lt (by omega)]
/-- How two suffixes are compared. -/
def sufCmp (a : List UInt8) (x y : Fin (a.length + 1)) : Int := Lib.compareBytes (a.drop x.val) (a.drop y.val)
/-- The positions of the suffixes in order. -/
def sufF (a : List UInt8) : List (Fin (a.length + 1)) := (iotaF a.length).mergeSort fun x y => !(Go.Proofs.ltOf (sufCmp a)) y x
def sufArr (a : List UInt8) : List Int := (sufF a).map fun x => (x.val : Int)
theorem cmp_swap : ∀ l m : List UInt8, Lib.compareBytes l m = - Lib.compareBytes m l
  | [], [] => rfl
  | [], _ :: _ => rfl
  | _ :: _, [] => rfl
  | a :: l, b :: m => by
    have ih := cmp_swap l m
    unfold Lib.compareBytes
    by_cases h1 : a < b
    · have h2 : ¬ b < a := fun h => by have := UInt8.lt_iff_toNat_lt.1 h; have := UInt8.lt_iff_toNat_lt.1 h1; omega
      rw [if_pos h1, if_neg h2, if_pos h1]
    · by_cases h2 : b < a
      · rw [if_neg h1, if_pos h2, if_pos h2]; rfl
      · rw [if_neg h1, if_neg h2, if_neg h2, if_neg h1, ih]
theorem cmp_zero : ∀ l m : List UInt8, Lib.compareBytes l m = 0 → l = m
  | [], [], _ => rfl
  | [], _ :: _, h => by cases h
  | _ :: _, [], h => by cases h
  | a :: l, b :: m, h => by
    unfold Lib.compareBytes at h
    split at h
    · cases h
    · rename_i h1
      split at h
      · cases h
      · rename_i h2
        have e : a = b := u8_eq_of h1 h2
        rw [e, cmp_zero l m h]
theorem cmp_self : ∀ l : List UInt8, Lib.compareBytes l l = 0
  | [] => rfl
  | a :: l => by
    have h : ¬ a < a := fun h => by have := UInt8.lt_iff_toNat_lt.1 h; omega
    unfold Lib.compareBytes
    rw [if_neg h, if_neg h, cmp_self l]
theorem cmp_trans : ∀ l m k : List UInt8, Lib.compareBytes l m < 0 → Lib.compareBytes m k < 0 → Lib.compareBytes l k < 0
  | [], [], _, h, _ => by simp [Lib.compareBytes] at h
  | [], _ :: _, [], _, h => by simp [Lib.compareBytes] at h
  | [], _ :: _, _ :: _, _, _ => by simp [Lib.compareBytes]
  | _ :: _, [], _, h, _ => by simp [Lib.compareBytes] at h
  | _ :: _, _ :: _, [], _, h => by simp [Lib.compareBytes] at h
  | a :: l, b :: m, c :: k, h1, h2 => by
    have ih := cmp_trans l m k
    unfold Lib.compareBytes at h1 h2 ⊢
    by_cases hab : a < b
    · by_cases hbc : b < c
      · rw [if_pos (UInt8.lt_iff_toNat_lt.2 (by have := UInt8.lt_iff_toNat_lt.1 hab; have := UInt8.lt_iff_toNat_lt.1 hbc; omega))]; decide
      · rw [if_neg hbc] at h2
        by_cases hcb : c < b
        · rw [if_pos hcb] at h2; omega
        · have e : b = c := u8_eq_of hbc hcb
          subst e
          rw [if_pos hab]; decide
    · rw [if_neg hab] at h1
      by_cases hba : b < a
      · rw [if_pos hba] at h1; omega
      · rw [if_neg hba] at h1
        have e : a = b := u8_eq_of hab hba
        subst e
        by_cases hac : a < c
        · rw [if_pos hac]; decide
        · rw [if_neg hac] at h2 ⊢
          by_cases hca : c < a
          · rw [if_pos hca] at h2; omega
          · rw [if_neg hca] at h2 ⊢
            exact ih h1 h2
theorem cmp_swo {α : Type} (f : α → List UInt8) : Go.Sort.SWO (Go.Proofs.ltOf fun x y => Lib.compareBytes (f x) (f y)) := by
  constructor
  · intro x; simp [Go.Proofs.ltOf, cmp_self]
  · intro x y z h1 h2
    unfold Go.Proofs.ltOf at *
    simp only [decide_eq_true_eq] at *
    exact cmp_trans _ _ _ h1 h2
  · intro x y z h1 h2
    unfold Go.Proofs.ltOf at *
    simp only [decide_eq_false_iff_not] at *
    intro h3
    have s1 := cmp_swap (f x) (f y)
    have s2 := cmp_swap (f y) (f z)
    rcases Int.lt_trichotomy (Lib.compareBytes (f y) (f x)) 0 with h | h | h
    · have := cmp_trans _ _ _ h h3
      omega
    · rw [cmp_zero _ _ h] at h2; omega
    · omega
theorem sufCmp_total (a : List UInt8) (x y : Fin (a.length + 1)) (h1 : Go.Proofs.ltOf (sufCmp a) x y = false) (h2 : Go.Proofs.ltOf (sufCmp a) y x = false) : x = y := by
  unfold Go.Proofs.ltOf at h1 h2
  simp only [decide_eq_false_iff_not] at h1 h2
  have s := cmp_swap (a.drop x.val) (a.drop y.val)
  unfold sufCmp at h1 h2
  have := cmp_zero _ _ (show Lib.compareBytes (a.drop x.val) (a.drop y.val) = 0 by omega)
  have hl : (a.drop x.val).length = (a.drop y.val).length := by rw [this]
  simp only [List.length_drop] at hl
  have := x.isLt
  have := y.isLt
  exact Fin.ext (by omega)
end Go.L
namespace Go.Proofs.Ytmifkdfaaaaicaa
open Go Go.E Go.RowKit Go.Sort
theorem bytes_compare (a b : List UInt8) : bytes_Compare a b = some (Lib.compareBytes a b) := rfl
theorem boxAt {O : List Res} {i b : Nat} {cs : List Value} {t : TypeId} (h : nthR O i = some (.box b cs t)) : Res.box b cs t ∈ O := (perm_nth h).mem_iff.2 (.head _)
theorem callable61 : Callable Try.prog 61 := ⟨Try.f61, _, Try.func61, rfl, rfl⟩
theorem S_sortSuf {n : Nat} {ops : Array Oper} {Q : Exit → Act → World → Prop} {L : Env} {w w0 : World} {O : List Res} {rest : List Oper} {d : Nat} {ty : TypeId} {pos : String} {af : Array Edge} {v tv : Value} {H : PH} {i b : Nat} {xs : List Value} {a : List UInt8} {args : List Operand} {at_ : Array TypeId}
    (ha : evl L args = some [v, .func (.func 62) #[] #[.pointer (some ⟨b, 0, none⟩)]]) (hn : Nat.blt d n = true) (hH : Le H (hp w0)) (hL : Lcl w0 O w) (hi : nthR O i = some (.row v 3 1 (Go.L.iota a.length).length xs)) (he : Elems (.int .i64) (gz H w0 w O) (Go.L.iota a.length) xs) (htx : Vec .byte (gz H w0 w O) tv a) (hbox : Res.box b [tv] 22 ∈ O) (hl : a.length < 4611686018427387904)
    (h : ∀ w' xs', Lcl w0 (setR O i (.row v 3 1 (Go.L.sufArr a).length xs')) w' → Le (fz w O) (fz w' (setR O i (.row v 3 1 (Go.L.sufArr a).length xs'))) → Elems (.int .i64) (gz H w0 w' (setR O i (.row v 3 1 (Go.L.sufArr a).length xs'))) (Go.L.sufArr a) xs' → S Try.prog n ops Q rest ((d, .tuple #[]) :: L) w') :
    S Try.prog n ops Q (⟨some d, .call ⟨.value (.func 61), args.toArray, at_⟩, ty, pos, af, none⟩ :: rest) L w := by
  have hxs : xs = (Go.L.iotaF a.length).map (fun x : Fin (a.length + 1) => Value.int .i64 (x.val : Int)) := by
    rw [ints_elems he, ← Go.L.iotaF_val, List.map_map]; rfl
  subst hxs
  have hlen : (Go.L.iota a.length).length = (Go.L.iotaF a.length).length := by rw [← Go.L.iotaF_val, List.length_map]
  rw [hlen] at hi
  refine S_sortF (α := Fin (a.length + 1)) (enc := fun x => Value.int .i64 (x.val : Int)) (cf := Go.L.sufCmp a) (cb := [.pointer (some ⟨b, 0, none⟩)]) (l := Go.L.iotaF a.length) Try.sortI rfl Try.sortI0 rfl callable61 (fun _ => rfl) (Go.L.cmp_swo _) (Go.L.sufCmp_total a) (enters_of Try.func62 (by kernel_rfl) rfl) ha hn hL hi (by rw [← hlen, Go.L.iota_length]; exact hl) ?_ ?_
  · intro w1 hw1 x y
    have hx := x.isLt
    have hy := y.isLt
    have hr : suffix_array_1 (x.val : Int) (y.val : Int) a = some (Go.L.sufCmp a x y) := by
      unfold suffix_array_1
      rw [Go.L.chk_pos (by omega), Go.L.chk_pos (by omega), Int.toNat_natCast, Int.toNat_natCast, bytes_compare]
      rfl
    exact suffix_array_1_ok w1 (hp w1) (Le.refl _) (htx.mono ((gz_fz hH hL).trans hw1.le)) (hw1.box b [tv] 22 hbox) hr
  · intro w' hL' hle
    have e1 : (Go.L.sufArr a).length = ((Go.L.iotaF a.length).mergeSort fun x y => !(ltOf (Go.L.sufCmp a)) y x).length := by unfold Go.L.sufArr Go.L.sufF; rw [List.length_map]
    have e2 : ((Go.L.iotaF a.length).mergeSort fun x y => !(ltOf (Go.L.sufCmp a)) y x).map (fun x : Fin (a.length + 1) => Value.int .i64 (x.val : Int)) = (Go.L.sufArr a).map iv := by unfold Go.L.sufArr Go.L.sufF; rw [List.map_map]; rfl
    rw [← e1, e2] at hL' hle
    exact h w' _ hL' hle (elems_ints _ _)
end Go.Proofs.Ytmifkdfaaaaicaa
