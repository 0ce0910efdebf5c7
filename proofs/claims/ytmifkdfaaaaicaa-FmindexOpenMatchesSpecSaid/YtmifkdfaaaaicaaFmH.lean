/- fmindex: the reference's way back from a form to its text, and the law OpenMatchesSpec, plainly. -/
import Derived.Test.YtmifkdfaaaaicaaFmG
namespace Go.L
open Go
/-- One string is not behind another. -/
def sle (x y : List UInt8) : Prop := Lib.compareBytes x y ≤ 0
theorem sle_anti {x y : List UInt8} (h : sle x y) (k : sle y x) : x = y := by
  unfold sle at *
  have := cmp_swap x y
  exact cmp_zero _ _ (by omega)
theorem sle_trans {x y z : List UInt8} (h : sle x y) (k : sle y z) : sle x z := by
  unfold sle at *
  rcases Int.lt_or_eq_of_le h with h1 | h1
  · rcases Int.lt_or_eq_of_le k with k1 | k1
    · exact Int.le_of_lt (cmp_trans _ _ _ h1 k1)
    · rw [← cmp_zero _ _ k1]; exact h
  · rw [cmp_zero _ _ h1]; exact k
theorem sle_not {x y : List UInt8} (h : ¬ Op.bytesLess x y = true) : sle y x := by
  unfold sle
  have := cmp_swap x y
  have : ¬ Lib.compareBytes x y < 0 := fun e => h ((cmp_less _ _).1 e)
  omega
theorem sle_less {x y : List UInt8} (h : Op.bytesLess x y = true) : sle x y := Int.le_of_lt ((cmp_less _ _).2 h)
theorem swap_atS {α : Type} (u x : α) (B : List α) : ∀ A : List α, ((A ++ u :: x :: B).set (A.length + 1) u).set A.length x = A ++ x :: u :: B
  | [] => rfl
  | c :: A => by simp
/-- So many symbols from a position on, round the end, written out. -/
def enc (a : List UInt8) : Nat → Nat → List UInt8
  | 0, _ => []
  | k + 1, q => if q = a.length then 0 :: enc a k 0 else 1 :: a.getD q default :: enc a k (q + 1)
theorem enc_succ (a : List UInt8) (k q : Nat) : enc a (k + 1) q = if q = a.length then 0 :: enc a k 0 else 1 :: a.getD q default :: enc a k (q + 1) := rfl
theorem sle_cons {c : UInt8} {x y : List UInt8} (h : sle x y) : sle (c :: x) (c :: y) := by
  unfold sle at *
  show (if c < c then (-1 : Int) else if c < c then 1 else Lib.compareBytes x y) ≤ 0
  have : ¬ c < c := fun h => absurd (UInt8.lt_iff_toNat_lt.1 h) (by omega)
  rw [if_neg this, if_neg this]; exact h
theorem sle_head {c d : UInt8} {x y : List UInt8} (h : c.toNat < d.toNat) : sle (c :: x) (d :: y) := Int.le_of_lt ((cmp_cons c d x y).2 (.inl h))
theorem drop_here {a : List UInt8} {q : Nat} (h : q < a.length) : a.drop q = a.getD q default :: a.drop (q + 1) := by
  rw [List.drop_eq_getElem_cons h, List.getD_eq_getElem?_getD, List.getElem?_eq_getElem h]; rfl
theorem enc_le (a : List UInt8) : ∀ (k q r : Nat), q ≤ a.length → r ≤ a.length → Lib.compareBytes (a.drop q) (a.drop r) < 0 → sle (enc a k q) (enc a k r)
  | 0, _, _, _, _, _ => by unfold sle enc; decide
  | k + 1, q, r, hq, hr, h => by
    unfold enc
    by_cases h1 : r = a.length
    · exfalso
      rw [h1, List.drop_length] at h
      cases hd : a.drop q with
      | nil => rw [hd] at h; exact absurd h (by decide)
      | cons c l => rw [hd] at h; exact absurd h (show ¬ ((1 : Int) < 0) by decide)
    · rw [if_neg h1]
      by_cases h2 : q = a.length
      · rw [if_pos h2]; exact sle_head (by decide)
      · rw [if_neg h2]
        apply sle_cons
        rw [drop_here (show q < a.length by omega), drop_here (show r < a.length by omega)] at h
        rcases (cmp_cons _ _ _ _).1 h with h | ⟨h3, h4⟩
        · exact sle_head h
        · rw [UInt8.toNat.inj h3]
          exact sle_cons (enc_le a k (q + 1) (r + 1) (by omega) (by omega) h4)
theorem enc_len (a : List UInt8) : ∀ (k q : Nat), q + k = a.length + 1 → (enc a k q).length + 1 = 2 * k ∨ k = 0
  | 0, _, _ => .inr rfl
  | k + 1, q, h => by
    left
    unfold enc
    by_cases h1 : q = a.length
    · rw [if_pos h1]
      obtain rfl : k = 0 := by omega
      rfl
    · rw [if_neg h1]
      rcases enc_len a k (q + 1) (by omega) with h2 | h2
      · simp only [List.length_cons]; omega
      · omega
theorem enc_get (a : List UInt8) : ∀ (m k q : Nat), m < k → q + m < a.length → (enc a k q).getD (2 * m + 1) default = a.getD (q + m) default
  | 0, k + 1, q, _, h => by unfold enc; rw [if_neg (by omega)]; rfl
  | m + 1, k + 1, q, h1, h => by
    unfold enc
    rw [if_neg (by omega), show 2 * (m + 1) + 1 = (2 * m + 1) + 1 + 1 by omega, List.getD_cons_succ, List.getD_cons_succ, enc_get a m k (q + 1) (by omega) (by omega)]
    congr 1; omega
/-- What is set in front of a row. -/
def frt (b : List UInt8) (r : Nat) : List UInt8 := if r = hP b then [0] else [1, b.getD (4 + if hP b < r then r - 1 else r) default]
def itm (b : List UInt8) (rows : List (List UInt8)) (r : Nat) : List UInt8 := frt b r ++ rows.getD r default
theorem frt_len (b : List UInt8) (r : Nat) : (frt b r).length ≤ 2 := by unfold frt; split <;> simp
/-- The position in front. -/
def prv (a : List UInt8) (q : Nat) : Nat := if q = 0 then a.length else q - 1
theorem frt_enc {a : List UInt8} (h : a.length ≤ 2048) (k : Nat) {r : Nat} (hr : r < (op a).length) : frt (fmt a) r ++ enc a k (op a)[r] = enc a (k + 1) (prv a (op a)[r]) := by
  have hp := pri_op a hr
  have hle := op_le a hr
  have hl := op_length a
  have hpl := pri_lt a
  unfold frt prv
  rw [(fmt_head h).2.2.1, enc_succ]
  by_cases h0 : (op a)[r] = 0
  · rw [if_pos (hp.1 h0), h0, if_pos rfl, if_pos rfl]; rfl
  · have hne : r ≠ pri a := fun e => h0 (hp.2 e)
    rw [if_neg hne, if_neg h0, if_neg (show ¬ ((op a)[r] - 1 = a.length) by omega)]
    have e1 : (fmt a).getD (4 + if pri a < r then r - 1 else r) default = a.getD ((op a)[r] - 1) default := by
      have hbs := bod_sym a
      have hsl := sym_length a
      have hj : (if pri a < r then r - 1 else r) < (bod (sym a)).length := by rw [hbs.2]; split <;> omega
      have e2 : (fmt a).getD (4 + if pri a < r then r - 1 else r) default = (bod (sym a)).getD (if pri a < r then r - 1 else r) default := by
        have : fmt a = [u8 (a.length : Int), u8 ((a.length : Int) / 256), u8 (pri a : Int), u8 ((pri a : Int) / 256)] ++ bod (sym a) := rfl
        rw [this, List.getD_eq_getElem?_getD, List.getElem?_append_right (by simp), List.getD_eq_getElem?_getD]
        congr 2
        simp
      rw [e2]
      have e3 : ((bod (sym a)).map (fun c => (c.toNat : Int)))[if pri a < r then r - 1 else r]? = (sym a)[r]? := by
        rw [hbs.1]
        have hlt : ((sym a).take (pri a)).length = pri a := by rw [List.length_take]; omega
        by_cases hc : pri a < r
        · rw [if_pos hc, List.getElem?_append_right (by omega), hlt, List.getElem?_drop]
          congr 1; omega
        · rw [if_neg hc, List.getElem?_append_left (by omega), List.getElem?_take_of_lt (by omega)]
      have e4 : (sym a)[r]? = some (symOf a (op a)[r]) := by simp [sym, hr]
      rw [e4, List.getElem?_map, List.getElem?_eq_getElem hj] at e3
      have e5 : (((bod (sym a))[if pri a < r then r - 1 else r]).toNat : Int) = symOf a (op a)[r] := Option.some.inj e3
      have e6 : symOf a (op a)[r] = ((a.getD ((op a)[r] - 1) default).toNat : Int) := by unfold symOf; rw [if_neg h0]
      rw [List.getD_eq_getElem?_getD, List.getElem?_eq_getElem hj]
      exact (u8_eq _ _).1 (e5.trans e6)
    rw [e1, show (op a)[r] - 1 + 1 = (op a)[r] by omega]
    rfl
theorem prv_perm (a : List UInt8) : ((op a).map (prv a)).Perm (op a) := by
  have h1 : ((op a).map (prv a)).Perm ((List.range (a.length + 1)).map (prv a)) := (op_perm a).map _
  refine h1.trans (List.Perm.trans ?_ (op_perm a).symm)
  rw [List.range_succ_eq_map, List.map_cons, List.map_map]
  have e : (List.range a.length).map (prv a ∘ Nat.succ) = List.range a.length := by
    conv => rhs; rw [← List.map_id (List.range a.length)]
    apply List.map_congr_left
    intro x _
    show (if x + 1 = 0 then a.length else x + 1 - 1) = x
    rw [if_neg (by omega)]; rfl
  have e0 : prv a 0 = a.length := rfl
  rw [e, e0, ← List.range_succ_eq_map, List.range_succ]
  exact (List.perm_append_comm (l₁ := [a.length]) (l₂ := List.range a.length))
theorem enc_rows {a : List UInt8} (h : a.length ≤ 2048) (k : Nat) {l : List (List UInt8)} (hp : l.Perm ((List.range (a.length + 1)).map (itm (fmt a) ((op a).map (enc a k))))) (hs : l.Pairwise sle) : l = (op a).map (enc a (k + 1)) := by
  have hl := op_length a
  have e : (List.range (a.length + 1)).map (itm (fmt a) ((op a).map (enc a k))) = ((op a).map (prv a)).map (enc a (k + 1)) := by
    rw [← hl]
    apply List.ext_getElem
    · simp
    · intro i h1 h2
      have hi : i < (op a).length := by simpa using h1
      rw [List.getElem_map, List.getElem_range, List.getElem_map, List.getElem_map, ← frt_enc h k hi]
      unfold itm
      rw [List.getD_eq_getElem?_getD, List.getElem?_map, List.getElem?_eq_getElem hi]
      rfl
  rw [e] at hp
  have hp2 := hp.trans ((prv_perm a).map (enc a (k + 1)))
  refine List.Perm.eq_of_pairwise (le := sle) (fun x y _ _ h1 h2 => sle_anti h1 h2) hs ?_ hp2
  rw [List.pairwise_map]
  refine List.Pairwise.imp_of_mem ?_ (op_sorted a)
  intro q r hq hr hlt
  have hm : ∀ x ∈ op a, x ≤ a.length := fun x hx => by
    obtain ⟨i, hi, rfl⟩ := List.mem_iff_getElem.1 hx
    exact op_le a hi
  exact enc_le a _ _ _ (hm q hq) (hm r hr) (of_decide_eq_true hlt)
end Go.L
namespace Go.Proofs.Ytmifkdfaaaaicaa
open Go Go.L
theorem bubble {row k9 : Int} (hrow : 0 ≤ row ∧ row ≤ 1000) {s : List (List UInt8)} {x : List UInt8} (hl : s.length ≤ 2048) (hs : s.Pairwise sle) : ∀ k, k ≤ s.length → (∀ y ∈ s.drop k, sle x y) →
    ∃ l, ref4_TextOf_l8 row k9 (s.take k ++ x :: s.drop k, (k : Int)) = some (.inl (l, k9, row + 1)) ∧ l.Perm (x :: s) ∧ l.Pairwise sle := by
  have fin : ∀ k, k ≤ s.length → (∀ y ∈ s.drop k, sle x y) → (∀ y ∈ s.take k, sle y x) → (s.take k ++ x :: s.drop k).Perm (x :: s) ∧ (s.take k ++ x :: s.drop k).Pairwise sle := by
    intro k hk h1 h2
    have hs2 := hs
    rw [← List.take_append_drop k s] at hs2
    obtain ⟨p1, p2, p3⟩ := List.pairwise_append.1 hs2
    refine ⟨?_, List.pairwise_append.2 ⟨p1, List.pairwise_cons.2 ⟨h1, p2⟩, ?_⟩⟩
    · refine (List.perm_middle).trans ?_
      rw [List.take_append_drop]
    · intro y hy z hz
      rcases List.mem_cons.1 hz with h | h
      · rw [h]; exact h2 y hy
      · exact p3 y hy z h
  intro k
  induction k with
  | zero =>
    intro _ hg
    refine ⟨_, run_inr (m := some _) ?_, fin 0 (Nat.zero_le _) hg (fun y hy => by rw [List.take_zero] at hy; cases hy)⟩
    unfold ref4_TextOf_bl8 ref4_TextOf_k6
    dsimp only
    rw [if_neg (by decide), chk_pos (by constructor <;> omega)]
  | succ k ih =>
    intro hk hg
    have hkl : k < s.length := by omega
    have e1 : s.take (k + 1) = s.take k ++ [s[k]] := List.take_succ_eq_append_getElem hkl
    have e2 : s.take (k + 1) ++ x :: s.drop (k + 1) = s.take k ++ s[k] :: x :: s.drop (k + 1) := by rw [e1, List.append_assoc]; rfl
    have hA : (s.take k).length = k := by rw [List.length_take]; omega
    have hL : (s.take (k + 1) ++ x :: s.drop (k + 1)).length = s.length + 1 := by rw [e2]; simp; omega
    have g1 : (s.take (k + 1) ++ x :: s.drop (k + 1)).getD (k + 1) default = x := by
      rw [e2, List.getD_eq_getElem?_getD, List.getElem?_append_right (by omega), hA]
      simp
    have g0 : (s.take (k + 1) ++ x :: s.drop (k + 1)).getD k default = s[k] := by
      rw [e2, List.getD_eq_getElem?_getD, List.getElem?_append_right (by omega), hA]
      simp
    have t : (((k + 1 : Nat) : Int) - 1).toNat = k := by omega
    by_cases hlt : Op.bytesLess x s[k] = true
    · have hg' : ∀ y ∈ s.drop k, sle x y := fun y hy => by
        rw [List.drop_eq_getElem_cons hkl] at hy
        rcases List.mem_cons.1 hy with h | h
        · rw [h]; exact sle_less hlt
        · exact hg y h
      obtain ⟨l, h1, h2⟩ := ih (by omega) hg'
      refine ⟨l, ?_, h2⟩
      rw [← h1]
      refine run_inl ?_
      unfold ref4_TextOf_bl8
      dsimp only
      rw [if_pos (by omega), chk_pos (by rw [hL]; omega), chk_pos (by constructor <;> omega), chk_pos (by rw [hL]; omega), t, Int.toNat_natCast, g1, g0, if_pos hlt, chk_pos (by constructor <;> omega), chk_pos (by constructor <;> omega), chk_pos (by rw [hL]; omega), chk_pos (by rw [hL]; omega), chk_pos (by rw [hL]; omega), chk_pos (by rw [List.length_set, hL]; omega), chk_pos (by constructor <;> omega)]
      have e3 : ((s.take (k + 1) ++ x :: s.drop (k + 1)).set (k + 1) s[k]).set k x = s.take k ++ x :: s.drop k := by
        have := swap_atS s[k] x (s.drop (k + 1)) (s.take k)
        rw [hA] at this
        rw [e2, this, ← List.drop_eq_getElem_cons hkl]
      rw [e3]
      congr 3
      omega
    · have hle := sle_not hlt
      refine ⟨_, run_inr (m := some _) ?_, fin (k + 1) hk hg (fun y hy => ?_)⟩
      · unfold ref4_TextOf_bl8 ref4_TextOf_k6
        dsimp only
        rw [if_pos (by omega), chk_pos (by rw [hL]; omega), chk_pos (by constructor <;> omega), chk_pos (by rw [hL]; omega), t, Int.toNat_natCast, g1, g0, if_neg hlt, chk_pos (by constructor <;> omega)]
      · rw [e1] at hy
        rcases List.mem_append.1 hy with h | h
        · have hs2 := hs
          rw [← List.take_append_drop k s] at hs2
          exact sle_trans ((List.pairwise_append.1 hs2).2.2 y h s[k] (by rw [List.drop_eq_getElem_cons hkl]; exact List.mem_cons_self)) hle
        · rw [List.mem_singleton.1 h]; exact hle
/-- One time through all rows. -/
theorem one_time {b : List UInt8} {rows : List (List UInt8)} {n times : Nat} (hn : b.length = 4 + n) (hn36 : n ≤ 36) (hp : hP b ≤ n) (ht : times ≤ n) (hr : rows.length = n + 1) (hlen : ∀ x ∈ rows, x.length ≤ 2 * times) :
    ∃ l, ref4_TextOf_bl2 b (rows, (times : Int)) = some (.inl (l, (times : Int) + 1)) ∧ l.Perm ((List.range (n + 1)).map (itm b rows)) ∧ l.Pairwise sle := by
  have key : ∀ d r, r + d = n + 1 → ∀ l : List (List UInt8), l.Perm ((List.range r).map (itm b rows)) → l.Pairwise sle →
      ∃ l', ref4_TextOf_l5 b rows (times : Int) (l, ((4 + if hP b < r then r - 1 else r : Nat) : Int), (r : Int)) = some (.inl (l', (times : Int) + 1)) ∧ l'.Perm ((List.range (n + 1)).map (itm b rows)) ∧ l'.Pairwise sle := by
    intro d
    induction d with
    | zero =>
      intro r hd l h1 h2
      obtain rfl : r = n + 1 := by omega
      refine ⟨l, run_inr (m := some _) ?_, h1, h2⟩
      unfold ref4_TextOf_bl5 ref4_TextOf_k4 ref4_TextOf_k3
      dsimp only
      rw [if_neg (by omega), chk_pos (by constructor <;> omega)]
    | succ d ih =>
      intro r hd l h1 h2
      have hll : l.length = r := by rw [h1.length_eq]; simp
      have hx : (rows.getD r default).length ≤ 2 * times := by
        rw [List.getD_eq_getElem?_getD, List.getElem?_eq_getElem (by omega)]
        exact hlen _ (List.getElem_mem _)
      have hfl := frt_len b r
      obtain ⟨l2, q1, q2, q3⟩ := bubble (row := (r : Int)) (k9 := ((4 + if hP b < r + 1 then r + 1 - 1 else r + 1 : Nat) : Int)) (by omega) (s := l) (x := itm b rows r) (by omega) h2 l.length (Nat.le_refl _) (fun y hy => by rw [List.drop_length] at hy; cases hy)
      rw [List.take_length, List.drop_length, hll] at q1
      have hperm : l2.Perm ((List.range (r + 1)).map (itm b rows)) := by
        rw [List.range_succ, List.map_append]
        exact q2.trans ((h1.cons _).trans (List.perm_append_comm (l₁ := [itm b rows r])))
      obtain ⟨l', p1, p2⟩ := ih (r + 1) (by omega) l2 hperm q3
      refine ⟨l', ?_, p2⟩
      rw [← p1]
      have hk7 : ∀ k9 : Int, k9 = ((4 + if hP b < r + 1 then r + 1 - 1 else r + 1 : Nat) : Int) → ref4_TextOf_k7 rows l (r : Int) k9 (frt b r) = some (.inl (l2, ((4 + if hP b < r + 1 then r + 1 - 1 else r + 1 : Nat) : Int), ((r + 1 : Nat) : Int))) := by
        rintro k9 rfl
        unfold ref4_TextOf_k7
        rw [Int.toNat_natCast, chk_pos (by omega), chk_pos (by omega), chk_pos (by rw [hll]; simp only [List.length_singleton]; constructor <;> omega)]
        exact q1
      refine run_inl ?_
      unfold ref4_TextOf_bl5
      dsimp only
      rw [if_pos (by omega)]
      show (if (r : Int) = ((b.getD 2 default).toNat : Int) + 256 * ((b.getD 3 default).toNat : Int) then _ else _) = _
      have hpe : ((b.getD 2 default).toNat : Int) + 256 * ((b.getD 3 default).toNat : Int) = (hP b : Int) := by unfold hP; omega
      rw [hpe]
      by_cases hc : r = hP b
      · rw [if_pos (by omega)]
        have hf : frt b r = [0] := by unfold frt; rw [if_pos hc]
        rw [← hf]
        refine hk7 _ ?_
        rw [if_neg (by omega), if_pos (by omega)]; omega
      · rw [if_neg (by omega)]
        have hf : frt b r = [1, b.getD (4 + if hP b < r then r - 1 else r) default] := by unfold frt; rw [if_neg hc]
        have hi : (4 + if hP b < r then r - 1 else r) < b.length := by split <;> omega
        rw [chk_pos (by omega), chk_pos (by constructor <;> omega), Int.toNat_natCast, ← hf]
        refine hk7 _ ?_
        by_cases hc2 : hP b < r
        · rw [if_pos hc2, if_pos (by omega)]; omega
        · rw [if_neg hc2, if_neg (by omega)]; omega
  obtain ⟨l, h1, h2⟩ := key (n + 1) 0 (by omega) [] (by simp) List.Pairwise.nil
  refine ⟨l, ?_, h2⟩
  unfold ref4_TextOf_bl2
  dsimp only
  rw [if_pos (by omega)]
  rw [if_neg (by omega)] at h1
  exact h1
theorem last_text {b : List UInt8} {rows : List (List UInt8)} {n : Nat} (hn : b.length = 4 + n) (hn36 : n ≤ 36) :
    ref4_TextOf_l10 b rows ([], 0) = ref4_TextOf_k9 b ((List.range (min n ((rows.getD (hP b) default).length / 2))).map fun m => (rows.getD (hP b) default).getD (2 * m + 1) default) := by
  have hpe : ((b.getD 2 default).toNat : Int) + 256 * ((b.getD 3 default).toNat : Int) = (hP b : Int) := by unfold hP; omega
  have t2 : (2 : Int).toNat = 2 := rfl
  have t3 : (3 : Int).toNat = 3 := rfl
  refine run_count (b := ref4_TextOf_bl10 b rows) (fun j => ((List.range j).map (fun m => (rows.getD (hP b) default).getD (2 * m + 1) default), ((2 * j : Nat) : Int))) (min n ((rows.getD (hP b) default).length / 2)) (fun j hj => ?_) ?_ 0 (Nat.zero_le _)
  · unfold ref4_TextOf_bl10
    dsimp only
    have hll : ((List.range j).map (fun m => (rows.getD (hP b) default).getD (2 * m + 1) default)).length = j := by simp
    rw [t2, t3, hpe, Int.toNat_natCast, chk_pos (by constructor <;> omega), if_pos (by omega), chk_pos (by constructor <;> omega), if_pos (by omega), chk_pos (by constructor <;> omega), chk_pos (by omega), chk_pos (by rw [hll]; simp only [List.length_singleton]; constructor <;> omega), chk_pos (by constructor <;> omega), List.range_succ, List.map_append, show (((2 * j : Nat) : Int) + 1).toNat = 2 * j + 1 by omega, show ((2 * j : Nat) : Int) + 2 = ((2 * (j + 1) : Nat) : Int) by omega]
    rfl
  · unfold ref4_TextOf_bl10
    dsimp only
    rw [t2, t3, hpe, Int.toNat_natCast, chk_pos (by constructor <;> omega)]
    by_cases hc : n ≤ (rows.getD (hP b) default).length / 2
    · rw [if_neg (by omega)]
    · rw [if_pos (by omega), chk_pos (by constructor <;> omega), if_neg (by omega)]
/-- The text of a form. -/
theorem text_of {b : List UInt8} (hb : b.length ≤ 40) : (∃ a, a.length ≤ 2048 ∧ fmt a = b ∧ ref4_TextOf b = some (a, true)) ∨ ((∀ a, a.length ≤ 2048 → fmt a ≠ b) ∧ ∃ t, ref4_TextOf b = some (t, false)) := by
  unfold ref4_TextOf
  by_cases h4 : (b.length : Int) < 4
  · refine .inr ⟨fun t ht e => ?_, [], ?_⟩
    · have := (fmt_head ht).1; rw [e] at this; omega
    · rw [if_pos h4]
  · have hb1 := (b.getD 1 default).toNat_lt
    have hb3 := (b.getD 3 default).toNat_lt
    have hb0 := (b.getD 0 default).toNat_lt
    have hb2 := (b.getD 2 default).toNat_lt
    have t0 : (0 : Int).toNat = 0 := rfl
    have t1 : (1 : Int).toNat = 1 := rfl
    have t2 : (2 : Int).toNat = 2 := rfl
    have t3 : (3 : Int).toNat = 3 := rfl
    have hne : 4 + ((b.getD 0 default).toNat : Int) + 256 * ((b.getD 1 default).toNat : Int) = 4 + (hN b : Int) := by unfold hN; omega
    have hpe : ((b.getD 2 default).toNat : Int) + 256 * ((b.getD 3 default).toNat : Int) = (hP b : Int) := by unfold hP; omega
    rw [t0, t1, t2, t3, if_neg h4, chk_pos (by omega), chk_pos (by constructor <;> omega), chk_pos (by omega), chk_pos (by constructor <;> omega), chk_pos (by constructor <;> omega), hne, hpe]
    by_cases hn : (b.length : Int) = 4 + (hN b : Int)
    · rw [if_pos hn, chk_pos (by constructor <;> omega), chk_pos (by omega), chk_pos (by omega), chk_pos (by constructor <;> omega), chk_pos (by constructor <;> omega)]
      by_cases hp : (b.length : Int) - 4 < (hP b : Int)
      · refine .inr ⟨fun t ht e => ?_, [], ?_⟩
        · have h := fmt_head ht
          rw [e] at h
          have := pri_lt t
          omega
        · rw [if_pos hp]
      · rw [if_neg hp, chk_pos (by constructor <;> omega), chk_pos (by omega)]
        have hlen : b.length = 4 + hN b := by omega
        have hn36 : hN b ≤ 36 := by omega
        have hpn : hP b ≤ hN b := by omega
        rw [show ((b.length : Int) - 4 + 1).toNat = hN b + 1 by omega]
        have key : ∀ d k, k + d = hN b + 1 → ∀ rows : List (List UInt8), rows.length = hN b + 1 → (∀ x ∈ rows, x.length ≤ 2 * k) → (∀ a, a.length ≤ 2048 → fmt a = b → rows = (op a).map (enc a k)) →
            ∃ rows' : List (List UInt8), ref4_TextOf_l2 b (rows, (k : Int)) = ref4_TextOf_k1 b rows' ∧ rows'.length = hN b + 1 ∧ (∀ a, a.length ≤ 2048 → fmt a = b → rows' = (op a).map (enc a (hN b + 1))) := by
          intro d
          induction d with
          | zero =>
            intro k hk rows h1 h2 h3
            obtain rfl : k = hN b + 1 := by omega
            refine ⟨rows, run_inr ?_, h1, h3⟩
            unfold ref4_TextOf_bl2
            dsimp only
            rw [if_neg (by omega)]
          | succ d ih =>
            intro k hk rows h1 h2 h3
            obtain ⟨l, q1, q2, q3⟩ := one_time hlen hn36 hpn (show k ≤ hN b by omega) h1 h2
            obtain ⟨rows', p1, p2⟩ := ih (k + 1) (by omega) l (by rw [q2.length_eq]; simp) (fun x hx => by
              have hx := q2.mem_iff.1 hx
              obtain ⟨r, hr, rfl⟩ := List.mem_map.1 hx
              have hr := List.mem_range.1 hr
              unfold itm
              have hf := frt_len b r
              have hy : (rows.getD r default).length ≤ 2 * k := by
                rw [List.getD_eq_getElem?_getD, List.getElem?_eq_getElem (by omega)]
                exact h2 _ (List.getElem_mem _)
              rw [List.length_append]; omega) (fun a ha e => by
              have hr := h3 a ha e
              have hal : a.length = hN b := by rw [← e]; exact (fmt_head ha).2.1.symm
              refine enc_rows ha k ?_ q3
              rw [e, hal, ← hr]; exact q2)
            refine ⟨rows', ?_, p2⟩
            rw [← p1]
            refine run_inl ?_
            exact q1
        obtain ⟨rows, h1, h2, h3⟩ := key (hN b + 1) 0 (by omega) (List.replicate (hN b + 1) []) (by simp) (fun x hx => by rw [List.eq_of_mem_replicate hx]; simp) (fun a ha e => by
          have hal : a.length = hN b := by rw [← e]; exact (fmt_head ha).2.1.symm
          refine (List.eq_replicate_iff.2 ⟨by rw [List.length_map, op_length, hal], fun x hx => ?_⟩).symm
          obtain ⟨_, _, rfl⟩ := List.mem_map.1 hx
          rfl)
        have h1' : ref4_TextOf_l2 b (List.replicate (hN b + 1) [], 0) = ref4_TextOf_k1 b rows := h1
        rw [h1']
        unfold ref4_TextOf_k1
        rw [t2, t3, hpe, chk_pos (by omega), last_text hlen hn36]
        have htl : ((List.range (min (hN b) ((rows.getD (hP b) default).length / 2))).map fun m => (rows.getD (hP b) default).getD (2 * m + 1) default).length ≤ 2048 := by
          rw [List.length_map, List.length_range]; omega
        unfold ref4_TextOf_k9
        rw [ref_form htl, Option.bind_some, same, Option.bind_some]
        by_cases hex : ∃ a, a.length ≤ 2048 ∧ fmt a = b
        · obtain ⟨a, ha, e⟩ := hex
          refine .inl ⟨a, ha, e, ?_⟩
          have hfh := fmt_head ha
          rw [e] at hfh
          have hpl := pri_lt a
          have hol := op_length a
          have hrow : rows.getD (hP b) default = enc a (hN b + 1) 0 := by
            rw [h3 a ha e, List.getD_eq_getElem?_getD, List.getElem?_map, List.getElem?_eq_getElem (by omega)]
            have := (pri_op a (r := hP b) (by omega)).2 hfh.2.2.1
            rw [this]; rfl
          have hel := enc_len a (hN b + 1) 0 (by omega)
          have htx : ((List.range (min (hN b) ((rows.getD (hP b) default).length / 2))).map fun m => (rows.getD (hP b) default).getD (2 * m + 1) default) = a := by
            rw [hrow, show min (hN b) ((enc a (hN b + 1) 0).length / 2) = a.length by omega]
            apply List.ext_getElem
            · simp
            · intro i h1 h2
              rw [List.getElem_map, List.getElem_range, enc_get a i (hN b + 1) 0 (by omega) (by omega), Nat.zero_add, List.getD_eq_getElem?_getD, List.getElem?_eq_getElem h2]
              rfl
          rw [htx, e, decide_eq_true rfl]
        · have hno : ∀ t, t.length ≤ 2048 → fmt t ≠ b := fun t ht e => hex ⟨t, ht, e⟩
          rw [decide_eq_false (hno _ htl)]
          exact .inr ⟨hno, _, rfl⟩
    · refine .inr ⟨fun t ht e => ?_, [], ?_⟩
      · have h := fmt_head ht
        rw [e] at h
        omega
      · rw [if_neg hn]
theorem open_matches {b : List UInt8} : law4_FmindexOpenMatchesSpec b = some true := by
  unfold law4_FmindexOpenMatchesSpec
  rcases fm_open b with ⟨a, ha, e, ho⟩ | ⟨hno, ho⟩
  · rw [ho, Option.bind_some, finds_true, Option.bind_some, if_neg (by decide)]
    by_cases h : (40 : Int) < (b.length : Int)
    · rw [if_pos h, Option.bind_some, if_pos rfl, if_pos rfl]
    · rw [if_neg h]
      rcases text_of (b := b) (by omega) with ⟨a', ha', e', ht⟩ | ⟨hn, _⟩
      · obtain rfl : a' = a := fmt_inj ha' ha (e'.trans e.symm)
        rw [ht, Option.bind_some, if_neg (show ¬ (!true) = true by decide)]
        show Option.bind (fmindex_Index_Extract (idx a') 0 (a'.length : Int)) _ = _
        have hx : fmindex_Index_Extract (idx a') 0 (a'.length : Int) = some (a', (0, 0)) := by
          rw [fm_extract a' ha, if_pos (by omega), if_pos (by omega)]
          simp
        rw [hx, Option.bind_some, if_pos rfl, if_pos rfl]
        show Option.bind (fmindex_Index_Length (idx a')) _ = _
        rw [fm_len a' ha, Option.bind_some, if_pos rfl, same, Option.bind_some, if_pos (decide_eq_true rfl)]
        show Option.bind (fmindex_Index_Bytes (idx a')) _ = _
        rw [fm_bytes a' ha, Option.bind_some, same, Option.bind_some, decide_eq_true e]
      · exact absurd e (hn a ha)
  · rw [ho, Option.bind_some, finds_true, Option.bind_some, if_neg (by decide)]
    by_cases h : (40 : Int) < (b.length : Int)
    · rw [if_pos h, Option.bind_some, if_pos rfl, if_neg (by decide), len_none, Option.bind_some]
      rfl
    · rw [if_neg h]
      rcases text_of (b := b) (by omega) with ⟨a', ha', e', _⟩ | ⟨_, t, ht⟩
      · exact absurd e' (hno a' ha')
      · rw [ht, Option.bind_some, if_pos (show (!false) = true by decide), ref_at, Option.bind_some, if_pos ⟨rfl, rfl⟩, len_none, Option.bind_some]
        rfl
end Go.Proofs.Ytmifkdfaaaaicaa
