/- Letters and words, plainly: what package words and its reference read at a place of a text. -/
import Derived.Test.YtdiieblgeaehpaaGreatDoorP5
namespace Go.L
open Go
def bt (l : List UInt8) (k : Nat) : Nat := (l.getD k default).toNat
def cont (l : List UInt8) (k : Nat) : Bool := decide (k < l.length ∧ 128 ≤ bt l k ∧ bt l k ≤ 191)
def pt3 (l : List UInt8) : Nat := ((bt l 0 - 224) * 64 + (bt l 1 - 128)) * 64 + (bt l 2 - 128)
def pt4 (l : List UInt8) : Nat := (((bt l 0 - 240) * 64 + (bt l 1 - 128)) * 64 + (bt l 2 - 128)) * 64 + (bt l 3 - 128)
/-- How many bytes the code point takes with which a text begins, from U+0080 on; 0: none. -/
def szs (l : List UInt8) : Nat :=
  if 194 ≤ bt l 0 ∧ bt l 0 ≤ 223 then (if cont l 1 then 2 else 0)
  else if 224 ≤ bt l 0 ∧ bt l 0 ≤ 239 then (if cont l 1 ∧ cont l 2 ∧ 2048 ≤ pt3 l ∧ ¬ (55296 ≤ pt3 l ∧ pt3 l ≤ 57343) then 3 else 0)
  else if 240 ≤ bt l 0 ∧ bt l 0 ≤ 244 then (if cont l 1 ∧ cont l 2 ∧ cont l 3 ∧ 65536 ≤ pt4 l ∧ pt4 l ≤ 1114111 then 4 else 0)
  else 0
def asc (c : Nat) : Bool := decide ((48 ≤ c ∧ c ≤ 57) ∨ (97 ≤ c ∧ c ≤ 122) ∨ (65 ≤ c ∧ c ≤ 90))
/-- How many bytes the letter takes with which a text begins; 0: none. -/
def ltr (l : List UInt8) : Nat := if asc (bt l 0) then 1 else szs l
def lowb (c : UInt8) : UInt8 := if 65 ≤ (c.toNat : Int) ∧ (c.toNat : Int) ≤ 90 then c + 32 else c
theorem lowb_hi {c : UInt8} (h : 128 ≤ c.toNat) : lowb c = c := by unfold lowb; rw [if_neg (by omega)]
theorem bt_drop (a : List UInt8) (i k : Nat) : bt (a.drop i) k = bt a (i + k) := by
  unfold bt
  rw [List.getD_eq_getElem?_getD, List.getD_eq_getElem?_getD, List.getElem?_drop]
theorem szs_le (l : List UInt8) (h : l ≠ []) : szs l ≤ l.length := by
  have hl := List.length_pos_iff.2 h
  unfold szs cont
  split
  · split
    · rename_i h1; have := of_decide_eq_true h1; omega
    · omega
  · split
    · split
      · rename_i h1; have := of_decide_eq_true h1.2.1; omega
      · omega
    · split
      · split
        · rename_i h1; have := of_decide_eq_true h1.2.2.1; omega
        · omega
      · omega
theorem ltr_le (l : List UInt8) (h : l ≠ []) : ltr l ≤ l.length := by
  have hl := List.length_pos_iff.2 h
  unfold ltr
  split
  · omega
  · exact szs_le l h
theorem szs_asc {l : List UInt8} (h : bt l 0 < 128) : szs l = 0 := by
  unfold szs
  rw [if_neg (by omega), if_neg (by omega), if_neg (by omega)]
/-- The bytes of a code point from U+0080 on are no capitals. -/
theorem szs_low {l : List UInt8} (_hs : szs l ≠ 0) : (l.take (szs l)).map lowb = l.take (szs l) := by
  have key : ∀ k, k < szs l → 128 ≤ bt l k := by
    intro k hk
    unfold szs at hk
    unfold cont at hk
    split at hk
    · split at hk
      · rename_i h1; have := of_decide_eq_true h1
        obtain h | h : k = 0 ∨ k = 1 := by omega
        all_goals subst h; omega
      · omega
    · split at hk
      · split at hk
        · rename_i h1; have h2 := of_decide_eq_true h1.1; have h3 := of_decide_eq_true h1.2.1
          obtain h | h | h : k = 0 ∨ k = 1 ∨ k = 2 := by omega
          all_goals subst h; omega
        · omega
      · split at hk
        · split at hk
          · rename_i h1; have h2 := of_decide_eq_true h1.1; have h3 := of_decide_eq_true h1.2.1; have h4 := of_decide_eq_true h1.2.2.1
            obtain h | h | h | h : k = 0 ∨ k = 1 ∨ k = 2 ∨ k = 3 := by omega
            all_goals subst h; omega
          · omega
        · omega
  apply List.ext_getElem (by simp)
  intro k h1 h2
  rw [List.getElem_map, List.getElem_take]
  apply lowb_hi
  have hk : k < szs l := by simp at h2; omega
  have := key k hk
  have hkl : k < l.length := by simp at h2; omega
  unfold bt at this
  rw [List.getD_eq_getElem?_getD, List.getElem?_eq_getElem hkl] at this
  exact this
theorem get_bang (l : List UInt8) (k : Nat) : ((ByteArray.mk l.toArray).get! k).toNat = bt l k := by
  simp [ByteArray.get!, bt, List.getD_eq_getElem?_getD, getElem!_def]
  cases h : l[k]? <;> rfl
theorem dec_bt (l : List UInt8) (hne : l ≠ []) (h0 : 128 ≤ bt l 0) : (szs l = 0 → Lib.decodeGo ⟨l.toArray⟩ = (65533, 1)) ∧ (szs l ≠ 0 → (Lib.decodeGo ⟨l.toArray⟩).2 = szs l ∧ szs l ≠ 1) := by
  have hsz : (ByteArray.mk l.toArray).size = l.length := by simp [ByteArray.size]
  have hl := List.length_pos_iff.2 hne
  have hc : ∀ k, (decide (0 + k < (ByteArray.mk l.toArray).size) && ((ByteArray.mk l.toArray).get! (0 + k)).toNat / 64 == 2) = cont l k := by
    intro k
    rw [Nat.zero_add, hsz, get_bang]
    unfold cont
    by_cases h1 : k < l.length
    · by_cases h2 : bt l k / 64 = 2
      · rw [decide_eq_true h1, Bool.true_and, beq_iff_eq.2 h2, decide_eq_true ⟨h1, by omega, by omega⟩]
      · rw [decide_eq_true h1, Bool.true_and, beq_eq_false_iff_ne.2 h2, decide_eq_false (fun h => h2 (by omega))]
    · rw [decide_eq_false h1, Bool.false_and, decide_eq_false (fun h => h1 h.1)]
  unfold Lib.decodeGo
  rw [hsz, if_neg (by omega)]
  unfold Utf8.decode
  simp only [hc]
  simp only [Nat.zero_add, get_bang]
  have hv : ∀ c : Nat, Utf8.valid c = decide (c < 55296 ∨ (57344 ≤ c ∧ c ≤ 1114111)) := by
    intro c
    rw [Bool.eq_iff_iff]
    unfold Utf8.valid
    simp only [Bool.or_eq_true, Bool.and_eq_true, decide_eq_true_eq]
    omega
  simp only [hv]
  have f1 : cont l 1 = true → 128 ≤ bt l 1 ∧ bt l 1 ≤ 191 := fun h => (of_decide_eq_true h).2
  have f2 : cont l 2 = true → 128 ≤ bt l 2 ∧ bt l 2 ≤ 191 := fun h => (of_decide_eq_true h).2
  have f3 : cont l 3 = true → 128 ≤ bt l 3 ∧ bt l 3 ≤ 191 := fun h => (of_decide_eq_true h).2
  have hb : bt l 0 < 256 := UInt8.toNat_lt _
  unfold szs pt3 pt4 Utf8.runeError
  generalize bt l 0 = b0 at *
  generalize bt l 1 = b1 at *
  generalize bt l 2 = b2 at *
  generalize bt l 3 = b3 at *
  generalize cont l 1 = c1 at *
  generalize cont l 2 = c2 at *
  generalize cont l 3 = c3 at *
  simp only [Bool.and_eq_true, beq_iff_eq, decide_eq_true_eq]
  by_cases hA : 194 ≤ b0 ∧ b0 ≤ 223
  · rw [if_pos hA, if_neg (show ¬ b0 < 128 by omega)]
    by_cases h1 : c1 = true
    · have := f1 h1
      rw [if_pos h1, if_pos (show b0 / 32 = 6 ∧ c1 = true from ⟨by omega, h1⟩), if_pos (show b0 % 32 * 64 + b1 % 64 ≥ 128 by omega)]
      exact ⟨fun h => absurd h (by decide), fun _ => ⟨rfl, by decide⟩⟩
    · rw [if_neg h1, if_neg (show ¬ (b0 / 32 = 6 ∧ c1 = true) from fun h => h1 h.2), if_neg (show ¬ ((b0 / 16 = 14 ∧ c1 = true) ∧ c2 = true) from fun h => by omega), if_neg (show ¬ (((b0 / 8 = 30 ∧ c1 = true) ∧ c2 = true) ∧ c3 = true) from fun h => by omega)]
      exact ⟨fun _ => rfl, fun h => absurd rfl h⟩
  rw [if_neg hA]
  by_cases hB : 224 ≤ b0 ∧ b0 ≤ 239
  · rw [if_pos hB, if_neg (show ¬ b0 < 128 by omega), if_neg (show ¬ (b0 / 32 = 6 ∧ c1 = true) from fun h => by omega)]
    by_cases h1 : c1 = true ∧ c2 = true
    · have g1 := f1 h1.1
      have g2 := f2 h1.2
      rw [if_pos (show (b0 / 16 = 14 ∧ c1 = true) ∧ c2 = true from ⟨⟨by omega, h1.1⟩, h1.2⟩)]
      have e : b0 % 16 * 4096 + b1 % 64 * 64 + b2 % 64 = ((b0 - 224) * 64 + (b1 - 128)) * 64 + (b2 - 128) := by omega
      rw [e]
      by_cases h2 : 2048 ≤ ((b0 - 224) * 64 + (b1 - 128)) * 64 + (b2 - 128) ∧ ¬ (55296 ≤ ((b0 - 224) * 64 + (b1 - 128)) * 64 + (b2 - 128) ∧ ((b0 - 224) * 64 + (b1 - 128)) * 64 + (b2 - 128) ≤ 57343)
      · rw [if_pos ⟨h1.1, h1.2, h2⟩, if_pos ⟨h2.1, (by omega)⟩]
        exact ⟨fun h => absurd h (by decide), fun _ => ⟨rfl, by decide⟩⟩
      · rw [if_neg (fun h => h2 h.2.2), if_neg (fun h => h2 ⟨h.1, by omega⟩)]
        exact ⟨fun _ => rfl, fun h => absurd rfl h⟩
    · rw [if_neg (fun h => h1 ⟨h.1, h.2.1⟩), if_neg (show ¬ ((b0 / 16 = 14 ∧ c1 = true) ∧ c2 = true) from fun h => h1 ⟨h.1.2, h.2⟩), if_neg (show ¬ (((b0 / 8 = 30 ∧ c1 = true) ∧ c2 = true) ∧ c3 = true) from fun h => by omega)]
      exact ⟨fun _ => rfl, fun h => absurd rfl h⟩
  rw [if_neg hB]
  by_cases hC : 240 ≤ b0 ∧ b0 ≤ 244
  · rw [if_pos hC, if_neg (show ¬ b0 < 128 by omega), if_neg (show ¬ (b0 / 32 = 6 ∧ c1 = true) from fun h => by omega), if_neg (show ¬ ((b0 / 16 = 14 ∧ c1 = true) ∧ c2 = true) from fun h => by omega)]
    by_cases h1 : c1 = true ∧ c2 = true ∧ c3 = true
    · have g1 := f1 h1.1
      have g2 := f2 h1.2.1
      have g3 := f3 h1.2.2
      rw [if_pos (show ((b0 / 8 = 30 ∧ c1 = true) ∧ c2 = true) ∧ c3 = true from ⟨⟨⟨by omega, h1.1⟩, h1.2.1⟩, h1.2.2⟩)]
      have e : b0 % 8 * 262144 + b1 % 64 * 4096 + b2 % 64 * 64 + b3 % 64 = (((b0 - 240) * 64 + (b1 - 128)) * 64 + (b2 - 128)) * 64 + (b3 - 128) := by omega
      rw [e]
      by_cases h2 : 65536 ≤ (((b0 - 240) * 64 + (b1 - 128)) * 64 + (b2 - 128)) * 64 + (b3 - 128) ∧ (((b0 - 240) * 64 + (b1 - 128)) * 64 + (b2 - 128)) * 64 + (b3 - 128) ≤ 1114111
      · rw [if_pos ⟨h1.1, h1.2.1, h1.2.2, h2⟩, if_pos ⟨h2.1, by omega⟩]
        exact ⟨fun h => absurd h (by decide), fun _ => ⟨rfl, by decide⟩⟩
      · rw [if_neg (fun h => h2 h.2.2.2), if_neg (fun h => h2 ⟨h.1, by omega⟩)]
        exact ⟨fun _ => rfl, fun h => absurd rfl h⟩
    · rw [if_neg (fun h => h1 ⟨h.1, h.2.1, h.2.2.1⟩), if_neg (fun h => h1 ⟨h.1.1.2, h.1.2, h.2⟩)]
      exact ⟨fun _ => rfl, fun h => absurd rfl h⟩
  rw [if_neg hC]
  refine ⟨fun _ => ?_, fun h => absurd rfl h⟩
  rw [if_neg (show ¬ b0 < 128 by omega)]
  by_cases h1 : b0 / 32 = 6 ∧ c1 = true
  · have := f1 h1.2
    rw [if_pos h1, if_neg (show ¬ (b0 % 32 * 64 + b1 % 64 ≥ 128) by omega)]
  · rw [if_neg h1, if_neg (show ¬ ((b0 / 16 = 14 ∧ c1 = true) ∧ c2 = true) from fun h => by omega)]
    by_cases h2 : ((b0 / 8 = 30 ∧ c1 = true) ∧ c2 = true) ∧ c3 = true
    · have g1 := f1 h2.1.1.2
      rw [if_pos h2, if_neg (fun h => by omega)]
    · rw [if_neg h2]
end Go.L
namespace Go.Proofs.YtdiieblgeaehpaaGreatDoor
open Go Go.L
/-- What package words reads as a letter. -/
theorem letter_eq {l : List UInt8} (hne : l ≠ []) : words_letter l = some (if ltr l = 0 then ([], 1) else ((l.take (ltr l)).map lowb, ((ltr l : Nat) : Int))) := by
  have hl := List.length_pos_iff.2 hne
  obtain ⟨c, m, rfl⟩ := List.exists_cons_of_ne_nil hne
  have e0 : (c :: m).getD ((0 : Int).toNat) default = c := rfl
  have eb : bt (c :: m) 0 = c.toNat := rfl
  have hc := c.toNat_lt
  unfold words_letter
  rw [chk_pos ⟨by decide, by omega⟩, e0]
  have hup : (65 ≤ (c.toNat : Int)) ∧ ((c.toNat : Int) ≤ 90) → chk (((c - (65 : UInt8)) + (97 : UInt8)).toNat < 128) (some ([((c - (65 : UInt8)) + (97 : UInt8))], (1 : Int))) = some (if ltr (c :: m) = 0 then ([], 1) else (((c :: m).take (ltr (c :: m))).map lowb, ((ltr (c :: m) : Nat) : Int))) := by
    intro h
    have e : (c - (65 : UInt8)) + (97 : UInt8) = c + 32 := by
      apply UInt8.toNat.inj
      rw [UInt8.toNat_add, UInt8.toNat_sub, UInt8.toNat_add]
      have h97 : (97 : UInt8).toNat = 97 := rfl
      have h65 : (65 : UInt8).toNat = 65 := rfl
      have h32 : (32 : UInt8).toNat = 32 := rfl
      omega
    have e2 : (c + 32).toNat = c.toNat + 32 := by
      rw [UInt8.toNat_add]
      have h32 : (32 : UInt8).toNat = 32 := rfl
      omega
    have e3 : ltr (c :: m) = 1 := by unfold ltr asc; rw [eb, if_pos (decide_eq_true (by omega))]
    rw [e, chk_pos (by omega), e3, if_neg (by decide)]
    show some ([c + 32], (1 : Int)) = some ([lowb c], 1)
    unfold lowb
    rw [if_pos h]
  have hlo : (48 ≤ (c.toNat : Int)) ∧ ((c.toNat : Int) ≤ 57) ∨ (97 ≤ (c.toNat : Int)) ∧ ((c.toNat : Int) ≤ 122) → chk (c.toNat < 128) (some ([c], (1 : Int))) = some (if ltr (c :: m) = 0 then ([], 1) else (((c :: m).take (ltr (c :: m))).map lowb, ((ltr (c :: m) : Nat) : Int))) := by
    intro h
    have e3 : ltr (c :: m) = 1 := by unfold ltr asc; rw [eb, if_pos (decide_eq_true (by omega))]
    rw [chk_pos (by omega), e3, if_neg (by decide)]
    show some ([c], (1 : Int)) = some ([lowb c], 1)
    unfold lowb
    rw [if_neg (by omega)]
  have hnon : asc c.toNat = false → (if (c.toNat : Int) < 128 then some (([] : List UInt8), (1 : Int)) else Option.bind (decL (c :: m)) (fun x20 => if (x20.1 = (65533 : Int)) ∧ (x20.2 = (1 : Int)) then some (([] : List UInt8), (1 : Int)) else Go.L.chk (0 ≤ x20.2 ∧ x20.2 ≤ ((c :: m).length : Int)) (some (((c :: m).take x20.2.toNat), x20.2)))) = some (if ltr (c :: m) = 0 then ([], 1) else (((c :: m).take (ltr (c :: m))).map lowb, ((ltr (c :: m) : Nat) : Int))) := by
    intro h
    have e3 : ltr (c :: m) = szs (c :: m) := by unfold ltr; rw [if_neg (by rw [eb, h]; decide)]
    rw [e3]
    by_cases h1 : (c.toNat : Int) < 128
    · rw [if_pos h1, szs_asc (by rw [eb]; omega), if_pos rfl]
    · rw [if_neg h1]
      have hd := dec_bt (c :: m) hne (by rw [eb]; omega)
      unfold decL
      rw [chk_pos hne, Option.bind_some]
      by_cases h2 : szs (c :: m) = 0
      · rw [hd.1 h2, if_pos ⟨rfl, rfl⟩, if_pos h2]
      · obtain ⟨h3, h4⟩ := hd.2 h2
        have h5 := szs_le (c :: m) hne
        simp only [h3]
        rw [if_neg (by omega), chk_pos ⟨by omega, by omega⟩, if_neg h2, Int.toNat_natCast, szs_low h2]
  by_cases h1 : (48 ≤ (c.toNat : Int)) ∧ ((c.toNat : Int) ≤ 57)
  · rw [if_pos h1]; exact hlo (.inl h1)
  rw [if_neg h1]
  by_cases h2 : 97 ≤ (c.toNat : Int)
  · rw [if_pos h2]
    by_cases h3 : (c.toNat : Int) ≤ 122
    · rw [if_pos h3]; exact hlo (.inr ⟨h2, h3⟩)
    · rw [if_neg h3, if_neg (by omega)]
      exact hnon (decide_eq_false (by omega))
  · rw [if_neg h2]
    by_cases h4 : (65 ≤ (c.toNat : Int)) ∧ ((c.toNat : Int) ≤ 90)
    · rw [if_pos h4]; exact hup h4
    · rw [if_neg h4]
      exact hnon (decide_eq_false (by omega))
end Go.Proofs.YtdiieblgeaehpaaGreatDoor
namespace Go.L
open Go
abbrev W := List UInt8 × Int × Int
abbrev WS := (List W × Int) ⊕ List W
def fin (cur : List UInt8) (fr at' : Nat) : List W := if cur = [] then [] else [(cur, (fr : Int), (at' : Int))]
/-- The words of what is left of a text, from a place on, where a word may have begun. -/
def spl (a : List UInt8) : Nat → Nat → List UInt8 → Nat → List W
  | 0, at', cur, fr => fin cur fr at'
  | f + 1, at', cur, fr =>
    if at' < a.length then
      if ltr (a.drop at') = 0 then fin cur fr at' ++ spl a f (at' + 1) [] (at' + 1)
      else spl a f (at' + ltr (a.drop at')) (cur ++ ((a.drop at').take (ltr (a.drop at'))).map lowb) fr
    else fin cur fr at'
/-- The words of a text. -/
def wds (a : List UInt8) : List W := spl a (a.length + 1) 0 [] 0
theorem spl_end {a : List UInt8} {f at' : Nat} {cur : List UInt8} {fr : Nat} (h : a.length ≤ at') : spl a f at' cur fr = fin cur fr at' := by
  cases f with
  | zero => rfl
  | succ f => unfold spl; rw [if_neg (by omega)]
theorem fin_len (cur : List UInt8) (fr at' : Nat) : (fin cur fr at').length ≤ 1 := by unfold fin; split <;> simp
theorem drop_ne {a : List UInt8} {i : Nat} (h : i < a.length) : a.drop i ≠ [] := fun e => by
  have := congrArg List.length e
  rw [List.length_drop, List.length_nil] at this
  omega
theorem ltr_room {a : List UInt8} {i : Nat} (h : i < a.length) : i + ltr (a.drop i) ≤ a.length := by
  have := ltr_le _ (drop_ne h)
  rw [List.length_drop] at this
  omega
theorem low_len {a : List UInt8} {i : Nat} (h : i < a.length) : (((a.drop i).take (ltr (a.drop i))).map lowb).length = ltr (a.drop i) := by
  have := ltr_le _ (drop_ne h)
  rw [List.length_map, List.length_take]
  omega
end Go.L
namespace Go.Proofs.YtdiieblgeaehpaaGreatDoor
open Go Go.L
theorem spl_run {a : List UInt8} (hs : a.length ≤ 1000000000000) : ∀ (f at' : Nat) (L : List W), a.length ≤ at' + f → L.length ≤ at' → at' ≤ a.length + 1 →
    run (words_split_1_bl1 a) (L, (at' : Int)) = some (L ++ spl a f at' [] at') ∧
    ∀ (cur : List UInt8) (fr : Nat), (at' < a.length ∨ cur ≠ []) → at' ≤ a.length → cur.length ≤ at' → ∃ m, run (words_split_1_bl3 a L (fr : Int)) (cur, (at' : Int)) = some m ∧
      (match m with | .inl s => run (words_split_1_bl1 a) s = some (L ++ spl a f at' cur fr) | .inr r => r = L ++ spl a f at' cur fr) := by
  intro f
  induction f with
  | zero =>
    intro at' L hf hL ha
    constructor
    · rw [spl_end (by omega)]
      refine run_inr (m := some (L ++ fin [] at' at')) ?_
      unfold words_split_1_bl1
      simp only
      rw [if_neg (by omega)]
      unfold fin
      rw [if_pos rfl, List.append_nil]
    · intro cur fr hc hle hcl
      have hc : cur ≠ [] := hc.resolve_left (by omega)
      refine ⟨.inr (L ++ fin cur fr at'), ?_, rfl⟩
      refine run_inr (m := some (Sum.inr (L ++ fin cur fr at') : WS)) ?_
      unfold words_split_1_bl3 words_split_1_k2
      simp only
      rw [if_neg (by omega), chk_pos (by constructor <;> omega)]
      unfold fin
      rw [if_neg hc]
      rfl
  | succ f ih =>
    intro at' L hf hL ha
    have B : ∀ (cur : List UInt8) (fr : Nat), (at' < a.length ∨ cur ≠ []) → at' ≤ a.length → cur.length ≤ at' → ∃ m, run (words_split_1_bl3 a L (fr : Int)) (cur, (at' : Int)) = some m ∧
      (match m with | .inl s => run (words_split_1_bl1 a) s = some (L ++ spl a (f + 1) at' cur fr) | .inr r => r = L ++ spl a (f + 1) at' cur fr) := by
      intro cur fr hc hle hcl
      by_cases h : at' < a.length
      · have hroom := ltr_room h
        have hlow := low_len h
        have hle2 := letter_eq (drop_ne h)
        unfold spl
        rw [if_pos h]
        by_cases h0 : ltr (a.drop at') = 0
        · rw [if_pos h0] at hle2 ⊢
          have e : (((at' : Nat) : Int) + 1) = ((at' + 1 : Nat) : Int) := by omega
          by_cases hcur : cur = []
          · have h1 := (ih (at' + 1) L (by omega) (by omega) (by omega)).1
            refine ⟨.inl (L, ((at' + 1 : Nat) : Int)), ?_, ?_⟩
            · refine run_inr (m := some (Sum.inl (L, ((at' + 1 : Nat) : Int)) : WS)) ?_
              unfold words_split_1_bl3
              simp only
              rw [if_pos (by omega), chk_pos ⟨by omega, by omega⟩, Int.toNat_natCast, hle2, Option.bind_some]
              simp only
              rw [if_pos trivial, chk_pos (by constructor <;> omega), if_pos hcur, e]
            · simp only
              rw [h1]
              unfold fin
              rw [if_pos hcur, List.nil_append]
          · have h1 := (ih (at' + 1) (L ++ [(cur, (fr : Int), (at' : Int))]) (by omega) (by rw [List.length_append, List.length_singleton]; omega) (by omega)).1
            refine ⟨.inl (L ++ [(cur, (fr : Int), (at' : Int))], ((at' + 1 : Nat) : Int)), ?_, ?_⟩
            · refine run_inr (m := some (Sum.inl (L ++ [(cur, (fr : Int), (at' : Int))], ((at' + 1 : Nat) : Int)) : WS)) ?_
              unfold words_split_1_bl3
              simp only
              rw [if_pos (by omega), chk_pos ⟨by omega, by omega⟩, Int.toNat_natCast, hle2, Option.bind_some]
              simp only
              rw [if_pos trivial, chk_pos (by constructor <;> omega), if_neg hcur, chk_pos (by constructor <;> omega), e]
            · simp only
              rw [h1]
              unfold fin
              rw [if_neg hcur, List.append_assoc]
        · rw [if_neg h0] at hle2 ⊢
          have hne : ((a.drop at').take (ltr (a.drop at'))).map lowb ≠ [] := fun e => by rw [e, List.length_nil] at hlow; omega
          obtain ⟨m, h1, h2⟩ := (ih (at' + ltr (a.drop at')) L (by omega) (by omega) (by omega)).2 (cur ++ ((a.drop at').take (ltr (a.drop at'))).map lowb) fr (.inr (fun e => hne (List.append_eq_nil_iff.1 e).2)) hroom (by rw [List.length_append, hlow]; omega)
          refine ⟨m, ?_, h2⟩
          rw [← h1]
          refine run_inl ?_
          unfold words_split_1_bl3
          simp only
          rw [if_pos (by omega), chk_pos ⟨by omega, by omega⟩, Int.toNat_natCast, hle2, Option.bind_some]
          simp only
          rw [if_neg hne, chk_pos (by omega), chk_pos (by constructor <;> omega)]
          rfl
      · have hc : cur ≠ [] := hc.resolve_left h
        rw [spl_end (by omega)]
        refine ⟨.inr (L ++ fin cur fr at'), ?_, rfl⟩
        refine run_inr (m := some (Sum.inr (L ++ fin cur fr at') : WS)) ?_
        unfold words_split_1_bl3 words_split_1_k2
        simp only
        rw [if_neg (by omega), chk_pos (by constructor <;> omega)]
        unfold fin
        rw [if_neg hc]
        rfl
    refine ⟨?_, B⟩
    by_cases h : at' < a.length
    · obtain ⟨m, h1, h2⟩ := B [] at' (.inl h) (by omega) (by simp)
      have hb : words_split_1_bl1 a (L, (at' : Int)) = some m := by
        unfold words_split_1_bl1
        simp only
        rw [if_pos (by omega)]
        exact h1
      cases m with
      | inl s => rw [run_inl hb]; exact h2
      | inr r => rw [run_inr (m := some r) hb, h2]
    · rw [spl_end (by omega)]
      refine run_inr (m := some (L ++ fin [] at' at')) ?_
      unfold words_split_1_bl1
      simp only
      rw [if_neg (by omega)]
      unfold fin
      rw [if_pos rfl, List.append_nil]
theorem collect_wds {a : List UInt8} (hs : a.length ≤ 1000000000000) : collectW a = some (wds a) := by
  have := (spl_run hs (a.length + 1) 0 [] (by omega) (by simp) (by omega)).1
  rw [List.nil_append] at this
  exact this
theorem isWord_eq {a : List UInt8} (hs : a.length ≤ 1000000000000) : words_isWord a = some (decide ((wds a).map Prod.fst = [a])) := by
  unfold words_isWord
  rw [chk_pos (by omega), collect_wds hs, Option.bind_some]
  generalize wds a = l
  match l with
  | [] => rw [if_neg (by simp)]; simp
  | [x] => rw [if_pos (show (([x].length : Nat) : Int) = 1 from rfl), chk_pos (by simp)]; simp
  | x :: y :: z => rw [if_neg (by simp; omega)]; simp
end Go.Proofs.YtdiieblgeaehpaaGreatDoor
