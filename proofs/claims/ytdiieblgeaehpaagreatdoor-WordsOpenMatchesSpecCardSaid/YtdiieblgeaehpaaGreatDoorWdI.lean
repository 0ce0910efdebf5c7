/- An index in order: the search for a word; equal lists; the hits of a sequence of words; the vocabulary. -/
import Derived.Test.YtdiieblgeaehpaaGreatDoorWdF
namespace Go.L
open Go Go.Proofs.YtdiieblgeaehpaaGreatDoor
theorem less_lt : ∀ x y : List UInt8, Op.bytesLess x y = decide (x < y)
  | [], [] => by simp [Op.bytesLess]
  | _ :: _, [] => by simp [Op.bytesLess]
  | [], _ :: _ => by simp [Op.bytesLess]
  | a :: x, b :: y => by
    rw [Op.bytesLess, less_lt x y]
    simp only [List.cons_lt_cons_iff]
    by_cases h1 : a < b <;> by_cases h2 : a = b <;> by_cases h3 : x < y <;> simp [h1, h2, h3]
theorem u8_eq_of {a b : UInt8} (h1 : ¬ a < b) (h2 : ¬ b < a) : a = b := by
  apply UInt8.toNat.inj
  rw [UInt8.lt_iff_toNat_lt] at h1 h2
  omega
theorem cmp_lt : ∀ l m : List UInt8, Lib.compareBytes l m < 0 ↔ l < m
  | [], [] => by simp [Lib.compareBytes]
  | [], _ :: _ => by simp [Lib.compareBytes]
  | _ :: _, [] => by simp [Lib.compareBytes]
  | a :: l, b :: m => by
    have ih := cmp_lt l m
    unfold Lib.compareBytes
    rw [List.cons_lt_cons_iff]
    by_cases h1 : a < b
    · rw [if_pos h1]; simp [h1]
    · rw [if_neg h1]
      by_cases h2 : b < a
      · have hne : a ≠ b := fun e => by subst e; exact h1 h2
        rw [if_pos h2]; simp [h1, hne]
      · have e : a = b := u8_eq_of h1 h2
        rw [if_neg h2, ih]; simp [e]
theorem cmp_zero : ∀ l m : List UInt8, Lib.compareBytes l m = 0 ↔ l = m
  | [], [] => by simp [Lib.compareBytes]
  | [], _ :: _ => by simp [Lib.compareBytes]
  | _ :: _, [] => by simp [Lib.compareBytes]
  | a :: l, b :: m => by
    have ih := cmp_zero l m
    unfold Lib.compareBytes
    by_cases h1 : a < b
    · have hne : a ≠ b := fun e => by subst e; rw [UInt8.lt_iff_toNat_lt] at h1; omega
      rw [if_pos h1]; simp [hne]
    · rw [if_neg h1]
      by_cases h2 : b < a
      · have hne : a ≠ b := fun e => by subst e; exact h1 h2
        rw [if_pos h2]; simp [hne]
      · have e : a = b := u8_eq_of h1 h2
        rw [if_neg h2, ih]; simp [e]
theorem llt_irrefl (l : List UInt8) : ¬ l < l := by
  rw [← decide_eq_false_iff_not, ← less_lt]
  induction l with
  | nil => rfl
  | cons a l ih => unfold Op.bytesLess; simp [ih]
/-- Words in strict order. -/
abbrev Inc (l : List (List UInt8)) : Prop := l.Pairwise (· < ·)
theorem Inc.nodup {l : List (List UInt8)} (h : Inc l) : l.Nodup := by
  refine List.Pairwise.imp ?_ h
  intro a b hab e
  subst e
  exact llt_irrefl a hab
theorem mget_at {w : List UInt8} {hs : List Hit} : ∀ (es : HM) (i : Nat), es[i]? = some (w, hs) → (∀ k, k < i → (es.getD k default).1 ≠ w) → mget [] w es = hs
  | [], i, h, _ => by simp at h
  | e :: es, 0, h, _ => by
    simp only [List.getElem?_cons_zero, Option.some.injEq] at h
    subst h
    show (if w = w then hs else _) = hs
    rw [if_pos rfl]
  | e :: es, i + 1, h, hk => by
    have h0 : e.1 ≠ w := hk 0 (by omega)
    show (if w = e.1 then e.2 else mget [] w es) = hs
    rw [if_neg (fun x => h0 x.symm)]
    exact mget_at es i (by simpa using h) (fun k hk' => by have := hk (k + 1) (by omega); simpa using this)
end Go.L
namespace Go.Proofs.YtdiieblgeaehpaaGreatDoor
open Go Go.L
theorem hits1_eq (e : List UInt8 × List Hit) (w : List UInt8) : words_Index_hits_1 e w = some (Lib.compareBytes e.1 w) := rfl
theorem mid_eq {i j : Nat} (hi : i ≤ 1000000000) (hj : j ≤ 1000000000) : IntKind.i64.wrap (IntKind.u64.wrap ((i : Int) + (j : Int)) / 2) = (((i + j) / 2 : Nat) : Int) := by
  have h1 : IntKind.u64.wrap ((i : Int) + (j : Int)) = ((i + j : Nat) : Int) := by simp [IntKind.wrap, IntKind.signed, IntKind.bits]; omega
  rw [h1]
  simp [IntKind.wrap, IntKind.signed, IntKind.bits]
  omega
theorem search_eq {es : HM} (hn : es.length ≤ 1000000000) (w : List UInt8) (hs : Inc (es.map Prod.fst)) :
    slices_BinarySearchFunc_words_entry_words_entry_string es w = some ((((es.map Prod.fst).countP fun k => decide (k < w) : Nat) : Int), decide (w ∈ es.map Prod.fst)) := by
  have hk : ∀ k, k < es.length → (es.map Prod.fst)[k]? = some (es.getD k default).1 := fun k h => by
    rw [List.getElem?_map, List.getElem?_eq_getElem h, List.getD_eq_getElem?_getD, List.getElem?_eq_getElem h]; rfl
  have mono : ∀ a b, a < b → b < es.length → (es.getD a default).1 < (es.getD b default).1 := fun a b hab hb => by
    have := List.pairwise_iff_getElem.1 hs a b (by rw [List.length_map]; omega) (by rw [List.length_map]; omega) hab
    have e1 := List.getElem?_eq_getElem (l := es.map Prod.fst) (i := a) (by rw [List.length_map]; omega)
    have e2 := List.getElem?_eq_getElem (l := es.map Prod.fst) (i := b) (by rw [List.length_map]; omega)
    rw [hk a (by omega)] at e1
    rw [hk b hb] at e2
    rw [Option.some.inj e1, Option.some.inj e2]
    exact this
  -- how many keys are less, once the place is known
  have cnt : ∀ i, i ≤ es.length → (∀ k, k < i → (es.getD k default).1 < w) → (∀ k, i ≤ k → k < es.length → ¬ (es.getD k default).1 < w) → (es.map Prod.fst).countP (fun k => decide (k < w)) = i := fun i hi h1 h2 => by
    have e : es.map Prod.fst = (es.map Prod.fst).take i ++ (es.map Prod.fst).drop i := (List.take_append_drop _ _).symm
    rw [e, List.countP_append, List.countP_eq_length.2, List.countP_eq_zero.2, List.length_take, List.length_map]
    · omega
    · intro x hx
      obtain ⟨k, hk1⟩ := List.mem_iff_getElem?.1 hx
      rw [List.getElem?_drop] at hk1
      have hlt : i + k < es.length := by
        have := (List.getElem?_eq_some_iff.1 hk1).1
        rw [List.length_map] at this; exact this
      rw [hk _ hlt] at hk1
      rw [← Option.some.inj hk1]
      simpa using h2 (i + k) (by omega) hlt
    · intro x hx
      obtain ⟨k, hk1⟩ := List.mem_iff_getElem?.1 hx
      have hlt : k < i := by
        have := (List.getElem?_eq_some_iff.1 hk1).1
        rw [List.length_take] at this; omega
      rw [List.getElem?_take_of_lt hlt, hk _ (by omega)] at hk1
      rw [← Option.some.inj hk1]
      simpa using h1 k hlt
  unfold slices_BinarySearchFunc_words_entry_words_entry_string slices_BinarySearchFunc_words_entry_words_entry_string_l2
  refine run_inv (fun s => ∃ i j : Nat, s = ((i : Int), (j : Int)) ∧ i ≤ j ∧ j ≤ es.length ∧ (∀ k, k < i → (es.getD k default).1 < w) ∧ (∀ k, j ≤ k → k < es.length → ¬ (es.getD k default).1 < w)) (fun s => (s.2 - s.1).toNat) ?_ (s := ((0 : Int), (es.length : Int))) ⟨0, es.length, rfl, Nat.zero_le _, Nat.le_refl _, fun k h => by omega, fun k h1 h2 => by omega⟩
  rintro _ ⟨i, j, rfl, hij, hj, h1, h2⟩
  unfold slices_BinarySearchFunc_words_entry_words_entry_string_bl2
  simp only
  by_cases h : i < j
  · left
    rw [if_pos (by omega), chk_pos (by constructor <;> omega), mid_eq (by omega) (by omega), chk_pos ⟨by omega, by omega⟩, Int.toNat_natCast, hits1_eq, Option.bind_some]
    have hm : (i + j) / 2 < es.length := by omega
    by_cases hc : (es.getD ((i + j) / 2) default).1 < w
    · rw [if_pos ((cmp_lt _ _).2 hc), chk_pos (by constructor <;> omega)]
      refine ⟨_, rfl, ⟨(i + j) / 2 + 1, j, by congr 1, by omega, hj, fun k hk' => ?_, h2⟩, by simp only; omega⟩
      rcases Nat.lt_or_ge k ((i + j) / 2) with hlt | hge
      · exact List.lt_trans (mono _ _ hlt hm) hc
      · obtain rfl : k = (i + j) / 2 := by omega
        exact hc
    · rw [if_neg (fun x => hc ((cmp_lt _ _).1 x))]
      refine ⟨_, rfl, ⟨i, (i + j) / 2, rfl, by omega, by omega, h1, fun k hk1 hk2 hl => ?_⟩, by simp only; omega⟩
      rcases Nat.lt_or_ge ((i + j) / 2) k with hlt | hge
      · exact hc (List.lt_trans (mono _ _ hlt hk2) hl)
      · obtain rfl : k = (i + j) / 2 := by omega
        exact hc hl
  · right
    obtain rfl : i = j := by omega
    rw [if_neg (by omega), cnt i hj h1 h2]
    congr 1
    unfold slices_BinarySearchFunc_words_entry_words_entry_string_k1
    by_cases h3 : i < es.length
    · rw [if_pos (by omega), chk_pos ⟨by omega, by omega⟩, Int.toNat_natCast, hits1_eq, Option.bind_some]
      congr 2
      by_cases h4 : (es.getD i default).1 = w
      · rw [decide_eq_true ((cmp_zero _ _).2 h4), decide_eq_true]
        rw [← h4]
        exact List.mem_iff_getElem?.2 ⟨i, hk i h3⟩
      · rw [decide_eq_false (fun x => h4 ((cmp_zero _ _).1 x)), decide_eq_false]
        intro hmem
        obtain ⟨k, hk1⟩ := List.mem_iff_getElem?.1 hmem
        have hkl : k < es.length := by
          have := (List.getElem?_eq_some_iff.1 hk1).1
          rw [List.length_map] at this; exact this
        rw [hk k hkl] at hk1
        have hk2 := Option.some.inj hk1
        rcases Nat.lt_trichotomy k i with hlt | he | hgt
        · exact llt_irrefl w (by have := h1 k hlt; rw [hk2] at this; exact this)
        · subst he; exact h4 hk2
        · have h5 := mono i k hgt hkl
          rw [hk2] at h5
          exact h2 i (Nat.le_refl _) h3 h5
    · rw [if_neg (by omega)]
      congr 2
      rw [eq_comm, decide_eq_false_iff_not]
      intro hmem
      obtain ⟨k, hk1⟩ := List.mem_iff_getElem?.1 hmem
      have hkl : k < es.length := by
        have := (List.getElem?_eq_some_iff.1 hk1).1
        rw [List.length_map] at this; exact this
      rw [hk k hkl] at hk1
      have := h1 k (by omega)
      rw [Option.some.inj hk1] at this
      exact llt_irrefl w this
theorem hits_eq {n : Int} {es : HM} (hn : es.length ≤ 1000000000) (w : List UInt8) (hs : Inc (es.map Prod.fst)) : words_Index_hits (n, es) w = some (mget [] w es) := by
  unfold words_Index_hits
  simp only
  rw [search_eq hn w hs, Option.bind_some]
  simp only
  by_cases h : w ∈ es.map Prod.fst
  · rw [decide_eq_true h, if_neg (by decide)]
    have hc : (es.map Prod.fst).countP (fun k => decide (k < w)) < es.length := by
      rcases Nat.lt_or_ge ((es.map Prod.fst).countP (fun k => decide (k < w))) (es.map Prod.fst).length with h1 | h1
      · rw [List.length_map] at h1; exact h1
      · have h2 := Nat.le_antisymm List.countP_le_length h1
        exact absurd (of_decide_eq_true (List.countP_eq_length.1 h2 w h)) (llt_irrefl w)
    rw [chk_pos ⟨by omega, by omega⟩, Int.toNat_natCast]
    congr 1
    -- the place of w
    obtain ⟨l, r, hlr⟩ := List.append_of_mem h
    have hinc := hs
    rw [hlr] at hinc
    have hl : ∀ x ∈ l, x < w := fun x hx => (List.pairwise_append.1 hinc).2.2 x hx w (List.mem_cons_self ..)
    have hr : ∀ x ∈ r, ¬ x < w := fun x hx hxw => llt_irrefl w (List.lt_trans ((List.pairwise_cons.1 (List.pairwise_append.1 hinc).2.1).1 x hx) hxw)
    have hcnt : (es.map Prod.fst).countP (fun k => decide (k < w)) = l.length := by
      rw [hlr, List.countP_append, List.countP_cons, List.countP_eq_length.2 (fun x hx => decide_eq_true (hl x hx)), List.countP_eq_zero.2 (fun x hx => by simpa using hr x hx), if_neg (by simp [llt_irrefl w])]
      rfl
    rw [hcnt] at hc ⊢
    have hget : (es.map Prod.fst)[l.length]? = some w := by rw [hlr]; simp
    rw [List.getElem?_map, List.getElem?_eq_getElem hc] at hget
    refine (mget_at es l.length (hs := (es.getD l.length default).2) ?_ (fun k hk => ?_)).symm
    · rw [List.getElem?_eq_getElem hc, List.getD_eq_getElem?_getD, List.getElem?_eq_getElem hc]
      simp only [Option.map_some, Option.some.injEq] at hget
      rw [← hget]
      rfl
    · intro hw
      have h1 : (es.map Prod.fst)[k]? = l[k]? := by rw [hlr, List.getElem?_append_left hk]
      rw [List.getElem?_map, List.getElem?_eq_getElem (by omega), List.getElem?_eq_getElem hk] at h1
      rw [List.getD_eq_getElem?_getD, List.getElem?_eq_getElem (by omega)] at hw
      simp only [Option.map_some, Option.some.injEq] at h1
      have h2 := hl l[k] (List.getElem_mem _)
      rw [← h1] at h2
      simp only [Option.getD_some] at hw
      rw [hw] at h2
      exact llt_irrefl w h2
  · rw [decide_eq_false h, if_pos (by decide), mget_none [] w es h]
/- Lists that are equal. -/
theorem hits_self (a : List Hit) (h : a.length ≤ 1000000000) : ref4_SameHits a a = some true := by
  unfold ref4_SameHits ref4_SameHits_l2
  rw [if_pos rfl]
  refine run_count (b := ref4_SameHits_bl2 a a) (m := some true) (fun i => ((i : Nat) : Int)) a.length (fun i hi => ?_) ?_ 0 (by omega)
  · unfold ref4_SameHits_bl2
    rw [if_pos (by omega), chk_pos ⟨by omega, by omega⟩, chk_pos ⟨by omega, by omega⟩, if_pos ⟨rfl, rfl⟩, chk_pos (by constructor <;> omega)]
    rfl
  · unfold ref4_SameHits_bl2 ref4_SameHits_k1
    rw [if_neg (by omega)]
theorem words_eq {n : Int} (es : HM) (h : es.length ≤ 1000000000) : words_Index_Words (n, es) = some (es.map Prod.fst) := by
  unfold words_Index_Words words_Index_Words_l2
  have key := run_count (b := words_Index_Words_bl2 (n, es)) (m := some (es.map Prod.fst)) (fun i => ((es.map Prod.fst).take i, ((i : Nat) : Int))) es.length (fun i hi => by
    unfold words_Index_Words_bl2
    simp only
    have h1 : (es.map Prod.fst).take (i + 1) = (es.map Prod.fst).take i ++ [(es.getD i default).1] := by
      rw [List.take_add_one]
      congr 1
      rw [List.getElem?_map, List.getD_eq_getElem?_getD, List.getElem?_eq_getElem hi]
      rfl
    have h2 : ((es.map Prod.fst).take i).length ≤ 1000000000 := by rw [List.length_take]; omega
    rw [if_pos (by omega), chk_pos ⟨by omega, by omega⟩, Int.toNat_natCast, chk_pos (by rw [List.length_singleton]; constructor <;> omega), chk_pos (by constructor <;> omega), h1]
    rfl) (by
    unfold words_Index_Words_bl2 words_Index_Words_k1
    simp only
    rw [if_neg (by omega), List.take_of_length_le (by rw [List.length_map]; exact Nat.le_refl _)]) 0 (by omega)
  exact key
end Go.Proofs.YtdiieblgeaehpaaGreatDoor
