/- Words of two texts with a separator between them; words of a word. -/
import Derived.Test.YtdiieblgeaehpaaGreatDoorWdC
namespace Go.L
open Go
theorem bt_app {l r : List UInt8} {k : Nat} (h : k < l.length) : bt (l ++ r) k = bt l k := by
  unfold bt
  rw [List.getD_eq_getElem?_getD, List.getD_eq_getElem?_getD, List.getElem?_append_left h]
theorem cont_app {l r : List UInt8} {k : Nat} (h : k < l.length) : cont (l ++ r) k = cont l k := by
  unfold cont
  rw [bt_app h, List.length_append]
  congr 1
  apply propext
  constructor <;> (rintro ⟨_, h2⟩; exact ⟨by omega, h2⟩)
theorem cont_ge {l : List UInt8} {k : Nat} (h : l.length ≤ k) : cont l k = false := decide_eq_false (fun x => by omega)
theorem cont_sep {l b : List UInt8} : cont (l ++ 32 :: b) l.length = false := by
  have h : bt (l ++ 32 :: b) l.length = 32 := by
    unfold bt
    rw [List.getD_eq_getElem?_getD, List.getElem?_append_right (Nat.le_refl _), Nat.sub_self]
    rfl
  exact decide_eq_false (fun x => by omega)
theorem ltr_app {l b : List UInt8} (h : l ≠ []) : ltr (l ++ 32 :: b) = ltr l := by
  have h0 := List.length_pos_iff.2 h
  have b0 : bt (l ++ 32 :: b) 0 = bt l 0 := bt_app h0
  unfold ltr szs
  rw [b0]
  by_cases h1 : 1 < l.length
  · have c1 : cont (l ++ 32 :: b) 1 = cont l 1 := cont_app h1
    have b1 : bt (l ++ 32 :: b) 1 = bt l 1 := bt_app h1
    by_cases h2 : 2 < l.length
    · have c2 : cont (l ++ 32 :: b) 2 = cont l 2 := cont_app h2
      have b2 : bt (l ++ 32 :: b) 2 = bt l 2 := bt_app h2
      by_cases h3 : 3 < l.length
      · have c3 : cont (l ++ 32 :: b) 3 = cont l 3 := cont_app h3
        have b3 : bt (l ++ 32 :: b) 3 = bt l 3 := bt_app h3
        unfold pt3 pt4
        rw [c1, c2, c3, b0, b1, b2, b3]
      · have c3 : cont (l ++ 32 :: b) 3 = false := by rw [show 3 = l.length by omega]; exact cont_sep
        have d3 : cont l 3 = false := cont_ge (by omega)
        unfold pt3
        rw [c1, c2, c3, d3, b0, b1, b2]
        simp only [Bool.false_eq_true, false_and, and_false]
    · have c2 : cont (l ++ 32 :: b) 2 = false := by rw [show 2 = l.length by omega]; exact cont_sep
      have d2 : cont l 2 = false := cont_ge (by omega)
      rw [c1, c2, d2]
      simp only [Bool.false_eq_true, false_and, and_false]
  · have c1 : cont (l ++ 32 :: b) 1 = false := by rw [show 1 = l.length by omega]; exact cont_sep
    have d1 : cont l 1 = false := cont_ge (by omega)
    rw [c1, d1]
    simp only [Bool.false_eq_true, false_and]
theorem ltr_sep (b : List UInt8) : ltr (32 :: b) = 0 := by
  have h : bt (32 :: b) 0 = 32 := rfl
  unfold ltr szs
  rw [h]
  rfl
theorem spl_fuel {a : List UInt8} : ∀ (f g at' : Nat) (cur : List UInt8) (fr : Nat), a.length ≤ at' + f → a.length ≤ at' + g → spl a f at' cur fr = spl a g at' cur fr
  | 0, g, at', cur, fr, h, _ => by rw [spl_end (by omega), spl_end (by omega)]
  | f + 1, 0, at', cur, fr, _, h => by rw [spl_end (by omega), spl_end (by omega)]
  | f + 1, g + 1, at', cur, fr, h, k => by
    unfold spl
    split
    · split
      · rw [spl_fuel f g (at' + 1) [] (at' + 1) (by omega) (by omega)]
      · exact spl_fuel f g _ _ fr (by omega) (by omega)
    · rfl
/-- A word at another place. -/
def sh (n : Nat) (w : W) : W := (w.1, w.2.1 + (n : Int), w.2.2 + (n : Int))
theorem fin_shift (p : Nat) (cur : List UInt8) (fr at' : Nat) : fin cur (p + fr) (p + at') = (fin cur fr at').map (sh p) := by
  unfold fin
  split
  · rfl
  · rw [List.map_cons, List.map_nil]
    unfold sh
    simp only [List.cons.injEq, Prod.mk.injEq, true_and, and_true]
    constructor <;> omega
theorem spl_shift (p b : List UInt8) : ∀ (f at' : Nat) (cur : List UInt8) (fr : Nat), spl (p ++ b) f (p.length + at') cur (p.length + fr) = (spl b f at' cur fr).map (sh p.length)
  | 0, at', cur, fr => fin_shift _ _ _ _
  | f + 1, at', cur, fr => by
    have e : (p ++ b).drop (p.length + at') = b.drop at' := by rw [← List.drop_drop, List.drop_left]
    unfold spl
    rw [e, List.length_append]
    by_cases h : at' < b.length
    · rw [if_pos (by omega), if_pos h]
      split
      · rw [List.map_append, fin_shift, Nat.add_assoc, spl_shift p b f (at' + 1) [] (at' + 1)]
      · rw [Nat.add_assoc, spl_shift p b f _ _ fr]
    · rw [if_neg (by omega), if_neg h, fin_shift]
theorem drop_app {a b : List UInt8} {i : Nat} (h : i ≤ a.length) : (a ++ b).drop i = a.drop i ++ b := List.drop_append_of_le_length h
theorem spl_app {a b : List UInt8} : ∀ (f g at' : Nat) (cur : List UInt8) (fr : Nat), a.length ≤ at' + f → at' ≤ a.length → a.length + 1 + b.length ≤ at' + g →
    spl (a ++ 32 :: b) g at' cur fr = spl a f at' cur fr ++ (wds b).map (sh (a.length + 1)) := by
  intro f
  induction f with
  | zero =>
    intro g at' cur fr h1 h2 h3
    obtain rfl : at' = a.length := by omega
    obtain ⟨g, rfl⟩ : ∃ g', g = g' + 1 := ⟨g - 1, by omega⟩
    rw [spl_end (a := a) (by omega)]
    unfold spl
    rw [if_pos (by rw [List.length_append, List.length_cons]; omega), drop_app (Nat.le_refl _), List.drop_length, List.nil_append, if_pos (ltr_sep b)]
    congr 1
    have e : a ++ 32 :: b = (a ++ [32]) ++ b := by rw [List.append_assoc]; rfl
    have l : (a ++ [(32 : UInt8)]).length = a.length + 1 := by rw [List.length_append]; rfl
    have := spl_shift (a ++ [32]) b g 0 [] 0
    rw [Nat.add_zero, l, ← e] at this
    rw [this]
    congr 1
    exact spl_fuel _ _ _ _ _ (by omega) (by omega)
  | succ f ih =>
    intro g at' cur fr h1 h2 h3
    by_cases h : at' < a.length
    · obtain ⟨g, rfl⟩ : ∃ g', g = g' + 1 := ⟨g - 1, by omega⟩
      unfold spl
      rw [if_pos (by rw [List.length_append, List.length_cons]; omega), if_pos h, drop_app h2, ltr_app (drop_ne h)]
      have hr := ltr_room h
      split
      · rw [ih g (at' + 1) [] (at' + 1) (by omega) (by omega) (by omega), List.append_assoc]
      · rw [ih g _ _ fr (by omega) hr (by omega), List.take_append_of_le_length (ltr_le _ (drop_ne h))]
    · have e : spl a (f + 1) at' cur fr = spl a 0 at' cur fr := spl_fuel _ _ _ _ _ (by omega) (by omega)
      rw [e]
      obtain rfl : at' = a.length := by omega
      obtain ⟨g, rfl⟩ : ∃ g', g = g' + 1 := ⟨g - 1, by omega⟩
      rw [spl_end (a := a) (by omega)]
      unfold spl
      rw [if_pos (by rw [List.length_append, List.length_cons]; omega), drop_app (Nat.le_refl _), List.drop_length, List.nil_append, if_pos (ltr_sep b)]
      congr 1
      have e : a ++ 32 :: b = (a ++ [32]) ++ b := by rw [List.append_assoc]; rfl
      have l : (a ++ [(32 : UInt8)]).length = a.length + 1 := by rw [List.length_append]; rfl
      have := spl_shift (a ++ [32]) b g 0 [] 0
      rw [Nat.add_zero, l, ← e] at this
      rw [this]
      congr 1
      exact spl_fuel _ _ _ _ _ (by omega) (by omega)
/-- The words of two texts with a space between them. -/
theorem wds_sep (a b : List UInt8) : wds (a ++ 32 :: b) = wds a ++ (wds b).map (sh (a.length + 1)) :=
  spl_app _ _ 0 [] 0 (by omega) (Nat.zero_le _) (by rw [List.length_append, List.length_cons]; omega)
/-- The bytes of one letter, in lower case. -/
def Ch (x : List UInt8) : Prop := x ≠ [] ∧ x.map lowb = x ∧ ∀ r, ltr (x ++ r) = x.length
theorem low_asc : ∀ c : Fin 256, asc c.val = true → asc (lowb (UInt8.ofNat c.val)).toNat = true ∧ lowb (lowb (UInt8.ofNat c.val)) = lowb (UInt8.ofNat c.val) := by decide +kernel
theorem szs_pre {l r : List UInt8} (h : szs l ≠ 0) : szs (l.take (szs l) ++ r) = szs l := by
  have hc : ∀ k, cont l k = true → k < l.length := fun k h => (of_decide_eq_true h).1
  have key : ∀ n, szs l = n → 1 < n → n ≤ l.length → (∀ k, k < n → bt (l.take n ++ r) k = bt l k) ∧ (∀ k, k < n → cont (l.take n ++ r) k = cont l k) := by
    intro n _ _ hn
    have hl : (l.take n).length = n := by rw [List.length_take]; omega
    have hb : ∀ k, k < n → bt (l.take n ++ r) k = bt l k := fun k hk => by
      rw [bt_app (by omega)]
      unfold bt
      rw [List.getD_eq_getElem?_getD, List.getD_eq_getElem?_getD, List.getElem?_take_of_lt hk]
    refine ⟨hb, fun k hk => ?_⟩
    unfold cont
    rw [hb k hk, List.length_append, hl]
    congr 1
    apply propext
    constructor <;> (rintro ⟨_, h2⟩; exact ⟨by omega, h2⟩)
  have h' := h
  unfold szs at h'
  split at h'
  · rename_i hA
    split at h'
    · rename_i h1
      have e : szs l = 2 := by unfold szs; rw [if_pos hA, if_pos h1]
      obtain ⟨hb, hk⟩ := key 2 e (by decide) (hc 1 h1)
      rw [e]
      unfold szs
      rw [hb 0 (by decide), hk 1 (by decide), if_pos hA, if_pos h1]
    · exact absurd rfl h'
  · rename_i hA
    split at h'
    · rename_i hB
      split at h'
      · rename_i h1
        have e : szs l = 3 := by unfold szs; rw [if_neg hA, if_pos hB, if_pos h1]
        obtain ⟨hb, hk⟩ := key 3 e (by decide) (hc 2 h1.2.1)
        rw [e]
        unfold pt3 at h1
        unfold szs pt3
        rw [hb 0 (by decide), hb 1 (by decide), hb 2 (by decide), hk 1 (by decide), hk 2 (by decide), if_neg hA, if_pos hB, if_pos h1]
      · exact absurd rfl h'
    · rename_i hB
      split at h'
      · rename_i hC
        split at h'
        · rename_i h1
          have e : szs l = 4 := by unfold szs; rw [if_neg hA, if_neg hB, if_pos hC, if_pos h1]
          obtain ⟨hb, hk⟩ := key 4 e (by decide) (hc 3 h1.2.2.1)
          rw [e]
          unfold pt4 at h1
          unfold szs pt4
          rw [hb 0 (by decide), hb 1 (by decide), hb 2 (by decide), hb 3 (by decide), hk 1 (by decide), hk 2 (by decide), hk 3 (by decide), if_neg hA, if_neg hB, if_pos hC, if_pos h1]
        · exact absurd rfl h'
      · exact absurd rfl h'
theorem ch_ltr {l : List UInt8} (hne : l ≠ []) (h : ltr l ≠ 0) : Ch ((l.take (ltr l)).map lowb) := by
  have hl := ltr_le l hne
  have hlen : ((l.take (ltr l)).map lowb).length = ltr l := by rw [List.length_map, List.length_take]; omega
  refine ⟨fun e => by rw [e] at hlen; exact h hlen.symm, ?_, fun r => ?_⟩
  all_goals
    by_cases ha : asc (bt l 0) = true
  · obtain ⟨c, m, rfl⟩ := List.exists_cons_of_ne_nil hne
    have e : ltr (c :: m) = 1 := by unfold ltr; rw [if_pos ha]
    have := (low_asc ⟨c.toNat, c.toNat_lt⟩ ha).2
    rw [e]
    simp only [UInt8.ofNat_toNat] at this
    simp [this]
  · have e : ltr l = szs l := by unfold ltr; rw [if_neg ha]
    rw [e] at h ⊢
    rw [szs_low h, szs_low h]
  · obtain ⟨c, m, rfl⟩ := List.exists_cons_of_ne_nil hne
    have e : ltr (c :: m) = 1 := by unfold ltr; rw [if_pos ha]
    have := (low_asc ⟨c.toNat, c.toNat_lt⟩ ha).1
    simp only [UInt8.ofNat_toNat] at this
    rw [hlen, e]
    show ltr (lowb c :: r) = 1
    unfold ltr
    rw [if_pos (show asc (bt (lowb c :: r) 0) = true from this)]
  · have e : ltr l = szs l := by unfold ltr; rw [if_neg ha]
    rw [hlen]
    rw [e] at h hl ⊢
    rw [szs_low h]
    have h0 : bt (l.take (szs l) ++ r) 0 = bt l 0 := by
      rw [bt_app (by rw [List.length_take]; omega)]
      unfold bt
      rw [List.getD_eq_getElem?_getD, List.getD_eq_getElem?_getD, List.getElem?_take_of_lt (by omega)]
    unfold ltr
    rw [h0, if_neg ha]
    exact szs_pre h
/-- A text that is made of letters in lower case. -/
def Lw (t : List UInt8) : Prop := ∃ cs : List (List UInt8), t = cs.flatten ∧ ∀ x ∈ cs, Ch x
theorem Lw.nil : Lw [] := ⟨[], rfl, by simp⟩
theorem Lw.snoc {t x : List UInt8} (h : Lw t) (hx : Ch x) : Lw (t ++ x) := by
  obtain ⟨cs, rfl, hc⟩ := h
  refine ⟨cs ++ [x], by simp, fun y hy => ?_⟩
  rcases List.mem_append.1 hy with hy | hy
  · exact hc y hy
  · rw [List.mem_singleton.1 hy]; exact hx
theorem spl_chunks : ∀ (cs : List (List UInt8)) (p : List UInt8) (f : Nat), (∀ x ∈ cs, Ch x) → cs.flatten.length ≤ f → spl (p ++ cs.flatten) f p.length p 0 = fin (p ++ cs.flatten) 0 (p.length + cs.flatten.length)
  | [], p, f, _, _ => by
    simp only [List.flatten_nil, List.append_nil, List.length_nil, Nat.add_zero]
    exact spl_end (Nat.le_refl _)
  | x :: cs, p, f, h, hf => by
    obtain ⟨hx, hl, hr⟩ := h x (List.mem_cons_self ..)
    have hx0 := List.length_pos_iff.2 hx
    rw [List.flatten_cons, List.length_append] at hf
    obtain ⟨f, rfl⟩ : ∃ f', f = f' + 1 := ⟨f - 1, by omega⟩
    rw [List.flatten_cons]
    unfold spl
    have e : (p ++ (x ++ cs.flatten)).drop p.length = x ++ cs.flatten := List.drop_left
    rw [e, hr, if_pos (by simp only [List.length_append]; omega), if_neg (by omega), List.take_left, hl, ← List.append_assoc, ← List.length_append]
    rw [spl_chunks cs (p ++ x) f (fun y hy => h y (List.mem_cons_of_mem _ hy)) (by omega)]
    congr 1
    simp only [List.length_append]
    omega
theorem wds_one {t : List UInt8} (h : Lw t) (hne : t ≠ []) : (wds t).map Prod.fst = [t] := by
  obtain ⟨cs, rfl, hc⟩ := h
  have := spl_chunks cs [] (cs.flatten.length + 1) hc (by omega)
  rw [List.nil_append, List.length_nil] at this
  unfold wds
  rw [this]
  unfold fin
  rw [if_neg hne]
  rfl
/-- What is known of each word of a text. -/
def Wok (n : Nat) (w : W) : Prop := Lw w.1 ∧ w.1 ≠ [] ∧ 0 ≤ w.2.1 ∧ w.2.1 < w.2.2 ∧ w.2.2 ≤ (n : Int)
theorem fin_ok {n : Nat} {cur : List UInt8} {fr at' : Nat} (hc : Lw cur) (h : cur = [] ∨ fr < at') (hn : at' ≤ n) : ∀ w ∈ fin cur fr at', Wok n w := by
  intro w hw
  unfold fin at hw
  split at hw
  · cases hw
  · rename_i hne
    rw [List.mem_singleton.1 hw]
    have := h.resolve_left hne
    exact ⟨hc, hne, by show (0 : Int) ≤ (fr : Int); omega, by show (fr : Int) < (at' : Int); omega, by show (at' : Int) ≤ (n : Int); omega⟩
theorem spl_ok {a : List UInt8} : ∀ (f at' : Nat) (cur : List UInt8) (fr : Nat), at' ≤ a.length → Lw cur → (cur = [] ∨ fr < at') → fr ≤ at' → ∀ w ∈ spl a f at' cur fr, Wok a.length w
  | 0, at', cur, fr, h, hc, hf, _ => fin_ok hc hf h
  | f + 1, at', cur, fr, h, hc, hf, hle => by
    intro w hw
    unfold spl at hw
    split at hw
    · rename_i h1
      split at hw
      · rcases List.mem_append.1 hw with hw | hw
        · exact fin_ok hc hf h w hw
        · exact spl_ok f (at' + 1) [] (at' + 1) (by omega) Lw.nil (.inl rfl) (Nat.le_refl _) w hw
      · rename_i h2
        exact spl_ok f _ _ fr (ltr_room h1) (hc.snoc (ch_ltr (drop_ne h1) h2)) (.inr (by omega)) (by omega) w hw
    · exact fin_ok hc hf h w hw
theorem wds_ok (a : List UInt8) : ∀ w ∈ wds a, Wok a.length w := spl_ok _ 0 [] 0 (Nat.zero_le _) Lw.nil (.inl rfl) (Nat.le_refl _)
end Go.L
