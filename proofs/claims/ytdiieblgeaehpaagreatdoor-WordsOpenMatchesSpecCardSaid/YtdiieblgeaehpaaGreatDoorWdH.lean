/- Words of two texts with a separator between them; words of a word. -/
import Derived.Test.YtdiieblgeaehpaaGreatDoorWdC
namespace Go.L
open Go
theorem bt_app {l r : List UInt8} {k : Nat} (h : k < l.length) : bt (l ++ r) k = bt l k := by
  unfold bt
  rw [List.getD_eq_getElem?_getD, List.getD_eq_getElem?_getD, List.getElem?_append_left h]
/-- The bytes of one letter, in lower case. -/
def Ch (x : List UInt8) : Prop := x ≠ [] ∧ x.map lowb = x ∧ ∀ r, ltr (x ++ r) = x.length
theorem low_asc : ∀ c : Fin 256, asc c.val = true → asc (lowb (UInt8.ofNat c.val)).toNat = true ∧ lowb (lowb (UInt8.ofNat c.val)) = lowb (UInt8.ofNat c.val) := by decide +kernel
theorem szs_pre {l r : List UInt8} (h : szs l ≠ 0) : szs (l.take (szs l) ++ r) = szs l := by
  have hc : ∀ k, cont l k = true → k < l.length := fun k h => (of_decide_eq_true h).1
  have key : ∀ n, szs l = n → 1 < n → n ≤ l.length → (∀ k, k < n → bt (l.take n ++ r) k = bt l k) ∧ (∀ k, k < n → cont (l.take n ++ r) k = cont l k) := by
    intro n _ _ hn
    have hl : (l.take n).length = n := by rw [List.length_take]; omega
    have hb : ∀ k, k < n → bt (l.take n ++ r) k = bt l k := fun k hk => by
      rw [bt_app (by omega)]
      unfold bt
      rw [List.getD_eq_getElem?_getD, List.getD_eq_getElem?_getD, List.getElem?_take_of_lt hk]
    refine ⟨hb, fun k hk => ?_⟩
    unfold cont
    rw [hb k hk, List.length_append, hl]
    congr 1
    apply propext
    constructor <;> (rintro ⟨_, h2⟩; exact ⟨by omega, h2⟩)
  have h' := h
  unfold szs at h'
  split at h'
  · rename_i hA
    split at h'
    · rename_i h1
      have e : szs l = 2 := by unfold szs; rw [if_pos hA, if_pos h1]
      obtain ⟨hb, hk⟩ := key 2 e (by decide) (hc 1 h1)
      rw [e]
      unfold szs
      rw [hb 0 (by decide), hk 1 (by decide), if_pos hA, if_pos h1]
    · exact absurd rfl h'
  · rename_i hA
    split at h'
    · rename_i hB
      split at h'
      · rename_i h1
        have e : szs l = 3 := by unfold szs; rw [if_neg hA, if_pos hB, if_pos h1]
        obtain ⟨hb, hk⟩ := key 3 e (by decide) (hc 2 h1.2.1)
        rw [e]
        unfold pt3 at h1
        unfold szs pt3
        rw [hb 0 (by decide), hb 1 (by decide), hb 2 (by decide), hk 1 (by decide), hk 2 (by decide), if_neg hA, if_pos hB, if_pos h1]
      · exact absurd rfl h'
    · rename_i hB
      split at h'
      · rename_i hC
        split at h'
        · rename_i h1
          have e : szs l = 4 := by unfold szs; rw [if_neg hA, if_neg hB, if_pos hC, if_pos h1]
          obtain ⟨hb, hk⟩ := key 4 e (by decide) (hc 3 h1.2.2.1)
          rw [e]
          unfold pt4 at h1
          unfold szs pt4
          rw [hb 0 (by decide), hb 1 (by decide), hb 2 (by decide), hb 3 (by decide), hk 1 (by decide), hk 2 (by decide), hk 3 (by decide), if_neg hA, if_neg hB, if_pos hC, if_pos h1]
        · exact absurd rfl h'
      · exact absurd rfl h'
theorem ch_ltr {l : List UInt8} (hne : l ≠ []) (h : ltr l ≠ 0) : Ch ((l.take (ltr l)).map lowb) := by
  have hl := ltr_le l hne
  have hlen : ((l.take (ltr l)).map lowb).length = ltr l := by rw [List.length_map, List.length_take]; omega
  refine ⟨fun e => by rw [e] at hlen; exact h hlen.symm, ?_, fun r => ?_⟩
  all_goals
    by_cases ha : asc (bt l 0) = true
  · obtain ⟨c, m, rfl⟩ := List.exists_cons_of_ne_nil hne
    have e : ltr (c :: m) = 1 := by unfold ltr; rw [if_pos ha]
    have := (low_asc ⟨c.toNat, c.toNat_lt⟩ ha).2
    rw [e]
    simp only [UInt8.ofNat_toNat] at this
    simp [this]
  · have e : ltr l = szs l := by unfold ltr; rw [if_neg ha]
    rw [e] at h ⊢
    rw [szs_low h, szs_low h]
  · obtain ⟨c, m, rfl⟩ := List.exists_cons_of_ne_nil hne
    have e : ltr (c :: m) = 1 := by unfold ltr; rw [if_pos ha]
    have := (low_asc ⟨c.toNat, c.toNat_lt⟩ ha).1
    simp only [UInt8.ofNat_toNat] at this
    rw [hlen, e]
    show ltr (lowb c :: r) = 1
    unfold ltr
    rw [if_pos (show asc (bt (lowb c :: r) 0) = true from this)]
  · have e : ltr l = szs l := by unfold ltr; rw [if_neg ha]
    rw [hlen]
    rw [e] at h hl ⊢
    rw [szs_low h]
    have h0 : bt (l.take (szs l) ++ r) 0 = bt l 0 := by
      rw [bt_app (by rw [List.length_take]; omega)]
      unfold bt
      rw [List.getD_eq_getElem?_getD, List.getD_eq_getElem?_getD, List.getElem?_take_of_lt (by omega)]
    unfold ltr
    rw [h0, if_neg ha]
    exact szs_pre h
/-- A text that is made of letters in lower case. -/
def Lw (t : List UInt8) : Prop := ∃ cs : List (List UInt8), t = cs.flatten ∧ ∀ x ∈ cs, Ch x
theorem Lw.nil : Lw [] := ⟨[], rfl, by simp⟩
theorem Lw.snoc {t x : List UInt8} (h : Lw t) (hx : Ch x) : Lw (t ++ x) := by
  obtain ⟨cs, rfl, hc⟩ := h
  refine ⟨cs ++ [x], by simp, fun y hy => ?_⟩
  rcases List.mem_append.1 hy with hy | hy
  · exact hc y hy
  · rw [List.mem_singleton.1 hy]; exact hx
theorem spl_chunks : ∀ (cs : List (List UInt8)) (p : List UInt8) (f : Nat), (∀ x ∈ cs, Ch x) → cs.flatten.length ≤ f → spl (p ++ cs.flatten) f p.length p 0 = fin (p ++ cs.flatten) 0 (p.length + cs.flatten.length)
  | [], p, f, _, _ => by
    simp only [List.flatten_nil, List.append_nil, List.length_nil, Nat.add_zero]
    exact spl_end (Nat.le_refl _)
  | x :: cs, p, f, h, hf => by
    obtain ⟨hx, hl, hr⟩ := h x (List.mem_cons_self ..)
    have hx0 := List.length_pos_iff.2 hx
    rw [List.flatten_cons, List.length_append] at hf
    obtain ⟨f, rfl⟩ : ∃ f', f = f' + 1 := ⟨f - 1, by omega⟩
    rw [List.flatten_cons]
    unfold spl
    have e : (p ++ (x ++ cs.flatten)).drop p.length = x ++ cs.flatten := List.drop_left
    rw [e, hr, if_pos (by simp only [List.length_append]; omega), if_neg (by omega), List.take_left, hl, ← List.append_assoc, ← List.length_append]
    rw [spl_chunks cs (p ++ x) f (fun y hy => h y (List.mem_cons_of_mem _ hy)) (by omega)]
    congr 1
    simp only [List.length_append]
    omega
theorem wds_one {t : List UInt8} (h : Lw t) (hne : t ≠ []) : (wds t).map Prod.fst = [t] := by
  obtain ⟨cs, rfl, hc⟩ := h
  have := spl_chunks cs [] (cs.flatten.length + 1) hc (by omega)
  rw [List.nil_append, List.length_nil] at this
  unfold wds
  rw [this]
  unfold fin
  rw [if_neg hne]
  rfl
/-- What is known of each word of a text. -/
def Wok (n : Nat) (w : W) : Prop := Lw w.1 ∧ w.1 ≠ [] ∧ 0 ≤ w.2.1 ∧ w.2.1 < w.2.2 ∧ w.2.2 ≤ (n : Int)
theorem fin_ok {n : Nat} {cur : List UInt8} {fr at' : Nat} (hc : Lw cur) (h : cur = [] ∨ fr < at') (hn : at' ≤ n) : ∀ w ∈ fin cur fr at', Wok n w := by
  intro w hw
  unfold fin at hw
  split at hw
  · cases hw
  · rename_i hne
    rw [List.mem_singleton.1 hw]
    have := h.resolve_left hne
    exact ⟨hc, hne, by show (0 : Int) ≤ (fr : Int); omega, by show (fr : Int) < (at' : Int); omega, by show (at' : Int) ≤ (n : Int); omega⟩
theorem spl_ok {a : List UInt8} : ∀ (f at' : Nat) (cur : List UInt8) (fr : Nat), at' ≤ a.length → Lw cur → (cur = [] ∨ fr < at') → fr ≤ at' → ∀ w ∈ spl a f at' cur fr, Wok a.length w
  | 0, at', cur, fr, h, hc, hf, _ => fin_ok hc hf h
  | f + 1, at', cur, fr, h, hc, hf, hle => by
    intro w hw
    unfold spl at hw
    split at hw
    · rename_i h1
      split at hw
      · rcases List.mem_append.1 hw with hw | hw
        · exact fin_ok hc hf h w hw
        · exact spl_ok f (at' + 1) [] (at' + 1) (by omega) Lw.nil (.inl rfl) (Nat.le_refl _) w hw
      · rename_i h2
        exact spl_ok f _ _ fr (ltr_room h1) (hc.snoc (ch_ltr (drop_ne h1) h2)) (.inr (by omega)) (by omega) w hw
    · exact fin_ok hc hf h w hw
theorem wds_ok (a : List UInt8) : ∀ w ∈ wds a, Wok a.length w := spl_ok _ 0 [] 0 (Nat.zero_le _) Lw.nil (.inl rfl) (Nat.le_refl _)
end Go.L
