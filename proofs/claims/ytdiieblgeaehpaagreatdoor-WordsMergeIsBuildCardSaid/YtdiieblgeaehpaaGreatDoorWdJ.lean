/- The reference: the hits of a sequence of words; the vocabulary. -/
import Derived.Test.YtdiieblgeaehpaaGreatDoorWdI
namespace Go.L
open Go Go.Proofs.YtdiieblgeaehpaaGreatDoor
theorem getD_drop {α : Type} [Inhabited α] {l : List α} {i : Nat} {x : α} {r : List α} (h : l.drop i = x :: r) : l.getD i default = x ∧ l.drop (i + 1) = r ∧ i < l.length := by
  have hlen := congrArg List.length h
  rw [List.length_drop, List.length_cons] at hlen
  refine ⟨?_, by rw [← List.drop_drop, h]; rfl, by omega⟩
  have := congrArg (·[0]?) h
  simp only [List.getElem?_drop, List.getElem?_cons_zero, Nat.add_zero] at this
  rw [List.getD_eq_getElem?_getD, this]
  rfl
theorem len_drop {α : Type} {l : List α} {i : Nat} (h : l.drop i = []) : l.length ≤ i := by
  have hlen := congrArg List.length h
  rw [List.length_drop, List.length_nil] at hlen
  omega
theorem snoc_cases {α : Type} (l : List α) : l = [] ∨ ∃ L b, l = L ++ [b] := by
  rcases List.eq_nil_or_concat l with h | ⟨L, b, h⟩
  · exact .inl h
  · exact .inr ⟨L, b, by rw [h, List.concat_eq_append]⟩
/-- A sequence of words stands at a place. -/
def seqAt (ws : List W) (l : List (List UInt8)) (k : Nat) : Bool := decide (∀ n, n < l.length → (ws.getD (k + n) default).1 = l.getD n default)
def hitsAt (i : Nat) (ws : List W) (l : List (List UInt8)) : List Hit := ((List.range (ws.length + 1 - l.length)).filter (seqAt ws l)).map fun k => ((i : Int), ((k : Nat) : Int))
def hitsAll : Nat → List (List UInt8) → List (List UInt8) → List Hit
  | _, [], _ => []
  | i, t :: r, l => hitsAt i (wds t) l ++ hitsAll (i + 1) r l
end Go.L
namespace Go.Proofs.YtdiieblgeaehpaaGreatDoor
open Go Go.L
theorem hits7 {ws : List W} {l : List (List UInt8)} {k : Nat} (hk : k + l.length ≤ ws.length) (hw : ws.length ≤ 1000000000) (out : List Hit) (i : Nat) : ref4_Hits_l7 l out (i : Int) (k : Int) ws (true, 0) = ref4_Hits_k6 out (i : Int) (k : Int) (seqAt ws l k) := by
  unfold ref4_Hits_l7
  exact run_count (b := ref4_Hits_bl7 l out (i : Int) (k : Int) ws) (m := ref4_Hits_k6 out (i : Int) (k : Int) (seqAt ws l k)) (fun n => (decide (∀ m, m < n → (ws.getD (k + m) default).1 = l.getD m default), ((n : Nat) : Int))) l.length (fun n hn => by
    have es : (∀ m, m < n + 1 → (ws.getD (k + m) default).1 = l.getD m default) ↔ (∀ m, m < n → (ws.getD (k + m) default).1 = l.getD m default) ∧ (ws.getD (k + n) default).1 = l.getD n default := by
      constructor
      · intro h; exact ⟨fun m hm => h m (by omega), h n (by omega)⟩
      · rintro ⟨h1, h2⟩ m hm
        rcases Nat.lt_or_ge m n with h | h
        · exact h1 m h
        · obtain rfl : m = n := by omega
          exact h2
    unfold ref4_Hits_bl7
    simp only
    have e1 : (k : Int) + (n : Int) = ((k + n : Nat) : Int) := by omega
    have e2 : (n : Int) + 1 = ((n + 1 : Nat) : Int) := by omega
    rw [if_pos (by omega), e1, e2, chk_pos (by constructor <;> omega), chk_pos ⟨by omega, by omega⟩, chk_pos ⟨by omega, by omega⟩, chk_pos (by constructor <;> omega), Int.toNat_natCast, Int.toNat_natCast]
    by_cases h : ∀ m, m < n → (ws.getD (k + m) default).1 = l.getD m default
    · have e3 : decide ((ws.getD (k + n) default).1 = l.getD n default) = decide (∀ m, m < n + 1 → (ws.getD (k + m) default).1 = l.getD m default) := decide_eq_decide.2 ⟨fun h2 => es.2 ⟨h, h2⟩, fun h2 => (es.1 h2).2⟩
      rw [decide_eq_true h, if_pos rfl, e3]
    · rw [decide_eq_false h, if_neg (by decide), decide_eq_false (fun h2 => h (es.1 h2).1), chk_pos (by constructor <;> omega)]) (by
    unfold ref4_Hits_bl7
    simp only
    rw [if_neg (by omega)]
    rfl) 0 (by omega)
theorem hits4 {ws : List W} {l : List (List UInt8)} (hw : ws.length ≤ 1000000000) (hl : l.length ≤ 1000000000) (L : List Hit) (hL : L.length ≤ 1000000000) (i : Nat) (hi : i ≤ 1000000000) : ref4_Hits_l4 l (i : Int) ws (L, 0) = some (.inl (L ++ hitsAt i ws l, ((i + 1 : Nat) : Int))) := by
  unfold ref4_Hits_l4
  have key := run_count (b := ref4_Hits_bl4 l (i : Int) ws) (m := some (.inl (L ++ hitsAt i ws l, ((i + 1 : Nat) : Int)))) (fun k => (L ++ ((List.range k).filter (seqAt ws l)).map fun k => ((i : Int), ((k : Nat) : Int)), ((k : Nat) : Int))) (ws.length + 1 - l.length) (fun k hk => by
    unfold ref4_Hits_bl4
    simp only
    rw [chk_pos (by constructor <;> omega), if_pos (by omega), hits7 (by omega) hw]
    have hlen : (L ++ ((List.range k).filter (seqAt ws l)).map fun k => ((i : Int), ((k : Nat) : Int))).length ≤ 2000000000 := by
      rw [List.length_append, List.length_map]
      have := List.length_filter_le (seqAt ws l) (List.range k)
      rw [List.length_range] at this
      omega
    have e2 : (k : Int) + 1 = ((k + 1 : Nat) : Int) := by omega
    unfold ref4_Hits_k6 ref4_Hits_k5
    rw [e2, List.range_succ, List.filter_append, List.map_append]
    by_cases h : seqAt ws l k = true
    · rw [if_pos h, chk_pos (by rw [List.length_singleton]; constructor <;> omega), chk_pos (by constructor <;> omega), List.filter_cons_of_pos h, List.append_assoc]
      rfl
    · rw [if_neg h, chk_pos (by constructor <;> omega), List.filter_cons_of_neg h]
      simp) (by
    unfold ref4_Hits_bl4 ref4_Hits_k3
    simp only
    rw [chk_pos (by constructor <;> omega), if_neg (by omega), chk_pos (by constructor <;> omega)]
    rfl) 0 (by omega)
  rw [List.range_zero] at key
  simp only [List.filter_nil, List.map_nil, List.append_nil] at key
  exact key
theorem hitsAt_len (i : Nat) (ws : List W) (l : List (List UInt8)) : (hitsAt i ws l).length ≤ ws.length + 1 := by
  unfold hitsAt
  rw [List.length_map]
  have := List.length_filter_le (seqAt ws l) (List.range (ws.length + 1 - l.length))
  rw [List.length_range] at this
  omega
theorem hits2 {items l : List (List UInt8)} (hn : items.length ≤ 64) (hl : l.length ≤ 1000000000) : ∀ (r : List (List UInt8)) (i : Nat) (L : List Hit), items.drop i = r → i ≤ items.length → (∀ t ∈ r, t.length ≤ 2048) → L.length ≤ i * 3000 →
    run (ref4_Hits_bl2 items l) (L, (i : Int)) = some (L ++ hitsAll i r l)
  | [], i, L, hd, hi, _, _ => by
    have hlen := len_drop hd
    refine run_inr ?_
    unfold ref4_Hits_bl2 ref4_Hits_k1 hitsAll
    simp only
    rw [if_neg (by omega), List.append_nil]
  | t :: r, i, L, hd, hi, ht, hL => by
    obtain ⟨hg, hd', hlt⟩ := getD_drop hd
    have ht0 := ht t (List.mem_cons_self ..)
    have hw := wds_len t
    have hb : ref4_Hits_bl2 items l (L, (i : Int)) = some (.inl (L ++ hitsAt i (wds t) l, ((i + 1 : Nat) : Int))) := by
      unfold ref4_Hits_bl2
      simp only
      rw [if_pos (by omega), chk_pos ⟨by omega, by omega⟩, Int.toNat_natCast, hg, ref_words (by omega), Option.bind_some]
      exact hits4 (by omega) hl L (by omega) i (by omega)
    rw [run_inl hb, hits2 hn hl r (i + 1) _ hd' (by omega) (fun x hx => ht x (List.mem_cons_of_mem _ hx)) (by rw [List.length_append]; have := hitsAt_len i (wds t) l; omega)]
    rw [List.append_assoc]
    rfl
theorem ref_hits {items l : List (List UInt8)} (hn : items.length ≤ 64) (hl : l.length ≤ 1000000000) (ht : ∀ t ∈ items, t.length ≤ 2048) : ref4_Hits items l = some (hitsAll 0 items l) := by
  have := hits2 hn hl items 0 [] rfl (Nat.zero_le _) ht (by simp)
  rw [List.nil_append] at this
  exact this
theorem hasText_eq {l : List (List UInt8)} (hn : l.length ≤ 1000000000) (s : List UInt8) : ref4_HasText l s = some (decide (s ∈ l)) := by
  have key : ∀ (r : List (List UInt8)) (i : Nat), l.drop i = r → run (ref4_HasText_bl2 l s) (i : Int) = some (decide (s ∈ r)) := by
    intro r
    induction r with
    | nil =>
      intro i hd
      have hlen := len_drop hd
      refine run_inr ?_
      unfold ref4_HasText_bl2 ref4_HasText_k1
      rw [if_neg (by omega)]
      rfl
    | cons x r ih =>
      intro i hd
      obtain ⟨hg, hd', hlt⟩ := getD_drop hd
      by_cases h : x = s
      · refine run_inr ?_
        unfold ref4_HasText_bl2
        rw [if_pos (by omega), chk_pos ⟨by omega, by omega⟩, Int.toNat_natCast, hg, if_pos h, decide_eq_true (by simp [h])]
      · have hb : ref4_HasText_bl2 l s (i : Int) = some (.inl ((i + 1 : Nat) : Int)) := by
          unfold ref4_HasText_bl2
          rw [if_pos (by omega), chk_pos ⟨by omega, by omega⟩, Int.toNat_natCast, hg, if_neg h, chk_pos (by constructor <;> omega)]
          rfl
        rw [run_inl hb, ih (i + 1) hd']
        congr 1
        apply decide_eq_decide.2
        rw [List.mem_cons]
        exact ⟨.inr, fun h' => h'.resolve_left (fun e => h e.symm)⟩
  exact key l 0 rfl
theorem ins_run (s : List UInt8) : ∀ (n : Nat) (A B : List (List UInt8)), A.length = n → n + B.length ≤ 1000000000 → ∃ A1 A2, A = A1 ++ A2 ∧ (∀ y ∈ A2, s < y) ∧ (∀ x L, A1 = L ++ [x] → ¬ s < x) ∧
    run ref4_Insert_bl2 (A ++ s :: B, (n : Int)) = some (A1 ++ s :: (A2 ++ B)) := by
  intro n
  induction n with
  | zero =>
    intro A B hA hn
    obtain rfl := List.eq_nil_of_length_eq_zero hA
    refine ⟨[], [], rfl, by simp, fun x L h => by simp at h, run_inr ?_⟩
    unfold ref4_Insert_bl2 ref4_Insert_k1
    simp only
    rw [if_neg (by omega)]
    rfl
  | succ n ih =>
    intro A B hA hn
    rcases snoc_cases A with rfl | ⟨A', x, rfl⟩
    · simp at hA
    · rw [List.length_append, List.length_singleton] at hA
      obtain rfl : A'.length = n := by omega
      have eL : (A' ++ [x]) ++ s :: B = A' ++ x :: s :: B := by rw [List.append_assoc]; rfl
      have g1 : (A' ++ x :: s :: B).getD (A'.length + 1) default = s := by rw [List.getD_eq_getElem?_getD, List.getElem?_append_right (by omega), Nat.add_sub_cancel_left]; rfl
      have g0 : (A' ++ x :: s :: B).getD A'.length default = x := by rw [List.getD_eq_getElem?_getD, List.getElem?_append_right (Nat.le_refl _), Nat.sub_self]; rfl
      have hl : (A' ++ x :: s :: B).length = A'.length + 2 + B.length := by rw [List.length_append, List.length_cons, List.length_cons]; omega
      have e1 : ((A'.length + 1 : Nat) : Int) - 1 = ((A'.length : Nat) : Int) := by omega
      by_cases h : s < x
      · obtain ⟨A1, A2, h1, h2, h3, h4⟩ := ih A' (x :: B) rfl (by rw [List.length_cons]; omega)
        refine ⟨A1, A2 ++ [x], by rw [h1, List.append_assoc], fun y hy => ?_, h3, ?_⟩
        · rcases List.mem_append.1 hy with hy | hy
          · exact h2 y hy
          · rw [List.mem_singleton.1 hy]; exact h
        · have hb : ref4_Insert_bl2 ((A' ++ [x]) ++ s :: B, ((A'.length + 1 : Nat) : Int)) = some (.inl (A' ++ s :: x :: B, ((A'.length : Nat) : Int))) := by
            unfold ref4_Insert_bl2
            simp only
            rw [eL, e1, hl, if_pos (by omega), chk_pos ⟨by omega, by omega⟩, chk_pos (by constructor <;> omega), chk_pos ⟨by omega, by omega⟩, Int.toNat_natCast, Int.toNat_natCast, g1, g0, less_lt, decide_eq_true h, if_pos rfl]
            rw [chk_pos (by constructor <;> omega), chk_pos (by constructor <;> omega), chk_pos ⟨by omega, by omega⟩, chk_pos ⟨by omega, by omega⟩, chk_pos ⟨by omega, by omega⟩, List.length_set, hl, chk_pos ⟨by omega, by omega⟩, chk_pos (by constructor <;> omega)]
            rw [List.set_append_right _ _ (by omega), Nat.add_sub_cancel_left, List.set_append_right _ _ (Nat.le_refl _), Nat.sub_self]
            rfl
          rw [run_inl hb, h4, List.append_assoc]
          rfl
      · refine ⟨A' ++ [x], [], by simp, by simp, fun y L he => ?_, run_inr ?_⟩
        · have := (List.append_inj' he rfl).2
          simp only [List.cons.injEq, and_true] at this
          rw [← this]; exact h
        · unfold ref4_Insert_bl2 ref4_Insert_k1
          simp only
          rw [eL, e1, hl, if_pos (by omega), chk_pos ⟨by omega, by omega⟩, chk_pos (by constructor <;> omega), chk_pos ⟨by omega, by omega⟩, Int.toNat_natCast, Int.toNat_natCast, g1, g0, less_lt, decide_eq_false h, if_neg (by decide)]
          simp
theorem insert_ok {l : List (List UInt8)} (hl : Inc l) (hn : l.length ≤ 900000000) (s : List UInt8) : ∃ r, ref4_Insert l s = some r ∧ Inc r ∧ (∀ x, x ∈ r ↔ x ∈ l ∨ x = s) ∧ r.length ≤ l.length + 1 := by
  unfold ref4_Insert
  rw [hasText_eq (by omega), Option.bind_some]
  by_cases h : s ∈ l
  · rw [decide_eq_true h, if_pos rfl]
    exact ⟨l, rfl, hl, fun x => ⟨.inl, fun h' => h'.elim id (fun e => e ▸ h)⟩, by omega⟩
  · rw [decide_eq_false h, if_neg (by decide)]
    have e : (l ++ [s]).length = l.length + 1 := by simp
    have e1 : ((l.length + 1 : Nat) : Int) - 1 = ((l.length : Nat) : Int) := by omega
    rw [chk_pos (by rw [List.length_singleton]; constructor <;> omega), e, e1, chk_pos (by constructor <;> omega)]
    obtain ⟨A1, A2, h1, h2, h3, h4⟩ := ins_run s l.length l [] rfl (by simp; omega)
    rw [List.append_nil] at h4
    refine ⟨A1 ++ s :: A2, h4, ?_, fun x => ?_, ?_⟩
    · rw [h1] at hl h
      obtain ⟨p1, p2, p3⟩ := List.pairwise_append.1 hl
      have hA1 : ∀ x ∈ A1, x < s := by
        rcases snoc_cases A1 with rfl | ⟨L, y, rfl⟩
        · simp
        · have hy : y < s := by
            have h5 := h3 y L rfl
            rcases List.le_iff_lt_or_eq.1 (List.not_lt.1 h5) with h6 | h6
            · exact h6
            · exact absurd (by rw [h6] at *; simp) h
          intro x hx
          rcases List.mem_append.1 hx with hx | hx
          · exact List.lt_trans ((List.pairwise_append.1 p1).2.2 x hx y (List.mem_singleton_self y)) hy
          · rw [List.mem_singleton.1 hx]; exact hy
      refine List.pairwise_append.2 ⟨p1, List.pairwise_cons.2 ⟨h2, p2⟩, fun x hx y hy => ?_⟩
      rcases List.mem_cons.1 hy with rfl | hy
      · exact hA1 x hx
      · exact p3 x hx y hy
    · rw [h1, List.mem_append, List.mem_append, List.mem_cons]
      constructor
      · rintro (h | h | h)
        · exact .inl (.inl h)
        · exact .inr h
        · exact .inl (.inr h)
      · rintro ((h | h) | h)
        · exact .inl h
        · exact .inr (.inr h)
        · exact .inr (.inl h)
    · have := congrArg List.length h1
      rw [List.length_append] at this
      rw [List.length_append, List.length_cons]
      omega
theorem voc4 {ws : List W} (hw : ws.length ≤ 3000) (i : Nat) (hi : i ≤ 64) : ∀ (r : List W) (j : Nat) (L : List (List UInt8)), ws.drop j = r → j ≤ ws.length → Inc L → L.length ≤ i * 3000 + j →
    ∃ L', run (ref4_Vocabulary_bl4 (i : Int) ws) (L, (j : Int)) = some (.inl (L', ((i + 1 : Nat) : Int))) ∧ Inc L' ∧ (∀ x, x ∈ L' ↔ x ∈ L ∨ x ∈ r.map Prod.fst) ∧ L'.length ≤ i * 3000 + ws.length
  | [], j, L, hd, hj, hL, hlen => by
    have h1 := len_drop hd
    refine ⟨L, run_inr (m := some (Sum.inl (L, ((i + 1 : Nat) : Int)))) ?_, hL, by simp, by omega⟩
    unfold ref4_Vocabulary_bl4 ref4_Vocabulary_k3
    simp only
    rw [if_neg (by omega), chk_pos (by constructor <;> omega)]
    rfl
  | w :: r, j, L, hd, hj, hL, hlen => by
    obtain ⟨hg, hd', hlt⟩ := getD_drop hd
    obtain ⟨L1, h1, h2, h3, h4⟩ := insert_ok hL (by omega) w.1
    obtain ⟨L2, k1, k2, k3, k4⟩ := voc4 hw i hi r (j + 1) L1 hd' (by omega) h2 (by omega)
    refine ⟨L2, ?_, k2, fun x => ?_, k4⟩
    · rw [← k1]
      refine run_inl ?_
      unfold ref4_Vocabulary_bl4
      simp only
      rw [if_pos (by omega), chk_pos ⟨by omega, by omega⟩, Int.toNat_natCast, hg, h1, Option.bind_some, chk_pos (by constructor <;> omega)]
      rfl
    · rw [k3, h3, List.map_cons, List.mem_cons, or_assoc]
theorem pairsAt_keys (i : Int) (l : List W) : (pairsAt i l).map Prod.fst = l.map Prod.fst := by
  unfold pairsAt
  rw [List.map_map]
  have : (Prod.fst ∘ fun x : W × Nat => (x.1.1, (i, ((x.2 : Nat) : Int)))) = Prod.fst ∘ Prod.fst := by funext x; rfl
  rw [this, ← List.map_map]
  congr 1
  exact List.zipIdx_map_fst ..
theorem voc2 {items : List (List UInt8)} (hn : items.length ≤ 64) : ∀ (r : List (List UInt8)) (i : Nat) (L : List (List UInt8)), items.drop i = r → i ≤ items.length → (∀ t ∈ r, t.length ≤ 2048) → Inc L → L.length ≤ i * 3000 →
    ∃ V, run (ref4_Vocabulary_bl2 items) (L, (i : Int)) = some V ∧ Inc V ∧ (∀ x, x ∈ V ↔ x ∈ L ∨ x ∈ (pairs i r).map Prod.fst) ∧ V.length ≤ 192000
  | [], i, L, hd, hi, _, hL, hlen => by
    have h1 := len_drop hd
    refine ⟨L, run_inr (m := some L) ?_, hL, by simp [pairs], by omega⟩
    unfold ref4_Vocabulary_bl2 ref4_Vocabulary_k1
    simp only
    rw [if_neg (by omega)]
  | t :: r, i, L, hd, hi, ht, hL, hlen => by
    obtain ⟨hg, hd', hlt⟩ := getD_drop hd
    have ht0 := ht t (List.mem_cons_self ..)
    have hw := wds_len t
    have q0 : L.length ≤ i * 3000 + 0 := by rw [Nat.add_zero]; exact hlen
    obtain ⟨L1, h1, h2, h3, h4⟩ := voc4 (ws := wds t) (by omega) i (by omega) (wds t) 0 L List.drop_zero (Nat.zero_le _) hL q0
    have q1 : i + 1 ≤ items.length := hlt
    have q2 : L1.length ≤ (i + 1) * 3000 := by clear h1 h3 hd hd' ht; omega
    obtain ⟨V, k1, k2, k3, k4⟩ := voc2 hn r (i + 1) L1 hd' q1 (fun x hx => ht x (List.mem_cons_of_mem _ hx)) h2 q2
    refine ⟨V, ?_, k2, fun x => ?_, k4⟩
    · rw [← k1]
      refine run_inl ?_
      unfold ref4_Vocabulary_bl2
      simp only
      rw [if_pos (by omega), chk_pos ⟨by omega, by omega⟩, Int.toNat_natCast, hg, ref_words (by omega), Option.bind_some]
      exact h1
    · rw [k3, h3, pairs, List.map_append, List.mem_append, pairsAt_keys, or_assoc]
theorem ref_vocabulary {items : List (List UInt8)} (hn : items.length ≤ 64) (ht : ∀ t ∈ items, t.length ≤ 2048) : ∃ V, ref4_Vocabulary items = some V ∧ Inc V ∧ (∀ x, x ∈ V ↔ x ∈ (pairs 0 items).map Prod.fst) ∧ V.length ≤ 192000 := by
  obtain ⟨V, h1, h2, h3, h4⟩ := voc2 hn items 0 [] rfl (Nat.zero_le _) ht List.Pairwise.nil (by simp)
  exact ⟨V, h1, h2, fun x => by rw [h3]; simp, h4⟩
end Go.Proofs.YtdiieblgeaehpaaGreatDoor
namespace Go.L
open Go Go.Proofs.YtdiieblgeaehpaaGreatDoor
theorem pairsAt_range (i : Int) (l : List W) : pairsAt i l = (List.range l.length).map fun k => ((l.getD k default).1, (i, ((k : Nat) : Int))) := by
  apply List.ext_getElem?
  intro k
  by_cases h : k < l.length
  · rw [pairsAt_get i l k h, List.getElem?_map, List.getElem?_range h]; rfl
  · rw [List.getElem?_eq_none (by rw [pairsAt_len]; omega), List.getElem?_eq_none (by rw [List.length_map, List.length_range]; omega)]
theorem hitsIn_app (P Q : List (List UInt8 × Hit)) (w : List UInt8) : hitsIn (P ++ Q) w = hitsIn P w ++ hitsIn Q w := by
  unfold hitsIn
  rw [List.filter_append, List.map_append]
theorem hitsAt_one (i : Nat) (ws : List W) (w : List UInt8) : hitsAt i ws [w] = hitsIn (pairsAt (i : Int) ws) w := by
  unfold hitsAt hitsIn
  rw [pairsAt_range, List.filter_map, List.map_map, List.length_singleton, Nat.add_sub_cancel]
  have e : ∀ k, seqAt ws [w] k = ((fun p : List UInt8 × Hit => decide (p.1 = w)) ∘ fun k => ((ws.getD k default).1, ((i : Int), ((k : Nat) : Int)))) k := fun k => by
    unfold seqAt
    apply decide_eq_decide.2
    constructor
    · intro h
      have := h 0 (by simp)
      simpa using this
    · intro h n hn
      obtain rfl : n = 0 := by simp at hn; exact hn
      simpa using h
  rw [show seqAt ws [w] = _ from funext e]
  rfl
theorem hitsAll_one (w : List UInt8) : ∀ (r : List (List UInt8)) (i : Nat), hitsAll i r [w] = hitsIn (pairs i r) w
  | [], _ => rfl
  | t :: r, i => by
    unfold hitsAll pairs
    rw [hitsIn_app, hitsAt_one, hitsAll_one w r (i + 1)]
end Go.L
