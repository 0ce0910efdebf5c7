/- Phrases and nearness, plainly: what the index answers, and what the reference says. -/
import Derived.Test.YtdiieblgeaehpaaDoorWdK
import Derived.Test.YtdiieblgeaehpaaDoorP8
namespace Go.L
open Go Go.Proofs.YtdiieblgeaehpaaDoor
theorem mem_pairs : ∀ (r : List (List UInt8)) (i0 i k : Nat) (w : List UInt8), (w, ((i : Int), (k : Int))) ∈ pairs i0 r ↔ i0 ≤ i ∧ i < i0 + r.length ∧ k < (wds (r.getD (i - i0) default)).length ∧ ((wds (r.getD (i - i0) default)).getD k default).1 = w
  | [], i0, i, k, w => by
    unfold pairs
    simp only [List.not_mem_nil, List.length_nil, false_iff, not_and]
    intro h1 h2
    omega
  | t :: r, i0, i, k, w => by
    unfold pairs
    rw [List.mem_append, mem_pairs r (i0 + 1) i k w, List.length_cons, pairsAt_range, List.mem_map]
    constructor
    · rintro (⟨m, hm, he⟩ | ⟨h1, h2, h3⟩)
      · rw [List.mem_range] at hm
        simp only [Prod.mk.injEq] at he
        obtain ⟨e1, e2, e3⟩ := he
        obtain rfl : i0 = i := by omega
        obtain rfl : m = k := by omega
        rw [Nat.sub_self]
        exact ⟨Nat.le_refl _, by omega, hm, e1⟩
      · have e : (t :: r).getD (i - i0) default = r.getD (i - (i0 + 1)) default := by
          rw [show i - i0 = (i - (i0 + 1)) + 1 by omega]
          rfl
        rw [e]
        exact ⟨by omega, by omega, h3⟩
    · rintro ⟨h1, h2, h3, h4⟩
      rcases Nat.lt_or_ge i0 i with h | h
      · right
        have e : (t :: r).getD (i - i0) default = r.getD (i - (i0 + 1)) default := by
          rw [show i - i0 = (i - (i0 + 1)) + 1 by omega]
          rfl
        rw [e] at h3 h4
        exact ⟨by omega, by omega, h3, h4⟩
      · obtain rfl : i0 = i := by omega
        rw [Nat.sub_self] at h3 h4
        exact .inl ⟨k, List.mem_range.2 h3, by rw [← h4]; rfl⟩
theorem filter_range {p q : Nat → Bool} {m : Nat} (h1 : ∀ k, k < m → p k = q k) : ∀ n, m ≤ n → (∀ k, m ≤ k → k < n → p k = false) → (List.range n).filter p = (List.range m).filter q := by
  intro n
  induction n with
  | zero =>
    intro h _
    obtain rfl : m = 0 := by omega
    rfl
  | succ n ih =>
    intro h h2
    rcases Nat.lt_or_ge n m with h3 | h3
    · obtain rfl : m = n + 1 := by omega
      exact List.filter_congr fun k hk => h1 k (List.mem_range.1 hk)
    · rw [List.range_succ, List.filter_append, ih h3 (fun k a b => h2 k a (by omega)), List.filter_cons_of_neg (by rw [h2 n h3 (by omega)]; decide)]
      simp
/-- A place at which all words of a sequence follow. -/
def Follows (P : List (List UInt8 × Hit)) (l : List (List UInt8)) (h : Hit) : Prop := ∀ k, k < l.length → (l.getD k default, (h.1, h.2 + (k : Int))) ∈ P
noncomputable instance (P : List (List UInt8 × Hit)) (l : List (List UInt8)) (h : Hit) : Decidable (Follows P l h) := Classical.propDecidable _
theorem follows_at {items : List (List UInt8)} {l : List (List UInt8)} {i k : Nat} (hi : i < items.length) : Follows (pairs 0 items) l ((i : Int), (k : Int)) ↔ ∀ n, n < l.length → k + n < (wds (items.getD i default)).length ∧ ((wds (items.getD i default)).getD (k + n) default).1 = l.getD n default := by
  unfold Follows
  constructor
  · intro h n hn
    have := h n hn
    simp only at this
    rw [show (k : Int) + (n : Int) = ((k + n : Nat) : Int) by omega, mem_pairs, Nat.sub_zero] at this
    exact this.2.2
  · intro h n hn
    have := h n hn
    simp only
    rw [show (k : Int) + (n : Int) = ((k + n : Nat) : Int) by omega, mem_pairs, Nat.sub_zero]
    exact ⟨Nat.zero_le _, by omega, this⟩
theorem phrase_at {items : List (List UInt8)} {l : List (List UInt8)} (hl : l ≠ []) {i : Nat} (hi : i < items.length) :
    (hitsIn (pairsAt (i : Int) (wds (items.getD i default))) (l.getD 0 default)).filter (fun h => decide (Follows (pairs 0 items) l h)) = hitsAt i (wds (items.getD i default)) l := by
  have hl0 := List.length_pos_iff.2 hl
  rw [← hitsAt_one]
  unfold hitsAt
  rw [List.filter_map, List.length_singleton, Nat.add_sub_cancel, List.filter_filter]
  congr 1
  refine filter_range (fun k hk => ?_) _ (by omega) (fun k h1 h2 => ?_)
  · simp only [Function.comp]
    rw [Bool.eq_iff_iff, Bool.and_eq_true, decide_eq_true_eq, follows_at hi]
    unfold seqAt
    rw [decide_eq_true_eq, decide_eq_true_eq]
    constructor
    · rintro ⟨h1, _⟩ n hn
      exact (h1 n hn).2
    · intro h
      refine ⟨fun n hn => ⟨by omega, h n hn⟩, fun n hn => ?_⟩
      obtain rfl : n = 0 := by simp at hn; exact hn
      exact h 0 hl0
  · simp only [Function.comp]
    rw [Bool.and_eq_false_iff, decide_eq_false_iff_not, follows_at hi]
    left
    intro h
    have := (h (l.length - 1) (by omega)).1
    omega
/-- The hits of the first word, where all follow, are those of the sequence. -/
theorem phrase_hits {items : List (List UInt8)} {l : List (List UInt8)} (hl : l ≠ []) : ∀ (r : List (List UInt8)) (i : Nat), items.drop i = r →
    (hitsIn (pairs i r) (l.getD 0 default)).filter (fun h => decide (Follows (pairs 0 items) l h)) = hitsAll i r l
  | [], _, _ => rfl
  | t :: r, i, hd => by
    obtain ⟨hg, hd', hlt⟩ := getD_drop hd
    have e : pairs i (t :: r) = pairsAt (i : Int) (wds t) ++ pairs (i + 1) r := rfl
    have := phrase_at hl hlt
    rw [hg] at this
    rw [e, hitsIn_app, List.filter_append, phrase_hits hl r (i + 1) hd', this]
    rfl
/-- The first fault among words. -/
def firstF : Nat → List (List UInt8) → Option (Int × Int)
  | _, [] => none
  | i, w :: r => if wf w = (0, 0) then firstF (i + 1) r else some ((wf w).1, (i : Int))
end Go.L
namespace Go.Proofs.YtdiieblgeaehpaaDoor
open Go Go.L
theorem contains_hit {l : List Hit} (hn : l.length ≤ 1000000000) (p : Hit) : slices_Contains_api_Hit_api_Hit l p = some (decide (p ∈ l)) := by
  unfold slices_Contains_api_Hit_api_Hit slices_Index_api_Hit_api_Hit slices_Index_api_Hit_api_Hit_l2
  have key : ∀ (r : List Hit) (i : Nat), l.drop i = r → ∃ z, run (slices_Index_api_Hit_api_Hit_bl2 l p) (i : Int) = some z ∧ (0 ≤ z ↔ p ∈ r) := by
    intro r
    induction r with
    | nil =>
      intro i hd
      have hlen := len_drop hd
      refine ⟨-1, run_inr (m := some (-1)) ?_, by simp⟩
      unfold slices_Index_api_Hit_api_Hit_bl2 slices_Index_api_Hit_api_Hit_k1
      rw [if_neg (by omega)]
    | cons x r ih =>
      intro i hd
      obtain ⟨hg, hd', hlt⟩ := getD_drop hd
      by_cases h : p.1 = x.1 ∧ p.2 = x.2
      · refine ⟨(i : Int), run_inr (m := some (i : Int)) ?_, by simp [Prod.ext h.1 h.2]⟩
        unfold slices_Index_api_Hit_api_Hit_bl2
        rw [if_pos (by omega), chk_pos ⟨by omega, by omega⟩, Int.toNat_natCast, hg, if_pos h]
      · obtain ⟨z, h1, h2⟩ := ih (i + 1) hd'
        refine ⟨z, ?_, ?_⟩
        · rw [← h1]
          refine run_inl ?_
          unfold slices_Index_api_Hit_api_Hit_bl2
          rw [if_pos (by omega), chk_pos ⟨by omega, by omega⟩, Int.toNat_natCast, hg, if_neg h, chk_pos (by constructor <;> omega)]
          rfl
        · rw [h2, List.mem_cons]
          exact ⟨.inr, fun h' => h'.resolve_left (fun e => h (by rw [e]; exact ⟨rfl, rfl⟩))⟩
  obtain ⟨z, h1, h2⟩ := key l 0 rfl
  have e : ((p.1, p.2) : Hit) = p := rfl
  rw [e]
  rw [show run (slices_Index_api_Hit_api_Hit_bl2 l p) 0 = some z from h1, Option.bind_some]
  congr 1
  exact decide_eq_decide.2 h2
theorem contains_int {l : List Int} (hn : l.length ≤ 1000000000) (p : Int) : slices_Contains_int_int l p = some (decide (p ∈ l)) := by
  unfold slices_Contains_int_int slices_Index_int_int slices_Index_int_int_l2
  have key : ∀ (r : List Int) (i : Nat), l.drop i = r → ∃ z, run (slices_Index_int_int_bl2 l p) (i : Int) = some z ∧ (0 ≤ z ↔ p ∈ r) := by
    intro r
    induction r with
    | nil =>
      intro i hd
      have hlen := len_drop hd
      refine ⟨-1, run_inr (m := some (-1)) ?_, by simp⟩
      unfold slices_Index_int_int_bl2 slices_Index_int_int_k1
      rw [if_neg (by omega)]
    | cons x r ih =>
      intro i hd
      obtain ⟨hg, hd', hlt⟩ := getD_drop hd
      by_cases h : p = x
      · refine ⟨(i : Int), run_inr (m := some (i : Int)) ?_, by simp [h]⟩
        unfold slices_Index_int_int_bl2
        rw [if_pos (by omega), chk_pos ⟨by omega, by omega⟩, Int.toNat_natCast, hg, if_pos h]
      · obtain ⟨z, h1, h2⟩ := ih (i + 1) hd'
        refine ⟨z, ?_, ?_⟩
        · rw [← h1]
          refine run_inl ?_
          unfold slices_Index_int_int_bl2
          rw [if_pos (by omega), chk_pos ⟨by omega, by omega⟩, Int.toNat_natCast, hg, if_neg h, chk_pos (by constructor <;> omega)]
          rfl
        · rw [h2, List.mem_cons]
          exact ⟨.inr, fun h' => h'.resolve_left h⟩
  obtain ⟨z, h1, h2⟩ := key l 0 rfl
  rw [show run (slices_Index_int_int_bl2 l p) 0 = some z from h1, Option.bind_some]
  congr 1
  exact decide_eq_decide.2 h2
/-- An index whose entries are in order, with hits within bounds. -/
structure XOk (es : HM) : Prop where
  len : es.length ≤ 1000000
  inc : Inc (es.map Prod.fst)
  hits : ∀ w, (mget [] w es).length ≤ 1000000 ∧ ∀ h ∈ mget [] w es, -1000000 ≤ h.2 ∧ h.2 ≤ 1000000
theorem XOk.of_E {items : List (List UInt8)} (hn : items.length ≤ 64) (ht : ∀ t ∈ items, t.length ≤ 2048) : XOk (E items) := by
  have hp := pairs_fit hn ht
  have he := E_len items
  refine ⟨by omega, E_inc items, fun w => ?_⟩
  rw [E_get]
  have h1 := hitsIn_len (pairs 0 items) w
  refine ⟨by omega, fun h hh => ?_⟩
  have h2 := mem_pairs_ok 0 items 2048 ht _ (mem_hitsIn.1 hh)
  simp only at h2
  omega
/-- Where the words follow from the k-th one on, as the index has it. -/
def FromX (es : HM) (l : List (List UInt8)) (h : Hit) (k : Nat) : Prop := ∀ m, k ≤ m → m < l.length → (h.1, h.2 + (m : Int)) ∈ mget [] (l.getD m default) es
noncomputable instance (es : HM) (l : List (List UInt8)) (h : Hit) (k : Nat) : Decidable (FromX es l h k) := Classical.propDecidable _
theorem phrase7 {n : Int} {es : HM} (hx : XOk es) {l : List (List UInt8)} (hl : l.length ≤ 16) (out H0 : List Hit) (hH : H0.length ≤ 1000000) {j : Nat} {h : Hit} (hj : j < H0.length) (hg : H0.getD j default = h) (hb : -1000000 ≤ h.2 ∧ h.2 ≤ 1000000) :
    ∀ (r : List (List UInt8)) (k : Nat), l.drop k = r → run (words_Index_Phrase_bl7 (n, es) l out (j : Int) H0) (k : Int) = if FromX es l h k then words_Index_Phrase_k6 out (j : Int) H0 else words_Index_Phrase_k5 (j : Int) out
  | [], k, hd => by
    have hlen := len_drop hd
    rw [if_pos (show FromX es l h k from fun m h1 h2 => by omega)]
    refine run_inr ?_
    unfold words_Index_Phrase_bl7
    rw [if_neg (by omega)]
  | w :: r, k, hd => by
    obtain ⟨hgk, hd', hlt⟩ := getD_drop hd
    have hw := hx.hits w
    by_cases hm : (h.1, h.2 + (k : Int)) ∈ mget [] w es
    · have hb' : words_Index_Phrase_bl7 (n, es) l out (j : Int) H0 (k : Int) = some (.inl ((k + 1 : Nat) : Int)) := by
        unfold words_Index_Phrase_bl7
        simp only
        rw [if_pos (by omega), chk_pos ⟨by omega, by omega⟩, Int.toNat_natCast, Int.toNat_natCast, hg, hgk, chk_pos (by constructor <;> omega), hits_eq (by have := hx.len; omega) w hx.inc, Option.bind_some, contains_hit (by omega), Option.bind_some, decide_eq_true hm, if_neg (by decide), chk_pos (by constructor <;> omega)]
        rfl
      rw [run_inl hb', phrase7 hx hl out H0 hH hj hg hb r (k + 1) hd']
      have e : FromX es l h (k + 1) ↔ FromX es l h k := by
       constructor
       · intro hh m h1 h2
         rcases Nat.lt_or_ge k m with h3 | h3
         · exact hh m h3 h2
         · obtain rfl : k = m := by omega
           rw [hgk]; exact hm
       · intro hh m h1 h2
         exact hh m (by omega) h2
      by_cases hf : FromX es l h k
      · rw [if_pos hf, if_pos (e.2 hf)]
      · rw [if_neg hf, if_neg (fun x => hf (e.1 x))]
    · rw [if_neg (fun hh => hm (by have := hh k (Nat.le_refl _) hlt; rw [hgk] at this; exact this))]
      refine run_inr ?_
      unfold words_Index_Phrase_bl7
      simp only
      rw [if_pos (by omega), chk_pos ⟨by omega, by omega⟩, Int.toNat_natCast, Int.toNat_natCast, hg, hgk, chk_pos (by constructor <;> omega), hits_eq (by have := hx.len; omega) w hx.inc, Option.bind_some, contains_hit (by omega), Option.bind_some, decide_eq_false hm, if_pos (by decide)]
/-- Where all words follow, as the index has it. -/
def FollowsX (es : HM) (l : List (List UInt8)) (h : Hit) : Prop := ∀ m, m < l.length → (h.1, h.2 + (m : Int)) ∈ mget [] (l.getD m default) es
noncomputable instance (es : HM) (l : List (List UInt8)) (h : Hit) : Decidable (FollowsX es l h) := Classical.propDecidable _
theorem phrase4 {n : Int} {es : HM} (hx : XOk es) {l : List (List UInt8)} (hl : l.length ≤ 16) (H0 : List Hit) (hH : H0.length ≤ 1000000) : ∀ (r : List Hit) (j : Nat) (out : List Hit), H0.drop j = r → out.length ≤ j → (∀ h ∈ r, -1000000 ≤ h.2 ∧ h.2 ≤ 1000000) →
    run (words_Index_Phrase_bl4 (n, es) l H0) (out, (j : Int)) = some (out ++ r.filter (fun h => decide (FollowsX es l h)), (0, 0))
  | [], j, out, hd, ho, _ => by
    have hlen := len_drop hd
    refine run_inr ?_
    unfold words_Index_Phrase_bl4 words_Index_Phrase_k3
    simp only
    rw [if_neg (by omega), List.filter_nil, List.append_nil]
  | h :: r, j, out, hd, ho, hr => by
    obtain ⟨hg, hd', hlt⟩ := getD_drop hd
    have hb := hr h (List.mem_cons_self ..)
    have h7 := phrase7 (n := n) hx hl out H0 hH hlt hg hb l 0 rfl
    have hbody : words_Index_Phrase_bl4 (n, es) l H0 (out, (j : Int)) = some (.inl (out ++ (if FollowsX es l h then [h] else []), ((j + 1 : Nat) : Int))) := by
      unfold words_Index_Phrase_bl4 words_Index_Phrase_l7
      simp only
      rw [if_pos (by omega), chk_pos ⟨by omega, by omega⟩]
      refine h7.trans ?_
      by_cases hf : FollowsX es l h
      · rw [if_pos hf, if_pos (show FromX es l h 0 from fun m _ h2 => hf m h2)]
        unfold words_Index_Phrase_k6 words_Index_Phrase_k5
        rw [Int.toNat_natCast, hg, chk_pos (by rw [List.length_singleton]; constructor <;> omega), chk_pos (by constructor <;> omega)]
        rfl
      · rw [if_neg hf, if_neg (fun hh => hf (fun m h2 => hh m (Nat.zero_le _) h2)), List.append_nil]
        unfold words_Index_Phrase_k5
        rw [chk_pos (by constructor <;> omega)]
        rfl
    rw [run_inl hbody, phrase4 hx hl H0 hH r (j + 1) _ hd' (by rw [List.length_append]; split <;> simp <;> omega) (fun x hx' => hr x (List.mem_cons_of_mem _ hx')), List.append_assoc]
    congr 3
    by_cases hf : FollowsX es l h
    · rw [if_pos hf, List.filter_cons_of_pos (p := fun h => decide (FollowsX es l h)) (decide_eq_true hf)]; rfl
    · rw [if_neg hf, List.filter_cons_of_neg (p := fun h => decide (FollowsX es l h)) (by simpa using hf)]; rfl
/-- What Phrase answers. -/
theorem phrase_eq {n : Int} {es : HM} (hx : XOk es) (l : List (List UInt8)) :
    words_Index_Phrase (n, es) l = some (if l = [] then ([], (10, -1)) else if 16 < l.length then ([], (2, -1)) else match firstF 0 l with | some f => ([], f) | none => ((mget [] (l.getD 0 default) es).filter (fun h => decide (FollowsX es l h)), (0, 0))) := by
  unfold words_Index_Phrase
  by_cases h0 : l = []
  · subst h0; rfl
  have hl0 := List.length_pos_iff.2 h0
  rw [if_neg (by omega), if_neg h0]
  by_cases h16 : 16 < l.length
  · rw [if_pos (by omega), if_pos h16]; rfl
  rw [if_neg (by omega), if_neg h16]
  unfold words_Index_Phrase_l2
  have key : ∀ (r : List (List UInt8)) (i : Nat), l.drop i = r → run (words_Index_Phrase_bl2 (n, es) l) (i : Int) = some (match firstF i r with | some f => ([], f) | none => ((mget [] (l.getD 0 default) es).filter (fun h => decide (FollowsX es l h)), (0, 0))) := by
    intro r
    induction r with
    | nil =>
      intro i hd
      have hlen := len_drop hd
      refine run_inr ?_
      unfold words_Index_Phrase_bl2 words_Index_Phrase_k1 words_Index_Phrase_l4
      have hw := hx.hits (l.getD 0 default)
      have e0 : (0 : Int).toNat = 0 := rfl
      rw [if_neg (by omega), chk_pos ⟨by omega, by omega⟩, e0, hits_eq (by have := hx.len; omega) _ hx.inc, Option.bind_some]
      have := phrase4 (n := n) hx (l := l) (by omega) (mget [] (l.getD 0 default) es) hw.1 _ 0 [] rfl (Nat.le_refl _) hw.2
      rw [List.nil_append] at this
      congr 1
    | cons w r ih =>
      intro i hd
      obtain ⟨hg, hd', hlt⟩ := getD_drop hd
      unfold firstF
      by_cases h : wf w = (0, 0)
      · rw [if_pos h, ← ih (i + 1) hd']
        refine run_inl ?_
        unfold words_Index_Phrase_bl2
        rw [if_pos (by omega), chk_pos ⟨by omega, by omega⟩, Int.toNat_natCast, hg, check_eq, Option.bind_some, if_pos (by rw [h]; exact ⟨rfl, rfl⟩), chk_pos (by constructor <;> omega)]
        rfl
      · rw [if_neg h]
        refine run_inr ?_
        unfold words_Index_Phrase_bl2
        rw [if_pos (by omega), chk_pos ⟨by omega, by omega⟩, Int.toNat_natCast, hg, check_eq, Option.bind_some, if_neg (fun x => h (Prod.ext x.1 x.2))]
        rfl
  exact key l 0 rfl
/-- The index of items answers with the hits of the sequence. -/
theorem phrase_E {items : List (List UInt8)} {l : List (List UInt8)} (hl : l ≠ []) : (mget [] (l.getD 0 default) (E items)).filter (fun h => decide (FollowsX (E items) l h)) = hitsAll 0 items l := by
  rw [← phrase_hits hl items 0 rfl, E_get]
  refine List.filter_congr fun h _ => decide_eq_decide.2 ?_
  unfold FollowsX Follows
  constructor
  · intro hh k hk
    have := hh k hk
    rw [E_get, mem_hitsIn] at this
    exact this
  · intro hh k hk
    rw [E_get, mem_hitsIn]
    exact hh k hk
end Go.Proofs.YtdiieblgeaehpaaDoor
