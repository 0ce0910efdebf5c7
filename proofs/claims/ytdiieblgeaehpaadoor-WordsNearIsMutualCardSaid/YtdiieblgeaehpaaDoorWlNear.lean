/- The law WordsNearIsMutual, plainly. -/
import Derived.Test.YtdiieblgeaehpaaDoorWdQ
import Derived.Test.YtdiieblgeaehpaaDoorMir
import Derived.Test.YtdiieblgeaehpaaDoorP9NearIsMutual
namespace Go.Proofs.YtdiieblgeaehpaaDoor
open Go Go.L
/-- Build, at a glance: the index of items that fit, or a fault and no items. -/
theorem build_cases (items : List (List UInt8)) : (∃ f : Int × Int, words_Build items = some ((0, []), f) ∧ f.1 ≠ 0) ∨ (words_Build items = some (((items.length : Int), E items), (0, 0)) ∧ items.length ≤ 64 ∧ (∀ t ∈ items, t.length ≤ 2048) ∧ gs (numsI ((items.length : Int), E items)) ≤ 131072) := by
  by_cases hn : 64 < items.length
  · exact .inl ⟨(2, -1), by rw [build_all, if_pos hn], by decide⟩
  cases hl : tooLong 0 items with
  | some j => exact .inl ⟨(3, (j : Int)), by rw [build_all, if_neg hn, hl], by simp⟩
  | none =>
    have ht := tooLong_none 0 items hl
    by_cases hs : 131072 < gs (numsI ((items.length : Int), E items))
    · exact .inl ⟨(14, -1), by rw [build_ok (by omega) ht hl, if_pos hs], by decide⟩
    · exact .inr ⟨by rw [build_ok (by omega) ht hl, if_neg hs], by omega, ht, by omega⟩
theorem wf_code (w : List UInt8) : (wf w).1 = 0 ↔ wf w = (0, 0) := by
  unfold wf
  split
  · simp
  · split <;> simp
theorem nearF_code {a b : List UInt8} : (nearF a b).1 ≠ 0 := by
  unfold nearF
  split
  · split
    · decide
    · rename_i h; exact fun h' => h ((wf_code b).1 h')
  · rename_i h; exact fun h' => h ((wf_code a).1 h')
theorem mut_in {l n : List Int} {f g : Int × Int} (hl : l.length ≤ 1000000) (hn : n.length ≤ 1000000) (hi : IncI n) {i p : Nat} (hil : i < l.length) (hp : n[p]? = some (l.getD i default)) : ∀ (d s : Nat), s + d = p →
    run (law4_WordsNearIsMutual_bl5 (i : Int) (l, f) (n, g)) (s : Int) = some (.inl ((p : Int), ((i + 1 : Nat) : Int))) := by
  have hpl := (List.getElem?_eq_some_iff.1 hp).1
  have gp : n.getD p default = l.getD i default := by rw [List.getD_eq_getElem?_getD, hp]; rfl
  intro d
  induction d with
  | zero =>
    intro s hs
    obtain rfl : s = p := by omega
    refine run_inr ?_
    unfold law4_WordsNearIsMutual_bl5 law4_WordsNearIsMutual_k4 law4_WordsNearIsMutual_k3
    simp only
    rw [if_pos (by omega), chk_pos ⟨by omega, by omega⟩, chk_pos ⟨by omega, by omega⟩, Int.toNat_natCast, Int.toNat_natCast, gp, if_neg (by omega), if_neg (by omega), chk_pos ⟨by omega, by omega⟩, chk_pos ⟨by omega, by omega⟩, if_pos rfl, chk_pos (by constructor <;> omega)]
    rfl
  | succ d ih =>
    intro s hs
    have hlt : n.getD s default < l.getD i default := by
      rw [← gp]
      have := List.pairwise_iff_getElem.1 hi s p (by omega) hpl (by omega)
      rw [List.getD_eq_getElem?_getD, List.getD_eq_getElem?_getD, List.getElem?_eq_getElem (by omega), List.getElem?_eq_getElem hpl]
      exact this
    rw [← ih (s + 1) (by omega)]
    refine run_inl ?_
    unfold law4_WordsNearIsMutual_bl5
    simp only
    rw [if_pos (by omega), chk_pos ⟨by omega, by omega⟩, chk_pos ⟨by omega, by omega⟩, Int.toNat_natCast, Int.toNat_natCast, if_pos hlt, chk_pos (by constructor <;> omega)]
    rfl
theorem mut_out {l n : List Int} {f g : Int × Int} (hl : l.length ≤ 1000000) (hn : n.length ≤ 1000000) (hi : IncI n) : ∀ (r : List Int) (i s : Nat), l.drop i = r → IncI r → (∀ x ∈ r, ∃ p, s ≤ p ∧ n[p]? = some x) →
    run (law4_WordsNearIsMutual_bl2 (l, f) (n, g)) ((s : Int), (i : Int)) = some true
  | [], i, s, hd, _, _ => by
    have hlen := len_drop hd
    refine run_inr ?_
    unfold law4_WordsNearIsMutual_bl2 law4_WordsNearIsMutual_k1
    simp only
    rw [if_neg (by omega)]
  | x :: r, i, s, hd, hr, h => by
    obtain ⟨hg, hd', hlt⟩ := getD_drop hd
    obtain ⟨p, h1, h2⟩ := h x (List.mem_cons_self ..)
    have hr' := List.pairwise_cons.1 hr
    have hb : law4_WordsNearIsMutual_bl2 (l, f) (n, g) ((s : Int), (i : Int)) = some (.inl ((p : Int), ((i + 1 : Nat) : Int))) := by
      unfold law4_WordsNearIsMutual_bl2 law4_WordsNearIsMutual_l5
      simp only
      rw [if_pos (by omega)]
      exact mut_in hl hn hi hlt (by rw [hg]; exact h2) (p - s) s (by omega)
    rw [run_inl hb]
    refine mut_out hl hn hi r (i + 1) p hd' hr'.2 (fun y hy => ?_)
    obtain ⟨q, h3, h4⟩ := h y (List.mem_cons_of_mem _ hy)
    refine ⟨q, ?_, h4⟩
    rcases Nat.lt_or_ge q p with h5 | h5
    · have hpl := (List.getElem?_eq_some_iff.1 h2).1
      have hql := (List.getElem?_eq_some_iff.1 h4).1
      have h6 := List.pairwise_iff_getElem.1 hi q p hql hpl h5
      rw [List.getElem?_eq_getElem hpl] at h2
      rw [List.getElem?_eq_getElem hql] at h4
      have h7 := hr'.1 y hy
      rw [← Option.some.inj h2, ← Option.some.inj h4] at h7
      omega
    · exact h5
theorem near_mutual (items : List (List UInt8)) (a b : List UInt8) (d more : Int) : law4_WordsNearIsMutual items a b d more = some true := by
  unfold law4_WordsNearIsMutual
  rcases build_cases items with ⟨f, hb, hf⟩ | ⟨hb, hn, ht, _⟩
  · rw [hb, Option.bind_some, speaks_true, Option.bind_some, if_neg (by decide), if_neg hf, Option.bind_some, if_pos rfl]
    rfl
  rw [hb, Option.bind_some, speaks_true, Option.bind_some, if_neg (by decide), if_pos rfl]
  simp only
  have n1 := near_eq (n := (items.length : Int)) hn ht a b d
  have n2 := near_eq (n := (items.length : Int)) hn ht b a d
  have n3 := near_eq (n := (items.length : Int)) hn ht a b more
  by_cases h : nearOk a b d
  · obtain ⟨L1, a1, a2, a3, a4⟩ := n1.1 h
    obtain ⟨L2, b1, b2, b3, b4⟩ := n2.1 ⟨h.2.1, h.1, h.2.2⟩
    have e : L2 = L1 := incI_eq b2 a2 (fun x => by rw [a4, b4]; exact NearI.symm)
    subst e
    rw [a1, b1, Option.bind_some, Option.bind_some, if_pos rfl, if_pos rfl]
    have hs := ints_self L2 (by omega)
    by_cases h3 : nearOk a b more
    · obtain ⟨L3, c1, c2, c3, c4⟩ := n3.1 h3
      rw [c1, Option.bind_some]
      simp only
      rw [hs, Option.bind_some, if_neg (by decide)]
      by_cases hm : more < d
      · rw [if_pos (by simp [hm]), Option.bind_some, if_pos rfl, if_pos trivial]
      · rw [if_neg (by simp [hm])]
        unfold law4_WordsNearIsMutual_l2
        refine mut_out (l := L2) (n := L3) a3 c3 c2 L2 0 0 rfl a2 (fun x hx => ?_)
        have : x ∈ L3 := by
          rw [c4]
          rw [a4] at hx
          exact hx.more (by omega)
        obtain ⟨p, hp⟩ := List.mem_iff_getElem?.1 this
        exact ⟨p, Nat.zero_le _, hp⟩
    · have hc := nearF_code (a := a) (b := b)
      rw [n3.2 h3, Option.bind_some]
      simp only
      rw [hs, Option.bind_some, if_neg (by decide), if_pos (by simp [hc]), Option.bind_some, if_pos rfl, if_neg hc]
      rfl
  · rw [n1.2 h, n2.2 (fun x => h ⟨x.2.1, x.1, x.2.2⟩), Option.bind_some, Option.bind_some, if_neg nearF_code]
    rfl
end Go.Proofs.YtdiieblgeaehpaaDoor
