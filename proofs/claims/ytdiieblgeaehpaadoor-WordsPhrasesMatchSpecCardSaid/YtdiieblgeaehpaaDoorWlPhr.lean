/- The law WordsPhrasesMatchSpec, plainly. -/
import Derived.Test.YtdiieblgeaehpaaDoorWdQ
import Derived.Test.YtdiieblgeaehpaaDoorMir
import Derived.Test.YtdiieblgeaehpaaDoorP9PhrasesMatchSpec
namespace Go.Proofs.YtdiieblgeaehpaaDoor
open Go Go.L
theorem hitsAll_len : ∀ (r : List (List UInt8)) (i : Nat) (l : List (List UInt8)), (∀ t ∈ r, t.length ≤ 2048) → (hitsAll i r l).length ≤ r.length * 2050
  | [], _, _, _ => Nat.le_of_eq rfl
  | t :: r, i, l, h => by
    have h1 := hitsAt_len i (wds t) l
    have h2 := hitsAll_len r (i + 1) l (fun x hx => h x (List.mem_cons_of_mem _ hx))
    have h3 := wds_len t
    have h4 := h t (List.mem_cons_self ..)
    show (hitsAt i (wds t) l ++ hitsAll (i + 1) r l).length ≤ _
    rw [List.length_append, List.length_cons]
    omega
/-- What the law says of nearness: true. -/
theorem phr_near {items l : List (List UInt8)} (d : Int) (hn : items.length ≤ 64) (ht : ∀ t ∈ items, t.length ≤ 2048) (f : Int × Int) : law4_WordsPhrasesMatchSpec_k5 items l d (((items.length : Int), E items), f) = some true := by
  unfold law4_WordsPhrasesMatchSpec_k5
  by_cases h2 : l.length < 2
  · rw [if_pos (by omega)]
  have t0 : (0 : Int).toNat = 0 := rfl
  have t1 : (1 : Int).toNat = 1 := rfl
  rw [if_neg (by omega), chk_pos ⟨by omega, by omega⟩, chk_pos ⟨by omega, by omega⟩, t0, t1]
  have hne := near_eq (n := (items.length : Int)) hn ht (l.getD 0 default) (l.getD 1 default) d
  -- the end, for the fault of the reference
  have k8 : ∀ (L : List Int) (f : Int × Int), (f.1 ≠ 0 → L = []) → (f.1 = 0 → ∃ M, ref4_Near items (l.getD 0 default) (l.getD 1 default) d = some M ∧ M = L ∧ M.length ≤ 1000000000) → law4_WordsPhrasesMatchSpec_k8 items l d f.1 f.2 L f.1 f.2 = some true := by
    intro L f h1 h3
    unfold law4_WordsPhrasesMatchSpec_k8 law4_WordsPhrasesMatchSpec_k9
    rw [if_pos ⟨rfl, rfl⟩]
    by_cases hf : f.1 = 0
    · obtain ⟨M, m1, rfl, m3⟩ := h3 hf
      rw [if_pos hf, if_pos hf, chk_pos ⟨by omega, by omega⟩, chk_pos ⟨by omega, by omega⟩, t0, t1, m1, Option.bind_some, ints_self _ m3, Option.bind_some]
    · rw [if_neg hf, h1 hf]
      rfl
  have w0 := wordFault_eq (l.getD 0 default)
  have w1 := wordFault_eq (l.getD 1 default)
  by_cases ha : wf (l.getD 0 default) = (0, 0)
  · by_cases hb : wf (l.getD 1 default) = (0, 0)
    · by_cases hd : 1 ≤ d ∧ d ≤ 2048
      · obtain ⟨L, n1, n2, n3, n4⟩ := hne.1 ⟨ha, hb, hd⟩
        obtain ⟨M, m1, m2, m3⟩ := near_ref hn ht (l.getD 0 default) (l.getD 1 default) hd
        have hML : M = L := incI_eq m2 n2 (fun x => by rw [m3, n4])
        simp only
        rw [n1, Option.bind_some]
        unfold law4_WordsPhrasesMatchSpec_k6 law4_WordsPhrasesMatchSpec_k7
        rw [chk_pos ⟨by omega, by omega⟩, t0, w0, Option.bind_some, ha, if_pos rfl, chk_pos ⟨by omega, by omega⟩, t1, w1, Option.bind_some, hb, if_pos rfl, if_pos rfl, in_eq, Option.bind_some, decide_eq_true hd, if_neg (by decide)]
        exact k8 L (0, 0) (fun h => absurd rfl h) (fun _ => ⟨M, m1, hML, by rw [hML]; omega⟩)
      · have nn := hne.2 (fun h => hd h.2.2)
        have e : nearF (l.getD 0 default) (l.getD 1 default) = (4, -3) := by unfold nearF; rw [if_pos ha, if_pos hb]
        rw [e] at nn
        simp only
        rw [nn, Option.bind_some]
        unfold law4_WordsPhrasesMatchSpec_k6 law4_WordsPhrasesMatchSpec_k7
        rw [chk_pos ⟨by omega, by omega⟩, t0, w0, Option.bind_some, ha, if_pos rfl, chk_pos ⟨by omega, by omega⟩, t1, w1, Option.bind_some, hb, if_pos rfl, if_pos rfl, in_eq, Option.bind_some, decide_eq_false hd, if_pos (by decide), at_eq, Option.bind_some]
        exact k8 [] (4, -3) (fun _ => rfl) (fun h => absurd h (by decide))
    · have hc : (wf (l.getD 1 default)).1 ≠ 0 := fun h => hb ((wf_code _).1 h)
      have nn := hne.2 (fun h => hb h.2.1)
      have e : nearF (l.getD 0 default) (l.getD 1 default) = ((wf (l.getD 1 default)).1, -2) := by unfold nearF; rw [if_pos ha, if_neg hb]
      rw [e] at nn
      simp only
      rw [nn, Option.bind_some]
      unfold law4_WordsPhrasesMatchSpec_k6 law4_WordsPhrasesMatchSpec_k7
      rw [chk_pos ⟨by omega, by omega⟩, t0, w0, Option.bind_some, ha, if_pos rfl, chk_pos ⟨by omega, by omega⟩, t1, w1, Option.bind_some, if_neg hc, chk_pos ⟨by omega, by omega⟩, Option.bind_some, at_eq, Option.bind_some]
      simp only
      rw [if_neg hc]
      exact k8 [] ((wf (l.getD 1 default)).1, -2) (fun _ => rfl) (fun h => absurd h hc)
  · have hc : (wf (l.getD 0 default)).1 ≠ 0 := fun h => ha ((wf_code _).1 h)
    have nn := hne.2 (fun h => ha h.1)
    have e : nearF (l.getD 0 default) (l.getD 1 default) = wf (l.getD 0 default) := by unfold nearF; rw [if_neg ha]
    rw [e] at nn
    simp only
    rw [nn, Option.bind_some]
    unfold law4_WordsPhrasesMatchSpec_k6 law4_WordsPhrasesMatchSpec_k7
    rw [chk_pos ⟨by omega, by omega⟩, t0, w0, Option.bind_some, if_neg hc, if_neg hc]
    exact k8 [] (wf (l.getD 0 default)) (fun _ => rfl) (fun h => absurd h hc)
/-- What the law says of the answer to a phrase, once the reference's fault is known. -/
theorem phr_end {items l : List (List UInt8)} (d : Int) (hn : items.length ≤ 64) (ht : ∀ t ∈ items, t.length ≤ 2048) (g : Int × Int) {H : List Hit} {f : Int × Int} (h1 : f.1 ≠ 0 → H = []) (h2 : f.1 = 0 → H = hitsAll 0 items l) (h3 : f.1 = 0 → l.length ≤ 16) :
    law4_WordsPhrasesMatchSpec_k3 items l d (((items.length : Int), E items), g) (H, f) f.1 f.2 = some true := by
  unfold law4_WordsPhrasesMatchSpec_k3
  rw [if_pos ⟨rfl, rfl⟩]
  by_cases hf : f.1 = 0
  · have hlen := hitsAll_len items 0 l ht
    have hl := h3 hf
    have hH := h2 hf
    subst hH
    simp only
    rw [if_pos hf, if_pos hf, ref_hits hn (by omega) ht, Option.bind_some, hits_self _ (by omega), Option.bind_some, if_neg (by decide)]
    exact phr_near d hn ht g
  · have hH := h1 hf
    subst hH
    rw [if_neg hf, if_neg (show ¬ ((0 : Int) < (([] : List Hit).length : Int)) by decide), if_neg hf]
    exact phr_near d hn ht g
theorem phr_loop {items l : List (List UInt8)} (d : Int) (hn : items.length ≤ 64) (ht : ∀ t ∈ items, t.length ≤ 2048) (hl : l.length ≤ 16) (hne : l ≠ []) (g : Int × Int) {H : List Hit} {f : Int × Int} (h1 : f.1 ≠ 0 → H = []) (h2 : f.1 = 0 → H = hitsAll 0 items l) :
    ∀ (r : List (List UInt8)) (i : Nat), l.drop i = r → (match firstF i r with | some q => f = q | none => f = (0, 0)) → run (law4_WordsPhrasesMatchSpec_bl4 items l d (((items.length : Int), E items), g) (H, f)) (0, 0, (i : Int)) = some true
  | [], i, hd, hf => by
    have hlen := len_drop hd
    have hf : f = (0, 0) := hf
    refine run_inr ?_
    unfold law4_WordsPhrasesMatchSpec_bl4
    simp only
    rw [if_neg (by omega)]
    have := phr_end d hn ht g h1 h2 (fun _ => hl)
    rw [hf] at this ⊢
    rw [this]
  | w :: r, i, hd, hf => by
    obtain ⟨hg, hd', hlt⟩ := getD_drop hd
    unfold firstF at hf
    by_cases hw : wf w = (0, 0)
    · rw [if_pos hw] at hf
      rw [← phr_loop d hn ht hl hne g h1 h2 r (i + 1) hd' hf]
      refine run_inl ?_
      unfold law4_WordsPhrasesMatchSpec_bl4
      simp only
      rw [if_pos (by omega), if_pos trivial, chk_pos ⟨by omega, by omega⟩, Int.toNat_natCast, hg, wordFault_eq, Option.bind_some, if_pos (by rw [hw]), chk_pos (by constructor <;> omega), hw]
      rfl
    · rw [if_neg hw] at hf
      have hc : (wf w).1 ≠ 0 := fun h => hw ((wf_code _).1 h)
      have hb : law4_WordsPhrasesMatchSpec_bl4 items l d (((items.length : Int), E items), g) (H, f) (0, 0, (i : Int)) = some (.inl ((wf w).1, (i : Int), ((i + 1 : Nat) : Int))) := by
        unfold law4_WordsPhrasesMatchSpec_bl4
        simp only
        rw [if_pos (by omega), if_pos trivial, chk_pos ⟨by omega, by omega⟩, Int.toNat_natCast, hg, wordFault_eq, Option.bind_some, if_neg hc, chk_pos (by constructor <;> omega)]
        rfl
      rw [run_inl hb]
      refine run_inr ?_
      have := phr_end d hn ht g h1 h2 (fun _ => hl)
      simp only at hf
      rw [hf] at this ⊢
      unfold law4_WordsPhrasesMatchSpec_bl4
      simp only
      rw [if_neg hc, this]
      split <;> rfl
theorem firstF_code : ∀ (r : List (List UInt8)) (i : Nat) (q : Int × Int), firstF i r = some q → q.1 ≠ 0
  | [], _, _, h => by cases h
  | w :: r, i, q, h => by
    unfold firstF at h
    split at h
    · exact firstF_code r (i + 1) q h
    · rename_i hw
      obtain rfl := Option.some.inj h
      exact fun h' => hw ((wf_code w).1 h')
theorem phrases_match (items l : List (List UInt8)) (d : Int) : law4_WordsPhrasesMatchSpec items l d = some true := by
  unfold law4_WordsPhrasesMatchSpec
  rcases build_cases items with ⟨f, hb, hf⟩ | ⟨hb, hn, ht, _⟩
  · rw [hb, Option.bind_some, speaks_true, Option.bind_some, if_neg (by decide), if_neg hf, Option.bind_some, if_pos rfl]
    rfl
  rw [hb, Option.bind_some, speaks_true, Option.bind_some, if_neg (by decide), if_pos rfl]
  unfold law4_WordsPhrasesMatchSpec_k1 law4_WordsPhrasesMatchSpec_k2 law4_WordsPhrasesMatchSpec_l4
  simp only
  rw [phrase_eq (XOk.of_E hn ht), Option.bind_some]
  -- a fault at once
  have one : ∀ (c : Int), c ≠ 0 → run (law4_WordsPhrasesMatchSpec_bl4 items l d (((items.length : Int), E items), (0, 0)) ([], (c, -1))) (c, -1, 0) = some true := by
    intro c hc
    refine run_inr ?_
    unfold law4_WordsPhrasesMatchSpec_bl4
    simp only
    have := phr_end (l := l) d hn ht (0, 0) (H := []) (f := (c, -1)) (fun _ => rfl) (fun h => absurd h hc) (fun h => absurd h hc)
    simp only at this
    rw [if_neg hc, this]
    split <;> rfl
  by_cases h0 : l = []
  · subst h0
    rw [if_pos rfl, if_pos (show (([] : List (List UInt8)).length : Int) = 0 from rfl), at_eq, Option.bind_some]
    exact one 10 (by decide)
  have hl0 := List.length_pos_iff.2 h0
  rw [if_neg h0, if_neg (by omega)]
  by_cases h16 : 16 < l.length
  · rw [if_pos h16, if_pos (by omega), at_eq, Option.bind_some]
    exact one 2 (by decide)
  rw [if_neg h16, if_neg (by omega)]
  cases hF : firstF 0 l with
  | some q =>
    simp only
    exact phr_loop d hn ht (by omega) h0 (0, 0) (H := []) (f := q) (fun _ => rfl) (fun h => absurd h (firstF_code l 0 q hF)) l 0 rfl (by rw [hF])
  | none =>
    simp only
    rw [phrase_E h0]
    exact phr_loop d hn ht (by omega) h0 (0, 0) (H := hitsAll 0 items l) (f := (0, 0)) (fun h => absurd rfl h) (fun _ => rfl) l 0 rfl (by rw [hF])
end Go.Proofs.YtdiieblgeaehpaaDoor
