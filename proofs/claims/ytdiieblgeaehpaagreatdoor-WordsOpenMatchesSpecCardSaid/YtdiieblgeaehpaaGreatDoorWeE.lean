/- Words: the reference's index of numbers, for any bytes. -/
import Derived.Test.YtdiieblgeaehpaaGreatDoorWeC
namespace Go.Proofs.YtdiieblgeaehpaaGreatDoor
open Go Go.L
theorem NS.at {ns : List Int} (hN : NS ns) {i : Nat} (h : i < ns.length) : 1 ≤ ns.getD i default ∧ ns.getD i default < 2147483648 := by
  rw [List.getD_eq_getElem?_getD, List.getElem?_eq_getElem h]
  exact hN.pos _ (List.getElem_mem h)
theorem k8_run {ns : List Int} (hN : NS ns) {n : Int} (hn : n ≤ 64) (h0 : ns.getD 0 default - 1 = n) {l : List Int} {es : HM} {i s m : Nat} {w : List UInt8} (hw : w.length ≤ 2048) (hi : i < ns.length) (h9 : ns.getD i default = (m : Int)) (hm : i + 1 + m < ns.length) (hl : l.length ≤ i) (hes : es.length ≤ i) (hle : ∀ e ∈ es, e.2.length ≤ 1000000) (hs : s < 2147483648) :
    ref4_WordsIndex_k8 l es w (s : Int) (i : Int) ns = match pC n es w (ns.drop (i + 1 + m)) with
      | none => some (.inr (0, [], false))
      | some p => some (.inl (l ++ entN p.1, es ++ [p.1], ((ns.length - p.2.length : Nat) : Int), ((s + 1 : Nat) : Int))) := by
  have hlen := hN.len
  have hex : ∃ cnt r, ns.drop (i + 1 + m) = cnt :: r := by
    cases e : ns.drop (i + 1 + m) with
    | nil =>
      have := len_drop e
      omega
    | cons a r => exact ⟨a, r, rfl⟩
  obtain ⟨cnt, r, hd⟩ := hex
  obtain ⟨g, hd1, _⟩ := getD_drop hd
  have hc := hN.at hm
  rw [g] at hc
  have hrl : r.length = ns.length - (i + 1 + m + 1) := by rw [← hd1, List.length_drop]
  have e1 : (i : Int) + 1 + (m : Int) = ((i + 1 + m : Nat) : Int) := by omega
  have e2 : ((i + 1 + m : Nat) : Int) + 1 = ((i + 1 + m + 1 : Nat) : Int) := by omega
  obtain ⟨k, rfl⟩ := Int.eq_ofNat_of_zero_le (show 0 ≤ cnt by omega)
  rw [hd, pC_cons, Int.toNat_natCast]
  unfold ref4_WordsIndex_k8
  rw [chk_pos (by constructor <;> omega), chk_pos ⟨by omega, by omega⟩, Int.toNat_natCast, h9, chk_pos (by constructor <;> omega), e1, chk_pos ⟨by omega, by omega⟩, chk_pos (by constructor <;> omega), Int.toNat_natCast, g]
  by_cases c1 : (r.length : Int) < 2 * (k : Int)
  · rw [if_pos c1]
    by_cases c2 : (ns.length : Int) < (k : Int)
    · rw [if_pos c2]
      rfl
    · rw [if_neg c2, chk_pos (by constructor <;> omega), chk_pos (by constructor <;> omega), if_pos (by omega)]
      rfl
  · rw [if_neg c1, if_neg (by omega), chk_pos (by constructor <;> omega), chk_pos (by constructor <;> omega), if_neg (by omega)]
    have H := hits_run hN l (es := es) w (s : Int) (s9 := i) hn h0 (cnt := k) (by omega) (by rw [h9, e1, Int.toNat_natCast, g]) (by omega) hle k (i + 1 + m + 1) 0 (0, -1) [] (by omega) (by rw [hd1]; omega) (by decide) (by decide) (by decide) (by decide) (by simp; omega)
    rw [hd1] at H
    unfold ref4_WordsIndex_k9 ref4_WordsIndex_l11
    rw [Int.toNat_natCast, h9, e1, e2]
    refine Eq.trans H ?_
    cases hq : pH n es k (0, -1) r with
    | none => rfl
    | some p =>
      have hr1 : ∀ x ∈ r, 1 ≤ x := fun x hx => (hN.pos x (List.mem_of_mem_drop (by rw [hd1]; exact hx))).1
      obtain ⟨q1, q2, q3, q4⟩ := pH_ok es k (0, -1) r p.1 p.2 hr1 (by decide) (by decide) hq
      have hpl : r.length = 2 * p.1.length + p.2.length := by
        have := congrArg List.length q1
        rw [List.length_append, hitsN_len] at this
        exact this
      have he := entry_ref (w := w) (H := p.1) (by omega) (by omega) (q2.bounds hn p.1 (0, -1) (by decide))
      have hel : (entN (w, p.1)).length = 2 + w.length + 2 * p.1.length := by
        unfold entN
        simp only
        rw [List.length_cons, List.length_append, List.length_map, List.length_cons, hitsN_len]
        omega
      show ref4_WordsIndex_k10 l es w (s : Int) 0 0 ([] ++ p.1) ((i + 1 + m + 1 + 2 * k : Nat) : Int) = some (.inl (l ++ entN (w, p.1), es ++ [(w, p.1)], ((ns.length - p.2.length : Nat) : Int), ((s + 1 : Nat) : Int)))
      unfold ref4_WordsIndex_k10 ref4_WordsIndex_k4
      rw [List.nil_append, chk_pos (by rw [List.length_singleton]; constructor <;> omega), he, Option.bind_some, chk_pos (by rw [hel]; constructor <;> omega), chk_pos (by constructor <;> omega), show ns.length - p.2.length = i + 1 + m + 1 + 2 * k by omega]
      rfl
theorem entry_run {ns : List Int} (hN : NS ns) (b : List UInt8) {n : Int} (hn : n ≤ 64) (h0 : ns.getD 0 default - 1 = n) {l : List Int} {es : HM} {i s t : Nat} (h1 : ns.getD 1 default = (t : Int)) (h2 : 2 ≤ ns.length) (hs : s < t) (hi : i ≤ ns.length) (hl : l.length ≤ i) (hes : es.length ≤ i) (hle : ∀ e ∈ es, e.2.length ≤ 1000000) :
    ref4_WordsIndex_bl3 b ns (l, es, (i : Int), (s : Int)) = match pE n es (ns.drop i) with
      | none => some (.inr (0, [], false))
      | some p => some (.inl (l ++ entN p.1, es ++ [p.1], ((ns.length - p.2.length : Nat) : Int), ((s + 1 : Nat) : Int))) := by
  have hlen := hN.len
  have ht := hN.at (i := 1) (by omega)
  rw [h1] at ht
  unfold ref4_WordsIndex_bl3
  simp only
  rw [chk_pos ⟨by omega, by omega⟩, show (1 : Int).toNat = 1 from rfl, h1, if_pos (by omega)]
  cases hR : ns.drop i with
  | nil =>
    have := len_drop hR
    rw [if_pos (by omega)]
    rfl
  | cons len r1 =>
    obtain ⟨g, hd1, ilt⟩ := getD_drop hR
    have hp := hN.at ilt
    rw [g] at hp
    obtain ⟨m, rfl⟩ := Int.eq_ofNat_of_zero_le (show 0 ≤ len by omega)
    have hrl : r1.length = ns.length - (i + 1) := by rw [← hd1, List.length_drop]
    rw [if_neg (by omega), chk_pos (by constructor <;> omega), chk_pos ⟨by omega, by omega⟩, Int.toNat_natCast, g, chk_pos (by constructor <;> omega), pE_cons, Int.toNat_natCast]
    by_cases c1 : (r1.length : Int) ≤ (m : Int)
    · rw [if_pos (Or.inl c1), if_pos (by omega)]
      rfl
    by_cases c2 : (2048 : Int) < (m : Int)
    · rw [if_pos (Or.inr c2 : (r1.length : Int) ≤ (m : Int) ∨ 2048 < (m : Int)), if_neg (by omega), chk_pos ⟨by omega, by omega⟩, if_pos c2]
      rfl
    rw [if_neg (fun h : (r1.length : Int) ≤ (m : Int) ∨ 2048 < (m : Int) => h.elim c1 c2), if_neg (by omega), chk_pos ⟨by omega, by omega⟩, if_neg c2]
    unfold ref4_WordsIndex_k5 ref4_WordsIndex_l7
    have W := word_run hN l es (s : Int) ilt g m (i + 1) [] (by omega) (by rw [hd1]; omega) (by simp; omega)
    rw [hd1] at W
    rw [chk_pos (by constructor <;> omega)]
    refine Eq.trans W ?_
    cases hq : pW m r1 with
    | none => rfl
    | some p =>
      have hr1 : ∀ x ∈ r1, 1 ≤ x := fun x hx => (hN.pos x (List.mem_of_mem_drop (by rw [hd1]; exact hx))).1
      obtain ⟨q1, q2⟩ := pW_ok m r1 p.1 p.2 hr1 hq
      have hp2 : ns.drop (i + 1 + m) = p.2 := by
        rw [← List.drop_drop, hd1, q1, List.drop_append_of_le_length (by rw [List.length_map]; omega), List.drop_of_length_le (by rw [List.length_map]; omega)]
        rfl
      have K8 := k8_run hN hn h0 (l := l) (es := es) (s := s) (m := m) (w := p.1) (by omega) ilt g (by omega) hl hes hle (by omega)
      rw [hp2] at K8
      show ref4_WordsIndex_k6 l es (s : Int) (i : Int) ns ([] ++ p.1) = _
      rw [List.nil_append, Option.bind_some]
      unfold ref4_WordsIndex_k6
      rw [ref_words (by omega), Option.bind_some]
      by_cases ho : (wds p.1).map Prod.fst = [p.1]
      · have hW : ∃ y, wds p.1 = [y] ∧ y.1 = p.1 := by
          cases e : wds p.1 with
          | nil => rw [e] at ho; cases ho
          | cons y t => cases t with
            | nil => rw [e] at ho; exact ⟨y, rfl, List.singleton_inj.1 ho⟩
            | cons z t => rw [e] at ho; simp at ho
        obtain ⟨y, hy1, hy2⟩ := hW
        rw [hy1, if_pos (by rfl), chk_pos ⟨by decide, by show (0 : Int) < 1; decide⟩, if_pos (by show y.1 = p.1; exact hy2)]
        rcases snoc_cases es with rfl | ⟨L, z, rfl⟩
        · rw [if_neg (by simp), if_pos ⟨ho, fun L z h => by
            have := congrArg List.length h
            simp at this⟩]
          exact K8
        · have hzl : (L ++ [z]).length = L.length + 1 := by simp
          have ez : (((L.length + 1 : Nat) : Int) - 1).toNat = L.length := by omega
          have hzg : (L ++ [z]).getD L.length default = z := by rw [List.getD_eq_getElem?_getD, List.getElem?_append_right (Nat.le_refl _), Nat.sub_self]; rfl
          rw [hzl] at hes ⊢
          rw [if_pos (by omega), chk_pos (by constructor <;> omega), chk_pos ⟨by omega, by omega⟩, ez, hzg, less_lt]
          by_cases hz : z.1 < p.1
          · rw [decide_eq_true hz, if_neg (by decide), if_pos ⟨ho, fun L' z' h => by
              obtain ⟨_, h'⟩ := List.append_inj' h rfl
              rw [← List.singleton_inj.1 h']
              exact hz⟩]
            exact K8
          · rw [decide_eq_false hz, if_pos (by rfl), if_neg (fun h => hz (h.2 L z rfl))]
            rfl
      · rw [if_neg (fun h : okW es p.1 => ho h.1)]
        by_cases h1' : ((wds p.1).length : Int) = 1
        · have hW : ∃ y, wds p.1 = [y] := by
            cases e : wds p.1 with
            | nil => rw [e] at h1'; cases h1'
            | cons y t => cases t with
              | nil => exact ⟨y, rfl⟩
              | cons z t => rw [e, List.length_cons, List.length_cons] at h1'; omega
          obtain ⟨y, hy⟩ := hW
          rw [hy] at ho ⊢
          rw [if_pos (by rfl), chk_pos ⟨by decide, by show (0 : Int) < 1; decide⟩, if_neg (by
            intro h
            have h' : y.1 = p.1 := h
            exact ho (by rw [← h']; rfl))]
          rfl
        · rw [if_neg h1']
          rfl
end Go.Proofs.YtdiieblgeaehpaaGreatDoor
namespace Go.Proofs.YtdiieblgeaehpaaGreatDoor
open Go Go.L
theorem entries_run {ns : List Int} (hN : NS ns) (b : List UInt8) {n : Int} (hn : n ≤ 64) (h0 : ns.getD 0 default - 1 = n) {t : Nat} (h1 : ns.getD 1 default = (t : Int)) (h2 : 2 ≤ ns.length) (pre : List Int) : ∀ (c i s : Nat) (es : HM), s + c = t → i ≤ ns.length → (pre ++ es.flatMap entN).length ≤ i → es.length ≤ i → Inc (es.map Prod.fst) → (∀ e ∈ es, EW n e) →
    run (ref4_WordsIndex_bl3 b ns) (pre ++ es.flatMap entN, es, (i : Int), (s : Int)) = match pEs n c es (ns.drop i) with
      | none => some (0, [], false)
      | some es' => ref4_WordsIndex_k2 b ns (pre ++ es'.flatMap entN) es'
  | 0, i, s, es, hs, _, _, _, _, _ => by
    have hlen := hN.len
    have ht := hN.at (i := 1) (by omega)
    rw [h1] at ht
    refine run_inr ?_
    unfold ref4_WordsIndex_bl3
    simp only
    rw [chk_pos ⟨by omega, by omega⟩, show (1 : Int).toNat = 1 from rfl, h1, if_neg (by omega)]
    rfl
  | c + 1, i, s, es, hs, hi, hl, hes, hinc, hE => by
    have hlen := hN.len
    have er := entry_run hN b hn h0 (l := pre ++ es.flatMap entN) (es := es) (i := i) (s := s) h1 h2 (by omega) hi hl hes (fun e he => (hE e he).2.2.2.2.1)
    show _ = match (pE n es (ns.drop i)).bind (fun p => pEs n c (es ++ [p.1]) p.2) with
      | none => some (0, [], false)
      | some es' => ref4_WordsIndex_k2 b ns (pre ++ es'.flatMap entN) es'
    cases hq : pE n es (ns.drop i) with
    | none =>
      rw [hq] at er
      exact run_inr (m := some (0, [], false)) er
    | some p =>
      rw [hq] at er
      rw [run_inl er, Option.bind_some]
      have hdl : (ns.drop i).length = ns.length - i := List.length_drop
      obtain ⟨k1, k2, k3, k4⟩ := pE_ok (e := p.1) (R' := p.2) (fun x hx => (hN.pos x (List.mem_of_mem_drop hx)).1) (by omega) hinc hq
      have hk : ns.length - i = (entN p.1).length + p.2.length := by rw [← hdl, k1, List.length_append]
      have hk1 : 1 ≤ (entN p.1).length := by unfold entN; rw [List.length_cons]; omega
      have hd : ns.drop (ns.length - p.2.length) = p.2 := by
        rw [show ns.length - p.2.length = i + (entN p.1).length by omega, ← List.drop_drop, k1, List.drop_append_of_le_length (Nat.le_refl _), List.drop_of_length_le (Nat.le_refl _)]
        rfl
      have ih := entries_run hN b hn h0 h1 h2 pre c (ns.length - p.2.length) (s + 1) (es ++ [p.1]) (by omega) (by omega) (by
        rw [List.length_append] at hl
        rw [List.flatMap_append, List.flatMap_cons, List.flatMap_nil, List.append_nil, List.length_append, List.length_append]
        omega) (by rw [List.length_append, List.length_singleton]; omega) k3 (fun e he => by
        rcases List.mem_append.1 he with he | he
        · exact hE e he
        · rw [List.mem_singleton.1 he]
          exact k2)
      rw [hd, List.flatMap_append, List.flatMap_cons, List.flatMap_nil, List.append_nil, ← List.append_assoc] at ih
      exact ih
theorem nums_of {x : Int × HM} (h1 : 0 ≤ x.1 ∧ x.1 ≤ 64) (h2 : x.2.length ≤ 1000000) (hE : ∀ e ∈ x.2, EW x.1 e) : ∀ m ∈ numsI x, 1 ≤ m ∧ m < 16777216 := by
  intro m hm
  unfold numsI at hm
  rcases List.mem_cons.1 hm with rfl | hm
  · omega
  rcases List.mem_cons.1 hm with rfl | hm
  · omega
  obtain ⟨e, he, hm⟩ := List.mem_flatMap.1 hm
  obtain ⟨e1, e2, e3, e4, e5, e6⟩ := hE e he
  have e2' := List.length_pos_iff.2 e2
  have e4' := List.length_pos_iff.2 e4
  unfold entN at hm
  rcases List.mem_cons.1 hm with rfl | hm
  · omega
  rcases List.mem_append.1 hm with hm | hm
  · obtain ⟨b, _, rfl⟩ := List.mem_map.1 hm
    have := b.toNat_lt
    unfold byteN
    omega
  rcases List.mem_cons.1 hm with rfl | hm
  · omega
  · exact hitsN_bounds h1.2 e.2 (0, -1) (by decide) (by decide) (by decide) e6 m hm
/-- The end of the reference's reading. -/
theorem k2_run {b : List UInt8} {ns : List Int} {x : Int × HM} (h0 : ns.getD 0 default - 1 = x.1) {l : List Int} (hl : l = numsI x) (hb : ∀ m ∈ numsI x, 1 ≤ m ∧ m < 16777216) (hlen : (numsI x).length ≤ 1000000) : ∃ D, Packed D (bitsX x) ∧ ref4_WordsIndex_k2 b ns l x.2 = some (x.1, x.2, decide (D = b)) := by
  obtain ⟨D, d1, d2⟩ := gammas_ref (numsI x) hb hlen
  refine ⟨D, d2, ?_⟩
  unfold ref4_WordsIndex_k2 ref3_SameBytes
  rw [hl, d1, Option.bind_some, Option.bind_some, show (0 : Int).toNat = 0 from rfl, h0]
theorem ref_any {b : List UInt8} (hb : Full b) : (∃ y, ref4_WordsIndex b = some y ∧ y.2.2 = false) ∨ ∃ x, XW x ∧ Packed b (bitsX x) ∧ ref4_WordsIndex b = some (x.1, x.2, true) := by
  have hD' := hb
  unfold Full at hD'
  obtain ⟨ns, n1, n2, n3⟩ := numbers_any hb
  have hN : NS ns := ⟨n2, n1⟩
  unfold ref4_WordsIndex
  rw [n3, Option.bind_some]
  by_cases c1 : (ns.length : Int) < 2
  · rw [if_pos c1]
    exact .inl ⟨_, rfl, rfl⟩
  have p0 := hN.at (i := 0) (by omega)
  have p1 := hN.at (i := 1) (by omega)
  rw [if_neg c1, chk_pos ⟨by decide, by omega⟩, show (0 : Int).toNat = 0 from rfl]
  by_cases c2 : 65 < ns.getD 0 default
  · rw [if_pos c2]
    exact .inl ⟨_, rfl, rfl⟩
  rw [if_neg c2]
  unfold ref4_WordsIndex_k1 ref4_WordsIndex_l3
  rw [chk_pos ⟨by decide, by omega⟩, show (0 : Int).toNat = 0 from rfl, show (1 : Int).toNat = 1 from rfl, chk_pos (by constructor <;> omega), chk_pos ⟨by decide, by omega⟩, chk_pos ⟨by decide, by omega⟩]
  obtain ⟨t, ht⟩ := Int.eq_ofNat_of_zero_le (show 0 ≤ ns.getD 1 default by omega)
  have er := entries_run hN b (n := ns.getD 0 default - 1) (by omega) rfl ht (by omega) [ns.getD 0 default, ns.getD 1 default] (t - 1) 2 1 [] (by omega) (by omega) (by simp) (by simp) List.Pairwise.nil (by simp)
  rw [List.flatMap_nil, List.append_nil] at er
  have er' : run (ref4_WordsIndex_bl3 b ns) ([ns.getD 0 default, ns.getD 1 default], [], 2, 1) = _ := er
  rw [er']
  cases hq : pEs (ns.getD 0 default - 1) (t - 1) [] (ns.drop 2) with
  | none => exact .inl ⟨_, rfl, rfl⟩
  | some es =>
    obtain ⟨r1, r2, r3, r4, r5⟩ := pEs_ok (t - 1) [] es (ns.drop 2) (fun x hx => (hN.pos x (List.mem_of_mem_drop hx)).1) (by rw [List.length_drop]; omega) List.Pairwise.nil (by simp) (by simp) hq
    rw [List.length_nil, Nat.zero_add] at r4
    rw [List.flatMap_nil, List.length_nil, Nat.zero_add, List.length_drop] at r5
    have hfl : es.length ≤ (es.flatMap entN).length := by
      clear r4 r5 hq r1 r2 r3
      induction es with
      | nil => simp
      | cons e l ih =>
        rw [List.flatMap_cons, List.length_append, List.length_cons]
        have : 1 ≤ (entN e).length := by unfold entN; simp
        omega
    have hnl : [ns.getD 0 default, ns.getD 1 default] ++ es.flatMap entN = numsI (ns.getD 0 default - 1, es) := by
      unfold numsI
      simp only
      rw [r4, show ns.getD 0 default - 1 + 1 = ns.getD 0 default by omega, show ((t - 1 : Nat) : Int) + 1 = ns.getD 1 default by omega]
      rfl
    have hlen : (numsI (ns.getD 0 default - 1, es)).length ≤ 1000000 := by
      rw [← hnl, List.length_append]
      show 2 + _ ≤ _
      omega
    obtain ⟨D, d1, d2⟩ := k2_run (b := b) (ns := ns) (x := (ns.getD 0 default - 1, es)) rfl hnl (nums_of (by simp only; omega) (by simp only; omega) r2) hlen
    simp only at d2 ⊢
    rw [d2]
    by_cases hd : D = b
    · subst hd
      rw [decide_eq_true rfl]
      have hp : D.length = ((bitsX (ns.getD 0 default - 1, es)).length + 7) / 8 := d1.1
      have hs := bitsX_len (ns.getD 0 default - 1, es)
      exact .inr ⟨(ns.getD 0 default - 1, es), ⟨by simp only; omega, r1, r2, r3, by omega, by simp only; omega⟩, d1, rfl⟩
    · rw [decide_eq_false hd]
      exact .inl ⟨_, rfl, rfl⟩
theorem len_gs : ∀ {l : List Int}, (∀ n ∈ l, 1 ≤ n) → l.length ≤ gs l
  | [], _ => Nat.zero_le _
  | n :: l, h => by
    have h1 := len_gs (l := l) (fun x hx => h x (List.mem_cons_of_mem _ hx))
    have h2 := h n (List.mem_cons_self ..)
    have h3 := gz_eq (n := n.toNat) (by omega)
    have h4 := blen_pos (n := n.toNat) (by omega)
    rw [gs_cons, List.length_cons]
    omega
theorem ref_form {D : List UInt8} (hD : Full D) {x : Int × HM} (hx : XW x) (hP : Packed D (bitsX x)) : ref4_WordsIndex D = some (x.1, x.2, true) := by
  have hnm := hx.nums
  have hl : (numsI x).length ≤ 131072 := Nat.le_trans (len_gs fun n h => (hnm n h).1) hx.size
  have hN : NS (numsI x) := ⟨hl, fun n h => by have := hnm n h; omega⟩
  have hi := hx.items
  have g0 : (numsI x).getD 0 default = x.1 + 1 := rfl
  have g1 : (numsI x).getD 1 default = (x.2.length : Int) + 1 := rfl
  have hge : 2 ≤ (numsI x).length := by
    show 2 ≤ ((x.2.flatMap entN).length + 1) + 1
    omega
  have hx2 := hx.len
  unfold ref4_WordsIndex
  rw [numbers_form hD hx hP, Option.bind_some, if_neg (by omega), chk_pos ⟨by decide, by omega⟩, show (0 : Int).toNat = 0 from rfl, g0, if_neg (by omega)]
  unfold ref4_WordsIndex_k1 ref4_WordsIndex_l3
  rw [chk_pos ⟨by decide, by omega⟩, show (0 : Int).toNat = 0 from rfl, show (1 : Int).toNat = 1 from rfl, g0, g1, chk_pos (by constructor <;> omega), chk_pos ⟨by decide, by omega⟩, chk_pos ⟨by decide, by omega⟩]
  have er := entries_run hN D (n := x.1) (by omega) (by rw [g0]; omega) (t := x.2.length + 1) (by rw [g1]; rfl) hge [x.1 + 1, (x.2.length : Int) + 1] x.2.length 2 1 [] (by omega) hge (by simp) (by simp) List.Pairwise.nil (by simp)
  rw [List.flatMap_nil, List.append_nil] at er
  have er' : run (ref4_WordsIndex_bl3 D (numsI x)) ([x.1 + 1, (x.2.length : Int) + 1], [], 2, 1) = _ := er
  have hd : (numsI x).drop 2 = x.2.flatMap entN := rfl
  rw [er', hd, pEs_form (by omega) x.2 [] hx.ents (by rw [List.nil_append]; exact hx.inc) (by rw [List.nil_append]; exact hx.once), List.nil_append]
  obtain ⟨D', d1, d2⟩ := k2_run (b := D) (ns := numsI x) (x := x) (by rw [g0]; omega) (l := [x.1 + 1, (x.2.length : Int) + 1] ++ x.2.flatMap entN) rfl hnm (by omega)
  simp only
  rw [d2, packed_one d1 hP, decide_eq_true rfl]
end Go.Proofs.YtdiieblgeaehpaaGreatDoor
