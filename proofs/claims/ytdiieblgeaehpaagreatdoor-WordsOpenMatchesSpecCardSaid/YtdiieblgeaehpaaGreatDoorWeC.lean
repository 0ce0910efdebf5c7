/- Words: the reference and the parse of numbers. -/
import Derived.Test.YtdiieblgeaehpaaGreatDoorWeB
namespace Go.Proofs.YtdiieblgeaehpaaGreatDoor
open Go Go.L
/-- Numbers that were read. -/
structure NS (ns : List Int) : Prop where
  len : ns.length ≤ 131072
  pos : ∀ x ∈ ns, 1 ≤ x ∧ x < 2147483648
theorem hits_run {ns : List Int} (hN : NS ns) (l : List Int) {es : HM} (w : List UInt8) (s10 : Int) {s9 : Nat} {n : Int} (hn : n ≤ 64) (h0 : ns.getD 0 default - 1 = n) {cnt : Nat} (hcb : cnt ≤ 1000000) (hc : ns.getD (((s9 : Int) + 1 + ns.getD s9 default).toNat) default = (cnt : Int)) (hes : es.length ≤ 1000000) (hle : ∀ e ∈ es, e.2.length ≤ 1000000) :
    ∀ (c i j : Nat) (last : Hit) (acc : List Hit), j + c = cnt → 2 * c ≤ (ns.drop i).length → 0 ≤ last.1 → last.1 ≤ 64 → -1 ≤ last.2 → last.2 ≤ 2048 → acc.length + c ≤ 1000000 →
    run (ref4_WordsIndex_bl11 l es w s10 (s9 : Int) ns) (last.1, last.2, acc, (i : Int), (j : Int)) = match pH n es c last (ns.drop i) with
      | none => some (.inr (0, [], false))
      | some p => ref4_WordsIndex_k10 l es w s10 0 0 (acc ++ p.1) ((i + 2 * c : Nat) : Int)
  | 0, i, j, last, acc, hj, _, _, _, _, _, _ => by
    show _ = ref4_WordsIndex_k10 l es w s10 0 0 (acc ++ []) ((i + 2 * 0 : Nat) : Int)
    rw [List.append_nil]
    refine run_inr ?_
    unfold ref4_WordsIndex_bl11
    simp only
    rw [Int.toNat_natCast, hc, if_neg (by omega)]
    rfl
  | c + 1, i, j, last, acc, hj, hr, l1, l1', l2, l3, hlen => by
    have hl := hN.len
    have hex : ∃ a b r, ns.drop i = a :: b :: r := by
      cases e : ns.drop i with
      | nil => rw [e] at hr; simp at hr
      | cons a r1 => cases e2 : r1 with
        | nil => rw [e, e2] at hr; simp at hr; omega
        | cons b r => exact ⟨a, b, r, by rw [← e2]⟩
    obtain ⟨a, b, r, hd⟩ := hex
    obtain ⟨ga, hd1, i1⟩ := getD_drop hd
    obtain ⟨gb, hd2, i2⟩ := getD_drop hd1
    have pa := hN.pos a (List.mem_of_mem_drop (by rw [hd]; simp))
    have pb := hN.pos b (List.mem_of_mem_drop (by rw [hd]; simp))
    have ei : (i : Int) + 1 = ((i + 1 : Nat) : Int) := by omega
    rw [hd] at hr ⊢
    rw [List.length_cons, List.length_cons] at hr
    have ent : ∀ m, (if 64 < a then some (.inr (.inr (0, [], false))) else if 2048 < b then some (.inr (.inr (0, [], false))) else ref4_WordsIndex_k12 last.1 last.2 acc es (j : Int) (i : Int) ns) = m → ref4_WordsIndex_bl11 l es w s10 (s9 : Int) ns (last.1, last.2, acc, (i : Int), (j : Int)) = m := fun m hm => by
      unfold ref4_WordsIndex_bl11
      simp only
      rw [Int.toNat_natCast, hc, if_pos (by omega), chk_pos ⟨by omega, by omega⟩, Int.toNat_natCast, ga]
      by_cases h1 : 64 < a
      · rw [if_pos h1] at hm ⊢
        exact hm
      · rw [if_neg h1] at hm ⊢
        rw [chk_pos (by constructor <;> omega), ei, chk_pos ⟨by omega, by omega⟩, Int.toNat_natCast, gb]
        by_cases h2 : 2048 < b
        · rw [if_pos h2] at hm ⊢
          exact hm
        · rw [if_neg h2] at hm ⊢
          exact hm
    by_cases h1 : 64 < a
    · rw [run_inr (m := some (Sum.inr (0, [], false))) (ent _ (by rw [if_pos h1]; rfl))]
      unfold pH
      rw [if_pos (.inl h1)]
    by_cases h2 : 2048 < b
    · rw [run_inr (m := some (Sum.inr (0, [], false))) (ent _ (by rw [if_neg h1, if_pos h2]; rfl))]
      unfold pH
      rw [if_pos (.inr (.inl h2))]
    have ent2 : ∀ m, (if n ≤ (nxt last a b).1 then some (.inr (.inr (0, [], false))) else if 2048 ≤ (nxt last a b).2 then some (.inr (.inr (0, [], false))) else if nxt last a b ∈ es.flatMap Prod.snd then some (.inr (.inr (0, [], false))) else some (.inl ((nxt last a b).1, (nxt last a b).2, acc ++ [nxt last a b], ((i + 2 : Nat) : Int), ((j + 1 : Nat) : Int)))) = m → ref4_WordsIndex_bl11 l es w s10 (s9 : Int) ns (last.1, last.2, acc, (i : Int), (j : Int)) = m := fun m hm => ent m (by
      rw [if_neg h1, if_neg h2]
      have k13 : ∀ base : Int, -1 ≤ base → base ≤ 2048 → (last.1 + a - 1, base + b) = nxt last a b → ref4_WordsIndex_k13 last.1 acc es (j : Int) (i : Int) ns base = m := fun base b1 b2 e => by
        have e1 : last.1 + a - 1 = (nxt last a b).1 := congrArg Prod.fst e
        have e2 : base + b = (nxt last a b).2 := congrArg Prod.snd e
        unfold ref4_WordsIndex_k13
        rw [chk_pos ⟨by omega, by omega⟩, Int.toNat_natCast, ga, chk_pos (by constructor <;> omega), chk_pos (by constructor <;> omega), chk_pos (by constructor <;> omega), ei, chk_pos ⟨by omega, by omega⟩, Int.toNat_natCast, gb, chk_pos (by constructor <;> omega), show (0 : Int).toNat = 0 from rfl, h0, e1, e2]
        by_cases c1 : n ≤ (nxt last a b).1
        · rw [if_pos c1] at hm ⊢
          exact hm
        rw [if_neg c1] at hm ⊢
        by_cases c2 : 2048 ≤ (nxt last a b).2
        · rw [if_pos c2] at hm ⊢
          exact hm
        rw [if_neg c2] at hm ⊢
        rw [show ((nxt last a b).1, (nxt last a b).2) = nxt last a b from rfl, taken_eq hes hle, Option.bind_some]
        by_cases c3 : nxt last a b ∈ es.flatMap Prod.snd
        · rw [if_pos c3] at hm
          rw [decide_eq_true c3, if_pos rfl]
          exact hm
        rw [if_neg c3] at hm
        rw [decide_eq_false c3, if_neg Bool.false_ne_true, chk_pos (by rw [List.length_singleton]; constructor <;> omega), chk_pos (by constructor <;> omega), chk_pos (by constructor <;> omega)]
        exact hm
      unfold ref4_WordsIndex_k12
      rw [chk_pos ⟨by omega, by omega⟩, Int.toNat_natCast, ga]
      by_cases ha : 1 < a
      · rw [if_pos ha]
        exact k13 (-1) (by omega) (by omega) (by unfold nxt; rw [if_pos ha])
      · rw [if_neg ha]
        exact k13 last.2 l2 l3 (by unfold nxt; rw [if_neg ha]))
    have n1 : (nxt last a b).1 = last.1 + a - 1 := rfl
    have n2 : (nxt last a b).2 = (if 1 < a then -1 else last.2) + b := rfl
    by_cases c1 : n ≤ (nxt last a b).1
    · rw [run_inr (m := some (Sum.inr (0, [], false))) (ent2 _ (by rw [if_pos c1]; rfl))]
      unfold pH
      rw [if_pos (.inr (.inr (.inl c1)))]
    by_cases c2 : 2048 ≤ (nxt last a b).2
    · rw [run_inr (m := some (Sum.inr (0, [], false))) (ent2 _ (by rw [if_neg c1, if_pos c2]; rfl))]
      unfold pH
      rw [if_pos (.inr (.inr (.inr (.inl c2))))]
    by_cases c3 : nxt last a b ∈ es.flatMap Prod.snd
    · rw [run_inr (m := some (Sum.inr (0, [], false))) (ent2 _ (by rw [if_neg c1, if_neg c2, if_pos c3]; rfl))]
      unfold pH
      rw [if_pos (.inr (.inr (.inr (.inr c3))))]
    rw [run_inl (ent2 _ (by rw [if_neg c1, if_neg c2, if_neg c3]))]
    have hd2' : ns.drop (i + 2) = r := hd2
    have ih := hits_run hN l w s10 hn h0 hcb hc hes hle c (i + 2) (j + 1) (nxt last a b) (acc ++ [nxt last a b]) (by omega) (by rw [hd2']; omega) (by omega) (by omega) (by rw [n2]; split <;> omega) (by omega) (by rw [List.length_append, List.length_singleton]; omega)
    have ep : pH n es (c + 1) last (a :: b :: r) = (pH n es c (nxt last a b) r).map fun p => (nxt last a b :: p.1, p.2) := by
      conv => lhs; unfold pH
      rw [if_neg (fun h => by
        rcases h with h | h | h | h | h
        · exact h1 h
        · exact h2 h
        · exact c1 h
        · exact c2 h
        · exact c3 h)]
    rw [ih, hd2', ep]
    cases pH n es c (nxt last a b) r with
    | none => rfl
    | some p =>
      show ref4_WordsIndex_k10 l es w s10 0 0 (acc ++ [nxt last a b] ++ p.1) ((i + 2 + 2 * c : Nat) : Int) = ref4_WordsIndex_k10 l es w s10 0 0 (acc ++ nxt last a b :: p.1) ((i + 2 * (c + 1) : Nat) : Int)
      rw [List.append_assoc, show i + 2 + 2 * c = i + 2 * (c + 1) by omega]
      rfl
theorem word_run {ns : List Int} (hN : NS ns) (l : List Int) (es : HM) (s10 : Int) {s9 : Nat} {len : Nat} (hs : s9 < ns.length) (h9 : ns.getD s9 default = (len : Int)) : ∀ (c i : Nat) (acc : List UInt8), i + c = s9 + 1 + len → c ≤ (ns.drop i).length → acc.length + c ≤ 1000000 →
    run (ref4_WordsIndex_bl7 l es s10 (s9 : Int) ns) (acc, (i : Int)) = match pW c (ns.drop i) with
      | none => some (.inr (0, [], false))
      | some p => ref4_WordsIndex_k6 l es s10 (s9 : Int) ns (acc ++ p.1)
  | 0, i, acc, hi, _, hlen => by
    have hl := hN.len
    have := hN.pos (len : Int) (by rw [← h9, List.getD_eq_getElem?_getD, List.getElem?_eq_getElem hs]; exact List.getElem_mem hs)
    show _ = ref4_WordsIndex_k6 l es s10 (s9 : Int) ns (acc ++ [])
    rw [List.append_nil]
    refine run_inr ?_
    unfold ref4_WordsIndex_bl7
    simp only
    rw [chk_pos ⟨by omega, by omega⟩, Int.toNat_natCast, h9, chk_pos (by constructor <;> omega), if_neg (by omega)]
  | c + 1, i, acc, hi, hr, hlen => by
    have hl := hN.len
    have := hN.pos (len : Int) (by rw [← h9, List.getD_eq_getElem?_getD, List.getElem?_eq_getElem hs]; exact List.getElem_mem hs)
    have hex : ∃ a r, ns.drop i = a :: r := by
      cases e : ns.drop i with
      | nil => rw [e] at hr; simp at hr
      | cons a r1 => exact ⟨a, r1, rfl⟩
    obtain ⟨a, r, hd⟩ := hex
    obtain ⟨ga, hd1, i1⟩ := getD_drop hd
    have pa := hN.pos a (List.mem_of_mem_drop (by rw [hd]; simp))
    rw [hd] at hr ⊢
    rw [List.length_cons] at hr
    have ent : ∀ m, (if 256 < a then some (.inr (.inr (0, [], false))) else some (.inl (acc ++ [u8 (a - 1)], ((i + 1 : Nat) : Int)))) = m → ref4_WordsIndex_bl7 l es s10 (s9 : Int) ns (acc, (i : Int)) = m := fun m hm => by
      unfold ref4_WordsIndex_bl7
      simp only
      rw [chk_pos ⟨by omega, by omega⟩, Int.toNat_natCast, h9, chk_pos (by constructor <;> omega), if_pos (by omega), chk_pos ⟨by omega, by omega⟩, Int.toNat_natCast, ga]
      by_cases h1 : 256 < a
      · rw [if_pos h1] at hm ⊢
        exact hm
      · rw [if_neg h1] at hm ⊢
        rw [chk_pos ⟨by omega, by omega⟩, chk_pos (by constructor <;> omega), chk_pos (by rw [List.length_singleton]; constructor <;> omega), chk_pos (by constructor <;> omega)]
        exact hm
    by_cases h1 : 256 < a
    · rw [run_inr (m := some (Sum.inr (0, [], false))) (ent _ (by rw [if_pos h1]; rfl))]
      unfold pW
      rw [if_pos h1]
    · rw [run_inl (ent _ (by rw [if_neg h1])), word_run hN l es s10 hs h9 c (i + 1) (acc ++ [u8 (a - 1)]) (by omega) (by rw [hd1]; omega) (by rw [List.length_append, List.length_singleton]; omega), hd1]
      have ep : pW (c + 1) (a :: r) = (pW c r).map fun p => (u8 (a - 1) :: p.1, p.2) := by
        conv => lhs; unfold pW
        rw [if_neg h1]
      rw [ep]
      cases pW c r with
      | none => rfl
      | some p =>
        show ref4_WordsIndex_k6 l es s10 (s9 : Int) ns (acc ++ [u8 (a - 1)] ++ p.1) = ref4_WordsIndex_k6 l es s10 (s9 : Int) ns (acc ++ u8 (a - 1) :: p.1)
        rw [List.append_assoc]
        rfl
end Go.Proofs.YtdiieblgeaehpaaGreatDoor
namespace Go.L
open Go Go.Proofs.YtdiieblgeaehpaaGreatDoor
def okW (es : HM) (w : List UInt8) : Prop := (wds w).map Prod.fst = [w] ∧ ∀ L z, es = L ++ [z] → z.1 < w
noncomputable def pC (n : Int) (es : HM) (w : List UInt8) : List Int → Option ((List UInt8 × List Hit) × List Int)
  | [] => none
  | cnt :: r => if (r.length : Int) < 2 * cnt then none else (pH n es cnt.toNat (0, -1) r).map fun p => ((w, p.1), p.2)
open Classical in
noncomputable def pE (n : Int) (es : HM) : List Int → Option ((List UInt8 × List Hit) × List Int)
  | [] => none
  | len :: r => if (r.length : Int) ≤ len ∨ 2048 < len then none else (pW len.toNat r).bind fun p => if okW es p.1 then pC n es p.1 p.2 else none
theorem pC_cons (n : Int) (es : HM) (w : List UInt8) (cnt : Int) (r : List Int) : pC n es w (cnt :: r) = if (r.length : Int) < 2 * cnt then none else (pH n es cnt.toNat (0, -1) r).map fun p => ((w, p.1), p.2) := rfl
open Classical in
theorem pE_cons (n : Int) (es : HM) (len : Int) (r : List Int) : pE n es (len :: r) = if (r.length : Int) ≤ len ∨ 2048 < len then none else (pW len.toNat r).bind fun p => if okW es p.1 then pC n es p.1 p.2 else none := rfl
noncomputable def pEs (n : Int) : Nat → HM → List Int → Option HM
  | 0, es, _ => some es
  | k + 1, es, R => (pE n es R).bind fun p => pEs n k (es ++ [p.1]) p.2
theorem pE_ok {n : Int} {es : HM} {R R' : List Int} {e : List UInt8 × List Hit} (hR : ∀ x ∈ R, 1 ≤ x) (hl : R.length ≤ 131072) (hi : Inc (es.map Prod.fst)) (h : pE n es R = some (e, R')) :
    R = entN e ++ R' ∧ EW n e ∧ Inc ((es ++ [e]).map Prod.fst) ∧ ∀ h ∈ e.2, h ∉ es.flatMap Prod.snd := by
  cases R with
  | nil =>
    unfold pE at h
    cases h
  | cons len r =>
    have hlen := hR len (by simp)
    rw [pE_cons] at h
    split at h
    · cases h
    rename_i c1
    cases hq : pW len.toNat r with
    | none =>
      rw [hq] at h
      cases h
    | some p =>
      rw [hq, Option.bind_some] at h
      obtain ⟨k1, k2⟩ := pW_ok _ _ p.1 p.2 (fun x hx => hR x (by simp [hx])) hq
      split at h
      · rename_i hok
        obtain ⟨o1, o2⟩ := hok
        cases hp2 : p.2 with
        | nil =>
          rw [hp2] at h
          unfold pC at h
          cases h
        | cons cnt r2 =>
          rw [hp2] at h k1
          have hcnt := hR cnt (by rw [k1]; simp)
          rw [pC_cons] at h
          split at h
          · cases h
          rename_i c2
          cases hh : pH n es cnt.toNat (0, -1) r2 with
          | none =>
            rw [hh] at h
            cases h
          | some q =>
            rw [hh] at h
            cases h
            obtain ⟨q1, q2, q3, q4⟩ := pH_ok es _ (0, -1) r2 q.1 q.2 (fun x hx => hR x (by rw [k1]; simp [hx])) (by decide) (by decide) hh
            have hrl : r.length = p.1.length + 1 + r2.length := by
              rw [k1, List.length_append, List.length_map, List.length_cons]
              omega
            rw [List.length_cons] at hl
            have hw : Lw p.1 ∧ p.1 ≠ [] := by
              have : p.1 ∈ (wds p.1).map Prod.fst := by rw [o1]; exact List.mem_singleton_self _
              obtain ⟨x, hx, e⟩ := List.mem_map.1 this
              obtain ⟨o1, o2, _⟩ := wds_ok p.1 x hx
              rw [e] at o1 o2
              exact ⟨o1, o2⟩
            refine ⟨?_, ⟨hw.1, hw.2, by show p.1.length ≤ 2048; omega, ?_, by show q.1.length ≤ 1000000; omega, q2⟩, inc_snoc hi o2, q4⟩
            · show len :: r = (p.1.length : Int) :: (p.1.map byteN ++ ((q.1.length : Int) :: hitsN (0, -1) q.1)) ++ q.2
              rw [k1, q1, k2, q3, show ((len.toNat : Nat) : Int) = len by omega, show ((cnt.toNat : Nat) : Int) = cnt by omega]
              simp
            · intro e
              have e' : q.1 = [] := e
              rw [e'] at q3
              have q3' : 0 = cnt.toNat := q3
              omega
      · cases h
theorem inc_last {es : HM} {e : List UInt8 × List Hit} (h : Inc ((es ++ [e]).map Prod.fst)) : ∀ L z, es = L ++ [z] → z.1 < e.1 := fun L z hh => by
  subst hh
  rw [List.map_append, List.map_append, List.append_assoc] at h
  exact (List.pairwise_cons.1 (List.pairwise_append.1 h).2.1).1 e.1 (List.mem_singleton_self _)
theorem pE_form {n : Int} (hn : n ≤ 64) {es : HM} {e : List UInt8 × List Hit} (hE : EW n e) (hi : Inc ((es ++ [e]).map Prod.fst)) (hf : ∀ h ∈ e.2, h ∉ es.flatMap Prod.snd) (R : List Int) : pE n es (entN e ++ R) = some (e, R) := by
  obtain ⟨w, H⟩ := e
  obtain ⟨h1, h2, h3, h4, h5, h6⟩ := hE
  simp only at h1 h2 h3 h4 h5 h6 hf
  have k1 := pW_form w ((H.length : Int) :: (hitsN (0, -1) H ++ R))
  have k2 := pH_form hn es H (0, -1) R (by decide) (by decide) h6 hf
  have e1 : entN (w, H) ++ R = (w.length : Int) :: (w.map byteN ++ ((H.length : Int) :: (hitsN (0, -1) H ++ R))) := by
    unfold entN
    simp
  rw [e1, pE_cons, if_neg (by rw [List.length_append, List.length_map, List.length_cons]; omega), Int.toNat_natCast, k1, Option.bind_some, if_pos ⟨wds_one h1 h2, inc_last hi⟩, pC_cons, if_neg (by rw [List.length_append, hitsN_len]; omega), Int.toNat_natCast, k2]
  rfl
theorem pEs_form {n : Int} (hn : n ≤ 64) : ∀ (r es : HM), (∀ e ∈ r, EW n e) → Inc ((es ++ r).map Prod.fst) → ((es ++ r).flatMap Prod.snd).Nodup → pEs n r.length es (r.flatMap entN) = some (es ++ r)
  | [], es, _, _, _ => by rw [List.append_nil]; rfl
  | e :: r, es, hE, hi, hd => by
    have e1 : (es ++ [e]) ++ r = es ++ e :: r := by simp
    have k1 : Inc ((es ++ [e]).map Prod.fst) := by
      rw [← e1, List.map_append] at hi
      exact (List.pairwise_append.1 hi).1
    have hf : ∀ h ∈ e.2, h ∉ es.flatMap Prod.snd := fun h hh hm => by
      rw [List.flatMap_append, List.flatMap_cons] at hd
      exact (List.nodup_append.1 hd).2.2 h hm h (List.mem_append.2 (.inl hh)) rfl
    have ih := pEs_form hn r (es ++ [e]) (fun x hx => hE x (List.mem_cons_of_mem _ hx)) (by rw [e1]; exact hi) (by rw [e1]; exact hd)
    rw [e1] at ih
    show (pE n es ((e :: r).flatMap entN)).bind (fun p => pEs n r.length (es ++ [p.1]) p.2) = _
    rw [List.flatMap_cons, pE_form hn (hE e (List.mem_cons_self ..)) k1 hf, Option.bind_some]
    exact ih
theorem HW.after {n : Int} : ∀ (l : List Hit) (p : Hit), HW n p l → (∀ k ∈ l, p.1 < k.1 ∨ (p.1 = k.1 ∧ p.2 < k.2)) ∧ l.Nodup
  | [], _, _ => ⟨by simp, List.nodup_nil⟩
  | h :: r, p, hw => by
    obtain ⟨w1, w2, w3, w4, w5, w6⟩ := hw
    obtain ⟨k1, k2⟩ := HW.after r h w6
    have hp : p.1 < h.1 ∨ (p.1 = h.1 ∧ p.2 < h.2) := by
      rcases Int.lt_or_eq_of_le w1 with e | e
      · exact .inl e
      · exact .inr ⟨e, w3 e.symm⟩
    refine ⟨fun k hk => ?_, List.nodup_cons.2 ⟨fun hm => ?_, k2⟩⟩
    · rcases List.mem_cons.1 hk with rfl | hk
      · exact hp
      · have := k1 k hk
        omega
    · have := k1 h hm
      omega
theorem pEs_ok {n : Int} : ∀ (c : Nat) (es es' : HM) (R : List Int), (∀ x ∈ R, 1 ≤ x) → R.length ≤ 131072 → Inc (es.map Prod.fst) → (∀ e ∈ es, EW n e) → (es.flatMap Prod.snd).Nodup → pEs n c es R = some es' →
    Inc (es'.map Prod.fst) ∧ (∀ e ∈ es', EW n e) ∧ (es'.flatMap Prod.snd).Nodup ∧ es'.length = es.length + c ∧ (es'.flatMap entN).length ≤ (es.flatMap entN).length + R.length
  | 0, es, es', R, _, _, hi, hE, hd, h => by
    cases h
    exact ⟨hi, hE, hd, rfl, Nat.le_add_right _ _⟩
  | c + 1, es, es', R, hR, hl, hi, hE, hd, h => by
    have h' : (pE n es R).bind (fun p => pEs n c (es ++ [p.1]) p.2) = some es' := h
    cases hq : pE n es R with
    | none =>
      rw [hq] at h'
      cases h'
    | some p =>
      rw [hq, Option.bind_some] at h'
      obtain ⟨k1, k2, k3, k4⟩ := pE_ok (e := p.1) (R' := p.2) hR hl hi hq
      have hlen : R.length = (entN p.1).length + p.2.length := by rw [k1, List.length_append]
      obtain ⟨r1, r2, r3, r4, r5⟩ := pEs_ok c (es ++ [p.1]) es' p.2 (fun x hx => hR x (by rw [k1]; exact List.mem_append.2 (.inr hx))) (by omega) k3 (fun e he => by
        rcases List.mem_append.1 he with he | he
        · exact hE e he
        · rw [List.mem_singleton.1 he]
          exact k2) (by
        rw [List.flatMap_append, List.flatMap_cons, List.flatMap_nil, List.append_nil]
        exact List.nodup_append.2 ⟨hd, (k2.2.2.2.2.2.after p.1.2 (0, -1)).2, fun a ha b hb e => k4 b hb (e ▸ ha)⟩) h'
      rw [List.length_append, List.length_singleton] at r4
      rw [List.flatMap_append, List.flatMap_cons, List.flatMap_nil, List.append_nil, List.length_append] at r5
      exact ⟨r1, r2, r3, by omega, by omega⟩
end Go.L
