/- The law WordsMergeIsBuild, plainly. -/
import Derived.Test.YtdiieblgeaehpaaGreatDoorWdV
import Derived.Test.YtdiieblgeaehpaaGreatDoorMir
import Derived.Test.YtdiieblgeaehpaaGreatDoorP9MergeIsBuild
namespace Go.Proofs.YtdiieblgeaehpaaGreatDoor
open Go Go.L
/-- The numbers of a word's hits, as the reference writes them. -/
theorem entry4 {H : List Hit} (hl : H.length ≤ 1000000000) (hb : ∀ h ∈ H, HB h) : ∀ (r : List Hit) (j : Nat) (p : Hit) (l : List Int), H.drop j = r → l.length + 2 * r.length ≤ 5000000000 → (j = 0 → p = (0, -1)) → (∀ k, j = k + 1 → p = H.getD k default ∧ HB p) →
    run (ref4_entryForm_bl4 H) (l, (j : Int)) = some (l ++ hitsN p r)
  | [], j, p, l, hd, _, _, _ => by
    have hlen := len_drop hd
    refine run_inr ?_
    unfold ref4_entryForm_bl4 ref4_entryForm_k3 hitsN
    simp only
    rw [if_neg (by omega), List.append_nil]
  | h :: r, j, p, l, hd, hll, h0, hk => by
    obtain ⟨hg, hd', hlt⟩ := getD_drop hd
    have hh := hb h (List.mem_of_mem_drop (by rw [hd]; exact List.mem_cons_self ..))
    have hh' := hh
    unfold HB at hh
    have hrl : (h :: r).length = r.length + 1 := rfl
    have ih := entry4 hl hb r (j + 1) h
    have step : ∀ x y : Int, [x, y] ++ hitsN h r = hitsN p (h :: r) → ref4_entryForm_bl4 H (l, (j : Int)) = some (.inl (l ++ [x, y], ((j + 1 : Nat) : Int))) → run (ref4_entryForm_bl4 H) (l, (j : Int)) = some (l ++ hitsN p (h :: r)) := fun x y e1 e2 => by
      rw [run_inl e2, ih (l ++ [x, y]) hd' (by rw [List.length_append]; show l.length + 2 + _ ≤ _; omega) (by omega) (fun k e => ⟨by
        obtain rfl : k = j := by omega
        exact hg.symm, hh'⟩), List.append_assoc, e1]
    cases j with
    | zero =>
      have hp := h0 rfl
      subst hp
      refine step (h.1 + 1) (h.2 + 1) ?_ ?_
      · show _ = (if h.1 = (0 : Int) then [1, h.2 - (-1)] else [1 + h.1 - 0, h.2 + 1]) ++ hitsN h r
        congr 1
        split
        · rename_i e
          rw [e, Int.sub_neg]
          rfl
        · rw [Int.sub_zero, Int.add_comm]
      · unfold ref4_entryForm_bl4
        simp only
        rw [if_pos (by omega), if_pos (by rfl), chk_pos ⟨by omega, by omega⟩, Int.toNat_natCast, hg, chk_pos (by constructor <;> omega), chk_pos ⟨by omega, by omega⟩, chk_pos (by constructor <;> omega), chk_pos (by show Go.E.Cap 8 (l.length + 2); constructor <;> omega), chk_pos (by constructor <;> omega)]
        rfl
    | succ k =>
      obtain ⟨hp, hpb⟩ := hk k rfl
      unfold HB at hpb
      have e : (((k + 1 : Nat) : Int) - 1).toNat = k := by omega
      by_cases hq : h.1 = p.1
      · refine step 1 (h.2 - p.2) ?_ ?_
        · show _ = (if h.1 = p.1 then [1, h.2 - p.2] else [1 + h.1 - p.1, h.2 + 1]) ++ hitsN h r
          rw [if_pos hq]
        · unfold ref4_entryForm_bl4
          simp only
          rw [if_pos (by omega), if_neg (by omega), chk_pos ⟨by omega, by omega⟩, chk_pos (by constructor <;> omega), chk_pos ⟨by omega, by omega⟩, Int.toNat_natCast, e, hg, ← hp, if_pos hq, chk_pos ⟨by omega, by omega⟩, chk_pos (by constructor <;> omega), chk_pos ⟨by omega, by omega⟩, chk_pos (by constructor <;> omega), chk_pos (by show Go.E.Cap 8 (l.length + 2); constructor <;> omega), chk_pos (by constructor <;> omega)]
          rfl
      · refine step (h.1 - p.1 + 1) (h.2 + 1) ?_ ?_
        · show _ = (if h.1 = p.1 then [1, h.2 - p.2] else [1 + h.1 - p.1, h.2 + 1]) ++ hitsN h r
          rw [if_neg hq, show h.1 - p.1 + 1 = 1 + h.1 - p.1 by omega]
        · unfold ref4_entryForm_bl4
          simp only
          rw [if_pos (by omega), if_neg (by omega), chk_pos ⟨by omega, by omega⟩, chk_pos (by constructor <;> omega), chk_pos ⟨by omega, by omega⟩, Int.toNat_natCast, e, hg, ← hp, if_neg hq, chk_pos ⟨by omega, by omega⟩, chk_pos (by constructor <;> omega), chk_pos ⟨by omega, by omega⟩, chk_pos (by constructor <;> omega), chk_pos (by constructor <;> omega), chk_pos ⟨by omega, by omega⟩, chk_pos (by constructor <;> omega), chk_pos (by show Go.E.Cap 8 (l.length + 2); constructor <;> omega), chk_pos (by constructor <;> omega)]
          rfl
theorem entry_ref {w : List UInt8} {H : List Hit} (hw : w.length ≤ 1000000000) (hl : H.length ≤ 1000000000) (hb : ∀ h ∈ H, HB h) : ref4_entryForm w H = some (entN (w, H)) := by
  unfold ref4_entryForm ref4_entryForm_l2
  have key : ∀ (r : List UInt8) (i : Nat) (l : List Int), w.drop i = r → l.length + r.length ≤ 1 + w.length → run (ref4_entryForm_bl2 w H) (l, (i : Int)) = some (l ++ (r.map byteN ++ ((H.length : Int) :: hitsN (0, -1) H))) := by
    intro r
    induction r with
    | nil =>
      intro i l hd hll
      have hlen := len_drop hd
      have hll' : l.length ≤ 1 + w.length := hll
      have e := entry4 hl hb H 0 (0, -1) (l ++ [(H.length : Int)]) rfl (by rw [List.length_append]; show l.length + 1 + _ ≤ _; omega) (fun _ => rfl) (fun k e => by omega)
      rw [show ((0 : Nat) : Int) = 0 from rfl] at e
      refine run_inr ?_
      unfold ref4_entryForm_bl2 ref4_entryForm_k1 ref4_entryForm_l4
      simp only
      rw [if_neg (by omega), chk_pos (by show Go.E.Cap 8 (l.length + 1); constructor <;> omega), e, List.append_assoc]
      rfl
    | cons c r ih =>
      intro i l hd hll
      obtain ⟨hg, hd', hlt⟩ := getD_drop hd
      have hc := c.toNat_lt
      rw [List.length_cons] at hll
      have e1 : l ++ ((c :: r).map byteN ++ ((H.length : Int) :: hitsN (0, -1) H)) = (l ++ [byteN c]) ++ (r.map byteN ++ ((H.length : Int) :: hitsN (0, -1) H)) := by simp
      rw [e1, ← ih (i + 1) (l ++ [byteN c]) hd' (by rw [List.length_append]; show l.length + 1 + _ ≤ _; omega)]
      refine run_inl ?_
      unfold ref4_entryForm_bl2
      simp only
      rw [if_pos (by omega), chk_pos ⟨by omega, by omega⟩, Int.toNat_natCast, hg, chk_pos (by constructor <;> omega), chk_pos (by show Go.E.Cap 8 (l.length + 1); constructor <;> omega), chk_pos (by constructor <;> omega)]
      rfl
  have := key w 0 [(w.length : Int)] rfl (by show 1 + _ ≤ _; omega)
  rw [show ((0 : Nat) : Int) = 0 from rfl] at this
  rw [this]
  rfl
theorem len_gs : ∀ {l : List Int}, (∀ n ∈ l, 1 ≤ n) → l.length ≤ gs l
  | [], _ => Nat.zero_le _
  | n :: l, h => by
    have h1 := len_gs (l := l) (fun x hx => h x (List.mem_cons_of_mem _ hx))
    have h2 := h n (List.mem_cons_self ..)
    have h3 := gz_eq (n := n.toNat) (by omega)
    have h4 := blen_pos (n := n.toNat) (by omega)
    rw [gs_cons, List.length_cons]
    omega
/-- The vocabulary of items is that of their index. -/
theorem voc_E {items : List (List UInt8)} (hn : items.length ≤ 64) (ht : ∀ t ∈ items, t.length ≤ 2048) : ref4_Vocabulary items = some ((E items).map Prod.fst) := by
  obtain ⟨V, h1, h2, h3, _⟩ := ref_vocabulary hn ht
  rw [h1, inc_eq h2 (E_inc items) (fun x => by rw [h3, E_mem])]
theorem form_ref {items : List (List UInt8)} (hn : items.length ≤ 64) (ht : ∀ t ∈ items, t.length ≤ 2048) (hs : gs (numsI ((items.length : Int), E items)) ≤ 131072) : ∃ D, ref4_WordsForm items = some D ∧ Packed D (bitsX ((items.length : Int), E items)) := by
  have hx := XW_E hn ht hs
  have hlen : (numsI ((items.length : Int), E items)).length ≤ 131072 := Nat.le_trans (len_gs fun n h => (hx.nums n h).1) hs
  obtain ⟨D, d1, d2⟩ := gammas_ref _ hx.nums (by omega)
  refine ⟨D, ?_, d2⟩
  have hE := E_len items
  have hpf := pairs_fit hn ht
  have hEB := (nums_fit hn ht).2.2
  have hnl : (numsI ((items.length : Int), E items)).length = 2 + ((E items).flatMap entN).length := by
    show ((E items).flatMap entN).length + 1 + 1 = _
    omega
  unfold ref4_WordsForm
  rw [voc_E hn ht, Option.bind_some, chk_pos (by constructor <;> omega), chk_pos (by rw [List.length_map]; constructor <;> omega)]
  unfold ref4_WordsForm_l2
  have key : ∀ (r : HM) (i : Nat) (l : List Int), (E items).drop i = r → l.length + (r.flatMap entN).length ≤ 1000000 → run (ref4_WordsForm_bl2 items ((E items).map Prod.fst)) (l, (i : Int)) = ref4_WordsForm_k1 (l ++ r.flatMap entN) := by
    intro r
    induction r with
    | nil =>
      intro i l hd hll
      have hlen := len_drop hd
      refine run_inr ?_
      unfold ref4_WordsForm_bl2
      simp only
      rw [List.length_map, if_neg (by omega), List.flatMap_nil, List.append_nil]
    | cons e r ih =>
      intro i l hd hll
      obtain ⟨hg, hd', hlt⟩ := getD_drop hd
      have hmem : e ∈ E items := List.mem_of_mem_drop (by rw [hd]; exact List.mem_cons_self ..)
      have hV : ((E items).map Prod.fst).drop i = e.1 :: r.map Prod.fst := by rw [← List.map_drop, hd, List.map_cons]
      obtain ⟨hgV, _, _⟩ := getD_drop hV
      obtain ⟨b1, b2, b3⟩ := hEB e hmem
      rw [List.flatMap_cons, List.length_append] at hll
      rw [List.flatMap_cons, ← List.append_assoc, ← ih (i + 1) (l ++ entN e) hd' (by rw [List.length_append]; omega)]
      refine run_inl ?_
      unfold ref4_WordsForm_bl2
      simp only
      have ht1 : (((i : Int) + 1).toNat - (i : Int).toNat) = 1 := by omega
      rw [List.length_map, if_pos (by omega), chk_pos ⟨by omega, by omega⟩, chk_pos (by constructor <;> omega), chk_pos ⟨by omega, by omega, by omega⟩, ht1, Int.toNat_natCast, hV, hgV, show (e.1 :: r.map Prod.fst).take 1 = [e.1] from rfl, ref_hits hn (by simp) ht, Option.bind_some, hitsAll_one, ← E_hits hmem, entry_ref b1 b2 b3, show entN (e.1, e.2) = entN e from rfl, Option.bind_some, chk_pos (by constructor <;> omega), chk_pos (by constructor <;> omega)]
      rfl
  have := key (E items) 0 [(items.length : Int) + 1, ((E items).length : Int) + 1] rfl (by show 2 + _ ≤ _; omega)
  rw [show ((0 : Nat) : Int) = 0 from rfl] at this
  rw [List.length_map, this]
  unfold ref4_WordsForm_k1
  rw [show [(items.length : Int) + 1, ((E items).length : Int) + 1] ++ (E items).flatMap entN = numsI ((items.length : Int), E items) from rfl, d1]
  rfl
theorem total_some (items : List (List UInt8)) (hn : items.length ≤ 64) : ∃ t, ref3_Total items 200 = some t := by
  unfold ref3_Total ref3_Total_l2
  have key : ∀ (r : List (List UInt8)) (i s : Nat), items.drop i = r → s ≤ 400 → ∃ t, run (ref3_Total_bl2 items 200) ((s : Int), (i : Int)) = some t := by
    intro r
    induction r with
    | nil =>
      intro i s hd hs
      have hlen := len_drop hd
      by_cases h : 200 < s
      · refine ⟨201, run_inr ?_⟩
        unfold ref3_Total_bl2 ref3_Total_k1
        simp only
        rw [if_neg (by omega), if_pos (by omega), chk_pos (by constructor <;> omega)]
        rfl
      · refine ⟨(s : Int), run_inr ?_⟩
        unfold ref3_Total_bl2 ref3_Total_k1
        simp only
        rw [if_neg (by omega), if_neg (by omega)]
    | cons t r ih =>
      intro i s hd hs
      obtain ⟨hg, hd', hlt⟩ := getD_drop hd
      by_cases h : 200 < s
      · refine ⟨201, run_inr ?_⟩
        unfold ref3_Total_bl2 ref3_Total_k1
        simp only
        rw [if_neg (by omega), if_pos (by omega), chk_pos (by constructor <;> omega)]
        rfl
      · by_cases h1 : 200 < t.length
        · refine ⟨201, run_inr ?_⟩
          unfold ref3_Total_bl2
          simp only
          rw [if_pos ⟨by omega, by omega⟩, chk_pos ⟨by omega, by omega⟩, Int.toNat_natCast, hg, if_pos (by omega), chk_pos (by constructor <;> omega)]
          rfl
        · obtain ⟨x, hx⟩ := ih (i + 1) (s + t.length) hd' (by omega)
          refine ⟨x, ?_⟩
          rw [← hx]
          refine run_inl ?_
          unfold ref3_Total_bl2
          simp only
          rw [if_pos ⟨by omega, by omega⟩, chk_pos ⟨by omega, by omega⟩, Int.toNat_natCast, hg, if_neg (by omega), chk_pos ⟨by omega, by omega⟩, chk_pos (by constructor <;> omega), chk_pos (by constructor <;> omega)]
          rfl
  exact key items 0 0 rfl (by omega)
theorem tooLong_some : ∀ (i : Nat) (r : List (List UInt8)) (j : Nat), tooLong i r = some j → ¬ ∀ t ∈ r, t.length ≤ 2048
  | _, [], _, h => by cases h
  | i, x :: r, j, h => by
    unfold tooLong at h
    intro hall
    split at h
    · rename_i h1
      have := hall x (List.mem_cons_self ..)
      omega
    · exact tooLong_some (i + 1) r j h (fun t ht => hall t (List.mem_cons_of_mem _ ht))
theorem build_cases (items : List (List UInt8)) : (∃ f : Int × Int, words_Build items = some ((0, []), f) ∧ f.1 ≠ 0) ∨ (words_Build items = some (((items.length : Int), E items), (0, 0)) ∧ items.length ≤ 64 ∧ (∀ t ∈ items, t.length ≤ 2048) ∧ gs (numsI ((items.length : Int), E items)) ≤ 131072) := by
  by_cases hn : 64 < items.length
  · exact .inl ⟨(2, -1), by rw [build_all, if_pos hn], by decide⟩
  cases hl : tooLong 0 items with
  | some j => exact .inl ⟨(3, (j : Int)), by rw [build_all, if_neg hn, hl], by simp⟩
  | none =>
    have ht := tooLong_none 0 items hl
    by_cases hs : 131072 < gs (numsI ((items.length : Int), E items))
    · exact .inl ⟨(14, -1), by rw [build_ok (by omega) ht hl, if_pos hs], by decide⟩
    · exact .inr ⟨by rw [build_ok (by omega) ht hl, if_neg hs], by omega, ht, by omega⟩
theorem merge_law (a b : List (List UInt8)) : law4_WordsMergeIsBuild a b = some true := by
  unfold law4_WordsMergeIsBuild
  have hit : ∀ x : Int × HM, words_Index_Items x = some x.1 := fun _ => rfl
  rcases build_cases a with ⟨f, ha, hf⟩ | ⟨ha, an, at', as'⟩
  · rcases build_cases b with ⟨g, hb, _⟩ | ⟨hb, _⟩
    · rw [ha, Option.bind_some, hb, Option.bind_some, speaks_true, Option.bind_some, if_neg (by decide), if_neg hf, Option.bind_some, if_pos rfl, if_neg hf, hit, Option.bind_some]
      rfl
    · rw [ha, Option.bind_some, hb, Option.bind_some, speaks_true, Option.bind_some, if_neg (by decide), if_neg hf, Option.bind_some, if_pos rfl, if_neg hf, hit, Option.bind_some]
      rfl
  rcases build_cases b with ⟨g, hb, hg⟩ | ⟨hb, bn, bt, bs⟩
  · rw [ha, Option.bind_some, hb, Option.bind_some, speaks_true, Option.bind_some, if_neg (by decide), if_pos rfl, if_neg hg, Option.bind_some, if_pos rfl, if_pos rfl]
  rw [ha, Option.bind_some, hb, Option.bind_some, speaks_true, Option.bind_some, if_neg (by decide), if_pos rfl, if_pos rfl, List.nil_append, chk_pos (by show Go.E.Cap 24 (0 + a.length); constructor <;> omega), chk_pos (by constructor <;> omega)]
  simp only
  by_cases hab : 64 < (a ++ b).length
  · have hm : words_Merge ((a.length : Int), E a) ((b.length : Int), E b) = some ((0, []), (2, -1)) := by
      unfold words_Merge
      simp only
      rw [List.length_append] at hab
      rw [chk_pos (by constructor <;> omega), if_pos (by omega)]
      rfl
    rw [hm, Option.bind_some, build_all, if_pos hab, Option.bind_some, if_pos (by omega), at_eq, Option.bind_some, if_pos ⟨rfl, rfl⟩, hit, Option.bind_some]
    rfl
  have ht : ∀ t ∈ a ++ b, t.length ≤ 2048 := fun t h => by
    rcases List.mem_append.1 h with h | h
    · exact at' t h
    · exact bt t h
  have hl : tooLong 0 (a ++ b) = none := by
    cases e : tooLong 0 (a ++ b) with
    | none => rfl
    | some j => exact absurd ht (tooLong_some 0 _ j e)
  have hall : words_Build (a ++ b) = words_Build_k1 (a ++ b) ((pairs 0 (a ++ b)).foldl addH []) := by rw [build_all, if_neg hab, hl]
  rw [merge_build (by omega) at' bt, ← hall]
  rcases build_cases (a ++ b) with ⟨f, hc, hf⟩ | ⟨hc, cn, ct, cs⟩
  · rw [hc, Option.bind_some, Option.bind_some, if_neg (by omega), if_pos ⟨rfl, rfl⟩, if_neg hf, if_pos ⟨rfl, rfl⟩, hit, Option.bind_some]
    rfl
  · obtain ⟨D, d1, d2, _⟩ := bytes_eq (XW_E cn ct cs)
    obtain ⟨D', e1, e2⟩ := form_ref cn ct cs
    obtain ⟨t, e3⟩ := total_some (a ++ b) cn
    have same : ∀ l : List UInt8, ref3_SameBytes l l = some true := fun l => by
      unfold ref3_SameBytes
      rw [decide_eq_true rfl]
    rw [hc, Option.bind_some, Option.bind_some, if_neg (by omega), if_pos ⟨rfl, rfl⟩, if_pos rfl, hit, Option.bind_some, if_pos rfl]
    simp only
    rw [d1, Option.bind_some, Option.bind_some, same, Option.bind_some, if_pos rfl, e3, Option.bind_some]
    split
    · rfl
    · rw [Option.bind_some, e1, Option.bind_some, packed_one e2 d2, same, Option.bind_some]
      rfl
end Go.Proofs.YtdiieblgeaehpaaGreatDoor
