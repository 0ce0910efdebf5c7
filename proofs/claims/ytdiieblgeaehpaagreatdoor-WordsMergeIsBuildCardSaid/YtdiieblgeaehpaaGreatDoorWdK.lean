/- The index that Build makes: its entries, the size of its form. -/
import Derived.Test.YtdiieblgeaehpaaGreatDoorWdN
import Derived.Test.YtdiieblgeaehpaaGreatDoorWdJ
import Derived.Test.YtdiieblgeaehpaaGreatDoorWdH
namespace Go.L
open Go Go.Proofs.YtdiieblgeaehpaaGreatDoor
/-- The entries of the index of items. -/
def E (items : List (List UInt8)) : HM := ents ((pairs 0 items).foldl addH [])
theorem E_keys (items : List (List UInt8)) : (E items).map Prod.fst = (((pairs 0 items).foldl addH []).map Prod.fst).mergeSort leB := ents_keys _
theorem E_inc (items : List (List UInt8)) : Inc ((E items).map Prod.fst) := by
  rw [E_keys]
  exact sort_inc (add_nodup _ [] List.nodup_nil)
theorem E_mem (items : List (List UInt8)) (k : List UInt8) : k ∈ (E items).map Prod.fst ↔ k ∈ (pairs 0 items).map Prod.fst := by
  rw [E_keys, (List.mergeSort_perm _ _).mem_iff, add_keys]
  simp
theorem E_get (items : List (List UInt8)) (w : List UInt8) : mget [] w (E items) = hitsIn (pairs 0 items) w := by
  unfold E
  rw [ents_get, add_get]
  rfl
theorem E_hits {items : List (List UInt8)} {e : List UInt8 × List Hit} (h : e ∈ E items) : e.2 = hitsIn (pairs 0 items) e.1 := by
  unfold E ents at h
  obtain ⟨k, _, rfl⟩ := List.mem_map.1 h
  simp only
  rw [add_get]
  rfl
theorem mput_len (k : List UInt8) (y : List Hit) : ∀ M : HM, (mput k y M).length ≤ M.length + 1
  | [] => by simp [mput]
  | (a, z) :: l => by
    unfold mput
    split
    · simp
    · have := mput_len k y l
      simp only [List.length_cons]
      omega
theorem add_len : ∀ (P : List (List UInt8 × Hit)) (M : HM), (P.foldl addH M).length ≤ M.length + P.length
  | [], M => by simp
  | p :: P, M => by
    rw [List.foldl_cons, List.length_cons]
    have h1 := add_len P (addH M p)
    have h2 : (addH M p).length ≤ M.length + 1 := mput_len _ _ M
    omega
theorem E_len (items : List (List UInt8)) : (E items).length ≤ (pairs 0 items).length := by
  unfold E
  rw [ents_len]
  have := add_len (pairs 0 items) []
  rw [List.length_nil] at this
  omega
theorem mem_pairsAt {i : Int} {l : List W} {p : List UInt8 × Hit} (h : p ∈ pairsAt i l) : p.2.1 = i ∧ 0 ≤ p.2.2 ∧ p.2.2 < (l.length : Int) ∧ ∃ w ∈ l, w.1 = p.1 := by
  rw [pairsAt_range] at h
  obtain ⟨k, hk, rfl⟩ := List.mem_map.1 h
  rw [List.mem_range] at hk
  refine ⟨rfl, by simp only; omega, by simp only; omega, l.getD k default, ?_, rfl⟩
  rw [List.getD_eq_getElem?_getD, List.getElem?_eq_getElem hk]
  exact List.getElem_mem _
theorem mem_pairs_ok : ∀ (i : Nat) (r : List (List UInt8)) (m : Nat), (∀ t ∈ r, t.length ≤ m) → ∀ p ∈ pairs i r, (i : Int) ≤ p.2.1 ∧ p.2.1 < ((i + r.length : Nat) : Int) ∧ 0 ≤ p.2.2 ∧ p.2.2 ≤ (m : Int) ∧ p.1 ≠ [] ∧ p.1.length ≤ m
  | _, [], _, _, p, hp => by cases hp
  | i, t :: r, m, h, p, hp => by
    unfold pairs at hp
    rcases List.mem_append.1 hp with hp | hp
    · obtain ⟨h1, h2, h3, w, h4, h5⟩ := mem_pairsAt hp
      have h6 := wds_ok t w h4
      have h7 := wds_text t w h4
      have h8 := wds_len t
      have h9 := h t (List.mem_cons_self ..)
      rw [List.length_cons]
      exact ⟨by omega, by omega, h2, by omega, h5 ▸ h6.2.1, h5 ▸ (by omega)⟩
    · have := mem_pairs_ok (i + 1) r m (fun x hx => h x (List.mem_cons_of_mem _ hx)) p hp
      rw [List.length_cons]
      exact ⟨by omega, by omega, this.2.2⟩
theorem mem_hitsIn {P : List (List UInt8 × Hit)} {w : List UInt8} {h : Hit} : h ∈ hitsIn P w ↔ (w, h) ∈ P := by
  unfold hitsIn
  rw [List.mem_map]
  constructor
  · rintro ⟨p, hp, rfl⟩
    rw [List.mem_filter] at hp
    obtain ⟨h1, h2⟩ := hp
    have h2 := of_decide_eq_true h2
    rw [← h2]
    exact h1
  · intro h1
    exact ⟨(w, h), List.mem_filter.2 ⟨h1, decide_eq_true rfl⟩, rfl⟩
/-- The bounds of an entry of an index of items. -/
theorem E_ok {items : List (List UInt8)} (hn : items.length ≤ 64) {m : Nat} (ht : ∀ t ∈ items, t.length ≤ m) {e : List UInt8 × List Hit} (h : e ∈ E items) :
    e.1 ≠ [] ∧ e.1.length ≤ m ∧ e.2.length ≤ (pairs 0 items).length ∧ ∀ x ∈ e.2, 0 ≤ x.1 ∧ x.1 ≤ 63 ∧ 0 ≤ x.2 ∧ x.2 ≤ (m : Int) := by
  have hk : e.1 ∈ (pairs 0 items).map Prod.fst := (E_mem items e.1).1 (List.mem_map_of_mem h)
  obtain ⟨p, hp, hpe⟩ := List.mem_map.1 hk
  have h1 := mem_pairs_ok 0 items m ht p hp
  rw [hpe] at h1
  refine ⟨h1.2.2.2.2.1, h1.2.2.2.2.2, ?_, fun x hx => ?_⟩
  · rw [E_hits h]; exact hitsIn_len _ _
  · rw [E_hits h, mem_hitsIn] at hx
    have h2 := mem_pairs_ok 0 items m ht _ hx
    simp only at h2
    exact ⟨by omega, by omega, h2.2.2.1, h2.2.2.2.1⟩
/-- The size of the codes of numbers. -/
def gs (l : List Int) : Nat := (l.map fun n => gz n.toNat).sum
theorem gs_cons (n : Int) (l : List Int) : gs (n :: l) = gz n.toNat + gs l := by simp [gs]
theorem gs_app (l r : List Int) : gs (l ++ r) = gs l + gs r := by simp [gs]
theorem gs_le {b : Nat} : ∀ {l : List Int}, (∀ n ∈ l, gz n.toNat ≤ b) → gs l ≤ l.length * b
  | [], _ => by simp [gs]
  | n :: l, h => by
    rw [gs_cons, List.length_cons, Nat.succ_mul]
    have h1 := h n (List.mem_cons_self ..)
    have h2 := gs_le (l := l) (fun x hx => h x (List.mem_cons_of_mem _ hx))
    omega
theorem hitsN_le {m : Int} (hm : 0 ≤ m) : ∀ (p : Hit) (l : List Hit), 0 ≤ p.1 → -1 ≤ p.2 → (∀ x ∈ l, 0 ≤ x.1 ∧ x.1 ≤ 63 ∧ 0 ≤ x.2 ∧ x.2 ≤ m) → ∀ n ∈ hitsN p l, n ≤ m + 64
  | _, [], _, _, _, n, hn => by cases hn
  | p, h :: r, h1, h2, hl, n, hn => by
    obtain ⟨a1, a2, a3, a4⟩ := hl h (List.mem_cons_self ..)
    unfold hitsN at hn
    rcases List.mem_append.1 hn with hn | hn
    · split at hn
      · simp only [List.mem_cons, List.not_mem_nil, or_false] at hn
        omega
      · simp only [List.mem_cons, List.not_mem_nil, or_false] at hn
        omega
    · exact hitsN_le hm h r a1 (by omega) (fun x hx => hl x (List.mem_cons_of_mem _ hx)) n hn
theorem hitsN_len : ∀ (p : Hit) (l : List Hit), (hitsN p l).length = 2 * l.length
  | _, [] => rfl
  | p, h :: r => by
    unfold hitsN
    rw [List.length_append, hitsN_len h r, List.length_cons]
    split <;> simp <;> omega
theorem flat_len {e : HM} {b : Nat} : (∀ x ∈ e, (entN x).length ≤ b) → (e.flatMap entN).length ≤ e.length * b := by
  induction e with
  | nil => intro _; simp
  | cons x e ih =>
    intro h
    rw [List.flatMap_cons, List.length_append, List.length_cons, Nat.succ_mul]
    have h1 := h x (List.mem_cons_self ..)
    have h2 := ih (fun y hy => h y (List.mem_cons_of_mem _ hy))
    omega
end Go.L
namespace Go.Proofs.YtdiieblgeaehpaaGreatDoor
open Go Go.L
theorem gamma_int {n : Int} (hn : n < 16777216) : bits_GammaSize n = some ((gz n.toNat : Nat) : Int) := by
  by_cases h : 0 ≤ n
  · obtain ⟨k, rfl⟩ := Int.eq_ofNat_of_zero_le h
    rw [Int.toNat_natCast]
    exact gamma_eq (by omega)
  · unfold bits_GammaSize
    rw [if_pos (by omega), Int.toNat_of_nonpos (by omega)]
    rfl
theorem gz_max {n : Int} (hn : n < 16777216) : gz n.toNat ≤ 47 := gz_le (k := 24) (by omega) (by decide)
theorem build1_eq {n : Int} (hn : n < 16777216) {c : Int} (h0 : 0 ≤ c) (h1 : c ≤ 1000000000000000000) : words_build_1 n c = some (c + ((gz n.toNat : Nat) : Int)) := by
  unfold words_build_1
  have := gz_max hn
  rw [gamma_int hn, Option.bind_some, chk_pos (by constructor <;> omega)]
theorem fm_sizes : ∀ (l : List Int) (c : Int), (∀ n ∈ l, n < 16777216) → 0 ≤ c → c + (gs l : Int) ≤ 1000000000000000000 → fm words_build_1 l c = some (c + (gs l : Int))
  | [], c, _, _, _ => by
    show some c = _
    congr 1
    have : gs [] = 0 := rfl
    omega
  | n :: l, c, h, h0, h1 => by
    rw [gs_cons] at h1 ⊢
    show (words_build_1 n c).bind (fm words_build_1 l) = _
    rw [build1_eq (h n (List.mem_cons_self ..)) h0 (by omega), Option.bind_some, fm_sizes l _ (fun x hx => h x (List.mem_cons_of_mem _ hx)) (by omega) (by omega)]
    congr 1
    omega
theorem pairs_fit {items : List (List UInt8)} (hn : items.length ≤ 64) (ht : ∀ t ∈ items, t.length ≤ 2048) : (pairs 0 items).length ≤ 131136 := by
  have h1 := pairs_len 0 items ht
  omega
theorem nums_fit {items : List (List UInt8)} (hn : items.length ≤ 64) (ht : ∀ t ∈ items, t.length ≤ 2048) : (∀ n ∈ numsI ((items.length : Int), E items), n < 16777216) ∧ gs (numsI ((items.length : Int), E items)) ≤ 1000000000000000 ∧ ∀ e ∈ E items, EB e := by
  have hp := pairs_fit hn ht
  have he := E_len items
  have h1 : ∀ e ∈ E items, (∀ n ∈ entN e, n < 16777216) ∧ (entN e).length ≤ 300000 ∧ EB e := fun e h => by
    obtain ⟨_, a2, a3, a4⟩ := E_ok hn ht h
    refine ⟨fun n hn' => ?_, ?_, ?_⟩
    · unfold entN at hn'
      rcases List.mem_cons.1 hn' with rfl | hn'
      · omega
      rcases List.mem_append.1 hn' with hn' | hn'
      · obtain ⟨b, _, rfl⟩ := List.mem_map.1 hn'
        have := b.toNat_lt
        unfold byteN
        omega
      rcases List.mem_cons.1 hn' with rfl | hn'
      · omega
      · have := hitsN_le (m := 2048) (by decide) (0, -1) e.2 (by decide) (by decide) a4 n hn'
        omega
    · unfold entN
      rw [List.length_cons, List.length_append, List.length_map, List.length_cons, hitsN_len]
      omega
    · exact ⟨by omega, by omega, fun x hx => by have := a4 x hx; exact ⟨by omega, by omega, by omega, by omega⟩⟩
  have h2 : ∀ n ∈ numsI ((items.length : Int), E items), n < 16777216 := fun n hn' => by
    unfold numsI at hn'
    simp only at hn'
    rcases List.mem_cons.1 hn' with rfl | hn'
    · omega
    rcases List.mem_cons.1 hn' with rfl | hn'
    · omega
    · obtain ⟨e, he1, he2⟩ := List.mem_flatMap.1 hn'
      exact (h1 e he1).1 n he2
  refine ⟨h2, ?_, fun e h => (h1 e h).2.2⟩
  have h3 := gs_le (b := 47) (fun n hn' => gz_max (h2 n hn'))
  have h4 : (numsI ((items.length : Int), E items)).length ≤ 2 + (E items).length * 300000 := by
    unfold numsI
    have := flat_len (e := E items) (b := 300000) (fun x hx => (h1 x hx).2.1)
    simp only [List.length_cons]
    omega
  omega
/-- Build, whole: the fault of the items, or one for the size of the form, or the index. -/
theorem build_ok {items : List (List UInt8)} (hn : items.length ≤ 64) (ht : ∀ t ∈ items, t.length ≤ 2048) (hl : tooLong 0 items = none) :
    words_Build items = if 131072 < gs (numsI ((items.length : Int), E items)) then some ((0, []), (14, -1)) else some (((items.length : Int), E items), (0, 0)) := by
  have hp := pairs_fit hn ht
  obtain ⟨h1, h2, h3⟩ := nums_fit hn ht
  have he := E_len items
  have hm := add_len (pairs 0 items) []
  rw [List.length_nil] at hm
  rw [build_all, if_neg (by omega), hl]
  simp only
  unfold words_Build_k1
  rw [build_ents _ _ ⟨add_nodup _ [] List.nodup_nil, fun x hx => ?_, by omega⟩ (by omega)]
  · unfold words_build_k1
    have e0 : ents ((pairs 0 items).foldl addH []) = E items := rfl
    rw [e0, nsz_eq (a := ((items.length : Int), E items)) ⟨by simp only; omega, by simp only; omega⟩ (by simp only; omega) h3, fm_sizes _ _ h1 (by omega) (by omega), Option.bind_some, Int.zero_add]
    by_cases h : 131072 < gs (numsI ((items.length : Int), E items))
    · rw [if_pos (by omega), if_pos h]; rfl
    · rw [if_neg (by omega), if_neg h]; rfl
  · rw [add_keys] at hx
    have := pairs_text 0 items ht x (hx.resolve_left (by simp))
    unfold maxLen
    omega
/-- The bytes of all items. -/
def total (items : List (List UInt8)) : Nat := (items.map List.length).sum
theorem total_eq (items : List (List UInt8)) (hn : items.length ≤ 64) : ref3_Total items 1000 = some (if 1000 < total items then 1001 else (total items : Int)) := by
  unfold ref3_Total ref3_Total_l2
  have key : ∀ (r : List (List UInt8)) (i s : Nat), items.drop i = r → s ≤ 2000 → run (ref3_Total_bl2 items 1000) ((s : Int), (i : Int)) = some (if 1000 < s + total r then 1001 else ((s + total r : Nat) : Int)) := by
    intro r
    induction r with
    | nil =>
      intro i s hd hs
      have hlen := len_drop hd
      refine run_inr ?_
      unfold ref3_Total_bl2 ref3_Total_k1
      have : total [] = 0 := rfl
      rw [this, Nat.add_zero]
      simp only
      rw [if_neg (by omega)]
      by_cases h : 1000 < s
      · rw [if_pos (by omega), if_pos h, chk_pos (by constructor <;> omega)]; rfl
      · rw [if_neg (by omega), if_neg h]
    | cons t r ih =>
      intro i s hd hs
      obtain ⟨hg, hd', hlt⟩ := getD_drop hd
      have ht : total (t :: r) = t.length + total r := by simp [total]
      rw [ht]
      by_cases h : 1000 < s
      · refine run_inr ?_
        unfold ref3_Total_bl2 ref3_Total_k1
        simp only
        rw [if_neg (by omega), if_pos (by omega), if_pos (by omega), chk_pos (by constructor <;> omega)]
        rfl
      · by_cases h1 : 1000 < t.length
        · refine run_inr ?_
          unfold ref3_Total_bl2
          simp only
          rw [if_pos ⟨by omega, by omega⟩, chk_pos ⟨by omega, by omega⟩, Int.toNat_natCast, hg, if_pos (by omega), if_pos (by omega), chk_pos (by constructor <;> omega)]
          rfl
        · rw [← Nat.add_assoc, ← ih (i + 1) (s + t.length) hd' (by omega)]
          refine run_inl ?_
          unfold ref3_Total_bl2
          simp only
          rw [if_pos ⟨by omega, by omega⟩, chk_pos ⟨by omega, by omega⟩, Int.toNat_natCast, hg, if_neg (by omega), chk_pos ⟨by omega, by omega⟩, chk_pos (by constructor <;> omega), chk_pos (by constructor <;> omega)]
          rfl
  have := key items 0 0 rfl (by omega)
  rw [Nat.zero_add] at this
  exact this
end Go.Proofs.YtdiieblgeaehpaaGreatDoor
namespace Go.L
open Go Go.Proofs.YtdiieblgeaehpaaGreatDoor
theorem total_mem {t : List UInt8} : ∀ {items : List (List UInt8)}, t ∈ items → t.length ≤ total items
  | [], h => by cases h
  | x :: r, h => by
    have e : total (x :: r) = x.length + total r := by simp [total]
    rcases List.mem_cons.1 h with rfl | h
    · omega
    · have := total_mem h
      omega
theorem fin_sum (cur : List UInt8) (fr at' : Nat) : ((fin cur fr at').map fun w => w.1.length).sum ≤ cur.length := by
  unfold fin
  split <;> simp
theorem spl_sum {a : List UInt8} : ∀ (f at' : Nat) (cur : List UInt8) (fr : Nat), at' ≤ a.length → ((spl a f at' cur fr).map fun w => w.1.length).sum + at' ≤ cur.length + a.length
  | 0, at', cur, fr, h => by
    have := fin_sum cur fr at'
    unfold spl
    omega
  | f + 1, at', cur, fr, h => by
    unfold spl
    have h0 := fin_sum cur fr at'
    split
    · rename_i h1
      split
      · rw [List.map_append, List.sum_append]
        have := spl_sum (a := a) f (at' + 1) [] (at' + 1) (by omega)
        rw [List.length_nil] at this
        omega
      · have := spl_sum (a := a) f (at' + ltr (a.drop at')) (cur ++ ((a.drop at').take (ltr (a.drop at'))).map lowb) fr (ltr_room h1)
        rw [List.length_append, low_len h1] at this
        omega
    · omega
theorem wds_sum (a : List UInt8) : ((wds a).map fun w => w.1.length).sum ≤ a.length := by
  have := spl_sum (a := a) (a.length + 1) 0 [] 0 (Nat.zero_le _)
  rw [List.length_nil] at this
  unfold wds
  omega
theorem pairs_sum : ∀ (i : Nat) (r : List (List UInt8)), ((pairs i r).map fun p => p.1.length).sum ≤ total r
  | _, [] => by simp [pairs, total]
  | i, t :: r => by
    have h1 := pairs_sum (i + 1) r
    have h2 := wds_sum t
    have h3 : ((pairsAt (i : Int) (wds t)).map fun p => p.1.length) = (wds t).map fun w => w.1.length := by
      have h4 := congrArg (List.map List.length) (pairsAt_keys (i : Int) (wds t))
      rw [List.map_map, List.map_map] at h4
      exact h4
    have h5 : total (t :: r) = t.length + total r := by simp [total]
    unfold pairs
    rw [List.map_append, List.sum_append, h3, h5]
    omega
theorem sum_pos_len {α : Type} {f : α → Nat} : ∀ {l : List α}, (∀ x ∈ l, 1 ≤ f x) → l.length ≤ (l.map f).sum
  | [], _ => by simp
  | x :: l, h => by
    rw [List.map_cons, List.sum_cons, List.length_cons]
    have h1 := h x (List.mem_cons_self ..)
    have h2 := sum_pos_len (l := l) (fun y hy => h y (List.mem_cons_of_mem _ hy))
    omega
/-- A weight of entries: an upper bound for the sizes of their codes. -/
def wt (M : HM) : Nat := (M.map fun e => 38 + 17 * e.1.length + 32 * e.2.length).sum
theorem wt_put (k : List UInt8) (y : List Hit) : ∀ M : HM, y.length ≤ (mget [] k M).length + 1 → wt (mput k y M) ≤ wt M + 70 + 17 * k.length
  | [], h => by
    simp only [mget, List.length_nil] at h
    simp [wt, mput]
    omega
  | (a, z) :: l, h => by
    unfold mput
    by_cases hk : k = a
    · rw [if_pos hk]
      simp only [mget] at h
      rw [if_pos hk] at h
      simp only [wt, List.map_cons, List.sum_cons]
      omega
    · rw [if_neg hk]
      simp only [mget] at h
      rw [if_neg hk] at h
      have := wt_put k y l h
      simp only [wt, List.map_cons, List.sum_cons] at this ⊢
      omega
theorem wt_fold : ∀ (P : List (List UInt8 × Hit)) (M : HM), wt (P.foldl addH M) ≤ wt M + (P.map fun p => 70 + 17 * p.1.length).sum
  | [], M => by simp
  | p :: P, M => by
    rw [List.foldl_cons, List.map_cons, List.sum_cons]
    have h1 := wt_fold P (addH M p)
    have h2 : wt (addH M p) ≤ wt M + 70 + 17 * p.1.length := wt_put p.1 _ M (by simp)
    omega
theorem mget_of_mem : ∀ (M : HM), (M.map Prod.fst).Nodup → ∀ e ∈ M, mget [] e.1 M = e.2
  | [], _, e, h => by cases h
  | (a, z) :: l, hnd, e, h => by
    rw [List.map_cons, List.nodup_cons] at hnd
    rcases List.mem_cons.1 h with rfl | h
    · show (if a = a then z else _) = z
      rw [if_pos rfl]
    · have hm : e.1 ∈ l.map Prod.fst := List.mem_map_of_mem h
      have : e.1 ≠ a := fun x => hnd.1 (by rw [x] at hm; exact hm)
      show (if e.1 = a then z else mget [] e.1 l) = e.2
      rw [if_neg this]
      exact mget_of_mem l hnd.2 e h
theorem ents_perm {M : HM} (h : (M.map Prod.fst).Nodup) : (ents M).Perm M := by
  have h1 : (ents M).Perm ((M.map Prod.fst).map fun k => (k, mget [] k M)) := (List.mergeSort_perm _ _).map _
  rw [List.map_map] at h1
  have h2 : M.map ((fun k => (k, mget [] k M)) ∘ Prod.fst) = M := by
    conv => rhs; rw [← List.map_id M]
    exact List.map_congr_left fun e he => by
      show (e.1, mget [] e.1 M) = e
      rw [mget_of_mem M h e he]
  rw [h2] at h1
  exact h1
theorem wt_E (items : List (List UInt8)) : wt (E items) ≤ 87 * total items := by
  have h1 : wt (E items) = wt ((pairs 0 items).foldl addH []) := (List.Perm.map _ (ents_perm (add_nodup _ [] List.nodup_nil))).sum_nat
  have h2 := wt_fold (pairs 0 items) []
  have h3 := pairs_sum 0 items
  have h4 : ∀ P : List (List UInt8 × Hit), (∀ p ∈ P, p.1 ≠ []) → (P.map fun p => 70 + 17 * p.1.length).sum ≤ 87 * (P.map fun p => p.1.length).sum := fun P => by
    induction P with
    | nil => intro _; simp
    | cons p P ih =>
      intro h
      have h5 := ih (fun q hq => h q (List.mem_cons_of_mem _ hq))
      have h6 := List.length_pos_iff.2 (h p (List.mem_cons_self ..))
      rw [List.map_cons, List.sum_cons, List.map_cons, List.sum_cons]
      omega
  have h5 := h4 (pairs 0 items) (fun p hp => (mem_pairs_ok 0 items (total items) (fun t ht => total_mem ht) p hp).2.2.2.2.1)
  have h6 : wt [] = 0 := rfl
  omega
theorem gs_ent {e : List UInt8 × List Hit} (h1 : e.1.length ≤ 1000) (h2 : e.2.length ≤ 1000) (h3 : ∀ x ∈ e.2, 0 ≤ x.1 ∧ x.1 ≤ 63 ∧ 0 ≤ x.2 ∧ x.2 ≤ 1000) : gs (entN e) ≤ 38 + 17 * e.1.length + 32 * e.2.length := by
  unfold entN
  rw [gs_cons, gs_app, gs_cons]
  have a1 : gz (e.1.length : Int).toNat ≤ 19 := gz_le (k := 10) (by omega) (by decide)
  have a2 : gz (e.2.length : Int).toNat ≤ 19 := gz_le (k := 10) (by omega) (by decide)
  have a3 := gs_le (b := 17) (l := e.1.map byteN) (fun n hn => by
    obtain ⟨b, _, rfl⟩ := List.mem_map.1 hn
    have := b.toNat_lt
    unfold byteN
    exact gz_le (k := 9) (by omega) (by decide))
  rw [List.length_map] at a3
  have a4 : ∀ (l : List Hit) (p : Hit), 0 ≤ p.1 → -1 ≤ p.2 → (∀ x ∈ l, 0 ≤ x.1 ∧ x.1 ≤ 63 ∧ 0 ≤ x.2 ∧ x.2 ≤ 1000) → gs (hitsN p l) ≤ 32 * l.length := by
    intro l
    induction l with
    | nil => intro p _ _ _; simp [hitsN, gs]
    | cons h r ih =>
      intro p p1 p2 hl
      obtain ⟨b1, b2, b3, b4⟩ := hl h (List.mem_cons_self ..)
      have := ih h b1 (by omega) (fun x hx => hl x (List.mem_cons_of_mem _ hx))
      unfold hitsN
      rw [gs_app, List.length_cons]
      have : gs (if h.1 = p.1 then [1, h.2 - p.2] else [1 + h.1 - p.1, h.2 + 1]) ≤ 32 := by
        split
        · have c1 : gz (1 : Int).toNat ≤ 13 := gz_le (k := 7) (by omega) (by decide)
          have c2 : gz (h.2 - p.2).toNat ≤ 19 := gz_le (k := 10) (by omega) (by decide)
          rw [gs_cons, gs_cons]
          have : gs [] = 0 := rfl
          omega
        · have c1 : gz (1 + h.1 - p.1).toNat ≤ 13 := gz_le (k := 7) (by omega) (by decide)
          have c2 : gz (h.2 + 1).toNat ≤ 19 := gz_le (k := 10) (by omega) (by decide)
          rw [gs_cons, gs_cons]
          have : gs [] = 0 := rfl
          omega
      omega
  have a5 := a4 e.2 (0, -1) (by decide) (by decide) h3
  omega
/-- The form of an index of at most 1000 bytes is short enough. -/
theorem small_fits {items : List (List UInt8)} (hn : items.length ≤ 64) (ht : total items ≤ 1000) : gs (numsI ((items.length : Int), E items)) ≤ 131072 := by
  have h1 := wt_E items
  have hle : ∀ t ∈ items, t.length ≤ 1000 := fun t h => Nat.le_trans (total_mem h) ht
  have hp : (pairs 0 items).length ≤ 1000 := by
    have h2 := pairs_sum 0 items
    have h3 := sum_pos_len (f := fun p : List UInt8 × Hit => p.1.length) (l := pairs 0 items) (fun p hp => List.length_pos_iff.2 (mem_pairs_ok 0 items 1000 hle p hp).2.2.2.2.1)
    omega
  have he := E_len items
  unfold numsI
  rw [gs_cons, gs_cons]
  simp only
  have a1 : gz ((items.length : Int) + 1).toNat ≤ 13 := gz_le (k := 7) (by omega) (by decide)
  have a2 : gz (((E items).length : Int) + 1).toNat ≤ 19 := gz_le (k := 10) (by omega) (by decide)
  have a3 : ∀ M : HM, (∀ e ∈ M, e ∈ E items) → gs (M.flatMap entN) ≤ wt M := fun M => by
    induction M with
    | nil => intro _; simp [gs, wt]
    | cons e M ih =>
      intro h
      obtain ⟨_, b2, b3, b4⟩ := E_ok hn hle (h e (List.mem_cons_self ..))
      have h4 := gs_ent (e := e) b2 (by omega) b4
      have h5 := ih (fun x hx => h x (List.mem_cons_of_mem _ hx))
      rw [List.flatMap_cons, gs_app]
      simp only [wt, List.map_cons, List.sum_cons] at h5 ⊢
      omega
  have a4 := a3 (E items) (fun _ h => h)
  omega
end Go.L
