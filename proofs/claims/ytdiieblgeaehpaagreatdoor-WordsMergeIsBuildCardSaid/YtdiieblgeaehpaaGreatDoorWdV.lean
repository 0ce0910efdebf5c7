/- Merged indexes, and the form of the reference. -/
import Derived.Test.YtdiieblgeaehpaaGreatDoorWdU
import Derived.Test.YtdiieblgeaehpaaGreatDoorP8M
namespace Go.L
open Go Go.Proofs.YtdiieblgeaehpaaGreatDoor
/-- The hits of an entry, moved by some items. -/
def shE (k : Int) (e : List UInt8 × List Hit) : List (List UInt8 × Hit) := e.2.map fun h => (e.1, (h.1 + k, h.2))
def flatE (k : Int) (A : HM) : List (List UInt8 × Hit) := A.flatMap (shE k)
def mvH (k : Int) (h : Hit) : Hit := (h.1 + k, h.2)
def mvP (k : Int) (p : List UInt8 × Hit) : List UInt8 × Hit := (p.1, mvH k p.2)
theorem ents_ext {M M' : HM} (h1 : (M.map Prod.fst).Nodup) (h2 : (M'.map Prod.fst).Nodup) (hk : ∀ k, k ∈ M.map Prod.fst ↔ k ∈ M'.map Prod.fst) (hg : ∀ w, mget [] w M = mget [] w M') : ents M = ents M' := by
  unfold ents
  have e : (M.map Prod.fst).mergeSort leB = (M'.map Prod.fst).mergeSort leB := inc_eq (sort_inc h1) (sort_inc h2) (fun x => by rw [(List.mergeSort_perm _ _).mem_iff, (List.mergeSort_perm _ _).mem_iff, hk])
  rw [e]
  exact List.map_congr_left fun k _ => by rw [hg]
theorem hitsIn_flat (k : Int) (w : List UInt8) : ∀ A : HM, (A.map Prod.fst).Nodup → hitsIn (flatE k A) w = (mget [] w A).map (mvH k)
  | [], _ => rfl
  | e :: r, h => by
    rw [List.map_cons, List.nodup_cons] at h
    have ih := hitsIn_flat k w r h.2
    have e1 : flatE k (e :: r) = shE k e ++ flatE k r := by unfold flatE; rw [List.flatMap_cons]
    rw [e1, hitsIn_app, ih]
    obtain ⟨a, z⟩ := e
    by_cases hw : w = a
    · subst hw
      have h1 : hitsIn (shE k (w, z)) w = z.map (mvH k) := by
        unfold hitsIn shE
        rw [List.filter_map, List.map_map, List.filter_eq_self.2 (fun h _ => by simp)]
        rfl
      have h2 : mget [] w ((w, z) :: r) = z := by
        show (if w = w then z else _) = z
        rw [if_pos rfl]
      rw [h1, h2, mget_none [] w r h.1]
      simp
    · have h1 : hitsIn (shE k (a, z)) w = [] := by
        unfold hitsIn shE
        rw [List.filter_map, List.map_map, List.filter_eq_nil_iff.2 (fun h _ => by simpa using fun e => hw e.symm)]
        rfl
      have h2 : mget [] w ((a, z) :: r) = mget [] w r := by
        show (if w = a then z else _) = _
        rw [if_neg hw]
      rw [h1, h2, List.nil_append]
theorem pairsAt_mv (i n : Nat) (l : List W) : pairsAt ((i + n : Nat) : Int) l = (pairsAt (i : Int) l).map (mvP (n : Int)) := by
  rw [pairsAt_range, pairsAt_range, List.map_map]
  refine List.map_congr_left fun k _ => ?_
  show (_, _, _) = (_, _, _)
  simp only [Prod.mk.injEq, true_and, and_true]
  show ((i + n : Nat) : Int) = (i : Int) + (n : Int)
  omega
theorem pairs_mv (n : Nat) : ∀ (i : Nat) (r : List (List UInt8)), pairs (i + n) r = (pairs i r).map (mvP (n : Int))
  | _, [] => rfl
  | i, t :: r => by
    have e1 : pairs (i + n) (t :: r) = pairsAt ((i + n : Nat) : Int) (wds t) ++ pairs (i + n + 1) r := rfl
    have e2 : pairs i (t :: r) = pairsAt (i : Int) (wds t) ++ pairs (i + 1) r := rfl
    rw [e1, e2, List.map_append, pairsAt_mv, show i + n + 1 = (i + 1) + n by omega, pairs_mv n (i + 1) r]
theorem hitsIn_mv (n : Int) (P : List (List UInt8 × Hit)) (w : List UInt8) : hitsIn (P.map (mvP n)) w = (hitsIn P w).map (mvH n) := by
  unfold hitsIn
  rw [List.filter_map, List.map_map, List.map_map]
  rfl
theorem pairs_app : ∀ (i : Nat) (a b : List (List UInt8)), pairs i (a ++ b) = pairs i a ++ pairs (i + a.length) b
  | i, [], b => rfl
  | i, t :: a, b => by
    have e1 : pairs i (t :: a ++ b) = pairsAt (i : Int) (wds t) ++ pairs (i + 1) (a ++ b) := rfl
    have e2 : pairs i (t :: a) = pairsAt (i : Int) (wds t) ++ pairs (i + 1) a := rfl
    rw [e1, e2, pairs_app (i + 1) a b, List.append_assoc, List.length_cons, show i + 1 + a.length = i + (a.length + 1) by omega]
theorem flat_keys {items : List (List UInt8)} (k : Int) (w : List UInt8) : w ∈ (flatE k (E items)).map Prod.fst ↔ w ∈ (pairs 0 items).map Prod.fst := by
  rw [← E_mem]
  unfold flatE
  constructor
  · intro h
    obtain ⟨p, hp, rfl⟩ := List.mem_map.1 h
    obtain ⟨e, he, hp⟩ := List.mem_flatMap.1 hp
    unfold shE at hp
    obtain ⟨x, _, rfl⟩ := List.mem_map.1 hp
    exact List.mem_map_of_mem he
  · intro h
    obtain ⟨e, he, rfl⟩ := List.mem_map.1 h
    have hk : e.1 ∈ (pairs 0 items).map Prod.fst := (E_mem items e.1).1 (List.mem_map_of_mem he)
    obtain ⟨p, hp1, hp2⟩ := List.mem_map.1 hk
    have hin : p.2 ∈ e.2 := by
      rw [E_hits he, mem_hitsIn, ← hp2]
      exact hp1
    refine List.mem_map.2 ⟨(e.1, mvH k p.2), List.mem_flatMap.2 ⟨e, he, ?_⟩, rfl⟩
    unfold shE
    exact List.mem_map.2 ⟨p.2, hin, rfl⟩
/-- The entries of a merged index are those of the index of all items. -/
theorem merge_ents (a b : List (List UInt8)) : ents ((flatE (0 * (a.length : Int)) (E a) ++ flatE (1 * (a.length : Int)) (E b)).foldl addH []) = E (a ++ b) := by
  have e : pairs 0 (a ++ b) = pairs 0 a ++ (pairs 0 b).map (mvP (a.length : Int)) := by rw [pairs_app, pairs_mv]
  unfold E
  refine ents_ext (add_nodup _ [] List.nodup_nil) (add_nodup _ [] List.nodup_nil) (fun w => ?_) (fun w => ?_)
  · rw [add_keys, add_keys, e, List.map_append, List.map_append, List.mem_append, List.mem_append]
    have h1 := flat_keys (items := a) (0 * (a.length : Int)) w
    have h2 := flat_keys (items := b) (1 * (a.length : Int)) w
    have h3 : ((pairs 0 b).map (mvP (a.length : Int))).map Prod.fst = (pairs 0 b).map Prod.fst := by rw [List.map_map]; rfl
    unfold E at h1 h2
    rw [h1, h2, h3]
  · rw [add_get, add_get, e, hitsIn_app, hitsIn_app, hitsIn_mv]
    have h1 := hitsIn_flat (0 * (a.length : Int)) w (E a) (E_inc a).nodup
    have h2 := hitsIn_flat (1 * (a.length : Int)) w (E b) (E_inc b).nodup
    rw [E_get] at h1 h2
    unfold E at h1 h2
    rw [h1, h2]
    have z : mvH (0 * (a.length : Int)) = id := by
      funext h
      show (_, _) = _
      rw [Int.zero_mul, Int.add_zero]
      rfl
    rw [z, List.map_id, Int.one_mul]
theorem filt_len {α : Type} (p : α → Bool) : ∀ l : List α, (l.filter p).length + (l.filter fun x => !p x).length = l.length
  | [] => rfl
  | x :: l => by
    have ih := filt_len p l
    rw [List.length_cons, List.filter_cons, List.filter_cons]
    cases p x
    · simp only [Bool.not_false, if_true, Bool.false_eq_true, if_false, List.length_cons]; omega
    · simp only [Bool.not_true, if_true, Bool.false_eq_true, if_false, List.length_cons]; omega
theorem flat_len2 {items : List (List UInt8)} (k : Int) : (flatE k (E items)).length = (pairs 0 items).length := by
  -- each hit stands once on either side
  have h1 : ∀ A : HM, (A.map Prod.fst).Nodup → ∀ P : List (List UInt8 × Hit), (∀ e ∈ A, e.2 = hitsIn P e.1) → (∀ p ∈ P, p.1 ∈ A.map Prod.fst) → (flatE k A).length = P.length := by
    intro A
    induction A with
    | nil =>
      intro _ P _ hP
      cases P with
      | nil => rfl
      | cons p P => exact absurd (hP p (List.mem_cons_self ..)) (by simp)
    | cons e A ih =>
      intro hnd P hA hP
      rw [List.map_cons, List.nodup_cons] at hnd
      have e1 : flatE k (e :: A) = shE k e ++ flatE k A := by unfold flatE; rw [List.flatMap_cons]
      have hl : (shE k e).length = (hitsIn P e.1).length := by
        unfold shE
        rw [List.length_map, hA e (List.mem_cons_self ..)]
      have hrest := ih hnd.2 (P.filter fun p => !decide (p.1 = e.1)) (fun x hx => by
        have hne : x.1 ≠ e.1 := fun h => hnd.1 (by rw [← h]; exact List.mem_map_of_mem hx)
        rw [hA x (List.mem_cons_of_mem _ hx)]
        unfold hitsIn
        rw [List.filter_filter]
        congr 1
        refine List.filter_congr fun p _ => ?_
        by_cases h : p.1 = x.1
        · rw [decide_eq_true h, Bool.true_and, h, decide_eq_false hne]; rfl
        · rw [decide_eq_false h, Bool.false_and]) (fun p hp => by
        rw [List.mem_filter] at hp
        have h2 := hP p hp.1
        rw [List.map_cons, List.mem_cons] at h2
        exact h2.resolve_left (fun h => by rw [decide_eq_true h] at hp; exact absurd hp.2 (by decide)))
      rw [e1, List.length_append, hl, hrest]
      unfold hitsIn
      rw [List.length_map]
      have := filt_len (fun p : List UInt8 × Hit => decide (p.1 = e.1)) P
      omega
  exact h1 (E items) (E_inc items).nodup (pairs 0 items) (fun e he => E_hits he) (fun p hp => (E_mem items p.1).2 (List.mem_map_of_mem hp))
end Go.L
namespace Go.Proofs.YtdiieblgeaehpaaGreatDoor
open Go Go.L
theorem merge6 {a b X : Int × HM} {s i : Nat} (hs : s ≤ 1) (hX : ([(a.1, a.2), (b.1, b.2)] : List (Int × HM)).getD s default = X) (ha : 0 ≤ a.1 ∧ a.1 ≤ 64) (hi : i < 1000000) {e : List UInt8 × List Hit} (he : X.2.getD i default = e) (hel : e.2.length ≤ 1000000) (hB : ∀ h ∈ e.2, 0 ≤ h.1 ∧ h.1 ≤ 64) : ∀ (r : List Hit) (j : Nat) (Q : List (List UInt8 × Hit)), e.2.drop j = r → Q.length + r.length ≤ 1000000 →
    run (words_Merge_bl6 a b (s : Int) (i : Int)) (Q.foldl addH [], (j : Int)) = some (.inl ((Q ++ r.map fun h => (e.1, (h.1 + (s : Int) * a.1, h.2))).foldl addH [], ((i + 1 : Nat) : Int)))
  | [], j, Q, hd, hQ => by
    have hlen := len_drop hd
    refine run_inr ?_
    unfold words_Merge_bl6 words_Merge_k5
    simp only
    rw [Int.toNat_natCast, hX, Int.toNat_natCast, he, if_neg (by omega), chk_pos (by constructor <;> omega), List.map_nil, List.append_nil]
    rfl
  | h :: r, j, Q, hd, hQ => by
    obtain ⟨hg, hd', hlt⟩ := getD_drop hd
    rw [List.length_cons] at hQ
    have hb := hB h (List.mem_of_mem_drop (by rw [hd]; exact List.mem_cons_self ..))
    have hsm : 0 ≤ (s : Int) * a.1 ∧ (s : Int) * a.1 ≤ 64 := by
      obtain h0 | h1 : s = 0 ∨ s = 1 := by omega
      · subst h0; rw [Int.natCast_zero, Int.zero_mul]; omega
      · subst h1; rw [Int.natCast_one, Int.one_mul]; exact ha
    have hm : (mget [] e.1 (Q.foldl addH [])).length ≤ 1000000 := by
      rw [add_get]
      have := hitsIn_len Q e.1
      simp only [mget, List.nil_append]
      omega
    have ih := merge6 hs hX ha hi he hel hB r (j + 1) (Q ++ [(e.1, (h.1 + (s : Int) * a.1, h.2))]) hd' (by rw [List.length_append, List.length_singleton]; omega)
    rw [List.map_cons, show Q ++ (e.1, (h.1 + (s : Int) * a.1, h.2)) :: r.map (fun h => (e.1, (h.1 + (s : Int) * a.1, h.2))) = (Q ++ [(e.1, (h.1 + (s : Int) * a.1, h.2))]) ++ r.map (fun h => (e.1, (h.1 + (s : Int) * a.1, h.2))) by rw [List.append_assoc]; rfl, ← ih]
    refine run_inl ?_
    unfold words_Merge_bl6
    simp only
    rw [Int.toNat_natCast, hX, Int.toNat_natCast, he, if_pos (by omega), chk_pos ⟨by omega, by omega⟩, chk_pos (by constructor <;> omega), Int.toNat_natCast, hg, chk_pos (by constructor <;> omega), chk_pos (by constructor <;> omega), chk_pos (by constructor <;> omega), List.foldl_append]
    rfl
theorem merge4 {a b X : Int × HM} {s : Nat} (hs : s ≤ 1) (hX : ([(a.1, a.2), (b.1, b.2)] : List (Int × HM)).getD s default = X) (ha : 0 ≤ a.1 ∧ a.1 ≤ 64) (hXl : X.2.length ≤ 1000000) (hB : ∀ e ∈ X.2, ∀ h ∈ e.2, 0 ≤ h.1 ∧ h.1 ≤ 64) : ∀ (r : HM) (i : Nat) (Q : List (List UInt8 × Hit)), X.2.drop i = r → Q.length + (flatE ((s : Int) * a.1) r).length ≤ 1000000 →
    run (words_Merge_bl4 a b (s : Int)) (Q.foldl addH [], (i : Int)) = some (.inl ((Q ++ flatE ((s : Int) * a.1) r).foldl addH [], ((s + 1 : Nat) : Int)))
  | [], i, Q, hd, hQ => by
    have hlen := len_drop hd
    refine run_inr ?_
    unfold words_Merge_bl4 words_Merge_k3
    simp only
    rw [Int.toNat_natCast, hX, if_neg (by omega), chk_pos (by constructor <;> omega), show flatE ((s : Int) * a.1) [] = [] from rfl, List.append_nil]
    rfl
  | e :: r, i, Q, hd, hQ => by
    obtain ⟨hg, hd', hlt⟩ := getD_drop hd
    have e1 : flatE ((s : Int) * a.1) (e :: r) = shE ((s : Int) * a.1) e ++ flatE ((s : Int) * a.1) r := by unfold flatE; rw [List.flatMap_cons]
    have hse : (shE ((s : Int) * a.1) e).length = e.2.length := by unfold shE; rw [List.length_map]
    rw [e1, List.length_append, hse] at hQ
    rw [e1, ← List.append_assoc, ← merge4 hs hX ha hXl hB r (i + 1) (Q ++ shE ((s : Int) * a.1) e) hd' (by rw [List.length_append, hse]; omega)]
    refine run_inl ?_
    unfold words_Merge_bl4 words_Merge_l6
    simp only
    rw [Int.toNat_natCast, hX, if_pos (by omega), chk_pos ⟨by omega, by omega⟩]
    exact merge6 hs hX ha (by omega) hg (by omega) (hB e (List.mem_of_mem_drop (by rw [hd]; exact List.mem_cons_self ..))) e.2 0 Q rfl (by omega)
/-- Merged indexes of items: what Build makes of all items. -/
theorem merge_build {a b : List (List UInt8)} (hn : (a ++ b).length ≤ 64) (ha : ∀ t ∈ a, t.length ≤ 2048) (hb : ∀ t ∈ b, t.length ≤ 2048) :
    words_Merge (((a.length : Nat) : Int), E a) (((b.length : Nat) : Int), E b) = words_Build_k1 (a ++ b) ((pairs 0 (a ++ b)).foldl addH []) := by
  have hl : (a ++ b).length = a.length + b.length := List.length_append
  have hab : ∀ t ∈ a ++ b, t.length ≤ 2048 := fun t h => (List.mem_append.1 h).elim (ha t) (hb t)
  have pa := pairs_fit (items := a) (by omega) ha
  have pb := pairs_fit (items := b) (by omega) hb
  have pab := pairs_fit hn hab
  have la := E_len a
  have lb := E_len b
  have fa := flat_len2 (items := a) (0 * (a.length : Int))
  have fb := flat_len2 (items := b) (1 * (a.length : Int))
  have ba : ∀ e ∈ E a, ∀ h ∈ e.2, 0 ≤ h.1 ∧ h.1 ≤ 64 := fun e he h hh => by have := (E_ok (by omega) ha he).2.2.2 h hh; omega
  have bb : ∀ e ∈ E b, ∀ h ∈ e.2, 0 ≤ h.1 ∧ h.1 ≤ 64 := fun e he h hh => by have := (E_ok (by omega) hb he).2.2.2 h hh; omega
  unfold words_Merge words_Merge_l2
  simp only
  rw [chk_pos (by constructor <;> omega), if_neg (by omega)]
  have hA : 0 ≤ (((a.length : Nat) : Int), E a).1 ∧ (((a.length : Nat) : Int), E a).1 ≤ 64 := ⟨by simp only; omega, by simp only; omega⟩
  have s0 : words_Merge_bl2 (((a.length : Nat) : Int), E a) (((b.length : Nat) : Int), E b) ([], 0) = some (.inl ((flatE (0 * (a.length : Int)) (E a)).foldl addH [], ((0 + 1 : Nat) : Int))) := by
    unfold words_Merge_bl2 words_Merge_l4
    simp only
    rw [if_pos (by simp), chk_pos (by simp)]
    have := merge4 (a := (((a.length : Nat) : Int), E a)) (b := (((b.length : Nat) : Int), E b)) (X := (((a.length : Nat) : Int), E a)) (s := 0) (by omega) rfl hA (by simp only; omega) ba (E a) 0 [] rfl (by simp only [Int.natCast_zero]; rw [fa, List.length_nil]; omega)
    exact this
  have s1 : words_Merge_bl2 (((a.length : Nat) : Int), E a) (((b.length : Nat) : Int), E b) ((flatE (0 * (a.length : Int)) (E a)).foldl addH [], ((0 + 1 : Nat) : Int)) = some (.inl ((flatE (0 * (a.length : Int)) (E a) ++ flatE (1 * (a.length : Int)) (E b)).foldl addH [], ((1 + 1 : Nat) : Int))) := by
    unfold words_Merge_bl2 words_Merge_l4
    simp only
    rw [if_pos (by simp), chk_pos (by simp)]
    have := merge4 (a := (((a.length : Nat) : Int), E a)) (b := (((b.length : Nat) : Int), E b)) (X := (((b.length : Nat) : Int), E b)) (s := 1) (by omega) rfl hA (by simp only; omega) bb (E b) 0 (flatE (0 * (a.length : Int)) (E a)) rfl (by simp only [Int.natCast_one]; rw [fa, fb]; omega)
    exact this
  rw [run_inl s0, run_inl s1]
  refine run_inr ?_
  unfold words_Merge_bl2 words_Merge_k1 words_Build_k1
  simp only
  rw [if_neg (by simp), chk_pos (by constructor <;> omega)]
  have hml : ((flatE (0 * (a.length : Int)) (E a) ++ flatE (1 * (a.length : Int)) (E b)).foldl addH []).length ≤ 1000000 := by
    have := add_len (flatE (0 * (a.length : Int)) (E a) ++ flatE (1 * (a.length : Int)) (E b)) []
    rw [List.length_append, fa, fb, List.length_nil] at this
    omega
  have hml2 : ((pairs 0 (a ++ b)).foldl addH []).length ≤ 1000000 := by
    have := add_len (pairs 0 (a ++ b)) []
    rw [List.length_nil] at this
    omega
  have kf : ∀ P : List (List UInt8 × Hit), (P.foldl addH []).length ≤ 1000000 → (∀ x ∈ P.map Prod.fst, x.length ≤ 2048) → KeysFit (P.foldl addH []) := fun P h1 h2 => ⟨add_nodup _ [] List.nodup_nil, fun x hx => by
    rw [add_keys] at hx
    have := h2 x (hx.resolve_left (by simp))
    unfold maxLen
    omega, by omega⟩
  have k1 := kf _ hml (by
    intro x hx
    rw [List.map_append, List.mem_append] at hx
    rcases hx with hx | hx
    · exact pairs_text 0 a ha x ((flat_keys (items := a) (0 * (a.length : Int)) x).1 hx)
    · exact pairs_text 0 b hb x ((flat_keys (items := b) (1 * (a.length : Int)) x).1 hx))
  have k2 := kf _ hml2 (by
    intro x hx
    exact pairs_text 0 (a ++ b) hab x hx)
  have e1 := build_ents ((a.length : Int) + (b.length : Int)) _ k1 hml
  have e2 := build_ents ((a ++ b).length : Int) _ k2 hml2
  rw [e1, e2, merge_ents, show ents ((pairs 0 (a ++ b)).foldl addH []) = E (a ++ b) from rfl, hl, Int.natCast_add]
end Go.Proofs.YtdiieblgeaehpaaGreatDoor
