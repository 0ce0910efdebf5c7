/- Nearness, plainly: what the index answers, and what the reference says. -/
import Derived.Test.YtdiieblgeaehpaaDoorWdP
namespace Go.L
open Go Go.Proofs.YtdiieblgeaehpaaDoor
/-- Two words stand near each other in an item. -/
def NearI (items : List (List UInt8)) (a b : List UInt8) (d x : Int) : Prop := ∃ k k' : Int, (a, (x, k)) ∈ pairs 0 items ∧ (b, (x, k')) ∈ pairs 0 items ∧ k ≠ k' ∧ -d ≤ k - k' ∧ k - k' ≤ d
theorem NearI.symm {items : List (List UInt8)} {a b : List UInt8} {d x : Int} : NearI items a b d x ↔ NearI items b a d x := by
  constructor <;> (rintro ⟨k, k', h1, h2, h3, h4, h5⟩; exact ⟨k', k, h2, h1, fun e => h3 e.symm, by omega, by omega⟩)
theorem NearI.more {items : List (List UInt8)} {a b : List UInt8} {d e x : Int} (h : d ≤ e) : NearI items a b d x → NearI items a b e x := by
  rintro ⟨k, k', h1, h2, h3, h4, h5⟩
  exact ⟨k, k', h1, h2, h3, by omega, by omega⟩
/-- Numbers in strict order. -/
abbrev IncI (l : List Int) : Prop := l.Pairwise (· < ·)
theorem incI_eq {l m : List Int} (hl : IncI l) (hm : IncI m) (h : ∀ x, x ∈ l ↔ x ∈ m) : l = m := by
  have nd : ∀ {l : List Int}, IncI l → l.Nodup := fun {l} h => by
    refine List.Pairwise.imp ?_ h
    intro a b hab
    omega
  refine List.Perm.eq_of_pairwise (le := fun a b => a < b) (fun a b _ _ h1 h2 => by omega) hl hm ((List.perm_ext_iff_of_nodup (nd hl) (nd hm)).2 h)
/-- A place is close to another one. -/
def Cl (k h : Hit) (d : Int) : Prop := h.1 = k.1 ∧ h.2 ≠ k.2 ∧ -d ≤ h.2 - k.2 ∧ h.2 - k.2 ≤ d
theorem pairs_sorted : ∀ (i : Nat) (r : List (List UInt8)), (pairs i r).Pairwise fun p q => p.2.1 ≤ q.2.1
  | _, [] => List.Pairwise.nil
  | i, t :: r => by
    unfold pairs
    refine List.pairwise_append.2 ⟨?_, pairs_sorted (i + 1) r, fun p hp q hq => ?_⟩
    · rw [List.pairwise_iff_forall_sublist]
      intro p q hs
      have h1 := mem_pairsAt (hs.subset (List.mem_cons_self ..))
      have h2 := mem_pairsAt (hs.subset (List.mem_cons_of_mem _ (List.mem_cons_self ..)))
      omega
    · have h1 := mem_pairsAt hp
      have h2 := (mem_pairs_ok (i + 1) r (total r) (fun t ht => total_mem ht) q hq).1
      omega
theorem hitsIn_sorted (items : List (List UInt8)) (w : List UInt8) : (hitsIn (pairs 0 items) w).Pairwise fun h k => h.1 ≤ k.1 := by
  unfold hitsIn
  rw [List.pairwise_map]
  exact (pairs_sorted 0 items).filter _
end Go.L
namespace Go.Proofs.YtdiieblgeaehpaaDoor
open Go Go.L
theorem near1_eq {k h : Hit} {d : Int} (hd : 1 ≤ d) (hk : -1000000 ≤ k.2 ∧ k.2 ≤ 1000000) (hh : -1000000 ≤ h.2 ∧ h.2 ≤ 1000000) : ∃ b, words_Index_Near_1 k h d = some (b, (h.1, h.2), d) ∧ (b = true ↔ Cl k h d) := by
  unfold words_Index_Near_1
  rw [chk_pos (by constructor <;> omega), chk_pos (by constructor <;> omega)]
  unfold Cl
  by_cases h1 : (h.1 = k.1) ∧ ((0 : Int) < (max (h.2 - k.2) (k.2 - h.2)))
  · rw [if_pos h1]
    refine ⟨_, rfl, ?_⟩
    rw [decide_eq_true_eq]
    constructor
    · intro h2; exact ⟨h1.1, by omega, by omega, by omega⟩
    · rintro ⟨_, _, h2, h3⟩; omega
  · rw [if_neg h1]
    refine ⟨_, rfl, ?_⟩
    simp only [Bool.false_eq_true, false_iff]
    rintro ⟨h2, h3, _⟩
    exact h1 ⟨h2, by omega⟩
theorem near_contains {B : List Hit} (hB : B.length ≤ 1000000) (hb : ∀ k ∈ B, -1000000 ≤ k.2 ∧ k.2 ≤ 1000000) {h : Hit} (hh : -1000000 ≤ h.2 ∧ h.2 ≤ 1000000) {d : Int} (hd : 1 ≤ d) :
    ∃ b, slices_ContainsFunc_api_Hit_api_Hit B h d = some (b, (h.1, h.2), d) ∧ (b = true ↔ ∃ k ∈ B, Cl k h d) := by
  unfold slices_ContainsFunc_api_Hit_api_Hit slices_IndexFunc_api_Hit_api_Hit slices_IndexFunc_api_Hit_api_Hit_l2
  have key : ∀ (r : List Hit) (i : Nat), B.drop i = r → ∃ z, run (slices_IndexFunc_api_Hit_api_Hit_bl2 B) (h.1, h.2, d, (i : Int)) = some (z, (h.1, h.2), d) ∧ (0 ≤ z ↔ ∃ k ∈ r, Cl k h d) := by
    intro r
    induction r with
    | nil =>
      intro i hdr
      have hlen := len_drop hdr
      refine ⟨-1, run_inr (m := some (-1, (h.1, h.2), d)) ?_, by simp⟩
      unfold slices_IndexFunc_api_Hit_api_Hit_bl2 slices_IndexFunc_api_Hit_api_Hit_k1
      simp only
      rw [if_neg (by omega)]
    | cons x r ih =>
      intro i hdr
      obtain ⟨hg, hd', hlt⟩ := getD_drop hdr
      have hx : x ∈ B := List.mem_of_mem_drop (by rw [hdr]; exact List.mem_cons_self ..)
      obtain ⟨b, h1, h2⟩ := near1_eq (k := x) hd (hb x hx) hh
      have h1' : words_Index_Near_1 (x.1, x.2) (h.1, h.2) d = some (b, (h.1, h.2), d) := h1
      cases b with
      | true =>
        refine ⟨(i : Int), run_inr (m := some ((i : Int), (h.1, h.2), d)) ?_, ?_⟩
        · unfold slices_IndexFunc_api_Hit_api_Hit_bl2
          simp only
          rw [if_pos (by omega), chk_pos ⟨by omega, by omega⟩, Int.toNat_natCast, hg, h1', Option.bind_some, if_pos rfl]
        · exact ⟨fun _ => ⟨x, List.mem_cons_self .., h2.1 rfl⟩, fun _ => by omega⟩
      | false =>
        obtain ⟨z, h3, h4⟩ := ih (i + 1) hd'
        refine ⟨z, ?_, ?_⟩
        · rw [← h3]
          refine run_inl ?_
          unfold slices_IndexFunc_api_Hit_api_Hit_bl2
          simp only
          rw [if_pos (by omega), chk_pos ⟨by omega, by omega⟩, Int.toNat_natCast, hg, h1', Option.bind_some, if_neg Bool.false_ne_true, chk_pos (by constructor <;> omega)]
          rfl
        · rw [h4]
          constructor
          · rintro ⟨k, hk, hc⟩; exact ⟨k, List.mem_cons_of_mem _ hk, hc⟩
          · rintro ⟨k, hk, hc⟩
            rcases List.mem_cons.1 hk with rfl | hk
            · have := h2.2 hc; cases this
            · exact ⟨k, hk, hc⟩
  obtain ⟨z, h1, h2⟩ := key B 0 rfl
  rw [show run (slices_IndexFunc_api_Hit_api_Hit_bl2 B) ((h.1, h.2).1, (h.1, h.2).2, d, 0) = _ from h1, Option.bind_some]
  exact ⟨_, rfl, by rw [decide_eq_true_eq]; exact h2⟩
theorem near_loop {n : Int} {es : HM} (hx : XOk es) (b : List UInt8) {d : Int} (hd : 1 ≤ d) {H : List Hit} (hH : H.length ≤ 1000000) : ∀ (r : List Hit) (j : Nat) (out : List Int), H.drop j = r → j ≤ H.length → out.length ≤ j → IncI out → (∀ y ∈ out, ∀ h ∈ r, y ≤ h.1) → r.Pairwise (fun h k => h.1 ≤ k.1) → (∀ h ∈ r, -1000000 ≤ h.2 ∧ h.2 ≤ 1000000) →
    ∃ L, run (words_Index_Near_bl2 (n, es) b H) (out, d, (j : Int)) = some (L, (0, 0)) ∧ IncI L ∧ L.length ≤ H.length ∧ ∀ x, x ∈ L ↔ x ∈ out ∨ ∃ h ∈ r, h.1 = x ∧ ∃ k ∈ mget [] b es, Cl k h d
  | [], j, out, hdr, hjl, ho, hi, _, _, _ => by
    have hlen := len_drop hdr
    refine ⟨out, run_inr (m := some (out, (0, 0))) ?_, hi, by omega, by simp⟩
    · unfold words_Index_Near_bl2 words_Index_Near_k1
      simp only
      rw [if_neg (by omega)]
  | h :: r, j, out, hdr, hjl, ho, hi, hy, hs, hr => by
    obtain ⟨hg, hd', hlt⟩ := getD_drop hdr
    have hb := hr h (List.mem_cons_self ..)
    have hw := hx.hits b
    obtain ⟨c, h1, h2⟩ := near_contains hw.1 hw.2 hb hd
    have h1' : slices_ContainsFunc_api_Hit_api_Hit (mget [] b es) (h.1, h.2) d = some (c, (h.1, h.2), d) := h1
    have hs2 := List.pairwise_cons.1 hs
    have e1 : (j : Int) + 1 = ((j + 1 : Nat) : Int) := by omega
    -- the list behind this round
    by_cases hadd : c = true ∧ h.1 ∉ out
    · have hi' : IncI (out ++ [h.1]) := List.pairwise_append.2 ⟨hi, List.pairwise_singleton _ _, fun y hy1 z hz => by
        rw [List.mem_singleton.1 hz]
        have h3 := hy y hy1 h (List.mem_cons_self ..)
        have h4 : y ≠ h.1 := fun e => hadd.2 (e ▸ hy1)
        omega⟩
      obtain ⟨L, k1, k2, k3, k4⟩ := near_loop hx b hd hH r (j + 1) (out ++ [h.1]) hd' hlt (by simp; omega) hi' (fun y hy1 k hk => by
        rcases List.mem_append.1 hy1 with hy1 | hy1
        · exact hy y hy1 k (List.mem_cons_of_mem _ hk)
        · rw [List.mem_singleton.1 hy1]; exact hs2.1 k hk) hs2.2 (fun k hk => hr k (List.mem_cons_of_mem _ hk))
      refine ⟨L, ?_, k2, k3, fun x => ?_⟩
      · rw [← k1]
        refine run_inl ?_
        unfold words_Index_Near_bl2
        simp only
        rw [if_pos (by omega), chk_pos ⟨by omega, by omega⟩, Int.toNat_natCast, hg, hits_eq (by have := hx.len; omega) b hx.inc, Option.bind_some, h1', Option.bind_some, if_pos hadd.1, contains_int (by omega), Option.bind_some, decide_eq_false hadd.2, if_pos (by decide), chk_pos (by rw [List.length_singleton]; constructor <;> omega), chk_pos (by constructor <;> omega), e1]
      · rw [k4, List.mem_append, List.mem_singleton]
        constructor
        · rintro ((h5 | h5) | ⟨k, hk, h5⟩)
          · exact .inl h5
          · exact .inr ⟨h, List.mem_cons_self .., h5.symm, h2.1 hadd.1⟩
          · exact .inr ⟨k, List.mem_cons_of_mem _ hk, h5⟩
        · rintro (h5 | ⟨k, hk, h5⟩)
          · exact .inl (.inl h5)
          · rcases List.mem_cons.1 hk with rfl | hk
            · exact .inl (.inr h5.1.symm)
            · exact .inr ⟨k, hk, h5⟩
    · obtain ⟨L, k1, k2, k3, k4⟩ := near_loop hx b hd hH r (j + 1) out hd' hlt (by omega) hi (fun y hy1 k hk => hy y hy1 k (List.mem_cons_of_mem _ hk)) hs2.2 (fun k hk => hr k (List.mem_cons_of_mem _ hk))
      refine ⟨L, ?_, k2, k3, fun x => ?_⟩
      · rw [← k1]
        refine run_inl ?_
        unfold words_Index_Near_bl2
        simp only
        rw [if_pos (by omega), chk_pos ⟨by omega, by omega⟩, Int.toNat_natCast, hg, hits_eq (by have := hx.len; omega) b hx.inc, Option.bind_some, h1', Option.bind_some]
        cases c with
        | false => rw [if_neg Bool.false_ne_true, chk_pos (by constructor <;> omega), e1]
        | true =>
          have hin : h.1 ∈ out := Decidable.byContradiction fun hn => hadd ⟨rfl, hn⟩
          rw [if_pos rfl, contains_int (by omega), Option.bind_some, decide_eq_true hin, if_neg (by decide), chk_pos (by constructor <;> omega), e1]
      · rw [k4]
        constructor
        · rintro (h5 | ⟨k, hk, h5⟩)
          · exact .inl h5
          · exact .inr ⟨k, List.mem_cons_of_mem _ hk, h5⟩
        · rintro (h5 | ⟨k, hk, h5⟩)
          · exact .inl h5
          · rcases List.mem_cons.1 hk with rfl | hk
            · have hc : c = true := h2.2 h5.2
              have hin : k.1 ∈ out := Decidable.byContradiction fun hn => hadd ⟨hc, hn⟩
              exact .inl (h5.1 ▸ hin)
            · exact .inr ⟨k, hk, h5⟩
/-- What Near answers. -/
def nearOk (a b : List UInt8) (d : Int) : Prop := wf a = (0, 0) ∧ wf b = (0, 0) ∧ 1 ≤ d ∧ d ≤ 2048
def nearF (a b : List UInt8) : Int × Int := if wf a = (0, 0) then if wf b = (0, 0) then (4, -3) else ((wf b).1, -2) else wf a
theorem near_eq {n : Int} {items : List (List UInt8)} (hn : items.length ≤ 64) (ht : ∀ t ∈ items, t.length ≤ 2048) (a b : List UInt8) (d : Int) :
    (nearOk a b d → ∃ L, words_Index_Near (n, E items) a b d = some (L, (0, 0)) ∧ IncI L ∧ L.length ≤ 1000000 ∧ ∀ x, x ∈ L ↔ NearI items a b d x) ∧ (¬ nearOk a b d → words_Index_Near (n, E items) a b d = some ([], nearF a b)) := by
  have hx := XOk.of_E hn ht
  unfold words_Index_Near
  rw [check_eq, Option.bind_some]
  constructor
  · rintro ⟨h1, h2, h3, h4⟩
    have hw := hx.hits a
    obtain ⟨L, k1, k2, k3, k4⟩ := near_loop (n := n) hx b h3 hw.1 (mget [] a (E items)) 0 [] rfl (Nat.zero_le _) (Nat.le_refl _) List.Pairwise.nil (by simp) (by rw [E_get]; exact hitsIn_sorted items a) hw.2
    refine ⟨L, ?_, k2, by omega, fun x => ?_⟩
    · rw [if_pos (by rw [h1]; exact ⟨rfl, rfl⟩), check_eq, Option.bind_some, if_pos (by rw [h2]; exact ⟨rfl, rfl⟩), if_neg (by omega), if_neg (by omega)]
      simp only
      rw [hits_eq (by have := hx.len; omega) a hx.inc, Option.bind_some]
      exact k1
    · rw [k4]
      unfold NearI
      constructor
      · rintro (h5 | ⟨h, hh, rfl, k, hk, h6, h7, h8, h9⟩)
        · cases h5
        · rw [E_get, mem_hitsIn] at hh hk
          exact ⟨h.2, k.2, hh, by rw [h6]; exact hk, h7, h8, h9⟩
      · rintro ⟨k, k', h5, h6, h7, h8, h9⟩
        refine .inr ⟨(x, k), by rw [E_get, mem_hitsIn]; exact h5, rfl, (x, k'), by rw [E_get, mem_hitsIn]; exact h6, rfl, h7, h8, h9⟩
  · intro h
    unfold nearF
    by_cases h1 : wf a = (0, 0)
    · rw [if_pos (by rw [h1]; exact ⟨rfl, rfl⟩), if_pos h1, check_eq, Option.bind_some]
      by_cases h2 : wf b = (0, 0)
      · rw [if_pos (by rw [h2]; exact ⟨rfl, rfl⟩), if_pos h2]
        by_cases h3 : d < 1
        · rw [if_pos h3]; rfl
        · rw [if_neg h3]
          by_cases h4 : 2048 < d
          · rw [if_pos h4]; rfl
          · exact absurd ⟨h1, h2, by omega, by omega⟩ h
      · rw [if_neg (fun x => h2 (Prod.ext x.1 x.2)), if_neg h2]; rfl
    · rw [if_neg (fun x => h1 (Prod.ext x.1 x.2)), if_neg h1]
/- The reference. -/
theorem rnear7 {x y : List Hit} (hx : x.length ≤ 1000000) (hy : y.length ≤ 1000000) (hxb : ∀ h ∈ x, -1000000 ≤ h.2 ∧ h.2 ≤ 1000000) (hyb : ∀ h ∈ y, -1000000 ≤ h.2 ∧ h.2 ≤ 1000000) {d : Int} (hd : 1 ≤ d ∧ d ≤ 2048) {k : Nat} {h : Hit} (hk : k < x.length) (hg : x.getD k default = h) :
    ∀ (r : List Hit) (j : Nat) (f : Bool), y.drop j = r → ∃ g, run (ref4_Near_bl7 d (k : Int) x y) (f, (j : Int)) = some (.inl (g, ((k + 1 : Nat) : Int))) ∧ (g = true ↔ f = true ∨ ∃ q ∈ r, h.2 ≠ q.2 ∧ -d ≤ h.2 - q.2 ∧ h.2 - q.2 ≤ d)
  | [], j, f, hdr => by
    have hlen := len_drop hdr
    refine ⟨f, run_inr (m := some (Sum.inl (f, ((k + 1 : Nat) : Int)))) ?_, by simp⟩
    unfold ref4_Near_bl7 ref4_Near_k6
    simp only
    rw [if_neg (by omega), chk_pos (by constructor <;> omega)]
    rfl
  | q :: r, j, f, hdr => by
    obtain ⟨hgq, hd', hlt⟩ := getD_drop hdr
    have hhx : h ∈ x := by
      rw [← hg, List.getD_eq_getElem?_getD, List.getElem?_eq_getElem hk]
      exact List.getElem_mem _
    have hqy : q ∈ y := List.mem_of_mem_drop (by rw [hdr]; exact List.mem_cons_self ..)
    have b1 := hxb h hhx
    have b2 := hyb q hqy
    have e1 : (j : Int) + 1 = ((j + 1 : Nat) : Int) := by omega
    -- what is found behind this round
    have step : ∃ f', ref4_Near_bl7 d (k : Int) x y (f, (j : Int)) = some (.inl (f', ((j + 1 : Nat) : Int))) ∧ (f' = true ↔ f = true ∨ (h.2 ≠ q.2 ∧ -d ≤ h.2 - q.2 ∧ h.2 - q.2 ≤ d)) := by
      unfold ref4_Near_bl7
      simp only
      rw [if_pos (by omega), chk_pos ⟨by omega, by omega⟩, chk_pos ⟨by omega, by omega⟩, Int.toNat_natCast, Int.toNat_natCast, hg, hgq, chk_pos (by constructor <;> omega)]
      cases f with
      | true => exact ⟨true, by rw [if_pos rfl, chk_pos (by constructor <;> omega), e1], by simp⟩
      | false =>
        rw [if_neg (by decide)]
        by_cases h0 : h.2 - q.2 = 0
        · exact ⟨false, by rw [if_pos h0, chk_pos (by constructor <;> omega), e1], by simp; omega⟩
        · rw [if_neg h0, chk_pos (by constructor <;> omega), in_eq, Option.bind_some, chk_pos (by constructor <;> omega), e1]
          refine ⟨_, rfl, ?_⟩
          rw [decide_eq_true_eq]
          simp only [Bool.false_eq_true, false_or]
          constructor
          · rintro ⟨h3, h4⟩; exact ⟨by omega, h3, h4⟩
          · rintro ⟨_, h3, h4⟩; exact ⟨h3, h4⟩
    obtain ⟨f', s1, s2⟩ := step
    obtain ⟨g, g1, g2⟩ := rnear7 hx hy hxb hyb hd hk hg r (j + 1) f' hd'
    refine ⟨g, by rw [run_inl s1]; exact g1, ?_⟩
    rw [g2, s2]
    constructor
    · rintro ((h1 | h1) | ⟨z, hz, h1⟩)
      · exact .inl h1
      · exact .inr ⟨q, List.mem_cons_self .., h1⟩
      · exact .inr ⟨z, List.mem_cons_of_mem _ hz, h1⟩
    · rintro (h1 | ⟨z, hz, h1⟩)
      · exact .inl (.inl h1)
      · rcases List.mem_cons.1 hz with rfl | hz
        · exact .inl (.inr h1)
        · exact .inr ⟨z, hz, h1⟩
theorem rnear5 {x y : List Hit} (hx : x.length ≤ 1000000) (hy : y.length ≤ 1000000) (hxb : ∀ h ∈ x, -1000000 ≤ h.2 ∧ h.2 ≤ 1000000) (hyb : ∀ h ∈ y, -1000000 ≤ h.2 ∧ h.2 ≤ 1000000) {d : Int} (hd : 1 ≤ d ∧ d ≤ 2048) (out : List Int) (i : Nat) :
    ∀ (r : List Hit) (k : Nat) (f : Bool), x.drop k = r → ∃ g, run (ref4_Near_bl5 d out (i : Int) x y) (f, (k : Int)) = ref4_Near_k4 out (i : Int) g ∧ (g = true ↔ f = true ∨ ∃ h ∈ r, ∃ q ∈ y, h.2 ≠ q.2 ∧ -d ≤ h.2 - q.2 ∧ h.2 - q.2 ≤ d)
  | [], k, f, hdr => by
    have hlen := len_drop hdr
    refine ⟨f, run_inr ?_, by simp⟩
    unfold ref4_Near_bl5
    simp only
    rw [if_neg (by omega)]
  | h :: r, k, f, hdr => by
    obtain ⟨hg, hd', hlt⟩ := getD_drop hdr
    obtain ⟨f', s1, s2⟩ := rnear7 hx hy hxb hyb hd hlt hg y 0 f rfl
    obtain ⟨g, g1, g2⟩ := rnear5 hx hy hxb hyb hd out i r (k + 1) f' hd'
    refine ⟨g, ?_, ?_⟩
    · rw [← g1]
      refine run_inl ?_
      unfold ref4_Near_bl5 ref4_Near_l7
      simp only
      rw [if_pos (by omega)]
      exact s1
    · rw [g2, s2]
      constructor
      · rintro ((h1 | h1) | ⟨z, hz, h1⟩)
        · exact .inl h1
        · exact .inr ⟨h, List.mem_cons_self .., h1⟩
        · exact .inr ⟨z, List.mem_cons_of_mem _ hz, h1⟩
      · rintro (h1 | ⟨z, hz, h1⟩)
        · exact .inl (.inl h1)
        · rcases List.mem_cons.1 hz with rfl | hz
          · exact .inl (.inr h1)
          · exact .inr ⟨z, hz, h1⟩
/-- What is near in an item, by the item alone. -/
theorem near_item {items : List (List UInt8)} {a b : List UInt8} {d : Int} {i : Nat} (hi : i < items.length) :
    (∃ h ∈ hitsIn (pairs 0 [items.getD i default]) a, ∃ q ∈ hitsIn (pairs 0 [items.getD i default]) b, h.2 ≠ q.2 ∧ -d ≤ h.2 - q.2 ∧ h.2 - q.2 ≤ d) ↔ NearI items a b d (i : Int) := by
  have one : ∀ (w : List UInt8) (k : Nat), (w, ((0 : Int), (k : Int))) ∈ pairs 0 [items.getD i default] ↔ (w, ((i : Int), (k : Int))) ∈ pairs 0 items := fun w k => by
    have h1 := mem_pairs [items.getD i default] 0 0 k w
    have h2 := mem_pairs items 0 i k w
    rw [show ((0 : Nat) : Int) = 0 from rfl] at h1
    rw [h1, h2, Nat.sub_zero, Nat.sub_zero]
    have e : ([items.getD i default] : List (List UInt8)).getD 0 default = items.getD i default := rfl
    rw [e, List.length_singleton]
    constructor
    · rintro ⟨_, _, h3⟩; exact ⟨Nat.zero_le _, by omega, h3⟩
    · rintro ⟨_, _, h3⟩; exact ⟨Nat.zero_le _, by omega, h3⟩
  have nat : ∀ {r : List (List UInt8)} {p : List UInt8 × Hit}, p ∈ pairs 0 r → ∃ k : Nat, p.2.2 = (k : Int) := fun {r p} hp => by
    have := (mem_pairs_ok 0 r (total r) (fun t ht => total_mem ht) p hp).2.2.1
    exact ⟨p.2.2.toNat, by omega⟩
  have zer : ∀ {p : List UInt8 × Hit}, p ∈ pairs 0 [items.getD i default] → p.2.1 = 0 := fun {p} hp => by
    have := mem_pairs_ok 0 [items.getD i default] (total [items.getD i default]) (fun t ht => total_mem ht) p hp
    rw [List.length_singleton] at this
    omega
  unfold NearI
  constructor
  · rintro ⟨h, hh, q, hq, h1, h2, h3⟩
    rw [mem_hitsIn] at hh hq
    obtain ⟨k, hk⟩ := nat hh
    obtain ⟨k', hk'⟩ := nat hq
    have z1 := zer hh
    have z2 := zer hq
    simp only at hk hk' z1 z2
    have e1 : h = (0, (k : Int)) := Prod.ext z1 hk
    have e2 : q = (0, (k' : Int)) := Prod.ext z2 hk'
    subst e1 e2
    exact ⟨(k : Int), (k' : Int), (one a k).1 hh, (one b k').1 hq, h1, h2, h3⟩
  · rintro ⟨k, k', h1, h2, h3, h4, h5⟩
    obtain ⟨m, hm⟩ := nat h1
    obtain ⟨m', hm'⟩ := nat h2
    simp only at hm hm'
    subst hm hm'
    exact ⟨(0, (m : Int)), mem_hitsIn.2 ((one a m).2 h1), (0, (m' : Int)), mem_hitsIn.2 ((one b m').2 h2), h3, h4, h5⟩
theorem near_ref {items : List (List UInt8)} (hn : items.length ≤ 64) (ht : ∀ t ∈ items, t.length ≤ 2048) (a b : List UInt8) {d : Int} (hd : 1 ≤ d ∧ d ≤ 2048) :
    ∃ L, ref4_Near items a b d = some L ∧ IncI L ∧ ∀ x, x ∈ L ↔ NearI items a b d x := by
  have inb : ∀ x, NearI items a b d x → 0 ≤ x ∧ x < (items.length : Int) := fun x ⟨k, k', h1, _⟩ => by
    have := mem_pairs_ok 0 items 2048 ht _ h1
    simp only at this
    omega
  unfold ref4_Near ref4_Near_l2
  have key : ∀ (m i : Nat) (out : List Int), i + m = items.length → IncI out → out.length ≤ i → (∀ x, x ∈ out ↔ NearI items a b d x ∧ x < (i : Int)) →
      ∃ L, run (ref4_Near_bl2 items a b d) (out, (i : Int)) = some L ∧ IncI L ∧ ∀ x, x ∈ L ↔ NearI items a b d x := by
    intro m
    induction m with
    | zero =>
      intro i out hm hi ho hx
      refine ⟨out, run_inr (m := some out) ?_, hi, fun x => ?_⟩
      · unfold ref4_Near_bl2 ref4_Near_k1
        simp only
        rw [if_neg (by omega)]
      · rw [hx]
        exact ⟨fun h => h.1, fun h => ⟨h, by have := inb x h; omega⟩⟩
    | succ m ih =>
      intro i out hm hi ho hx
      have hil : i < items.length := by omega
      have htl : (items.getD i default).length ≤ 2048 := ht _ (by rw [List.getD_eq_getElem?_getD, List.getElem?_eq_getElem hil]; exact List.getElem_mem _)
      have hdt : (items.drop i).take (i + 1 - i) = [items.getD i default] := by
        rw [Nat.add_sub_cancel_left, List.drop_eq_getElem_cons hil, List.take_succ_cons, List.take_zero, List.getD_eq_getElem?_getD, List.getElem?_eq_getElem hil]
        rfl
      have h1 : ∀ t ∈ [items.getD i default], t.length ≤ 2048 := fun t h => by rw [List.mem_singleton.1 h]; exact htl
      have hp := pairs_fit (items := [items.getD i default]) (by simp) h1
      have hh : ∀ w, (hitsIn (pairs 0 [items.getD i default]) w).length ≤ 1000000 ∧ ∀ h ∈ hitsIn (pairs 0 [items.getD i default]) w, -1000000 ≤ h.2 ∧ h.2 ≤ 1000000 := fun w => by
        have h2 := hitsIn_len (pairs 0 [items.getD i default]) w
        refine ⟨by omega, fun h hm => ?_⟩
        have := mem_pairs_ok 0 _ 2048 h1 _ (mem_hitsIn.1 hm)
        simp only at this
        omega
      have rh : ∀ w, ref4_Hits [items.getD i default] [w] = some (hitsIn (pairs 0 [items.getD i default]) w) := fun w => by rw [ref_hits (by simp) (by simp) h1, hitsAll_one]
      have e1 : ((i : Int) + 1).toNat = i + 1 := by omega
      obtain ⟨g, g1, g2⟩ := rnear5 (hh a).1 (hh b).1 (hh a).2 (hh b).2 hd out i (hitsIn (pairs 0 [items.getD i default]) a) 0 false rfl
      simp only [Bool.false_eq_true, false_or] at g2
      rw [near_item hil] at g2
      have hbody : ref4_Near_bl2 items a b d (out, (i : Int)) = some (.inl (out ++ (if g then [(i : Int)] else []), ((i + 1 : Nat) : Int))) := by
        unfold ref4_Near_bl2 ref4_Near_l5
        simp only
        rw [if_pos (by omega), chk_pos (by constructor <;> omega), chk_pos ⟨by omega, by omega, by omega⟩, e1, Int.toNat_natCast, hdt, rh a, Option.bind_some, chk_pos (by constructor <;> omega), chk_pos ⟨by omega, by omega, by omega⟩, rh b, Option.bind_some]
        refine g1.trans ?_
        unfold ref4_Near_k4 ref4_Near_k3
        cases g with
        | true => rw [if_pos rfl, if_pos rfl, chk_pos (by rw [List.length_singleton]; constructor <;> omega), chk_pos (by constructor <;> omega)]; rfl
        | false => rw [if_neg (by decide), if_neg (by decide), chk_pos (by constructor <;> omega), List.append_nil]; rfl
      rw [run_inl hbody]
      cases g with
      | true =>
        rw [if_pos rfl]
        refine ih (i + 1) _ (by omega) (List.pairwise_append.2 ⟨hi, List.pairwise_singleton _ _, fun y hy z hz => by
          rw [List.mem_singleton.1 hz]
          exact ((hx y).1 hy).2⟩) (by simp; omega) (fun x => ?_)
        rw [List.mem_append, List.mem_singleton, hx]
        constructor
        · rintro (⟨h3, h4⟩ | rfl)
          · exact ⟨h3, by omega⟩
          · exact ⟨g2.1 rfl, by omega⟩
        · rintro ⟨h3, h4⟩
          by_cases h5 : x < (i : Int)
          · exact .inl ⟨h3, h5⟩
          · exact .inr (by omega)
      | false =>
        rw [if_neg (by decide), List.append_nil]
        refine ih (i + 1) _ (by omega) hi (by omega) (fun x => ?_)
        rw [hx]
        constructor
        · rintro ⟨h3, h4⟩; exact ⟨h3, by omega⟩
        · rintro ⟨h3, h4⟩
          refine ⟨h3, ?_⟩
          have h5 : x ≠ (i : Int) := fun e => by
            have := g2.2 (e ▸ h3)
            cases this
          omega
  exact key items.length 0 [] (by omega) List.Pairwise.nil (Nat.le_refl _) (fun x => by
    simp only [List.not_mem_nil, false_iff, not_and]
    intro h
    have := inb x h
    omega)
/-- Build, at a glance: the index of items that fit, or a fault and no items. -/
theorem build_cases (items : List (List UInt8)) : (∃ f : Int × Int, words_Build items = some ((0, []), f) ∧ f.1 ≠ 0) ∨ (words_Build items = some (((items.length : Int), E items), (0, 0)) ∧ items.length ≤ 64 ∧ (∀ t ∈ items, t.length ≤ 2048) ∧ gs (numsI ((items.length : Int), E items)) ≤ 131072) := by
  by_cases hn : 64 < items.length
  · exact .inl ⟨(2, -1), by rw [build_all, if_pos hn], by decide⟩
  cases hl : tooLong 0 items with
  | some j => exact .inl ⟨(3, (j : Int)), by rw [build_all, if_neg hn, hl], by simp⟩
  | none =>
    have ht := tooLong_none 0 items hl
    by_cases hs : 131072 < gs (numsI ((items.length : Int), E items))
    · exact .inl ⟨(14, -1), by rw [build_ok (by omega) ht hl, if_pos hs], by decide⟩
    · exact .inr ⟨by rw [build_ok (by omega) ht hl, if_neg hs], by omega, ht, by omega⟩
theorem wf_code (w : List UInt8) : (wf w).1 = 0 ↔ wf w = (0, 0) := by
  unfold wf
  split
  · simp
  · split <;> simp
theorem nearF_code {a b : List UInt8} : (nearF a b).1 ≠ 0 := by
  unfold nearF
  split
  · split
    · decide
    · rename_i h; exact fun h' => h ((wf_code b).1 h')
  · rename_i h; exact fun h' => h ((wf_code a).1 h')
end Go.Proofs.YtdiieblgeaehpaaDoor
