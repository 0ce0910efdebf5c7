/- The reference's words of a text are 'wds'. -/
import Derived.Test.YtdiieblgeaehpaaGreatDoorWdA
namespace Go.Proofs.YtdiieblgeaehpaaGreatDoor
open Go Go.L
theorem in_eq (x y z : Int) : ref3_In x y z = some (decide (y ≤ x ∧ x ≤ z)) := rfl
theorem at_eq (x y : Int) : ref3_At x y = some (x, y) := rfl
theorem getD_bt {a : List UInt8} {i : Nat} (k : Nat) {z : Int} (hz : z = ((i + k : Nat) : Int)) : ((a.getD z.toNat default).toNat : Int) = ((bt (a.drop i) k : Nat) : Int) := by
  subst hz
  rw [bt_drop, Int.toNat_natCast]
  rfl
/-- One byte more of a code point. -/
theorem size_step {a : List UInt8} (hs : a.length ≤ 1000000000000) {i k : Nat} (n : Nat) (p : Nat) (hp : p ≤ 1000000000) (hk : k < n) (_h4 : n ≤ 4) (hlen : i + n ≤ a.length) :
    ref4_Size_bl5 a (i : Int) (n : Int) ((p : Int), (k : Int)) = if cont (a.drop i) k then some (.inl (((p * 64 + (bt (a.drop i) k - 128) : Nat) : Int), ((k + 1 : Nat) : Int))) else some (.inr 0) := by
  unfold ref4_Size_bl5
  have hb : bt (a.drop i) k < 256 := UInt8.toNat_lt _
  have hg := getD_bt (a := a) (i := i) k (z := (i : Int) + (k : Int)) (by omega)
  simp only
  rw [if_pos (by omega), chk_pos (by constructor <;> omega), chk_pos ⟨by omega, by omega⟩, hg, in_eq, Option.bind_some]
  have hc : cont (a.drop i) k = decide ((128 : Int) ≤ ((bt (a.drop i) k : Nat) : Int) ∧ ((bt (a.drop i) k : Nat) : Int) ≤ 191) := by
    unfold cont
    rw [List.length_drop]
    congr 1
    apply propext
    constructor
    · rintro ⟨_, h2, h3⟩; exact ⟨by omega, by omega⟩
    · rintro ⟨h2, h3⟩; exact ⟨by omega, by omega, by omega⟩
  rw [hc]
  by_cases h : (128 : Int) ≤ ((bt (a.drop i) k : Nat) : Int) ∧ ((bt (a.drop i) k : Nat) : Int) ≤ 191
  · rw [decide_eq_true h, if_neg (by decide), if_pos rfl, chk_pos (by constructor <;> omega), chk_pos (by constructor <;> omega), chk_pos (by constructor <;> omega), chk_pos (by constructor <;> omega)]
    congr 3
    · omega
  · rw [decide_eq_false h, if_pos (by decide), if_neg (by decide)]
    rfl
theorem size_last {a : List UInt8} {i : Nat} (n : Nat) (p : Nat) : ref4_Size_bl5 a (i : Int) (n : Int) ((p : Int), (n : Int)) = (ref4_Size_k4 (n : Int) (p : Int)).map Sum.inr := by
  unfold ref4_Size_bl5
  simp only
  rw [if_neg (by omega)]
theorem size_eq {a : List UInt8} (hs : a.length ≤ 1000000000000) {i : Nat} (hi : i < a.length) : ref4_Size a (i : Int) = some ((szs (a.drop i) : Nat) : Int) := by
  have hb0 : bt (a.drop i) 0 < 256 := UInt8.toNat_lt _
  have hg := getD_bt (a := a) (i := i) 0 (z := (i : Int)) (by omega)
  have k3z : ∀ s, ref4_Size_k3 a (i : Int) 0 s = some 0 := fun s => by unfold ref4_Size_k3; rw [if_pos rfl]
  -- the loop for n bytes
  have hc : ∀ k, cont (a.drop i) k = true → i + k < a.length := fun k h => by
    have := (of_decide_eq_true h).1
    rw [List.length_drop] at this
    omega
  unfold ref4_Size
  rw [chk_pos ⟨by omega, by omega⟩, hg, in_eq, Option.bind_some]
  unfold szs
  by_cases hA : 194 ≤ bt (a.drop i) 0 ∧ bt (a.drop i) 0 ≤ 223
  · rw [decide_eq_true ⟨by omega, by omega⟩, if_pos rfl, chk_pos (by constructor <;> omega), if_pos hA]
    unfold ref4_Size_k1 ref4_Size_k2 ref4_Size_k3
    rw [hg, in_eq, Option.bind_some, decide_eq_false (by omega), if_neg (by decide), in_eq, Option.bind_some, decide_eq_false (by omega), if_neg (by decide), if_neg (by decide), chk_pos (by constructor <;> omega)]
    by_cases h2 : i + 2 ≤ a.length
    · rw [if_neg (by omega)]
      have e : ((bt (a.drop i) 0 : Nat) : Int) - 192 = ((bt (a.drop i) 0 - 192 : Nat) : Int) := by omega
      rw [e]
      unfold ref4_Size_l5
      have s1 := size_step hs (i := i) (k := 1) 2 (bt (a.drop i) 0 - 192) (by omega) (by decide) (by decide) h2
      by_cases c1 : cont (a.drop i) 1 = true
      · rw [if_pos c1] at s1 ⊢
        refine (run_inl s1).trans (run_inr (m := some 2) ((size_last 2 _).trans ?_))
        unfold ref4_Size_k4
        rw [if_neg (by decide), if_neg (by decide)]
        rfl
      · rw [if_neg c1] at s1 ⊢
        exact run_inr (m := some 0) s1
    · rw [if_pos (by omega), if_neg (fun h => by have := hc 1 h; omega)]
      rfl
  rw [decide_eq_false (by omega), if_neg (by decide), if_neg hA]
  unfold ref4_Size_k1
  rw [hg, in_eq, Option.bind_some]
  by_cases hB : 224 ≤ bt (a.drop i) 0 ∧ bt (a.drop i) 0 ≤ 239
  · rw [decide_eq_true ⟨by omega, by omega⟩, if_pos rfl, chk_pos (by constructor <;> omega), if_pos hB]
    unfold ref4_Size_k2 ref4_Size_k3
    rw [hg, in_eq, Option.bind_some, decide_eq_false (by omega), if_neg (by decide), if_neg (by decide), chk_pos (by constructor <;> omega)]
    by_cases h2 : i + 3 ≤ a.length
    · rw [if_neg (by omega)]
      have e : ((bt (a.drop i) 0 : Nat) : Int) - 224 = ((bt (a.drop i) 0 - 224 : Nat) : Int) := by omega
      rw [e]
      unfold ref4_Size_l5
      have hb1 : bt (a.drop i) 1 < 256 := UInt8.toNat_lt _
      have hb2 : bt (a.drop i) 2 < 256 := UInt8.toNat_lt _
      have s1 := size_step hs (i := i) (k := 1) 3 (bt (a.drop i) 0 - 224) (by omega) (by decide) (by decide) h2
      have s2 := size_step hs (i := i) (k := 2) 3 ((bt (a.drop i) 0 - 224) * 64 + (bt (a.drop i) 1 - 128)) (by omega) (by decide) (by decide) h2
      by_cases c1 : cont (a.drop i) 1 = true
      · rw [if_pos c1] at s1
        refine (run_inl s1).trans ?_
        by_cases c2 : cont (a.drop i) 2 = true
        · rw [if_pos c2] at s2
          refine (run_inl s2).trans (run_inr (m := some _) ((size_last 3 _).trans (congrArg _ ?_)))
          have e3 : ((bt (a.drop i) 0 - 224) * 64 + (bt (a.drop i) 1 - 128)) * 64 + (bt (a.drop i) 2 - 128) = pt3 (a.drop i) := rfl
          rw [e3]
          unfold ref4_Size_k4
          rw [if_pos (by decide)]
          by_cases q1 : 2048 ≤ pt3 (a.drop i)
          · rw [if_neg (by omega), in_eq, Option.bind_some]
            by_cases q2 : 55296 ≤ pt3 (a.drop i) ∧ pt3 (a.drop i) ≤ 57343
            · rw [decide_eq_true ⟨by omega, by omega⟩, if_pos rfl, if_neg (fun h => h.2.2.2 q2)]; rfl
            · rw [decide_eq_false (by omega), if_neg (by decide), if_neg (by decide), if_pos ⟨c1, c2, q1, q2⟩]
          · rw [if_pos (by omega), if_neg (fun h => q1 h.2.2.1)]; rfl
        · rw [if_neg c2] at s2
          rw [if_neg (fun h => c2 h.2.1)]
          exact run_inr (m := some 0) s2
      · rw [if_neg c1] at s1
        rw [if_neg (fun h => c1 h.1)]
        exact run_inr (m := some 0) s1
    · rw [if_pos (by omega), if_neg (fun h => by have := hc 2 h.2.1; omega)]
      rfl
  rw [decide_eq_false (by omega), if_neg (by decide), if_neg hB]
  unfold ref4_Size_k2
  rw [hg, in_eq, Option.bind_some]
  by_cases hC : 240 ≤ bt (a.drop i) 0 ∧ bt (a.drop i) 0 ≤ 244
  · rw [decide_eq_true ⟨by omega, by omega⟩, if_pos rfl, chk_pos (by constructor <;> omega), if_pos hC]
    unfold ref4_Size_k3
    rw [if_neg (by decide), chk_pos (by constructor <;> omega)]
    by_cases h2 : i + 4 ≤ a.length
    · rw [if_neg (by omega)]
      have e : ((bt (a.drop i) 0 : Nat) : Int) - 240 = ((bt (a.drop i) 0 - 240 : Nat) : Int) := by omega
      rw [e]
      unfold ref4_Size_l5
      have hb1 : bt (a.drop i) 1 < 256 := UInt8.toNat_lt _
      have hb2 : bt (a.drop i) 2 < 256 := UInt8.toNat_lt _
      have hb3 : bt (a.drop i) 3 < 256 := UInt8.toNat_lt _
      have s1 := size_step hs (i := i) (k := 1) 4 (bt (a.drop i) 0 - 240) (by omega) (by decide) (by decide) h2
      have s2 := size_step hs (i := i) (k := 2) 4 ((bt (a.drop i) 0 - 240) * 64 + (bt (a.drop i) 1 - 128)) (by omega) (by decide) (by decide) h2
      have s3 := size_step hs (i := i) (k := 3) 4 (((bt (a.drop i) 0 - 240) * 64 + (bt (a.drop i) 1 - 128)) * 64 + (bt (a.drop i) 2 - 128)) (by omega) (by decide) (by decide) h2
      by_cases c1 : cont (a.drop i) 1 = true
      · rw [if_pos c1] at s1
        refine (run_inl s1).trans ?_
        by_cases c2 : cont (a.drop i) 2 = true
        · rw [if_pos c2] at s2
          refine (run_inl s2).trans ?_
          by_cases c3 : cont (a.drop i) 3 = true
          · rw [if_pos c3] at s3
            refine (run_inl s3).trans (run_inr (m := some _) ((size_last 4 _).trans (congrArg _ ?_)))
            have e3 : (((bt (a.drop i) 0 - 240) * 64 + (bt (a.drop i) 1 - 128)) * 64 + (bt (a.drop i) 2 - 128)) * 64 + (bt (a.drop i) 3 - 128) = pt4 (a.drop i) := rfl
            rw [e3]
            unfold ref4_Size_k4
            rw [if_neg (by decide), if_pos (by decide), in_eq, Option.bind_some]
            by_cases q1 : 65536 ≤ pt4 (a.drop i) ∧ pt4 (a.drop i) ≤ 1114111
            · rw [decide_eq_true ⟨by omega, by omega⟩, if_neg (by decide), if_pos ⟨c1, c2, c3, q1⟩]
            · rw [decide_eq_false (by omega), if_pos (by decide), if_neg (fun h => q1 h.2.2.2)]; rfl
          · rw [if_neg c3] at s3
            rw [if_neg (fun h => c3 h.2.2.1)]
            exact run_inr (m := some 0) s3
        · rw [if_neg c2] at s2
          rw [if_neg (fun h => c2 h.2.1)]
          exact run_inr (m := some 0) s2
      · rw [if_neg c1] at s1
        rw [if_neg (fun h => c1 h.1)]
        exact run_inr (m := some 0) s1
    · rw [if_pos (by omega), if_neg (fun h => by have := hc 3 h.2.2.1; omega)]
      rfl
  rw [decide_eq_false (by omega), if_neg (by decide), if_neg hC, k3z]
  rfl
theorem ref_letter {a : List UInt8} (hs : a.length ≤ 1000000000000) {i : Nat} (hi : i < a.length) : ref4_Letter a (i : Int) = some ((ltr (a.drop i) : Nat) : Int) := by
  have hg := getD_bt (a := a) (i := i) 0 (z := (i : Int)) (by omega)
  unfold ref4_Letter
  rw [chk_pos ⟨by omega, by omega⟩, hg, in_eq, Option.bind_some]
  unfold ltr asc
  by_cases h1 : 48 ≤ bt (a.drop i) 0 ∧ bt (a.drop i) 0 ≤ 57
  · rw [decide_eq_true ⟨by omega, by omega⟩, if_pos rfl, if_pos (decide_eq_true (.inl h1))]; rfl
  rw [decide_eq_false (by omega), if_neg (by decide), in_eq, Option.bind_some]
  by_cases h2 : 97 ≤ bt (a.drop i) 0 ∧ bt (a.drop i) 0 ≤ 122
  · rw [decide_eq_true ⟨by omega, by omega⟩, if_pos rfl, if_pos (decide_eq_true (.inr (.inl h2)))]; rfl
  rw [decide_eq_false (by omega), if_neg (by decide), in_eq, Option.bind_some]
  by_cases h3 : 65 ≤ bt (a.drop i) 0 ∧ bt (a.drop i) 0 ≤ 90
  · rw [decide_eq_true ⟨by omega, by omega⟩, if_pos rfl, if_pos (decide_eq_true (.inr (.inr h3)))]; rfl
  rw [decide_eq_false (by omega), if_neg (by decide), size_eq hs hi, Option.bind_some, if_neg (fun h => by have := of_decide_eq_true h; omega)]
end Go.Proofs.YtdiieblgeaehpaaGreatDoor
namespace Go.Proofs.YtdiieblgeaehpaaGreatDoor
open Go Go.L
theorem take_low {a : List UInt8} {e j : Nat} (h : e + j < a.length) : ((a.drop e).take (j + 1)).map lowb = ((a.drop e).take j).map lowb ++ [lowb (a.getD (e + j) default)] := by
  have h1 : (a.drop e)[j]? = some (a.getD (e + j) default) := by
    rw [List.getElem?_drop, List.getD_eq_getElem?_getD, List.getElem?_eq_getElem h]
    rfl
  rw [List.take_add_one, h1, List.map_append]
  rfl
theorem copy_low {a : List UInt8} (hs : a.length ≤ 1000000000000) {e n : Nat} (h : e + n ≤ a.length) (low : List UInt8) (hl : low.length ≤ e) :
    ref4_Words_l6 a (e : Int) (n : Int) (low, (e : Int)) = some (.inl (low ++ ((a.drop e).take n).map lowb, ((e + n : Nat) : Int))) := by
  unfold ref4_Words_l6
  have key := run_count (b := ref4_Words_bl6 a (e : Int) (n : Int)) (m := some (.inl (low ++ ((a.drop e).take n).map lowb, ((e + n : Nat) : Int)))) (fun j => (low ++ ((a.drop e).take j).map lowb, ((e + j : Nat) : Int))) n (fun j hj => by
    unfold ref4_Words_bl6
    simp only
    rw [chk_pos (by constructor <;> omega), if_pos (by omega), chk_pos ⟨by omega, by omega⟩, Int.toNat_natCast]
    have hlen : (low ++ ((a.drop e).take j).map lowb).length + [lowb (a.getD (e + j) default)].length ≤ 2000000000002 := by
      rw [List.length_append, List.length_map, List.length_take, List.length_drop, List.length_singleton]; omega
    have hk : ref4_Words_k7 (low ++ ((a.drop e).take j).map lowb) ((e + j : Nat) : Int) (lowb (a.getD (e + j) default)) = some (.inl (low ++ ((a.drop e).take (j + 1)).map lowb, ((e + (j + 1) : Nat) : Int))) := by
      unfold ref4_Words_k7
      rw [chk_pos (by constructor <;> omega), chk_pos (by constructor <;> omega), take_low (by omega), List.append_assoc]
      congr 3
    rw [← hk]
    unfold lowb
    split
    · rfl
    · rfl) (by
    unfold ref4_Words_bl6 ref4_Words_k5
    simp only
    rw [chk_pos (by constructor <;> omega), if_neg (by omega), chk_pos (by constructor <;> omega)]
    congr 3) 0 (by omega)
  simp only [List.take_zero, List.map_nil, List.append_nil, Nat.add_zero] at key
  exact key
theorem ref_end {a : List UInt8} {at' : Nat} (h : a.length ≤ at') (L : List W) : run (ref4_Words_bl2 a) (L, (at' : Int)) = some L := by
  refine run_inr (m := some L) ?_
  unfold ref4_Words_bl2 ref4_Words_k1
  simp only
  rw [if_neg (by omega)]
theorem ref_k3 {a : List UInt8} (hs : a.length ≤ 1000000000000) (L : List W) {fr at' : Nat} (hL : L.length ≤ at') (ha : at' ≤ a.length) (cur : List UInt8) (hfr : fr ≤ at') (hc : cur = [] ↔ fr = at') :
    ref4_Words_k3 L (fr : Int) cur (at' : Int) = some (.inl (L ++ fin cur fr at', ((at' + 1 : Nat) : Int))) := by
  unfold ref4_Words_k3 fin
  by_cases h : fr = at'
  · rw [if_neg (by omega), chk_pos (by constructor <;> omega), if_pos (hc.2 h), List.append_nil]
    congr 3
  · rw [if_pos (by omega), chk_pos (by rw [List.length_singleton]; constructor <;> omega), chk_pos (by constructor <;> omega), if_neg (fun e => h (hc.1 e))]
    congr 3
theorem ref_run {a : List UInt8} (hs : a.length ≤ 1000000000000) : ∀ (f at' : Nat) (L : List W), a.length ≤ at' + f → L.length ≤ at' → at' ≤ a.length + 1 →
    run (ref4_Words_bl2 a) (L, (at' : Int)) = some (L ++ spl a f at' [] at') ∧
    ∀ (cur : List UInt8) (fr : Nat), at' ≤ a.length → fr ≤ at' → cur.length ≤ at' → (cur = [] ↔ fr = at') → ∃ s, run (ref4_Words_bl4 a L (fr : Int)) (cur, (at' : Int)) = some (.inl s) ∧
      run (ref4_Words_bl2 a) s = some (L ++ spl a f at' cur fr) := by
  have E : ∀ (f at' : Nat) (L : List W), a.length ≤ at' → L.length ≤ at' → ∀ (cur : List UInt8) (fr : Nat), at' ≤ a.length → fr ≤ at' → (cur = [] ↔ fr = at') → ∃ s, run (ref4_Words_bl4 a L (fr : Int)) (cur, (at' : Int)) = some (.inl s) ∧
      run (ref4_Words_bl2 a) s = some (L ++ spl a f at' cur fr) := by
    intro f at' L h hL cur fr hle hfr hc
    refine ⟨(L ++ fin cur fr at', ((at' + 1 : Nat) : Int)), ?_, ?_⟩
    · refine run_inr (m := some (Sum.inl (L ++ fin cur fr at', ((at' + 1 : Nat) : Int)) : WS)) ?_
      unfold ref4_Words_bl4
      simp only
      rw [if_neg (by omega), ref_k3 hs L hL hle cur hfr hc]
    · rw [ref_end (by omega), spl_end h]
  intro f
  induction f with
  | zero =>
    intro at' L hf hL ha
    constructor
    · rw [ref_end (by omega), spl_end (by omega)]
      unfold fin
      rw [if_pos rfl, List.append_nil]
    · intro cur fr hle hfr _ hc
      exact E 0 at' L (by omega) hL cur fr hle hfr hc
  | succ f ih =>
    intro at' L hf hL ha
    have B : ∀ (cur : List UInt8) (fr : Nat), at' ≤ a.length → fr ≤ at' → cur.length ≤ at' → (cur = [] ↔ fr = at') → ∃ s, run (ref4_Words_bl4 a L (fr : Int)) (cur, (at' : Int)) = some (.inl s) ∧
      run (ref4_Words_bl2 a) s = some (L ++ spl a (f + 1) at' cur fr) := by
      intro cur fr hle hfr hcl hc
      by_cases h : at' < a.length
      · have hroom := ltr_room h
        have hlow := low_len h
        have hl := ref_letter hs h
        unfold spl
        rw [if_pos h]
        by_cases h0 : ltr (a.drop at') = 0
        · rw [if_pos h0]
          refine ⟨(L ++ fin cur fr at', ((at' + 1 : Nat) : Int)), ?_, ?_⟩
          · refine run_inr (m := some (Sum.inl (L ++ fin cur fr at', ((at' + 1 : Nat) : Int)) : WS)) ?_
            unfold ref4_Words_bl4
            simp only
            rw [if_pos (by omega), hl, Option.bind_some, if_neg (by omega), ref_k3 hs L hL hle cur hfr hc]
          · have h1 := (ih (at' + 1) (L ++ fin cur fr at') (by omega) (by rw [List.length_append]; have := fin_len cur fr at'; omega) (by omega)).1
            rw [h1, List.append_assoc]
        · rw [if_neg h0]
          have hne : ((a.drop at').take (ltr (a.drop at'))).map lowb ≠ [] := fun e => by rw [e, List.length_nil] at hlow; omega
          obtain ⟨s, h1, h2⟩ := (ih (at' + ltr (a.drop at')) L (by omega) (by omega) (by omega)).2 (cur ++ ((a.drop at').take (ltr (a.drop at'))).map lowb) fr hroom (by omega) (by rw [List.length_append, hlow]; omega) ⟨fun e => absurd (List.append_eq_nil_iff.1 e).2 hne, fun e => by omega⟩
          refine ⟨s, ?_, h2⟩
          rw [← h1]
          refine run_inl ?_
          unfold ref4_Words_bl4
          simp only
          rw [if_pos (by omega), hl, Option.bind_some, if_pos (by omega), Option.bind_some, copy_low hs hroom cur hcl]
      · exact E (f + 1) at' L (by omega) hL cur fr hle hfr hc
    refine ⟨?_, B⟩
    by_cases h : at' < a.length
    · obtain ⟨s, h1, h2⟩ := B [] at' (by omega) (by omega) (by simp) ⟨fun _ => rfl, fun _ => rfl⟩
      have hb : ref4_Words_bl2 a (L, (at' : Int)) = some (.inl s) := by
        unfold ref4_Words_bl2
        simp only
        rw [if_pos (by omega)]
        exact h1
      rw [run_inl hb]
      exact h2
    · rw [ref_end (by omega), spl_end (by omega)]
      unfold fin
      rw [if_pos rfl, List.append_nil]
theorem ref_words {a : List UInt8} (hs : a.length ≤ 1000000000000) : ref4_Words a = some (wds a) := by
  have := (ref_run hs (a.length + 1) 0 [] (by omega) (by simp) (by omega)).1
  rw [List.nil_append] at this
  exact this
/-- The fault of a word that is searched for. -/
def wf (a : List UInt8) : Int × Int := if 64 < a.length then (3, -1) else if (wds a).map Prod.fst = [a] then (0, 0) else (6, -1)
theorem check_eq (a : List UInt8) : words_Check a = some (wf a) := by
  unfold words_Check wf
  by_cases h : 64 < a.length
  · rw [if_pos (by omega), if_pos h]; rfl
  · rw [if_neg (by omega), if_neg h, isWord_eq (by omega), Option.bind_some]
    by_cases h1 : (wds a).map Prod.fst = [a]
    · rw [decide_eq_true h1, if_neg (by decide), if_pos h1]
    · rw [decide_eq_false h1, if_pos (by decide), if_neg h1]; rfl
end Go.Proofs.YtdiieblgeaehpaaGreatDoor
