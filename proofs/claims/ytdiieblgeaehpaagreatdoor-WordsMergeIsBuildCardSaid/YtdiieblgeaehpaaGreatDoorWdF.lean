/- The entries of the index that Build makes; sizes of gamma codes. -/
import Derived.Test.YtdiieblgeaehpaaGreatDoorWdE
namespace Go.L
open Go Go.Proofs.YtdiieblgeaehpaaGreatDoor
theorem fin_text {cur : List UInt8} {fr at' n : Nat} (h : cur.length ≤ n) : ∀ w ∈ fin cur fr at', w.1.length ≤ n := by
  intro w hw
  unfold fin at hw
  split at hw
  · cases hw
  · rw [List.mem_singleton.1 hw]; exact h
theorem spl_text {a : List UInt8} : ∀ (f at' : Nat) (cur : List UInt8) (fr : Nat), at' ≤ a.length → cur.length ≤ at' → ∀ w ∈ spl a f at' cur fr, w.1.length ≤ a.length
  | 0, at', cur, fr, h, hc => fin_text (by omega)
  | f + 1, at', cur, fr, h, hc => by
    intro w hw
    unfold spl at hw
    split at hw
    · rename_i h1
      split at hw
      · rcases List.mem_append.1 hw with hw | hw
        · exact fin_text (by omega) w hw
        · exact spl_text f (at' + 1) [] (at' + 1) (by omega) (by simp) w hw
      · exact spl_text f _ _ fr (ltr_room h1) (by rw [List.length_append, low_len h1]; omega) w hw
    · exact fin_text (by omega) w hw
theorem wds_text (a : List UInt8) : ∀ w ∈ wds a, w.1.length ≤ a.length := spl_text _ 0 [] 0 (Nat.zero_le _) (Nat.le_refl _)
theorem pairs_text : ∀ (i : Nat) (r : List (List UInt8)), (∀ t ∈ r, t.length ≤ 2048) → ∀ k ∈ (pairs i r).map Prod.fst, k.length ≤ 2048
  | _, [], _, k, hk => by cases hk
  | i, t :: r, h, k, hk => by
    unfold pairs at hk
    rw [List.map_append] at hk
    rcases List.mem_append.1 hk with hk | hk
    · obtain ⟨x, hx, rfl⟩ := List.mem_map.1 hk
      unfold pairsAt at hx
      obtain ⟨y, hy, rfl⟩ := List.mem_map.1 hx
      have h1 : y.1 ∈ wds t := by
        have := List.mem_zipIdx' hy
        rw [this.2]
        exact List.getElem_mem _
      exact Nat.le_trans (wds_text t y.1 h1) (h t (List.mem_cons_self ..))
    · exact pairs_text (i + 1) r (fun x hx => h x (List.mem_cons_of_mem _ hx)) k hk
theorem tooLong_none : ∀ (i : Nat) (r : List (List UInt8)), tooLong i r = none → ∀ t ∈ r, t.length ≤ 2048
  | _, [], _, t, ht => by cases ht
  | i, x :: r, h, t, ht => by
    unfold tooLong at h
    split at h
    · cases h
    · rcases List.mem_cons.1 ht with rfl | ht
      · omega
      · exact tooLong_none (i + 1) r h t ht
/-- The entries of an index, by word. -/
def ents (M : HM) : HM := ((M.map Prod.fst).mergeSort leB).map fun k => (k, mget [] k M)
theorem ents_len (M : HM) : (ents M).length = M.length := by unfold ents; rw [List.length_map, List.length_mergeSort, List.length_map]
end Go.L
namespace Go.Proofs.YtdiieblgeaehpaaGreatDoor
open Go Go.L
theorem build_ents (n : Int) (M : HM) (hf : KeysFit M) (hm : M.length ≤ 1000000) : words_build n M = words_build_k1 n (ents M) := by
  unfold words_build sortedKeys
  rw [chk_pos hf, Option.bind_some]
  unfold words_build_l2
  have hl : ((M.map Prod.fst).mergeSort leB).length = M.length := by rw [List.length_mergeSort, List.length_map]
  have key := run_count (b := words_build_bl2 n M ((M.map Prod.fst).mergeSort leB)) (m := words_build_k1 n (ents M)) (fun k => ((ents M).take k, ((k : Nat) : Int))) M.length (fun k hk => by
    unfold words_build_bl2
    simp only
    have h1 : (ents M).take (k + 1) = (ents M).take k ++ [(((M.map Prod.fst).mergeSort leB).getD k default, mget [] (((M.map Prod.fst).mergeSort leB).getD k default) M)] := by
      rw [List.take_add_one]
      congr 1
      unfold ents
      rw [List.getElem?_map, List.getD_eq_getElem?_getD, List.getElem?_eq_getElem (by omega)]
      rfl
    have h2 : ((ents M).take k).length ≤ 1000000 := by rw [List.length_take]; omega
    rw [if_pos (by omega), chk_pos ⟨by omega, by omega⟩, Int.toNat_natCast, chk_pos (by rw [List.length_singleton]; constructor <;> omega), chk_pos (by constructor <;> omega), h1]
    rfl) (by
    unfold words_build_bl2
    simp only
    rw [if_neg (by omega), List.take_of_length_le (by rw [ents_len]; exact Nat.le_refl _)]) 0 (by omega)
  exact key
end Go.Proofs.YtdiieblgeaehpaaGreatDoor

namespace Go.L
open Go
/-- How many digits a number takes. -/
def blen (n : Nat) : Nat := if n = 0 then 0 else n.log2 + 1
theorem blen_lt {n k : Nat} (h : n < 2 ^ k) : blen n ≤ k := by
  unfold blen
  split
  · omega
  · rename_i h0
    have := (Nat.log2_lt h0).2 h
    omega
theorem blen_div {n k : Nat} (h : 2 ^ k ≤ n) : blen n = blen (n / 2 ^ k) + k := by
  have hp : 0 < 2 ^ k := Nat.two_pow_pos k
  have hn : n ≠ 0 := by omega
  have hm : n / 2 ^ k ≠ 0 := by
    have := Nat.div_pos h hp
    omega
  unfold blen
  rw [if_neg hn, if_neg hm]
  have h1 : n.log2 ≤ (n / 2 ^ k).log2 + k := by
    have h2 : n / 2 ^ k < 2 ^ ((n / 2 ^ k).log2 + 1) := Nat.lt_log2_self
    have h3 : n < 2 ^ ((n / 2 ^ k).log2 + 1 + k) := by
      rw [Nat.pow_add]
      exact (Nat.div_lt_iff_lt_mul hp).1 h2
    have := (Nat.log2_lt hn).2 h3
    omega
  have h2 : (n / 2 ^ k).log2 + k ≤ n.log2 := by
    rw [Nat.le_log2 hn, Nat.pow_add]
    exact Nat.le_trans (Nat.mul_le_mul_right _ (Nat.log2_self_le hm)) (Nat.div_mul_le_self n (2 ^ k))
  omega
end Go.L
namespace Go.Proofs.YtdiieblgeaehpaaGreatDoor
open Go Go.L
theorem tab8 : ∀ i : Fin 256, math_bits_Len64_k3 ((i.val : Nat) : Int) 0 = some ((blen i.val : Nat) : Int) := by decide +kernel
theorem k3_eq {s : Nat} (hs : s < 256) {c : Int} (h0 : 0 ≤ c) (h1 : c ≤ 100) : math_bits_Len64_k3 (s : Int) c = some (c + ((blen s : Nat) : Int)) := by
  have h := tab8 ⟨s, hs⟩
  have hb : blen s ≤ 8 := blen_lt (by omega)
  simp only at h
  unfold math_bits_Len64_k3 at h ⊢
  obtain ⟨g1, h⟩ := chk_some h
  obtain ⟨_, h⟩ := chk_some h
  have hT := Option.some.inj h
  rw [Int.zero_add] at hT
  rw [chk_pos g1, hT, chk_pos (by constructor <;> omega)]
theorem len64_eq {n : Nat} (hn : n < 16777216) : math_bits_Len64 (n : Int) = some ((blen n : Nat) : Int) := by
  unfold math_bits_Len64 math_bits_Len64_k1 math_bits_Len64_k2
  rw [if_neg (by omega)]
  by_cases h1 : 65536 ≤ n
  · have e : (n : Int) / 65536 = ((n / 65536 : Nat) : Int) := by omega
    rw [if_pos (by omega), chk_pos (by constructor <;> omega), e, if_neg (by omega), k3_eq (by omega) (by omega) (by omega), blen_div (n := n) (k := 16) (by omega)]
    congr 1
    show 16 + ((blen (n / 65536) : Nat) : Int) = ((blen (n / 65536) + 16 : Nat) : Int)
    omega
  · rw [if_neg (by omega)]
    by_cases h2 : 256 ≤ n
    · have e : (n : Int) / 256 = ((n / 256 : Nat) : Int) := by omega
      rw [if_pos (by omega), chk_pos (by constructor <;> omega), e, k3_eq (by omega) (by omega) (by omega), blen_div (n := n) (k := 8) (by omega)]
      congr 1
      show 8 + ((blen (n / 256) : Nat) : Int) = ((blen (n / 256) + 8 : Nat) : Int)
      omega
    · rw [if_neg (by omega), k3_eq (by omega) (by omega) (by omega), Int.zero_add]
/-- The size of a gamma code. -/
def gz (n : Nat) : Nat := if n = 0 then 0 else 2 * blen n - 1
theorem gamma_eq {n : Nat} (hn : n < 16777216) : bits_GammaSize (n : Int) = some ((gz n : Nat) : Int) := by
  unfold bits_GammaSize gz math_bits_Len
  by_cases h : n = 0
  · rw [if_pos (by omega), if_pos h]; rfl
  · have hb : blen n ≤ 24 := blen_lt (by omega)
    have hp : 1 ≤ blen n := by unfold blen; rw [if_neg h]; omega
    have hw : IntKind.u64.wrap (n : Int) = (n : Int) := by simp [IntKind.wrap, IntKind.signed, IntKind.bits]; omega
    rw [if_neg (by omega), if_neg h, hw, len64_eq hn, Option.bind_some, Option.bind_some, chk_pos (by constructor <;> omega), chk_pos (by constructor <;> omega)]
    congr 1
    omega
theorem gz_le {n k : Nat} (h : n < 2 ^ k) (_hk : 1 ≤ k) : gz n ≤ 2 * k - 1 := by
  unfold gz
  have := blen_lt h
  split <;> omega
end Go.Proofs.YtdiieblgeaehpaaGreatDoor
