/- Texts of a claim, merged. -/
import Derived.Test.YtmfiaecglndldaaGreatDoorKd6
import Derived.KernelRfl
import Derived.ProofKit
import Derived.OpenShut
import Derived.Carry
import Derived.Deep.Slices
import Derived.Test.YtmfiaecglndldaaGreatDoorRows
import Derived.Lib.LaidU8T
import Derived.LaidMore
import Derived.MakeChecks
import Derived.LaidHandle
set_option linter.unusedVariables false
set_option linter.unusedSimpArgs false
section
namespace Go.L
theorem adj_pairwise {α : Type} [Inhabited α] {R : α → α → Prop} (htr : ∀ a b c, R a b → R b c → R a c) {l : List α} (h : ∀ j, 0 < j → j < l.length → R (l.getD (j - 1) default) (l.getD j default)) : l.Pairwise R := by
  rw [List.pairwise_iff_getElem]
  intro i j hi hj hij
  have key : ∀ d, i + d + 1 < l.length → R (l.getD i default) (l.getD (i + d + 1) default) := by
    intro d
    induction d with
    | zero => intro hd; exact h (i + 1) (by omega) hd
    | succ d ih =>
      intro hd
      have h1 := ih (by omega)
      have h2 := h (i + (d + 1) + 1) (by omega) hd
      rw [show i + (d + 1) + 1 - 1 = i + d + 1 by omega] at h2
      exact htr _ _ _ h1 h2
  have := key (j - i - 1) (by omega)
  rw [show i + (j - i - 1) + 1 = j by omega] at this
  simpa [List.getD_eq_getElem?_getD, List.getElem?_eq_getElem hi, List.getElem?_eq_getElem hj] using this
section
variable {κ β : Type} [DecidableEq κ]
theorem mget_mput (d : β) (k k' : κ) (y : β) : ∀ M : List (κ × β), mget d k' (mput k y M) = if k' = k then y else mget d k' M
  | [] => by simp only [mput, mget]
  | (a, z) :: M => by
    unfold mput
    by_cases h : k = a
    · subst h
      rw [if_pos rfl]
      unfold mget
      by_cases h2 : k' = k
      · rw [if_pos h2, if_pos h2]
      · rw [if_neg h2, if_neg h2]; rw [if_neg h2]
    · rw [if_neg h]
      unfold mget
      rw [mget_mput d k k' y M]
      by_cases h2 : k' = a
      · rw [if_pos h2, if_neg (fun e => h (e.symm.trans h2)), if_pos h2]
      · rw [if_neg h2, if_neg h2]
theorem mput_new {k : κ} (y : β) : ∀ {M : List (κ × β)}, k ∉ M.map Prod.fst → mput k y M = M ++ [(k, y)]
  | [], _ => rfl
  | (a, z) :: M, h => by
    unfold mput
    simp only [List.map_cons, List.mem_cons, not_or] at h
    rw [if_neg h.1, mput_new y h.2]
    rfl
theorem mget_new (d : β) {k : κ} : ∀ {M : List (κ × β)}, k ∉ M.map Prod.fst → mget d k M = d
  | [], _ => rfl
  | (a, z) :: M, h => by
    unfold mget
    simp only [List.map_cons, List.mem_cons, not_or] at h
    rw [if_neg h.1, mget_new d h.2]
theorem mget_last (d : β) {k : κ} (y : β) : ∀ {M : List (κ × β)}, k ∉ M.map Prod.fst → ∀ N, mget d k (M ++ (k, y) :: N) = y
  | [], _, N => by simp [mget]
  | (a, z) :: M, h, N => by
    simp only [List.map_cons, List.mem_cons, not_or] at h
    simp only [List.cons_append, mget, if_neg h.1]
    exact mget_last d y h.2 N
end
/-- An item of a leaf. -/
def addI (k : Lf) (i : Int) (M : List (Lf × List Int)) : List (Lf × List Int) := mput k (mget [] k M ++ [i]) M
def addL (k : Lf) (d : Int) (M : List (Lf × List Int)) (l : List Int) : List (Lf × List Int) := l.foldl (fun M z => addI k (z + d) M) M
theorem addL_get (k k' : Lf) (d : Int) : ∀ (l : List Int) (M : List (Lf × List Int)), mget [] k' (addL k d M l) = if k' = k then mget [] k M ++ l.map (· + d) else mget [] k' M
  | [], M => by unfold addL; by_cases h : k' = k <;> simp [h]
  | z :: l, M => by
    show mget [] k' (addL k d (addI k (z + d) M) l) = _
    rw [addL_get k k' d l]
    unfold addI
    rw [mget_mput, mget_mput]
    by_cases h : k' = k
    · simp [h]
    · simp [h]
end Go.L
namespace Go.Proofs.YtmfiaecglndldaaGreatDoor
open Go Go.L
/-- A good index. -/
structure GI (n : Int) (es : List En) : Prop where
  n0 : 0 ≤ n
  n64 : n ≤ 64
  ev : ∀ e ∈ es, EV n e
  sz : ∀ e ∈ es, EnS e
  len : es.length ≤ 1000000
  inc : es.Pairwise (fun a b => lfCmp a.1 b.1 < 0)
theorem open_run {b : List UInt8} {n : Int} {es : List En} {x14 : Int × Int × (Int × Int)} {x39 : List En × Int × (Int × Int)} (h14 : x14.1 = n) (h39 : x39.1 = es) (hn : 0 ≤ n ∧ n ≤ 64) (hl : es.length ≤ 1000000) (hs : ∀ e ∈ es, EnS e) :
    ∀ (k i : Nat), i + k = es.length → (∀ j, j < i → EV n (es.getD j default) ∧ (0 < j → lfCmp (es.getD (j - 1) default).1 (es.getD j default).1 < 0)) →
      ∃ r, Go.L.run (shapes_Open_bl4 b (16, -1) x14 x39) (i : Int) = some r ∧ (r = ((0, []), (16, -1)) ∨ (r = ((n, es), (0, 0)) ∧ GI n es ∧ iform n es = b)) := by
  subst h14; subst h39
  intro k
  induction k with
  | zero =>
    intro i hi hp
    have hG : GI x14.1 x39.1 := by
      refine ⟨hn.1, hn.2, fun e he => ?_, hs, hl, adj_pairwise (l := x39.1) (R := fun a b : En => lfCmp a.1 b.1 < 0) (fun a b c h1 h2 => ordLf.trans _ _ _ h1 h2) (fun j h0 hj => (hp j (by omega)).2 h0)⟩
      obtain ⟨j, hj, rfl⟩ := List.getElem_of_mem he
      have := (hp j (by omega)).1
      simpa [List.getD_eq_getElem?_getD, List.getElem?_eq_getElem hj] using this
    have e : shapes_Open_bl4 b (16, -1) x14 x39 (i : Int) = (shapes_Open_k3 b (16, -1) x14 x39).map Sum.inr := by
      unfold shapes_Open_bl4
      rw [if_neg (by omega)]
    rw [run_inr e]
    unfold shapes_Open_k3 shapes_Open_k7 bytes_Equal
    rw [bytes_eq (by unfold I64; omega) hl hs, Option.bind_some, Option.bind_some]
    by_cases hb : iform x14.1 x39.1 = b
    · rw [if_neg (by simp [hb])]
      exact ⟨_, rfl, .inr ⟨rfl, hG, hb⟩⟩
    · rw [if_pos (by simp [hb])]
      exact ⟨_, rfl, .inl rfl⟩
  | succ k ih =>
    intro i hi hp
    have hil : i < x39.1.length := by omega
    obtain ⟨c, hv, hc⟩ := valid_ex (x39.1.getD i default) x14.1 (hs _ (getD_mem hil)).2.2.2.2.2
    have e0 : ∀ x : En, shapes_entry_valid ((x.1.1, x.1.2.1, x.1.2.2.1, x.1.2.2.2), x.2) = shapes_entry_valid x := fun _ => rfl
    have hb : shapes_Open_bl4 b (16, -1) x14 x39 (i : Int) = if c = true ∧ (0 < i → lfCmp (x39.1.getD (i - 1) default).1 (x39.1.getD i default).1 < 0) then some (.inl ((i + 1 : Nat) : Int)) else some (.inr ((0, []), (16, -1))) := by
      unfold shapes_Open_bl4 shapes_Open_k5 shapes_Open_k6
      rw [if_pos (by omega), chk_pos (by omega), Int.toNat_natCast, e0, hv, Option.bind_some]
      cases c with
      | false => rw [if_pos (show (!false) = true from rfl), if_neg (by simp)]; rfl
      | true =>
        rw [if_neg (by decide)]
        by_cases h0 : 0 < i
        · rw [if_pos (by omega), chk_pos (by unfold I64; omega), chk_pos (by omega), show ((i : Int) - 1).toNat = i - 1 by omega]
          show (shapes_leaf_compare (x39.1.getD i default).1 (x39.1.getD (i - 1) default).1).bind _ = _
          rw [compare_eq, Option.bind_some]
          have hsw := ordLf.swap (x39.1.getD i default).1 (x39.1.getD (i - 1) default).1
          by_cases h1 : lfCmp (x39.1.getD i default).1 (x39.1.getD (i - 1) default).1 ≤ 0
          · rw [if_pos h1, if_neg (fun hh => by have := hh.2 h0; omega)]; rfl
          · rw [if_neg h1, if_pos ⟨rfl, fun _ => by omega⟩, chk_pos (by unfold I64; omega)]; rfl
        · rw [if_neg (by omega), if_pos ⟨rfl, fun h => absurd h h0⟩, chk_pos (by unfold I64; omega)]; rfl
    by_cases hg : c = true ∧ (0 < i → lfCmp (x39.1.getD (i - 1) default).1 (x39.1.getD i default).1 < 0)
    · rw [if_pos hg] at hb
      rw [run_inl hb]
      refine ih (i + 1) (by omega) fun j hj => ?_
      by_cases hji : j = i
      · subst hji; exact ⟨hc.1 hg.1, hg.2⟩
      · exact hp j (by omega)
    · rw [if_neg hg] at hb
      exact ⟨_, run_inr (m := some ((0, []), (16, -1))) hb, .inl rfl⟩
theorem open_ex (b : List UInt8) : ∃ r, shapes_Open b = some r ∧ ((r = ((0, []), (3, -1)) ∧ 16384 < b.length) ∨ (r = ((0, []), (16, -1)) ∧ b.length ≤ 16384) ∨ ∃ n es, r = ((n, es), (0, 0)) ∧ b.length ≤ 16384 ∧ GI n es ∧ iform n es = b) := by
  unfold shapes_Open shapes_fault
  by_cases h : 16384 < b.length
  · rw [if_pos (by omega)]
    exact ⟨_, rfl, .inl ⟨rfl, h⟩⟩
  · rw [if_neg (by omega), Option.bind_some]
    obtain ⟨⟨n, nx, f⟩, h1, h2⟩ := rnum (b := b) (by omega) (a := 0) (Nat.zero_le _)
    have h1' : wire_ReadNumber b 0 = some (n, nx, f) := h1
    rw [h1', Option.bind_some]
    unfold shapes_Open_k1 shapes_Open_k2 shapes_Open_l4
    rcases h2 with ⟨hf, hn, m, hm, h3, h4⟩ | hf
    · simp only at hf hn hm
      subst hf; subst hm
      dsimp only
      by_cases c1 : n < 0 ∨ 64 < n
      · rw [if_pos (by rcases c1 with c | c <;> simp [c])]
        exact ⟨_, rfl, .inr (.inl ⟨rfl, by omega⟩)⟩
      · rw [if_neg (by have : ¬ n < 0 := by omega
                       have h64 : ¬ 64 < n := by omega
                       simp [this, h64])]
        obtain ⟨⟨es, nx2, f2⟩, k1, k2⟩ := rentries (b := b) (by omega) h4 (most := (b.length : Int)) (by omega)
        rw [k1, Option.bind_some]
        rcases k2 with ⟨hf, ⟨he, hel⟩, _⟩ | hf
        · simp only at hf he hel
          subst hf
          dsimp only
          rw [if_pos ⟨rfl, rfl⟩]
          have hel' : es.length ≤ b.length := by have : (es.length : Int) ≤ (b.length : Int) := hel; omega
          obtain ⟨r, g1, g2⟩ := open_run (b := b) (n := n) (es := es) (x14 := (n, (m : Int), (0, 0))) (x39 := (es, nx2, (0, 0))) rfl rfl (by omega) (by omega) (fun e hee => by
            obtain ⟨q1, q2, q3, q4, q5, q6⟩ := he e hee
            exact ⟨by omega, q2, q3, by omega, q5, by omega⟩) es.length 0 (by omega) (fun j hj => absurd hj (Nat.not_lt_zero j))
          refine ⟨r, g1, ?_⟩
          rcases g2 with g | ⟨g, gg, ggg⟩
          · exact .inr (.inl ⟨g, by omega⟩)
          · exact .inr (.inr ⟨n, es, g, by omega, gg, ggg⟩)
        · dsimp only
          rw [if_neg (fun h => hf h.1)]
          exact ⟨_, rfl, .inr (.inl ⟨rfl, by omega⟩)⟩
    · dsimp only
      have hf' : f.1 ≠ 0 := hf
      rw [if_pos (by simp [hf'])]
      exact ⟨_, rfl, .inr (.inl ⟨rfl, by omega⟩)⟩
/-! ### build -/
/-- The entries of what was found. -/
def kIdx (M : List (Lf × List Int)) : List En := (srtL (M.map Prod.fst)).map fun k => (k, setI (mget [] k M))
def MS (M : List (Lf × List Int)) : Prop := M.length ≤ 1000000 ∧ ∀ k ∈ M.map Prod.fst, k.1.length ≤ 2000000 ∧ I64 k.2.1 ∧ I64 k.2.2.1 ∧ k.2.2.2.length ≤ 2000000 ∧ (mget [] k M).length ≤ 1000000 ∧ ∀ z ∈ mget [] k M, I64 z
theorem srtL_perm' (l : List Lf) : (srtL l).Perm l := List.mergeSort_perm l _
theorem setI_len (l : List Int) : (setI l).length ≤ l.length := Nat.le_trans (Go.E.compact_le _) (Nat.le_of_eq (srtI_perm l).length_eq)
theorem kIdx_S {M : List (Lf × List Int)} (h : MS M) : ∀ e ∈ kIdx M, EnS e := by
  intro e he
  obtain ⟨k, hk, rfl⟩ := List.mem_map.1 he
  obtain ⟨h1, h2, h3, h4, h5, h6⟩ := h.2 k ((srtL_perm' _).mem_iff.1 hk)
  exact ⟨h1, h2, h3, h4, fun z hz => h6 z (((setI_spec _).2 z).1 hz), Nat.le_trans (setI_len _) h5⟩
theorem kIdx_len (M : List (Lf × List Int)) : (kIdx M).length = M.length := by unfold kIdx; rw [List.length_map, srtL_length, List.length_map]
/-- What build answers. -/
def bres (n : Int) (M : List (Lf × List Int)) : (Int × List En) × (Int × Int) := if 16384 < (iform n (kIdx M)).length then ((0, []), (14, -1)) else ((n, kIdx M), (0, 0))
theorem build_eq {n : Int} {M : List (Lf × List Int)} (hn : I64 n) (h : MS M) : shapes_build n M = some (bres n M) := by
  unfold shapes_build sortedK
  have hM := h.1
  rw [chk_pos (by unfold Go.E.Cap; omega), Option.bind_some]
  unfold shapes_build_l2
  have hk1 : shapes_build_k1 n (kIdx M) = some (bres n M) := by
    unfold shapes_build_k1 shapes_fault bres
    rw [bytes_eq hn (by rw [kIdx_len]; exact hM) (kIdx_S h), Option.bind_some]
    by_cases hc : 16384 < (iform n (kIdx M)).length
    · rw [if_pos (by omega), if_pos hc]; rfl
    · rw [if_neg (by omega), if_neg hc]
  have hkl : (srtL (M.map Prod.fst)).length = M.length := by rw [srtL_length, List.length_map]
  refine run_count (fun i => (((srtL (M.map Prod.fst)).take i).map (fun k => (k, setI (mget [] k M))), ((i : Nat) : Int))) (srtL (M.map Prod.fst)).length (fun i hi => ?_) ?_ 0 (Nat.zero_le _)
  · obtain ⟨h1, h2, h3, h4, h5, h6⟩ := h.2 _ ((srtL_perm' _).mem_iff.1 (getD_mem hi))
    have ht : ((srtL (M.map Prod.fst)).take (i + 1)).map (fun k => (k, setI (mget [] k M))) = ((srtL (M.map Prod.fst)).take i).map (fun k => (k, setI (mget [] k M))) ++ [((srtL (M.map Prod.fst)).getD i default, setI (mget [] ((srtL (M.map Prod.fst)).getD i default) M))] := by
      rw [List.take_add_one, List.getElem?_eq_getElem hi, Option.toList_some, List.map_append]
      simp [List.getD_eq_getElem?_getD, List.getElem?_eq_getElem hi]
    rw [ht]
    unfold shapes_build_bl2 slices_Clone_int_int
    dsimp only
    rw [if_pos (by omega), chk_pos (by omega), Int.toNat_natCast]
    generalize (srtL (M.map Prod.fst)).getD i default = k at *
    have e5 : ((k.1, k.2.1, k.2.2.1, k.2.2.2) : Lf) = k := rfl
    simp only [e5]
    rw [chk_pos (by unfold Go.E.Cap; simp only [List.length_nil]; show (0 + (mget [] k M).length) * 8 ≤ _ ∧ _; omega), Option.bind_some]
    show Go.L.chk (([] ++ mget [] k M).length < _) _ = _
    rw [List.nil_append, chk_pos (by omega), chk_pos (by rw [(srtI_perm _).length_eq]; omega), chk_pos (by unfold Go.E.Cap; simp only [List.length_map, List.length_take, List.length_cons, List.length_nil]; omega), chk_pos (by unfold I64; omega)]
    rfl
  · unfold shapes_build_bl2
    dsimp only
    rw [if_neg (by omega), List.take_length]
    exact congrArg (Option.map Sum.inr) hk1
/-! ### Merge -/
def addE (d : Int) (M : List (Lf × List Int)) (e : En) : List (Lf × List Int) := addL e.1 d M e.2
def Bd (N : Nat) (M : List (Lf × List Int)) : Prop := ∀ k, (mget [] k M).length ≤ N
theorem addE_bd {d : Int} {M : List (Lf × List Int)} {e : En} {N : Nat} (h : Bd N M) (he : e.2.length ≤ 1000) : Bd (N + 1000) (addE d M e) := fun k => by
  unfold addE
  rw [addL_get]
  split
  · have := h e.1; rw [List.length_append, List.length_map]; omega
  · have := h k; omega
theorem mg6 {a0 a1 : Int × List En} {s : Nat} {j : Nat} {x : Int × List En} {e : En} (hx : [a0, a1].getD s default = x) (he : x.2.getD j default = e) (hj : j ≤ 1000000) (h1 : e.2.length ≤ 1000) (h2 : ∀ z ∈ e.2, 0 ≤ z ∧ z ≤ 1000) (hd : 0 ≤ (s : Int) * a0.1 ∧ (s : Int) * a0.1 ≤ 1000) {M : List (Lf × List Int)} {N : Nat} (hM : Bd N M) (hN : N ≤ 1000000000) :
    shapes_Merge_l6 a0 a1 (s : Int) (j : Int) (M, 0) = some (.inl (addE ((s : Int) * a0.1) M e, ((j + 1 : Nat) : Int))) := by
  unfold shapes_Merge_l6 addE
  have hg : ∀ i, (addL e.1 ((s : Int) * a0.1) M (e.2.take i)) = (e.2.take i).foldl (fun M z => addI e.1 (z + (s : Int) * a0.1) M) M := fun _ => rfl
  refine run_count (m := some (Sum.inl (addL e.1 ((s : Int) * a0.1) M e.2, ((j + 1 : Nat) : Int)))) (fun i => (addL e.1 ((s : Int) * a0.1) M (e.2.take i), ((i : Nat) : Int))) e.2.length (fun i hi => ?_) ?_ 0 (Nat.zero_le _)
  · have hstep : addL e.1 ((s : Int) * a0.1) M (e.2.take (i + 1)) = addI e.1 (e.2.getD i default + (s : Int) * a0.1) (addL e.1 ((s : Int) * a0.1) M (e.2.take i)) := by
      rw [hg, hg, List.take_add_one, List.getElem?_eq_getElem hi, Option.toList_some, List.foldl_append]
      simp [List.getD_eq_getElem?_getD, List.getElem?_eq_getElem hi]
    have hz := h2 _ (getD_mem hi)
    have hlen : (mget [] e.1 (addL e.1 ((s : Int) * a0.1) M (e.2.take i))).length ≤ 1000001000 := by
      rw [addL_get, if_pos rfl, List.length_append, List.length_map, List.length_take]
      have := hM e.1
      omega
    rw [hstep]
    generalize addL e.1 ((s : Int) * a0.1) M (e.2.take i) = M' at *
    unfold shapes_Merge_bl6
    dsimp only
    have ex : ([(a0.1, a0.2), (a1.1, a1.2)].getD s default) = x := hx
    simp only [Int.toNat_natCast, ex, he]
    rw [if_pos (by omega), chk_pos (by omega), chk_pos (by unfold I64; omega), chk_pos (by unfold I64; omega)]
    have e5 : (e.1.1, e.1.2.1, e.1.2.2.1, e.1.2.2.2) = e.1 := rfl
    rw [e5, Go.E.mget_touch, chk_pos (by unfold Go.E.Cap; omega), chk_pos (by unfold I64; omega)]
    show some (Sum.inl (mput e.1 (mget [] e.1 M' ++ [e.2.getD i default + (s : Int) * a0.1]) M', (i : Int) + 1)) = some (Sum.inl (addI e.1 (e.2.getD i default + (s : Int) * a0.1) M', ((i + 1 : Nat) : Int)))
    rw [Int.natCast_add]
    rfl
  · unfold shapes_Merge_bl6 shapes_Merge_k5
    dsimp only
    have ex : ([(a0.1, a0.2), (a1.1, a1.2)].getD s default) = x := hx
    simp only [Int.toNat_natCast, ex, he]
    rw [if_neg (by omega), List.take_length, chk_pos (by unfold I64; omega)]
    rfl
theorem mg4 {a0 a1 : Int × List En} {s : Nat} {x : Int × List En} (hs : s ≤ 2) (hx : [a0, a1].getD s default = x) (hl : x.2.length ≤ 500000) (h1 : ∀ e ∈ x.2, e.2.length ≤ 1000) (h2 : ∀ e ∈ x.2, ∀ z ∈ e.2, 0 ≤ z ∧ z ≤ 1000) (hd : 0 ≤ (s : Int) * a0.1 ∧ (s : Int) * a0.1 ≤ 1000) {M : List (Lf × List Int)} {N : Nat} (hM : Bd N M) (hN : N + 1000 * x.2.length ≤ 1000000000) :
    shapes_Merge_l4 a0 a1 (s : Int) (M, 0) = some (.inl (x.2.foldl (addE ((s : Int) * a0.1)) M, ((s + 1 : Nat) : Int))) := by
  unfold shapes_Merge_l4
  have hb : ∀ i, i ≤ x.2.length → Bd (N + 1000 * i) ((x.2.take i).foldl (addE ((s : Int) * a0.1)) M) := by
    intro i
    induction i with
    | zero => intro _; simpa using hM
    | succ i ih =>
      intro hi
      rw [List.take_add_one, List.getElem?_eq_getElem (by omega : i < x.2.length), Option.toList_some, List.foldl_append]
      rw [show N + 1000 * (i + 1) = N + 1000 * i + 1000 by omega]
      exact addE_bd (ih (by omega)) (h1 _ (List.getElem_mem _))
  have ex : ([(a0.1, a0.2), (a1.1, a1.2)].getD s default) = x := hx
  refine run_count (m := some (Sum.inl (x.2.foldl (addE ((s : Int) * a0.1)) M, ((s + 1 : Nat) : Int)))) (fun i => ((x.2.take i).foldl (addE ((s : Int) * a0.1)) M, ((i : Nat) : Int))) x.2.length (fun i hi => ?_) ?_ 0 (Nat.zero_le _)
  · have hstep : (x.2.take (i + 1)).foldl (addE ((s : Int) * a0.1)) M = addE ((s : Int) * a0.1) ((x.2.take i).foldl (addE ((s : Int) * a0.1)) M) (x.2.getD i default) := by
      rw [List.take_add_one, List.getElem?_eq_getElem hi, Option.toList_some, List.foldl_append]
      simp [List.getD_eq_getElem?_getD, List.getElem?_eq_getElem hi]
    rw [hstep]
    unfold shapes_Merge_bl4
    dsimp only
    simp only [Int.toNat_natCast, ex]
    rw [if_pos (by omega), chk_pos (by omega)]
    exact mg6 hx rfl (by omega) (h1 _ (getD_mem hi)) (h2 _ (getD_mem hi)) hd (hb i (by omega)) (by omega)
  · unfold shapes_Merge_bl4 shapes_Merge_k3
    dsimp only
    simp only [Int.toNat_natCast, ex]
    rw [if_neg (by omega), List.take_length, chk_pos (by unfold I64; omega)]
    rfl
/-- What two indexes have found. -/
def both (n1 : Int) (es1 es2 : List En) : List (Lf × List Int) := es2.foldl (addE n1) (es1.foldl (addE 0) [])
theorem merge_eq {n1 n2 : Int} {es1 es2 : List En} (hn1 : 0 ≤ n1 ∧ n1 ≤ 64) (hn2 : 0 ≤ n2 ∧ n2 ≤ 64) (hl1 : es1.length ≤ 200000) (hl2 : es2.length ≤ 200000) (h1 : ∀ e ∈ es1, e.2.length ≤ 1000) (h2 : ∀ e ∈ es1, ∀ z ∈ e.2, 0 ≤ z ∧ z ≤ 1000) (h3 : ∀ e ∈ es2, e.2.length ≤ 1000) (h4 : ∀ e ∈ es2, ∀ z ∈ e.2, 0 ≤ z ∧ z ≤ 1000) :
    shapes_Merge (n1, es1) (n2, es2) = if 64 < n1 + n2 then some ((0, []), (2, -1)) else shapes_build (n1 + n2) (both n1 es1 es2) := by
  unfold shapes_Merge shapes_fault
  dsimp only
  rw [chk_pos (by unfold I64; omega)]
  by_cases hc : 64 < n1 + n2
  · rw [if_pos hc, if_pos hc]; rfl
  · rw [if_neg hc, if_neg hc]
    unfold shapes_Merge_l2
    have r1 : shapes_Merge_bl2 (n1, es1) (n2, es2) ([], ((0 : Nat) : Int)) = some (.inl (es1.foldl (addE 0) [], ((1 : Nat) : Int))) := by
      unfold shapes_Merge_bl2
      dsimp only
      rw [if_pos (by simp), chk_pos (by simp)]
      have := mg4 (a0 := (n1, es1)) (a1 := (n2, es2)) (s := 0) (x := (n1, es1)) (by omega) rfl (by show es1.length ≤ _; omega) h1 h2 (by simp) (M := []) (N := 0) (fun k => by simp [mget]) (by show 0 + 1000 * es1.length ≤ _; omega)
      rw [show ((0 : Nat) : Int) * (n1, es1).1 = 0 by simp] at this
      exact this
    have hbd : Bd (1000 * es1.length) (es1.foldl (addE 0) []) := by
      have gen : ∀ (l : List En) (M : List (Lf × List Int)) (N : Nat), (∀ e ∈ l, e.2.length ≤ 1000) → Bd N M → Bd (N + 1000 * l.length) (l.foldl (addE 0) M) := by
        intro l
        induction l with
        | nil => intro M N _ h; simpa using h
        | cons e l ih =>
          intro M N hl h
          have := ih (addE 0 M e) (N + 1000) (fun e he => hl e (.tail _ he)) (addE_bd h (hl e (.head _)))
          rw [List.foldl_cons, List.length_cons, show N + 1000 * (l.length + 1) = N + 1000 + 1000 * l.length by omega]
          exact this
      have := gen es1 [] 0 h1 (fun k => by simp [mget])
      rwa [Nat.zero_add] at this
    have r2 : shapes_Merge_bl2 (n1, es1) (n2, es2) (es1.foldl (addE 0) [], ((1 : Nat) : Int)) = some (.inl (both n1 es1 es2, ((2 : Nat) : Int))) := by
      unfold shapes_Merge_bl2
      dsimp only
      rw [if_pos (by simp), chk_pos (by simp)]
      have := mg4 (a0 := (n1, es1)) (a1 := (n2, es2)) (s := 1) (x := (n2, es2)) (by omega) rfl (by show es2.length ≤ _; omega) h3 h4 (by simp; omega) hbd (by show 1000 * es1.length + 1000 * es2.length ≤ _; omega)
      rw [show ((1 : Nat) : Int) * (n1, es1).1 = n1 by simp] at this
      exact this
    have r3 : shapes_Merge_bl2 (n1, es1) (n2, es2) (both n1 es1 es2, ((2 : Nat) : Int)) = (shapes_build (n1 + n2) (both n1 es1 es2)).map Sum.inr := by
      unfold shapes_Merge_bl2 shapes_Merge_k1
      dsimp only
      rw [if_neg (by simp), chk_pos (by unfold I64; omega)]
      cases shapes_build (n1 + n2) (both n1 es1 es2) <;> rfl
    rw [show ((0 : Int)) = ((0 : Nat) : Int) from rfl, run_inl r1, run_inl r2, run_inr r3]
end Go.Proofs.YtmfiaecglndldaaGreatDoor
end
section
namespace Go.Proofs.YtmfiaecglndldaaGreatDoor
open Go Go.E Go.RowKit
set_option maxHeartbeats 1000000
set_option maxRecDepth 10000
open _root_.Go.Proofs.Tryz
noncomputable def shapes_Paths (a0 : Go.L.Pv) : Option ((List (List UInt8)) × (Int × Int)) :=
 Option.bind (value_Validate a0) (fun x3 => if x3.1 = (0 : Int) ∧ x3.2 = (0 : Int) then Option.bind (shapes_leaves pathStep a0 ([] : List (List UInt8)) ([] : List (List UInt8))) (fun x18 => Go.L.chk (x18.length < 4611686018427387904) (Go.L.chk ((srtS x18).length ≤ 9223372036854775807) (some ((Lib.compact (srtS x18)), ((0 : Int), (0 : Int)))))) else some ([], (x3.1, x3.2)))
theorem shapes_Paths_ok (w : World) (H : PH) (hH : Le H (hp w)) {a0 : Go.L.Pv} {v0_0 : Value} {v0_1 : Value} {v0_2 : Value} (h0_0 : Vec .byte H v0_0 (a0.f.2.2.1)) (h0_1 : Vec .st H v0_1 (a0.f.2.2.2.1)) (h0_2 : Vec .tree H v0_2 (a0.f.2.2.2.2)) {r : (List (List UInt8)) × (Int × Int)} (h : shapes_Paths a0 = some r) :
  Ok Tryz.prog 21 [.agg #[.int .i64 a0.f.1, .int .i64 a0.f.2.1, v0_0, v0_1, v0_2]] w (fun v w' => Ext w w' ∧ ∃ u0, v = .tuple #[u0, .agg #[.int .i64 r.2.1, .int .i64 r.2.2]] ∧ OwnH 9 .st H w w' u0 (r.1)) := by
 refine Ok_enter (n := 20) [(0, .agg #[.int .i64 a0.f.1, .int .i64 a0.f.2.1, v0_0, v0_1, v0_2])] func21 rfl rfl rfl rfl rfl ?_
 have hL := Lcl.start w
 refine W_seqr ?_
 refine S_box (t := 38) rfl rfl rfl hL ?_
 intro w1 b1 hL1 hle1 _
 refine S_pu 1 rfl ?_
 refine S_alloc zr23 rfl rfl hL1 ?_
 intro w2 b2 hL2 hle2 _
 refine S_seqnil ?_
 refine W_seq ?_
 refine W_seqr ?_
 refine S_v (r_loadBN 1 rfl underlying38 rfl zr38 hL2 rfl) rfl ?_
 obtain ⟨x3, hb3, h⟩ := Go.L.bind_some h
 refine S_callL rfl rfl hL2 (value_Validate_ok (a0 := a0) _ _ (gz_le hH hL2) (h0_0.mono (gz_left hH)) (h0_1.mono (gz_left hH)) (h0_2.mono (gz_left hH)) hb3) ?_
 rintro _ w4 rfl hx4 hL4 hle4
 refine S_alloc zr23 rfl rfl hL4 ?_
 intro w5 b5 hL5 hle5 _
 refine S_storeBN 0 rfl rfl rfl zr23 hL5 rfl rfl (onc rfl (onc rfl on0)) ?_
 intro w6 hL6 hle6
 refine S_seqnil ?_
 refine W_seqr ?_
 refine S_v (r_loadBN 0 rfl underlying23 rfl zr23 hL6 rfl) rfl ?_
 refine S_v (r_build rfl (fun _ => bld23_z _)) rfl ?_
 refine S_v (r_neA rfl rfl eqg23 (eq23 _ _ _ _ )) rfl ?_
 refine S_seqnil ?_
 refine W_ifn rfl (fun hc7 => ?_) (fun hc7 => ?_)
 ·replace h := Go.L.ite_n hc7 h
  refine W_seqd (.q 0 (.q 1 (.tail 2))) mixed (by kernel_rfl) (fun w9 hx9 => ?_)
  have hL10 := hL6.call hx9
  refine D_v (r_loadBN 0 rfl underlying23 rfl zr23 hL10 rfl) rfl rfl ?_
  refine D_pu 1 rfl ?_
  refine D_tail (fun w11 hx11 => ?_)
  have hL12 := hL10.call hx11
  refine S_storeBN 1 rfl rfl rfl zr23 hL12 rfl rfl (onc rfl (onc rfl on0)) ?_
  intro w13 hL13 hle13
  refine S_seqnil ?_
  refine W_ret ?_
  refine At_seq_ret ?_
  obtain rfl := Option.some.inj h
  refine At_got2 rfl (.tmp rfl) (.cell rfl underlying23 rfl zr23 (box_ptr (i := 1) hL13 rfl)) ?_
  exact ⟨hL13.ext, _, rfl, OwnH.nil⟩
 ·replace h := Go.L.ite_p hc7 h
  refine W_skip ?_
  refine At_seq ?_
  refine W_seqr ?_
  refine S_alloc zr30 rfl rfl hL6 ?_
  intro w15 b15 hL15 hle15 _
  refine S_seqnil ?_
  refine W_seqr ?_
  refine S_v (r_loadBN 3 rfl underlying38 rfl zr38 hL15 rfl) rfl ?_
  refine S_pu 1 rfl ?_
  obtain ⟨hL16, hle16, he16⟩ := row_nilE .st H 9 hL15
  have hL17 : Lcl w [.box b15 [.slice none 0 0] 30, .row (.slice none 0 0) 9 1 (([] : List (List UInt8))).length ([]), .box b5 [.int .i64 x3.1, .int .i64 x3.2] 23, .box b2 [.int .i64 (0 : Int), .int .i64 (0 : Int)] 23, .box b1 [.int .i64 a0.f.1, .int .i64 a0.f.2.1, v0_0, v0_1, v0_2] 38] w15 := hL16.picks [1] rfl
  have hle17 := fz_picks [1] hL16 hL17 rfl
  replace he16 := he16.mono (gz_mono hH hle17)
  obtain ⟨x18, hb18, h⟩ := Go.L.bind_some h
  refine S_call rfl rfl (leaves_paths hH (O := [.box b5 [.int .i64 x3.1, .int .i64 x3.2] 23, .box b2 [.int .i64 (0 : Int), .int .i64 (0 : Int)] 23, .box b1 [.int .i64 a0.f.1, .int .i64 a0.f.2.1, v0_0, v0_1, v0_2] 38]) (a0 := a0) (a1 := ([] : List (List UInt8))) (s := ([] : List (List UInt8))) hL17 he16 (h0_0.mono (gz_left hH)) (h0_1.mono (gz_left hH)) (h0_2.mono (gz_left hH)) (Vec.nil _ _) hb18) ?_
  rintro _ w19 ⟨rfl, u19, y19, hL19, hle19, he19⟩
  refine S_seqnil ?_
  refine W_seqr ?_
  refine S_v (r_loadB1 0 rfl underlying30 rfl hL19 rfl rfl) rfl ?_
  obtain ⟨hk21, h⟩ := Go.L.chk_some h
  refine S_sortS (i := 1) Tryz.laySS rfl ⟨Tryz.f53, _, func53, rfl, rfl⟩ rfl rfl hH hL19 rfl he19 hk21 ?_
  intro w20 xs20 hL20 hle20 he20
  refine S_seqnil ?_
  refine W_seqr ?_
  refine S_v (r_loadB1 0 rfl underlying30 rfl hL20 rfl rfl) rfl ?_
  obtain ⟨hk23, h⟩ := Go.L.chk_some h
  refine S_compS (i := 1) Tryz.layCS rfl ⟨Tryz.f54, _, func54, rfl, rfl⟩ rfl rfl hH hL20 rfl he20 hk23 ?_
  intro v22 w22 xs22 hL22 hle22 he22
  refine S_v (r_build rfl (fun _ => bld23_z _)) rfl ?_
  refine S_pu 1 rfl ?_
  refine S_storeBN 3 rfl rfl rfl zr23 hL22 rfl rfl (onc rfl (onc rfl on0)) ?_
  intro w24 hL24 hle24
  replace he22 := he22.mono (gz_mono hH hle24)
  refine S_seqnil ?_
  refine W_ret ?_
  obtain rfl := Option.some.inj h
  refine At_got2 rfl (.tmp rfl) (.cell rfl underlying23 rfl zr23 (box_ptr (i := 3) hL24 rfl)) ?_
  exact ⟨hL24.ext, _, rfl, (hL24.ownH hH (i := 1) rfl he22)⟩
end Go.Proofs.YtmfiaecglndldaaGreatDoor
end
section
namespace Go.Proofs.YtmfiaecglndldaaGreatDoor
open Go Go.E Go.RowKit
set_option maxHeartbeats 1000000
set_option maxRecDepth 10000
open _root_.Go.Proofs.Tryz
noncomputable def law4_shaped : Option (Bool) :=
 Option.bind (shapes_Match ([42, 42, 47, 99] : List UInt8) ([97, 47, 98, 47, 99] : List UInt8)) (fun x1 => Option.bind (shapes_Match ([42, 47, 99] : List UInt8) ([97, 47, 98, 47, 99] : List UInt8)) (fun x5 => Option.bind (law4_record (5 : Int)) (fun x9 => Option.bind (shapes_Paths x9) (fun x11 => Option.bind (law4_number (5 : Int)) (fun x15 => Option.bind (law4_record (5 : Int)) (fun x17 => Option.bind (shapes_Build ([x15, x17])) (fun x20 => Option.bind (shapes_Index_Number (x20.1.1, x20.1.2) ([97] : List UInt8) (1 : Int) (5 : Int)) (fun x26 => Option.bind (shapes_Index_Find (x20.1.1, x20.1.2) ([42, 42] : List UInt8)) (fun x31 => Option.bind (shapes_Index_Text (x20.1.1, x20.1.2) ([97] : List UInt8) ([])) (fun x35 => Option.bind (shapes_Open ([(0 : UInt8), (0 : UInt8)])) (fun x40 => if x1.2.1 = (0 : Int) then if x5.2.1 = (0 : Int) then if x11.2.1 = (0 : Int) then if x20.2.1 = (0 : Int) then if x26.2.1 = (0 : Int) then if x31.2.1 = (0 : Int) then if x35.2.1 = (0 : Int) then if x40.2.1 = (0 : Int) then (if (bif x1.1 then !x5.1 else false) then Option.bind (ref4_Texts x11.1 ([([] : List UInt8), ([97] : List UInt8)])) (fun x74 => if x74 then Option.bind (ref3_Ints x26.1 ([(1 : Int)])) (fun x79 => if x79 then Option.bind (ref3_Ints x31.1 ([(0 : Int), (1 : Int)])) (fun x84 => if x84 then if (x35.1.length : Int) = (0 : Int) then Option.bind (shapes_Index_Items (x40.1.1, x40.1.2)) (fun x90 => if x90 = (0 : Int) then Option.bind (shapes_Check ([97, 47, 47, 98] : List UInt8)) (fun x94 => Option.bind (ref3_At (1 : Int) (2 : Int)) (fun x96 => some (decide (x94.1 = x96.1 ∧ x94.2 = x96.2)))) else some (false)) else some (false) else some (false)) else some (false)) else some (false)) else some (false)) else some (false) else some (false) else some (false) else some (false) else some (false) else some (false) else some (false) else some (false))))))))))))
theorem law4_shaped_ok (w : World) (H : PH) (hH : Le H (hp w))    {r : Bool} (h : law4_shaped = some r) :
  Ok Tryz.prog 14 [] w (fun v w' => Ext w w' ∧ v = .bool r) := by
 refine Ok_enter (n := 130) [] func14 rfl rfl rfl rfl rfl ?_
 have hL := Lcl.start w
 refine W_pz 1 rfl ?_
 refine W_seqr ?_
 obtain ⟨x1, hb1, h⟩ := Go.L.bind_some h
 refine S_callL rfl rfl hL (shapes_Match_ok _ _ (gz_le hH hL) hb1) ?_
 rintro _ w2 rfl hx2 hL2 hle2
 refine S_pu 3 rfl ?_
 refine S_alloc zr23 rfl rfl hL2 ?_
 intro w3 b3 hL3 hle3 _
 refine S_pu 1 rfl ?_
 refine S_storeBN 0 rfl rfl rfl zr23 hL3 rfl rfl (onc rfl (onc rfl on0)) ?_
 intro w4 hL4 hle4
 refine S_seqnil ?_
 refine W_seqr ?_
 obtain ⟨x5, hb5, h⟩ := Go.L.bind_some h
 refine S_callL rfl rfl hL4 (shapes_Match_ok _ _ (gz_le hH hL4) hb5) ?_
 rintro _ w6 rfl hx6 hL6 hle6
 refine S_pu 3 rfl ?_
 refine S_alloc zr23 rfl rfl hL6 ?_
 intro w7 b7 hL7 hle7 _
 refine S_pu 1 rfl ?_
 refine S_storeBN 0 rfl rfl rfl zr23 hL7 rfl rfl (onc rfl (onc rfl on0)) ?_
 intro w8 hL8 hle8
 refine S_seqnil ?_
 refine W_seqr ?_
 obtain ⟨x9, hb9, h⟩ := Go.L.bind_some h
 refine S_callL rfl rfl hL8 (law4_record_ok _ _ (gz_le hH hL8) hb9) ?_
 rintro _ w10 ⟨u10_0, u10_1, u10_2, rfl, hR10_0, hR10_1, hR10_2⟩ hx10 hL10 hle10
 have hv10_0 := hR10_0.vecG hH hL8 hx10
 have hv10_1 := hR10_1.mono (gz_nw hH hL8 hx10)
 have hv10_2 := hR10_2.mono (gz_nw hH hL8 hx10)
 obtain ⟨x11, hb11, h⟩ := Go.L.bind_some h
 refine S_callL rfl rfl hL10 (shapes_Paths_ok (a0 := x9) _ _ (gz_le hH hL10) hv10_0 hv10_1 hv10_2 hb11) ?_
 rintro _ w12 ⟨u12_0, rfl, hR12_0⟩ hx12 hL12 hle12
 have hv12_0 := hR12_0.vecG hH hL10 hx12
 replace hv10_0 := hv10_0.mono (gz_mono hH hle12)
 replace hv10_1 := hv10_1.mono (gz_mono hH hle12)
 replace hv10_2 := hv10_2.mono (gz_mono hH hle12)
 refine S_pu 3 rfl ?_
 refine S_alloc zr23 rfl rfl hL12 ?_
 intro w13 b13 hL13 hle13 _
 replace hv10_0 := hv10_0.mono (gz_mono hH hle13)
 replace hv10_1 := hv10_1.mono (gz_mono hH hle13)
 replace hv10_2 := hv10_2.mono (gz_mono hH hle13)
 replace hv12_0 := hv12_0.mono (gz_mono hH hle13)
 refine S_pu 1 rfl ?_
 refine S_storeBN 0 rfl rfl rfl zr23 hL13 rfl rfl (onc rfl (onc rfl on0)) ?_
 intro w14 hL14 hle14
 replace hv10_0 := hv10_0.mono (gz_mono hH hle14)
 replace hv10_1 := hv10_1.mono (gz_mono hH hle14)
 replace hv10_2 := hv10_2.mono (gz_mono hH hle14)
 replace hv12_0 := hv12_0.mono (gz_mono hH hle14)
 refine S_seqnil ?_
 refine W_seqr ?_
 obtain ⟨x15, hb15, h⟩ := Go.L.bind_some h
 refine S_callL rfl rfl hL14 (law4_number_ok _ _ (gz_le hH hL14) hb15) ?_
 rintro _ w16 ⟨u16_0, u16_1, u16_2, rfl, hR16_0, hR16_1, hR16_2⟩ hx16 hL16 hle16
 have hv16_0 := hR16_0.vecG hH hL14 hx16
 have hv16_1 := hR16_1.vecG hH hL14 hx16
 have hv16_2 := hR16_2.vecG hH hL14 hx16
 replace hv12_0 := hv12_0.mono (gz_mono hH hle16)
 obtain ⟨x17, hb17, h⟩ := Go.L.bind_some h
 refine S_callL rfl rfl hL16 (law4_record_ok _ _ (gz_le hH hL16) hb17) ?_
 rintro _ w18 ⟨u18_0, u18_1, u18_2, rfl, hR18_0, hR18_1, hR18_2⟩ hx18 hL18 hle18
 have hv18_0 := hR18_0.vecG hH hL16 hx18
 have hv18_1 := hR18_1.mono (gz_nw hH hL16 hx18)
 have hv18_2 := hR18_2.mono (gz_nw hH hL16 hx18)
 replace hv12_0 := hv12_0.mono (gz_mono hH hle18)
 replace hv16_0 := hv16_0.mono (gz_mono hH hle18)
 replace hv16_1 := hv16_1.mono (gz_mono hH hle18)
 replace hv16_2 := hv16_2.mono (gz_mono hH hle18)
 refine S_litE (r := .tree) (l := [x15, x17]) rfl (fun _ => bsl36_2 _ _ _ _ _ _ _ _ _ _ _) rfl (show 2 ≤ 9223372036854775807 by decide) hH hL18 (.c5 (Go.E.Rp.tree_close ⟨_, _, rfl, rfl, ⟨_, _, rfl, rfl, ⟨_, _, rfl, ⟨_, rfl, hv16_0⟩, ⟨_, _, rfl, ⟨_, rfl, hv16_1⟩, ⟨_, rfl, hv16_2⟩⟩⟩⟩⟩) (.c5 (Go.E.Rp.tree_close ⟨_, _, rfl, rfl, ⟨_, _, rfl, rfl, ⟨_, _, rfl, ⟨_, rfl, hv18_0⟩, ⟨_, _, rfl, ⟨_, rfl, hv18_1⟩, ⟨_, rfl, hv18_2⟩⟩⟩⟩⟩) .nil)) ?_
 intro v19 w19 hx19 hL19 hle19 hv19
 replace hv12_0 := hv12_0.mono (gz_mono hH hle19)
 replace hv16_0 := hv16_0.mono (gz_mono hH hle19)
 replace hv16_1 := hv16_1.mono (gz_mono hH hle19)
 replace hv16_2 := hv16_2.mono (gz_mono hH hle19)
 replace hv18_0 := hv18_0.mono (gz_mono hH hle19)
 replace hv18_1 := hv18_1.mono (gz_mono hH hle19)
 replace hv18_2 := hv18_2.mono (gz_mono hH hle19)
 obtain ⟨x20, hb20, h⟩ := Go.L.bind_some h
 refine S_callL rfl rfl hL19 (shapes_Build_ok _ _ (gz_le hH hL19) hv19 hb20) ?_
 rintro _ w21 ⟨u21_0, rfl, hR21_0⟩ hx21 hL21 hle21
 have hv21_0 := hR21_0.mono (gz_nw hH hL19 hx21)
 replace hv12_0 := hv12_0.mono (gz_mono hH hle21)
 replace hv16_0 := hv16_0.mono (gz_mono hH hle21)
 replace hv16_1 := hv16_1.mono (gz_mono hH hle21)
 replace hv16_2 := hv16_2.mono (gz_mono hH hle21)
 replace hv18_0 := hv18_0.mono (gz_mono hH hle21)
 replace hv18_1 := hv18_1.mono (gz_mono hH hle21)
 replace hv18_2 := hv18_2.mono (gz_mono hH hle21)
 replace hv19 := hv19.mono (gz_mono hH hle21)
 refine S_pu 3 rfl ?_
 refine S_alloc zr47 rfl rfl hL21 ?_
 intro w22 b22 hL22 hle22 _
 replace hv12_0 := hv12_0.mono (gz_mono hH hle22)
 replace hv16_0 := hv16_0.mono (gz_mono hH hle22)
 replace hv16_1 := hv16_1.mono (gz_mono hH hle22)
 replace hv16_2 := hv16_2.mono (gz_mono hH hle22)
 replace hv18_0 := hv18_0.mono (gz_mono hH hle22)
 replace hv18_1 := hv18_1.mono (gz_mono hH hle22)
 replace hv18_2 := hv18_2.mono (gz_mono hH hle22)
 replace hv19 := hv19.mono (gz_mono hH hle22)
 replace hv21_0 := hv21_0.mono (gz_mono hH hle22)
 refine S_alloc zr23 rfl rfl hL22 ?_
 intro w23 b23 hL23 hle23 _
 replace hv12_0 := hv12_0.mono (gz_mono hH hle23)
 replace hv16_0 := hv16_0.mono (gz_mono hH hle23)
 replace hv16_1 := hv16_1.mono (gz_mono hH hle23)
 replace hv16_2 := hv16_2.mono (gz_mono hH hle23)
 replace hv18_0 := hv18_0.mono (gz_mono hH hle23)
 replace hv18_1 := hv18_1.mono (gz_mono hH hle23)
 replace hv18_2 := hv18_2.mono (gz_mono hH hle23)
 replace hv19 := hv19.mono (gz_mono hH hle23)
 replace hv21_0 := hv21_0.mono (gz_mono hH hle23)
 refine S_storeBN 1 rfl rfl rfl zr47 hL23 rfl rfl (onc rfl (onc hv21_0.one on0)) ?_
 intro w24 hL24 hle24
 replace hv12_0 := hv12_0.mono (gz_mono hH hle24)
 replace hv16_0 := hv16_0.mono (gz_mono hH hle24)
 replace hv16_1 := hv16_1.mono (gz_mono hH hle24)
 replace hv16_2 := hv16_2.mono (gz_mono hH hle24)
 replace hv18_0 := hv18_0.mono (gz_mono hH hle24)
 replace hv18_1 := hv18_1.mono (gz_mono hH hle24)
 replace hv18_2 := hv18_2.mono (gz_mono hH hle24)
 replace hv19 := hv19.mono (gz_mono hH hle24)
 replace hv21_0 := hv21_0.mono (gz_mono hH hle24)
 refine S_storeBN 0 rfl rfl rfl zr23 hL24 rfl rfl (onc rfl (onc rfl on0)) ?_
 intro w25 hL25 hle25
 replace hv12_0 := hv12_0.mono (gz_mono hH hle25)
 replace hv16_0 := hv16_0.mono (gz_mono hH hle25)
 replace hv16_1 := hv16_1.mono (gz_mono hH hle25)
 replace hv16_2 := hv16_2.mono (gz_mono hH hle25)
 replace hv18_0 := hv18_0.mono (gz_mono hH hle25)
 replace hv18_1 := hv18_1.mono (gz_mono hH hle25)
 replace hv18_2 := hv18_2.mono (gz_mono hH hle25)
 replace hv19 := hv19.mono (gz_mono hH hle25)
 replace hv21_0 := hv21_0.mono (gz_mono hH hle25)
 refine S_seqnil ?_
 refine W_seqr ?_
 refine S_v (r_loadBN 1 rfl underlying47 rfl zr47 hL25 rfl) rfl ?_
 obtain ⟨x26, hb26, h⟩ := Go.L.bind_some h
 refine S_callL rfl rfl hL25 (shapes_Index_Number_ok (a0 := (x20.1.1, x20.1.2)) _ _ (gz_le hH hL25) hv21_0 hb26) ?_
 rintro _ w27 ⟨u27_0, rfl, hR27_0⟩ hx27 hL27 hle27
 have hv27_0 := hR27_0.vecG hH hL25 hx27
 replace hv12_0 := hv12_0.mono (gz_mono hH hle27)
 replace hv21_0 := hv21_0.mono (gz_mono hH hle27)
 refine S_pu 3 rfl ?_
 refine S_alloc zr23 rfl rfl hL27 ?_
 intro w28 b28 hL28 hle28 _
 replace hv12_0 := hv12_0.mono (gz_mono hH hle28)
 replace hv21_0 := hv21_0.mono (gz_mono hH hle28)
 replace hv27_0 := hv27_0.mono (gz_mono hH hle28)
 refine S_pu 1 rfl ?_
 refine S_storeBN 0 rfl rfl rfl zr23 hL28 rfl rfl (onc rfl (onc rfl on0)) ?_
 intro w29 hL29 hle29
 replace hv12_0 := hv12_0.mono (gz_mono hH hle29)
 replace hv21_0 := hv21_0.mono (gz_mono hH hle29)
 replace hv27_0 := hv27_0.mono (gz_mono hH hle29)
 refine S_seqnil ?_
 have hG30 := hL29.rG H
 refine W_seqr ?_
 refine S_v (r_loadBN 2 rfl underlying47 rfl zr47 hL29 rfl) rfl ?_
 obtain ⟨x31, hb31, h⟩ := Go.L.bind_some h
 refine S_callL rfl rfl hL29 (shapes_Index_Find_ok (a0 := (x20.1.1, x20.1.2)) _ _ (gz_le hH hL29) (hv21_0.mono hG30) hb31) ?_
 rintro _ w32 ⟨u32_0, rfl, hR32_0⟩ hx32 hL32 hle32
 have hv32_0 := hR32_0.vecG hH hL29 hx32
 replace hG30 := hG30.trans (gz_mono hH hle32)
 refine S_pu 3 rfl ?_
 refine S_alloc zr23 rfl rfl hL32 ?_
 intro w33 b33 hL33 hle33 _
 replace hv32_0 := hv32_0.mono (gz_mono hH hle33)
 replace hG30 := hG30.trans (gz_mono hH hle33)
 refine S_pu 1 rfl ?_
 refine S_storeBN 0 rfl rfl rfl zr23 hL33 rfl rfl (onc rfl (onc rfl on0)) ?_
 intro w34 hL34 hle34
 replace hv32_0 := hv32_0.mono (gz_mono hH hle34)
 replace hG30 := hG30.trans (gz_mono hH hle34)
 refine S_seqnil ?_
 refine W_seqr ?_
 refine S_v (r_loadBN 3 rfl underlying47 rfl zr47 hL34 rfl) rfl ?_
 obtain ⟨x35, hb35, h⟩ := Go.L.bind_some h
 refine S_callL rfl rfl hL34 (shapes_Index_Text_ok (a0 := (x20.1.1, x20.1.2)) _ _ (gz_le hH hL34) (hv21_0.mono hG30) (Vec.nil _ _) hb35) ?_
 rintro _ w36 ⟨u36_0, rfl, hR36_0⟩ hx36 hL36 hle36
 have hv36_0 := hR36_0.vecG hH hL34 hx36
 replace hv32_0 := hv32_0.mono (gz_mono hH hle36)
 replace hG30 := hG30.trans (gz_mono hH hle36)
 refine S_pu 3 rfl ?_
 refine S_alloc zr23 rfl rfl hL36 ?_
 intro w37 b37 hL37 hle37 _
 replace hv32_0 := hv32_0.mono (gz_mono hH hle37)
 replace hv36_0 := hv36_0.mono (gz_mono hH hle37)
 replace hG30 := hG30.trans (gz_mono hH hle37)
 refine S_pu 1 rfl ?_
 refine S_storeBN 0 rfl rfl rfl zr23 hL37 rfl rfl (onc rfl (onc rfl on0)) ?_
 intro w38 hL38 hle38
 replace hv32_0 := hv32_0.mono (gz_mono hH hle38)
 replace hv36_0 := hv36_0.mono (gz_mono hH hle38)
 replace hG30 := hG30.trans (gz_mono hH hle38)
 refine S_seqnil ?_
 refine W_seqr ?_
 refine S_litE (r := .byte) (l := [(0 : UInt8), (0 : UInt8)]) rfl (fun _ => bsl35_2 _ _ _) rfl (show 2 ≤ 9223372036854775807 by decide) hH hL38 (.c1 rfl (.c1 rfl .nil)) ?_
 intro v39 w39 hx39 hL39 hle39 hv39
 replace hv32_0 := hv32_0.mono (gz_mono hH hle39)
 replace hv36_0 := hv36_0.mono (gz_mono hH hle39)
 replace hG30 := hG30.trans (gz_mono hH hle39)
 obtain ⟨x40, hb40, h⟩ := Go.L.bind_some h
 refine S_callL rfl rfl hL39 (shapes_Open_ok _ _ (gz_le hH hL39) hv39 hb40) ?_
 rintro _ w41 ⟨u41_0, rfl, hR41_0⟩ hx41 hL41 hle41
 have hv41_0 := hR41_0.mono (gz_nw hH hL39 hx41)
 replace hv32_0 := hv32_0.mono (gz_mono hH hle41)
 replace hv36_0 := hv36_0.mono (gz_mono hH hle41)
 replace hv39 := hv39.mono (gz_mono hH hle41)
 replace hG30 := hG30.trans (gz_mono hH hle41)
 refine S_pu 3 rfl ?_
 refine S_alloc zr47 rfl rfl hL41 ?_
 intro w42 b42 hL42 hle42 _
 replace hv32_0 := hv32_0.mono (gz_mono hH hle42)
 replace hv36_0 := hv36_0.mono (gz_mono hH hle42)
 replace hv39 := hv39.mono (gz_mono hH hle42)
 replace hv41_0 := hv41_0.mono (gz_mono hH hle42)
 replace hG30 := hG30.trans (gz_mono hH hle42)
 refine S_alloc zr23 rfl rfl hL42 ?_
 intro w43 b43 hL43 hle43 _
 replace hv32_0 := hv32_0.mono (gz_mono hH hle43)
 replace hv36_0 := hv36_0.mono (gz_mono hH hle43)
 replace hv39 := hv39.mono (gz_mono hH hle43)
 replace hv41_0 := hv41_0.mono (gz_mono hH hle43)
 replace hG30 := hG30.trans (gz_mono hH hle43)
 refine S_storeBN 1 rfl rfl rfl zr47 hL43 rfl rfl (onc rfl (onc hv41_0.one on0)) ?_
 intro w44 hL44 hle44
 replace hv32_0 := hv32_0.mono (gz_mono hH hle44)
 replace hv36_0 := hv36_0.mono (gz_mono hH hle44)
 replace hv39 := hv39.mono (gz_mono hH hle44)
 replace hv41_0 := hv41_0.mono (gz_mono hH hle44)
 replace hG30 := hG30.trans (gz_mono hH hle44)
 refine S_storeBN 0 rfl rfl rfl zr23 hL44 rfl rfl (onc rfl (onc rfl on0)) ?_
 intro w45 hL45 hle45
 replace hv32_0 := hv32_0.mono (gz_mono hH hle45)
 replace hv36_0 := hv36_0.mono (gz_mono hH hle45)
 replace hv39 := hv39.mono (gz_mono hH hle45)
 replace hv41_0 := hv41_0.mono (gz_mono hH hle45)
 replace hG30 := hG30.trans (gz_mono hH hle45)
 refine S_seqnil ?_
 refine W_seq ?_
 have hG46 := hL45.rG H
 refine W_seqr ?_
 refine S_v (r_field rfl underlying23 rfl zr3 (by decide)) rfl ?_
 refine S_v (r_loadB1 9 rfl underlying3 rfl hL45 rfl rfl) rfl ?_
 refine S_pu 2 rfl ?_
 refine S_split (s := 60) rfl (fun hg47 => ?_) (fun hg47 => ?_)
 ·replace h := Go.L.ite_n (not_dec_t hg47) h
  iterate 3 refine S_unwanted rfl rfl hg47 rfl ?_
  refine S_v (r_pickT rfl hg47 rfl) rfl ?_
  refine S_pu 1 rfl ?_
  iterate 3 refine S_unwanted rfl rfl rfl rfl ?_
  refine S_v (r_pickT rfl rfl rfl) rfl ?_
  refine S_pu 1 rfl ?_
  iterate 3 refine S_unwanted rfl rfl rfl rfl ?_
  refine S_v (r_pickT rfl rfl rfl) rfl ?_
  refine S_pu 1 rfl ?_
  iterate 3 refine S_unwanted rfl rfl rfl rfl ?_
  refine S_v (r_pickT rfl rfl rfl) rfl ?_
  refine S_pu 1 rfl ?_
  iterate 3 refine S_unwanted rfl rfl rfl rfl ?_
  refine S_v (r_pickT rfl rfl rfl) rfl ?_
  refine S_pu 1 rfl ?_
  iterate 3 refine S_unwanted rfl rfl rfl rfl ?_
  refine S_v (r_pickT rfl rfl rfl) rfl ?_
  refine S_pu 1 rfl ?_
  iterate 3 refine S_unwanted rfl rfl rfl rfl ?_
  refine S_v (r_pickT rfl rfl rfl) rfl ?_
  refine S_seqnil ?_
  refine W_true rfl ?_
  refine W_pz 1 rfl ?_
  refine W_ret ?_
  refine At_seq_ret ?_
  obtain rfl := Option.some.inj h
  refine At_body rfl rfl ?_
  exact ⟨hL45.ext, rfl⟩
 ·replace h := Go.L.ite_p (not_dec_f hg47) h
  refine S_guarded rfl rfl hg47 ?_
  refine S_v (r_field rfl underlying23 rfl zr3 (by decide)) rfl ?_
  refine S_guarded rfl rfl hg47 ?_
  refine S_v (r_loadB1 8 rfl underlying3 rfl hL45 rfl rfl) rfl ?_
  refine S_guarded rfl rfl hg47 ?_
  refine S_v (RunsAt_pu rfl) rfl ?_
  refine S_v (r_pickF rfl hg47 rfl) rfl ?_
  refine S_pu 1 rfl ?_
  refine S_split (s := 65) rfl (fun hg50 => ?_) (fun hg50 => ?_)
  ·replace h := Go.L.ite_n (not_dec_t hg50) h
   iterate 3 refine S_unwanted rfl rfl hg50 rfl ?_
   refine S_v (r_pickT rfl hg50 rfl) rfl ?_
   refine S_pu 1 rfl ?_
   iterate 3 refine S_unwanted rfl rfl rfl rfl ?_
   refine S_v (r_pickT rfl rfl rfl) rfl ?_
   refine S_pu 1 rfl ?_
   iterate 3 refine S_unwanted rfl rfl rfl rfl ?_
   refine S_v (r_pickT rfl rfl rfl) rfl ?_
   refine S_pu 1 rfl ?_
   iterate 3 refine S_unwanted rfl rfl rfl rfl ?_
   refine S_v (r_pickT rfl rfl rfl) rfl ?_
   refine S_pu 1 rfl ?_
   iterate 3 refine S_unwanted rfl rfl rfl rfl ?_
   refine S_v (r_pickT rfl rfl rfl) rfl ?_
   refine S_pu 1 rfl ?_
   iterate 3 refine S_unwanted rfl rfl rfl rfl ?_
   refine S_v (r_pickT rfl rfl rfl) rfl ?_
   refine S_seqnil ?_
   refine W_true rfl ?_
   refine W_pz 1 rfl ?_
   refine W_ret ?_
   refine At_seq_ret ?_
   obtain rfl := Option.some.inj h
   refine At_body rfl rfl ?_
   exact ⟨hL45.ext, rfl⟩
  ·replace h := Go.L.ite_p (not_dec_f hg50) h
   refine S_guarded rfl rfl hg50 ?_
   refine S_v (r_field rfl underlying23 rfl zr3 (by decide)) rfl ?_
   refine S_guarded rfl rfl hg50 ?_
   refine S_v (r_loadB1 7 rfl underlying3 rfl hL45 rfl rfl) rfl ?_
   refine S_guarded rfl rfl hg50 ?_
   refine S_v (RunsAt_pu rfl) rfl ?_
   refine S_v (r_pickF rfl hg50 rfl) rfl ?_
   refine S_pu 1 rfl ?_
   refine S_split (s := 70) rfl (fun hg53 => ?_) (fun hg53 => ?_)
   ·replace h := Go.L.ite_n (not_dec_t hg53) h
    iterate 3 refine S_unwanted rfl rfl hg53 rfl ?_
    refine S_v (r_pickT rfl hg53 rfl) rfl ?_
    refine S_pu 1 rfl ?_
    iterate 3 refine S_unwanted rfl rfl rfl rfl ?_
    refine S_v (r_pickT rfl rfl rfl) rfl ?_
    refine S_pu 1 rfl ?_
    iterate 3 refine S_unwanted rfl rfl rfl rfl ?_
    refine S_v (r_pickT rfl rfl rfl) rfl ?_
    refine S_pu 1 rfl ?_
    iterate 3 refine S_unwanted rfl rfl rfl rfl ?_
    refine S_v (r_pickT rfl rfl rfl) rfl ?_
    refine S_pu 1 rfl ?_
    iterate 3 refine S_unwanted rfl rfl rfl rfl ?_
    refine S_v (r_pickT rfl rfl rfl) rfl ?_
    refine S_seqnil ?_
    refine W_true rfl ?_
    refine W_pz 1 rfl ?_
    refine W_ret ?_
    refine At_seq_ret ?_
    obtain rfl := Option.some.inj h
    refine At_body rfl rfl ?_
    exact ⟨hL45.ext, rfl⟩
   ·replace h := Go.L.ite_p (not_dec_f hg53) h
    refine S_guarded rfl rfl hg53 ?_
    refine S_v (r_field rfl underlying23 rfl zr3 (by decide)) rfl ?_
    refine S_guarded rfl rfl hg53 ?_
    refine S_v (r_loadB1 5 rfl underlying3 rfl hL45 rfl rfl) rfl ?_
    refine S_guarded rfl rfl hg53 ?_
    refine S_v (RunsAt_pu rfl) rfl ?_
    refine S_v (r_pickF rfl hg53 rfl) rfl ?_
    refine S_pu 1 rfl ?_
    refine S_split (s := 75) rfl (fun hg56 => ?_) (fun hg56 => ?_)
    ·replace h := Go.L.ite_n (not_dec_t hg56) h
     iterate 3 refine S_unwanted rfl rfl hg56 rfl ?_
     refine S_v (r_pickT rfl hg56 rfl) rfl ?_
     refine S_pu 1 rfl ?_
     iterate 3 refine S_unwanted rfl rfl rfl rfl ?_
     refine S_v (r_pickT rfl rfl rfl) rfl ?_
     refine S_pu 1 rfl ?_
     iterate 3 refine S_unwanted rfl rfl rfl rfl ?_
     refine S_v (r_pickT rfl rfl rfl) rfl ?_
     refine S_pu 1 rfl ?_
     iterate 3 refine S_unwanted rfl rfl rfl rfl ?_
     refine S_v (r_pickT rfl rfl rfl) rfl ?_
     refine S_seqnil ?_
     refine W_true rfl ?_
     refine W_pz 1 rfl ?_
     refine W_ret ?_
     refine At_seq_ret ?_
     obtain rfl := Option.some.inj h
     refine At_body rfl rfl ?_
     exact ⟨hL45.ext, rfl⟩
    ·replace h := Go.L.ite_p (not_dec_f hg56) h
     refine S_guarded rfl rfl hg56 ?_
     refine S_v (r_field rfl underlying23 rfl zr3 (by decide)) rfl ?_
     refine S_guarded rfl rfl hg56 ?_
     refine S_v (r_loadB1 4 rfl underlying3 rfl hL45 rfl rfl) rfl ?_
     refine S_guarded rfl rfl hg56 ?_
     refine S_v (RunsAt_pu rfl) rfl ?_
     refine S_v (r_pickF rfl hg56 rfl) rfl ?_
     refine S_pu 1 rfl ?_
     refine S_split (s := 80) rfl (fun hg59 => ?_) (fun hg59 => ?_)
     ·replace h := Go.L.ite_n (not_dec_t hg59) h
      iterate 3 refine S_unwanted rfl rfl hg59 rfl ?_
      refine S_v (r_pickT rfl hg59 rfl) rfl ?_
      refine S_pu 1 rfl ?_
      iterate 3 refine S_unwanted rfl rfl rfl rfl ?_
      refine S_v (r_pickT rfl rfl rfl) rfl ?_
      refine S_pu 1 rfl ?_
      iterate 3 refine S_unwanted rfl rfl rfl rfl ?_
      refine S_v (r_pickT rfl rfl rfl) rfl ?_
      refine S_seqnil ?_
      refine W_true rfl ?_
      refine W_pz 1 rfl ?_
      refine W_ret ?_
      refine At_seq_ret ?_
      obtain rfl := Option.some.inj h
      refine At_body rfl rfl ?_
      exact ⟨hL45.ext, rfl⟩
     ·replace h := Go.L.ite_p (not_dec_f hg59) h
      refine S_guarded rfl rfl hg59 ?_
      refine S_v (r_field rfl underlying23 rfl zr3 (by decide)) rfl ?_
      refine S_guarded rfl rfl hg59 ?_
      refine S_v (r_loadB1 3 rfl underlying3 rfl hL45 rfl rfl) rfl ?_
      refine S_guarded rfl rfl hg59 ?_
      refine S_v (RunsAt_pu rfl) rfl ?_
      refine S_v (r_pickF rfl hg59 rfl) rfl ?_
      refine S_pu 1 rfl ?_
      refine S_split (s := 85) rfl (fun hg62 => ?_) (fun hg62 => ?_)
      ·replace h := Go.L.ite_n (not_dec_t hg62) h
       iterate 3 refine S_unwanted rfl rfl hg62 rfl ?_
       refine S_v (r_pickT rfl hg62 rfl) rfl ?_
       refine S_pu 1 rfl ?_
       iterate 3 refine S_unwanted rfl rfl rfl rfl ?_
       refine S_v (r_pickT rfl rfl rfl) rfl ?_
       refine S_seqnil ?_
       refine W_true rfl ?_
       refine W_pz 1 rfl ?_
       refine W_ret ?_
       refine At_seq_ret ?_
       obtain rfl := Option.some.inj h
       refine At_body rfl rfl ?_
       exact ⟨hL45.ext, rfl⟩
      ·replace h := Go.L.ite_p (not_dec_f hg62) h
       refine S_guarded rfl rfl hg62 ?_
       refine S_v (r_field rfl underlying23 rfl zr3 (by decide)) rfl ?_
       refine S_guarded rfl rfl hg62 ?_
       refine S_v (r_loadB1 2 rfl underlying3 rfl hL45 rfl rfl) rfl ?_
       refine S_guarded rfl rfl hg62 ?_
       refine S_v (RunsAt_pu rfl) rfl ?_
       refine S_v (r_pickF rfl hg62 rfl) rfl ?_
       refine S_pu 1 rfl ?_
       refine S_split (s := 90) rfl (fun hg65 => ?_) (fun hg65 => ?_)
       ·replace h := Go.L.ite_n (not_dec_t hg65) h
        iterate 3 refine S_unwanted rfl rfl hg65 rfl ?_
        refine S_v (r_pickT rfl hg65 rfl) rfl ?_
        refine S_seqnil ?_
        refine W_true rfl ?_
        refine W_pz 1 rfl ?_
        refine W_ret ?_
        refine At_seq_ret ?_
        obtain rfl := Option.some.inj h
        refine At_body rfl rfl ?_
        exact ⟨hL45.ext, rfl⟩
       ·replace h := Go.L.ite_p (not_dec_f hg65) h
        refine S_guarded rfl rfl hg65 ?_
        refine S_v (r_field rfl underlying23 rfl zr3 (by decide)) rfl ?_
        refine S_guarded rfl rfl hg65 ?_
        refine S_v (r_loadB1 0 rfl underlying3 rfl hL45 rfl rfl) rfl ?_
        refine S_guarded rfl rfl hg65 ?_
        refine S_v (RunsAt_pu rfl) rfl ?_
        refine S_v (r_pickF rfl hg65 rfl) rfl ?_
        refine S_seqnil ?_
        refine W_ifn rfl (fun hc68 => ?_) (fun hc68 => ?_)
        ·replace h := Go.L.ite_n hc68 h
         refine W_pz 1 rfl ?_
         refine W_ret ?_
         refine At_seq_ret ?_
         obtain rfl := Option.some.inj h
         refine At_body rfl rfl ?_
         exact ⟨hL45.ext, rfl⟩
        ·replace h := Go.L.ite_p hc68 h
         refine W_skip ?_
         refine At_seq ?_
         refine W_p 2 rfl ?_
         refine S_pickT 2 1 rfl rfl rfl rfl rfl rfl rfl ?_
         refine S_pu 1 rfl ?_
         refine S_split (s := 100) rfl (fun hg71 => ?_) (fun hg71 => ?_)
         ·replace h := Go.L.ite_t hg71 h
          refine S_guarded rfl rfl hg71 ?_
          refine S_v (RunsAt_pu rfl) rfl ?_
          refine S_guarded rfl rfl hg71 ?_
          refine S_litE (r := .st) (l := [([] : List UInt8), ([97] : List UInt8)]) rfl (fun _ => bsl30_2 _ rfl _ rfl _) rfl (show 2 ≤ 9223372036854775807 by decide) hH hL45 (.c1 rfl (.c1 rfl .nil)) ?_
          intro v73 w73 hx73 hL73 hle73 hv73
          replace hG46 := hG46.trans (gz_mono hH hle73)
          refine S_guarded rfl rfl hg71 ?_
          obtain ⟨x74, hb74, h⟩ := Go.L.bind_some h
          refine S_callL rfl rfl hL73 (ref4_Texts_ok _ _ (gz_le hH hL73) ((hv12_0.mono hG30).mono hG46) hv73 hb74) ?_
          rintro _ w75 rfl hx75 hL75 hle75
          replace hv73 := hv73.mono (gz_mono hH hle75)
          replace hG46 := hG46.trans (gz_mono hH hle75)
          refine S_v (r_pickT rfl hg71 rfl) rfl ?_
          refine S_pu 1 rfl ?_
          refine S_split (s := 105) rfl (fun hg76 => ?_) (fun hg76 => ?_)
          ·replace h := Go.L.ite_t hg76 h
           refine S_guarded rfl rfl hg76 ?_
           refine S_v (RunsAt_pu rfl) rfl ?_
           refine S_guarded rfl rfl hg76 ?_
           refine S_litE (r := (.int .i64)) (l := [(1 : Int)]) rfl (fun _ => bsl52_1 _ _) rfl (show 1 ≤ 9223372036854775807 by decide) hH hL75 (.c1 rfl .nil) ?_
           intro v78 w78 hx78 hL78 hle78 hv78
           replace hv73 := hv73.mono (gz_mono hH hle78)
           replace hG46 := hG46.trans (gz_mono hH hle78)
           refine S_guarded rfl rfl hg76 ?_
           obtain ⟨x79, hb79, h⟩ := Go.L.bind_some h
           refine S_callL rfl rfl hL78 (ref3_Ints_ok _ _ (gz_le hH hL78) ((hv27_0.mono hG30).mono hG46) hv78 hb79) ?_
           rintro _ w80 rfl hx80 hL80 hle80
           replace hv73 := hv73.mono (gz_mono hH hle80)
           replace hv78 := hv78.mono (gz_mono hH hle80)
           replace hG46 := hG46.trans (gz_mono hH hle80)
           refine S_v (r_pickT rfl hg76 rfl) rfl ?_
           refine S_pu 1 rfl ?_
           refine S_split (s := 110) rfl (fun hg81 => ?_) (fun hg81 => ?_)
           ·replace h := Go.L.ite_t hg81 h
            refine S_guarded rfl rfl hg81 ?_
            refine S_v (RunsAt_pu rfl) rfl ?_
            refine S_guarded rfl rfl hg81 ?_
            refine S_litE (r := (.int .i64)) (l := [(0 : Int), (1 : Int)]) rfl (fun _ => bsl52_2 _ _ _) rfl (show 2 ≤ 9223372036854775807 by decide) hH hL80 (.c1 rfl (.c1 rfl .nil)) ?_
            intro v83 w83 hx83 hL83 hle83 hv83
            replace hv73 := hv73.mono (gz_mono hH hle83)
            replace hv78 := hv78.mono (gz_mono hH hle83)
            replace hG46 := hG46.trans (gz_mono hH hle83)
            refine S_guarded rfl rfl hg81 ?_
            obtain ⟨x84, hb84, h⟩ := Go.L.bind_some h
            refine S_callL rfl rfl hL83 (ref3_Ints_ok _ _ (gz_le hH hL83) (hv32_0.mono hG46) hv83 hb84) ?_
            rintro _ w85 rfl hx85 hL85 hle85
            replace hv73 := hv73.mono (gz_mono hH hle85)
            replace hv78 := hv78.mono (gz_mono hH hle85)
            replace hv83 := hv83.mono (gz_mono hH hle85)
            replace hG46 := hG46.trans (gz_mono hH hle85)
            refine S_v (r_pickT rfl hg81 rfl) rfl ?_
            refine S_pu 1 rfl ?_
            refine S_split (s := 115) rfl (fun hg86 => ?_) (fun hg86 => ?_)
            ·replace h := Go.L.ite_t hg86 h
             refine S_guarded rfl rfl hg86 ?_
             refine S_v (RunsAt_pu rfl) rfl ?_
             refine S_guarded rfl rfl hg86 ?_
             refine S_v (r_len rfl underlying52 (hv36_0.mono hG46)) rfl ?_
             refine S_guarded rfl rfl hg86 ?_
             refine S_v (RunsAt_pu rfl) rfl ?_
             refine S_v (r_pickT rfl hg86 rfl) rfl ?_
             refine S_pu 1 rfl ?_
             refine S_split (s := 120) rfl (fun hg88 => ?_) (fun hg88 => ?_)
             ·replace h := Go.L.ite_p (of_decide_eq_true hg88) h
              refine S_guarded rfl rfl hg88 ?_
              refine S_v (r_loadBN 1 rfl underlying47 rfl zr47 hL85 rfl) rfl ?_
              refine S_guarded rfl rfl hg88 ?_
              obtain ⟨x90, hb90, h⟩ := Go.L.bind_some h
              refine S_callL rfl rfl hL85 (shapes_Index_Items_ok (a0 := (x40.1.1, x40.1.2)) _ _ (gz_le hH hL85) (hv41_0.mono hG46) hb90) ?_
              rintro _ w91 rfl hx91 hL91 hle91
              replace hv73 := hv73.mono (gz_mono hH hle91)
              replace hv78 := hv78.mono (gz_mono hH hle91)
              replace hv83 := hv83.mono (gz_mono hH hle91)
              replace hG46 := hG46.trans (gz_mono hH hle91)
              refine S_guarded rfl rfl hg88 ?_
              refine S_v (RunsAt_pu rfl) rfl ?_
              refine S_v (r_pickT rfl hg88 rfl) rfl ?_
              refine S_pu 1 rfl ?_
              refine S_split (s := 125) rfl (fun hg92 => ?_) (fun hg92 => ?_)
              ·replace h := Go.L.ite_p (of_decide_eq_true hg92) h
               refine S_guarded rfl rfl hg92 ?_
               obtain ⟨x94, hb94, h⟩ := Go.L.bind_some h
               refine S_callL rfl rfl hL91 (shapes_Check_ok _ _ (gz_le hH hL91) hb94) ?_
               rintro _ w95 rfl hx95 hL95 hle95
               replace hv73 := hv73.mono (gz_mono hH hle95)
               replace hv78 := hv78.mono (gz_mono hH hle95)
               replace hv83 := hv83.mono (gz_mono hH hle95)
               replace hG46 := hG46.trans (gz_mono hH hle95)
               refine S_guarded rfl rfl hg92 ?_
               obtain ⟨x96, hb96, h⟩ := Go.L.bind_some h
               refine S_callL rfl rfl hL95 (ref3_At_ok _ _ (gz_le hH hL95) hb96) ?_
               rintro _ w97 rfl hx97 hL97 hle97
               replace hv73 := hv73.mono (gz_mono hH hle97)
               replace hv78 := hv78.mono (gz_mono hH hle97)
               replace hv83 := hv83.mono (gz_mono hH hle97)
               replace hG46 := hG46.trans (gz_mono hH hle97)
               refine S_guarded rfl rfl hg92 ?_
               refine S_v (r_eqA rfl rfl eqg23 (eq23 _ _ _ _ )) rfl ?_
               refine S_v (r_pickT rfl hg92 rfl) rfl ?_
               refine S_pz 1 rfl ?_
               refine W_ret ?_
               obtain rfl := Option.some.inj h
               refine At_body rfl rfl ?_
               exact ⟨hL97.ext, rfl⟩
              ·replace h := Go.L.ite_n (of_decide_eq_false hg92) h
               iterate 3 refine S_unwanted rfl rfl hg92 rfl ?_
               refine S_v (r_pickF rfl hg92 rfl) rfl ?_
               refine S_pz 1 rfl ?_
               refine W_ret ?_
               obtain rfl := Option.some.inj h
               refine At_body rfl rfl ?_
               exact ⟨hL91.ext, rfl⟩
             ·replace h := Go.L.ite_n (of_decide_eq_false hg88) h
              iterate 3 refine S_unwanted rfl rfl hg88 rfl ?_
              refine S_v (r_pickF rfl hg88 rfl) rfl ?_
              refine S_pu 1 rfl ?_
              iterate 3 refine S_unwanted rfl rfl rfl rfl ?_
              refine S_v (r_pickF rfl rfl rfl) rfl ?_
              refine S_pz 1 rfl ?_
              refine W_ret ?_
              obtain rfl := Option.some.inj h
              refine At_body rfl rfl ?_
              exact ⟨hL85.ext, rfl⟩
            ·replace h := Go.L.ite_f hg86 h
             iterate 3 refine S_unwanted rfl rfl hg86 rfl ?_
             refine S_v (r_pickF rfl hg86 rfl) rfl ?_
             refine S_pu 1 rfl ?_
             iterate 3 refine S_unwanted rfl rfl rfl rfl ?_
             refine S_v (r_pickF rfl rfl rfl) rfl ?_
             refine S_pu 1 rfl ?_
             iterate 3 refine S_unwanted rfl rfl rfl rfl ?_
             refine S_v (r_pickF rfl rfl rfl) rfl ?_
             refine S_pz 1 rfl ?_
             refine W_ret ?_
             obtain rfl := Option.some.inj h
             refine At_body rfl rfl ?_
             exact ⟨hL85.ext, rfl⟩
           ·replace h := Go.L.ite_f hg81 h
            iterate 3 refine S_unwanted rfl rfl hg81 rfl ?_
            refine S_v (r_pickF rfl hg81 rfl) rfl ?_
            refine S_pu 1 rfl ?_
            iterate 3 refine S_unwanted rfl rfl rfl rfl ?_
            refine S_v (r_pickF rfl rfl rfl) rfl ?_
            refine S_pu 1 rfl ?_
            iterate 3 refine S_unwanted rfl rfl rfl rfl ?_
            refine S_v (r_pickF rfl rfl rfl) rfl ?_
            refine S_pu 1 rfl ?_
            iterate 3 refine S_unwanted rfl rfl rfl rfl ?_
            refine S_v (r_pickF rfl rfl rfl) rfl ?_
            refine S_pz 1 rfl ?_
            refine W_ret ?_
            obtain rfl := Option.some.inj h
            refine At_body rfl rfl ?_
            exact ⟨hL80.ext, rfl⟩
          ·replace h := Go.L.ite_f hg76 h
           iterate 3 refine S_unwanted rfl rfl hg76 rfl ?_
           refine S_v (r_pickF rfl hg76 rfl) rfl ?_
           refine S_pu 1 rfl ?_
           iterate 3 refine S_unwanted rfl rfl rfl rfl ?_
           refine S_v (r_pickF rfl rfl rfl) rfl ?_
           refine S_pu 1 rfl ?_
           iterate 3 refine S_unwanted rfl rfl rfl rfl ?_
           refine S_v (r_pickF rfl rfl rfl) rfl ?_
           refine S_pu 1 rfl ?_
           iterate 3 refine S_unwanted rfl rfl rfl rfl ?_
           refine S_v (r_pickF rfl rfl rfl) rfl ?_
           refine S_pu 1 rfl ?_
           iterate 3 refine S_unwanted rfl rfl rfl rfl ?_
           refine S_v (r_pickF rfl rfl rfl) rfl ?_
           refine S_pz 1 rfl ?_
           refine W_ret ?_
           obtain rfl := Option.some.inj h
           refine At_body rfl rfl ?_
           exact ⟨hL75.ext, rfl⟩
         ·replace h := Go.L.ite_f hg71 h
          iterate 3 refine S_unwanted rfl rfl hg71 rfl ?_
          refine S_v (r_pickF rfl hg71 rfl) rfl ?_
          refine S_pu 1 rfl ?_
          iterate 3 refine S_unwanted rfl rfl rfl rfl ?_
          refine S_v (r_pickF rfl rfl rfl) rfl ?_
          refine S_pu 1 rfl ?_
          iterate 3 refine S_unwanted rfl rfl rfl rfl ?_
          refine S_v (r_pickF rfl rfl rfl) rfl ?_
          refine S_pu 1 rfl ?_
          iterate 3 refine S_unwanted rfl rfl rfl rfl ?_
          refine S_v (r_pickF rfl rfl rfl) rfl ?_
          refine S_pu 1 rfl ?_
          iterate 3 refine S_unwanted rfl rfl rfl rfl ?_
          refine S_v (r_pickF rfl rfl rfl) rfl ?_
          refine S_pu 1 rfl ?_
          iterate 3 refine S_unwanted rfl rfl rfl rfl ?_
          refine S_v (r_pickF rfl rfl rfl) rfl ?_
          refine S_pz 1 rfl ?_
          refine W_ret ?_
          obtain rfl := Option.some.inj h
          refine At_body rfl rfl ?_
          exact ⟨hL45.ext, rfl⟩
end Go.Proofs.YtmfiaecglndldaaGreatDoor
end
section
namespace Go.Proofs.YtmfiaecglndldaaGreatDoor
open Go Go.E Go.RowKit Go.L
noncomputable instance (a b c d) : Mi (genSplitL a b c d) := ⟨_, apR _⟩
noncomputable instance (a b) : Mi (idxbL a b) := ⟨_, apR _⟩
noncomputable instance (a b) : Mi (joinL a b) := ⟨_, apR _⟩
noncomputable instance (a) : Mi (nameCF a) := ⟨_, apR _⟩
noncomputable instance (a0 : Int) (a1 : Int) : Mi (shapes_fault a0 a1) := by delta shapes_fault; infer_instance
noncomputable instance (a0 : List UInt8) (a1 : List UInt8) : Mi (strings_Split a0 a1) := by delta strings_Split; infer_instance
noncomputable instance (a0 : List UInt8) : Mi (shapes_steps a0) := by delta shapes_steps; infer_instance
noncomputable instance (a0 : List UInt8) : Mi (value_Name a0) := by delta value_Name; infer_instance
noncomputable instance  : Mi (shapes_Check_k1) := by delta shapes_Check_k1; infer_instance
noncomputable instance (x85 : (List (List UInt8))) (s) : Mi (shapes_Check_bl2 x85 s) := by obtain ⟨s3_122, s13_123⟩ := s; delta shapes_Check_bl2; dsimp only; repeat' first | (show Mi _; infer_instance) | refine @iB _ _ _ _ ?_ (fun _ => ?_) | refine @iC _ _ _ _ ?_ | refine @iI _ _ _ _ _ ?_ ?_
noncomputable instance (x85 : (List (List UInt8))) (s : Int × Int) : Mi (shapes_Check_l2 x85 s) := by delta shapes_Check_l2; infer_instance
noncomputable instance (a0 : List UInt8) : Mi (shapes_Check a0) := by delta shapes_Check; infer_instance
noncomputable instance (a0 : List UInt8) : Mi (shapes_isPath_1 a0) := by delta shapes_isPath_1; infer_instance
noncomputable instance  : Mi (idxf_isPath_1_k1) := by delta idxf_isPath_1_k1; infer_instance
noncomputable instance (a0 : List (List UInt8)) (s) : Mi (idxf_isPath_1_bl2 a0 s) := by delta idxf_isPath_1_bl2; infer_instance
noncomputable instance (a0 : List (List UInt8)) (s : Int) : Mi (idxf_isPath_1_l2 a0 s) := by delta idxf_isPath_1_l2; infer_instance
noncomputable instance (a0 : List (List UInt8)) : Mi (idxf_isPath_1 a0) := by delta idxf_isPath_1; infer_instance
noncomputable instance (a0 : List (List UInt8)) : Mi (conf_isPath_1 a0) := by delta conf_isPath_1; infer_instance
noncomputable instance (a0 : List UInt8) : Mi (shapes_isPath a0) := by delta shapes_isPath; infer_instance
noncomputable instance (a0 : List UInt8) (a1 : List UInt8) : Mi (shapes_matches_1 a0 a1) := by delta shapes_matches_1; infer_instance
noncomputable instance (l233 : List (List UInt8)) (s5_234 : Int) : Mi (slices_CompactFunc_string_string_k4 l233 s5_234) := by delta slices_CompactFunc_string_string_k4; infer_instance
noncomputable instance (s5_128 : Int) (s) : Mi (slices_CompactFunc_string_string_bl5 s5_128 s) := by obtain ⟨l263, s5_264, s7_265⟩ := s; delta slices_CompactFunc_string_string_bl5; dsimp only; infer_instance
noncomputable instance (s5_128 : Int) (s : (List (List UInt8)) × Int × Int) : Mi (slices_CompactFunc_string_string_l5 s5_128 s) := by delta slices_CompactFunc_string_string_l5; infer_instance
noncomputable instance (l127 : List (List UInt8)) (s5_186 : Int) : Mi (slices_CompactFunc_string_string_k3 l127 s5_186) := by delta slices_CompactFunc_string_string_k3; infer_instance
noncomputable instance (l65 : List (List UInt8)) : Mi (slices_CompactFunc_string_string_k1 l65) := by delta slices_CompactFunc_string_string_k1; infer_instance
noncomputable instance  (s) : Mi (slices_CompactFunc_string_string_bl2 s) := by obtain ⟨l127, s5_128⟩ := s; delta slices_CompactFunc_string_string_bl2; dsimp only; infer_instance
noncomputable instance (s : (List (List UInt8)) × Int) : Mi (slices_CompactFunc_string_string_l2 s) := by delta slices_CompactFunc_string_string_l2; infer_instance
noncomputable instance (a0 : List (List UInt8)) : Mi (slices_CompactFunc_string_string a0) := by delta slices_CompactFunc_string_string; infer_instance
noncomputable instance  : Mi (shapes_match_body_k2) := by delta shapes_match_body_k2; infer_instance
noncomputable instance (a0 : List (List UInt8)) (a1 : List (List UInt8)) (self : (List (List UInt8)) → (List (List UInt8)) → Option (Bool)) [∀ x0 x1, Mi (self x0 x1)] (s) : Mi (shapes_match_body_bl3 a0 a1 self s) := by delta shapes_match_body_bl3; infer_instance
noncomputable instance (a0 : List (List UInt8)) (a1 : List (List UInt8)) (self : (List (List UInt8)) → (List (List UInt8)) → Option (Bool)) [∀ x0 x1, Mi (self x0 x1)] (s : Int) : Mi (shapes_match_body_l3 a0 a1 self s) := by delta shapes_match_body_l3; infer_instance
noncomputable instance (a0 : List (List UInt8)) (a1 : List (List UInt8)) (self : (List (List UInt8)) → (List (List UInt8)) → Option (Bool)) [∀ x0 x1, Mi (self x0 x1)] : Mi (shapes_match_body_k1 a0 a1 self) := by delta shapes_match_body_k1; infer_instance
noncomputable instance (self : (List (List UInt8)) → (List (List UInt8)) → Option (Bool)) [∀ x0 x1, Mi (self x0 x1)] (a0 : List (List UInt8)) (a1 : List (List UInt8)) : Mi (shapes_match_body self a0 a1) := by delta shapes_match_body; infer_instance
noncomputable instance shapes_match_nMi  : ∀ (n : Nat) (y0) (y1), Mi (shapes_match_n n y0 y1)
 | 0, _, _ => ⟨none, fun _ h => by cases h⟩
 | n + 1, y0, y1 => by
  haveI := shapes_match_nMi n
  show Mi (shapes_match_body (shapes_match_n n) y0 y1)
  infer_instance
noncomputable instance  (y0) (y1) : Mi (shapes_match y0 y1) := by delta shapes_match; infer_instance
noncomputable instance (a0 : List UInt8) (a1 : List UInt8) : Mi (shapes_matches a0 a1) := by delta shapes_matches; infer_instance
noncomputable instance (a0 : List UInt8) (a1 : List UInt8) : Mi (shapes_Match a0 a1) := by delta shapes_Match; infer_instance
noncomputable instance (a0 : Int) : Mi (law4_number a0) := by delta law4_number; infer_instance
noncomputable instance (a0 : Int) : Mi (law4_record a0) := by delta law4_record; infer_instance
noncomputable instance (a0 : Int) (a1 : Int) : Mi (value_fault a0 a1) := by delta value_fault; infer_instance
noncomputable instance  : Mi (slices_Index_int_int_k1) := by delta slices_Index_int_int_k1; infer_instance
noncomputable instance (a0 : List Int) (a1 : Int) (s) : Mi (slices_Index_int_int_bl2 a0 a1 s) := by delta slices_Index_int_int_bl2; infer_instance
noncomputable instance (a0 : List Int) (a1 : Int) (s : Int) : Mi (slices_Index_int_int_l2 a0 a1 s) := by delta slices_Index_int_int_l2; infer_instance
noncomputable instance (a0 : List Int) (a1 : Int) : Mi (slices_Index_int_int a0 a1) := by delta slices_Index_int_int; infer_instance
noncomputable instance (a0 : List Int) (a1 : Int) : Mi (slices_Contains_int_int a0 a1) := by delta slices_Contains_int_int; infer_instance
noncomputable instance (a0 : List Int) (a1 : Go.L.Pv) : Mi (value_checkNode_1 a0 a1) := by delta value_checkNode_1; infer_instance
noncomputable instance (a0 : List UInt8) : Mi (value_checkNode_2 a0) := by delta value_checkNode_2; infer_instance
noncomputable instance  : Mi (idxf_checkNode_2_k1) := by delta idxf_checkNode_2_k1; infer_instance
noncomputable instance (a0 : List (List UInt8)) (s) : Mi (idxf_checkNode_2_bl2 a0 s) := by delta idxf_checkNode_2_bl2; infer_instance
noncomputable instance (a0 : List (List UInt8)) (s : Int) : Mi (idxf_checkNode_2_l2 a0 s) := by delta idxf_checkNode_2_l2; infer_instance
noncomputable instance (a0 : List (List UInt8)) : Mi (idxf_checkNode_2 a0) := by delta idxf_checkNode_2; infer_instance
noncomputable instance (a0 : List (List UInt8)) : Mi (conf_checkNode_2 a0) := by delta conf_checkNode_2; infer_instance
noncomputable instance  : Mi (slices_Index_string_string_k1) := by delta slices_Index_string_string_k1; infer_instance
noncomputable instance (a0 : List (List UInt8)) (a1 : List UInt8) (s) : Mi (slices_Index_string_string_bl2 a0 a1 s) := by delta slices_Index_string_string_bl2; infer_instance
noncomputable instance (a0 : List (List UInt8)) (a1 : List UInt8) (s : Int) : Mi (slices_Index_string_string_l2 a0 a1 s) := by delta slices_Index_string_string_l2; infer_instance
noncomputable instance (a0 : List (List UInt8)) (a1 : List UInt8) : Mi (slices_Index_string_string a0 a1) := by delta slices_Index_string_string; infer_instance
noncomputable instance (a0 : List (List UInt8)) (a1 : List UInt8) : Mi (slices_Contains_string_string a0 a1) := by delta slices_Contains_string_string; infer_instance
noncomputable instance  : Mi (value_checkNode_k2) := by delta value_checkNode_k2; infer_instance
noncomputable instance (c260 : List (List UInt8)) (s) : Mi (value_checkNode_bl3 c260 s) := by delta value_checkNode_bl3; infer_instance
noncomputable instance (c260 : List (List UInt8)) (s : Int) : Mi (value_checkNode_l3 c260 s) := by delta value_checkNode_l3; infer_instance
noncomputable instance (_c257 : Int) (_c258 : Int) (_c259 : List UInt8) (c260 : List (List UInt8)) (c261 : List Go.L.Pv) (s12_262 : Bool) : Mi (value_checkNode_k1 _c257 _c258 _c259 c260 c261 s12_262) := by delta value_checkNode_k1; infer_instance
noncomputable instance (a0 : Go.L.Pv) : Mi (value_checkNode a0) := by delta value_checkNode; repeat' first | (show Mi _; infer_instance) | refine @iB _ _ _ _ ?_ (fun _ => ?_) | refine @iC _ _ _ _ ?_ | refine @iI _ _ _ _ _ ?_ ?_
noncomputable instance (s9_65 : Int) : Mi (value_check_body_k1 s9_65) := by delta value_check_body_k1; infer_instance
noncomputable instance (a0 : Go.L.Pv) (a2 : Int) (self : Go.L.Pv → Int → Int → Option (Int × (Int × Int))) [∀ x0 x1 x2, Mi (self x0 x1 x2)] (s) : Mi (value_check_body_bl2 a0 a2 self s) := by obtain ⟨s9_90, s33_91⟩ := s; delta value_check_body_bl2; dsimp only; infer_instance
noncomputable instance (a0 : Go.L.Pv) (a2 : Int) (self : Go.L.Pv → Int → Int → Option (Int × (Int × Int))) [∀ x0 x1 x2, Mi (self x0 x1 x2)] (s : Int × Int) : Mi (value_check_body_l2 a0 a2 self s) := by delta value_check_body_l2; infer_instance
noncomputable instance (self : Go.L.Pv → Int → Int → Option (Int × (Int × Int))) [∀ x0 x1 x2, Mi (self x0 x1 x2)] (a0 : Go.L.Pv) (a1 : Int) (a2 : Int) : Mi (value_check_body self a0 a1 a2) := by delta value_check_body; infer_instance
noncomputable instance value_check_nMi  : ∀ (n : Nat) (y0) (y1) (y2), Mi (value_check_n n y0 y1 y2)
 | 0, _, _, _ => ⟨none, fun _ h => by cases h⟩
 | n + 1, y0, y1, y2 => by
  haveI := value_check_nMi n
  show Mi (value_check_body (value_check_n n) y0 y1 y2)
  infer_instance
noncomputable instance  (y0) (y1) (y2) : Mi (value_check y0 y1 y2) := by delta value_check; infer_instance
noncomputable instance (l12 : List UInt8) (s3_13 : Int) : Mi (wire_Number_k1 l12 s3_13) := by delta wire_Number_k1; infer_instance
noncomputable instance  (s) : Mi (wire_Number_bl2 s) := by obtain ⟨l23, s3_24⟩ := s; delta wire_Number_bl2; dsimp only; infer_instance
noncomputable instance (s : (List UInt8) × Int) : Mi (wire_Number_l2 s) := by delta wire_Number_l2; infer_instance
noncomputable instance (a0 : Int) : Mi (wire_Number a0) := by delta wire_Number; infer_instance
noncomputable instance (a0 : List UInt8) : Mi (wire_Chunk a0) := by delta wire_Chunk; infer_instance
noncomputable instance (a0 : Go.L.Pv) (s34_107 : Int) (self : Go.L.Pv → Option ((List UInt8))) [∀ x0, Mi (self x0)] (l128 : List UInt8) : Mi (value_encode_body_k3 a0 s34_107 self l128) := by delta value_encode_body_k3; infer_instance
noncomputable instance (l77 : List UInt8) : Mi (value_encode_body_k1 l77) := by delta value_encode_body_k1; infer_instance
noncomputable instance (a0 : Go.L.Pv) (self : Go.L.Pv → Option ((List UInt8))) [∀ x0, Mi (self x0)] (s) : Mi (value_encode_body_bl2 a0 self s) := by obtain ⟨l106, s34_107⟩ := s; delta value_encode_body_bl2; dsimp only; infer_instance
noncomputable instance (a0 : Go.L.Pv) (self : Go.L.Pv → Option ((List UInt8))) [∀ x0, Mi (self x0)] (s : (List UInt8) × Int) : Mi (value_encode_body_l2 a0 self s) := by delta value_encode_body_l2; infer_instance
noncomputable instance (self : Go.L.Pv → Option ((List UInt8))) [∀ x0, Mi (self x0)] (a0 : Go.L.Pv) : Mi (value_encode_body self a0) := by delta value_encode_body; infer_instance
noncomputable instance value_encode_nMi  : ∀ (n : Nat) (y0), Mi (value_encode_n n y0)
 | 0, _ => ⟨none, fun _ h => by cases h⟩
 | n + 1, y0 => by
  haveI := value_encode_nMi n
  show Mi (value_encode_body (value_encode_n n) y0)
  infer_instance
noncomputable instance  (y0) : Mi (value_encode y0) := by delta value_encode; infer_instance
noncomputable instance (a0 : Go.L.Pv) : Mi (value_Encode a0) := by delta value_Encode; infer_instance
noncomputable instance (a0 : Go.L.Pv) : Mi (value_Validate a0) := by delta value_Validate; infer_instance
noncomputable instance (a0 : List (List UInt8)) : Mi (slices_Clone_string_string a0) := by delta slices_Clone_string_string; infer_instance
noncomputable instance {σ : Type} (a0 : Go.L.Pv) (a1 : List (List UInt8)) (s24_45 : Int) (self : Go.L.Pv → (List (List UInt8)) → σ → Option σ) [∀ x0 x1 x2, Mi (self x0 x1 x2)] (s8_62 : List UInt8) (sJ63 : σ) : Mi (shapes_leaves_body_k2 a0 a1 s24_45 self s8_62 sJ63) := by delta shapes_leaves_body_k2; infer_instance
noncomputable instance {σ : Type} (a0 : Go.L.Pv) (a1 : List (List UInt8)) (self : Go.L.Pv → (List (List UInt8)) → σ → Option σ) [∀ x0 x1 x2, Mi (self x0 x1 x2)] (s) : Mi (shapes_leaves_body_bl1 a0 a1 self s) := by obtain ⟨s24_45, sJ46⟩ := s; delta shapes_leaves_body_bl1; dsimp only; infer_instance
noncomputable instance {σ : Type} (a0 : Go.L.Pv) (a1 : List (List UInt8)) (self : Go.L.Pv → (List (List UInt8)) → σ → Option σ) [∀ x0 x1 x2, Mi (self x0 x1 x2)] (s : Int × σ) : Mi (shapes_leaves_body_l1 a0 a1 self s) := by delta shapes_leaves_body_l1; infer_instance
noncomputable instance {σ : Type} (step : σ → ((List UInt8) × Int × Int × (List UInt8)) → Option σ) [∀ x0 x1, Mi (step x0 x1)] (self : Go.L.Pv → (List (List UInt8)) → σ → Option σ) [∀ x0 x1 x2, Mi (self x0 x1 x2)] (a0 : Go.L.Pv) (a1 : List (List UInt8)) (s : σ) : Mi (shapes_leaves_body step self a0 a1 s) := by delta shapes_leaves_body; infer_instance
noncomputable instance shapes_leaves_nMi {σ : Type} (step : σ → ((List UInt8) × Int × Int × (List UInt8)) → Option σ) [∀ x0 x1, Mi (step x0 x1)] : ∀ (n : Nat) (y0) (y1) (y2), Mi (shapes_leaves_n step n y0 y1 y2)
 | 0, _, _, _ => ⟨none, fun _ h => by cases h⟩
 | n + 1, y0, y1, y2 => by
  haveI := shapes_leaves_nMi step n
  show Mi (shapes_leaves_body step (shapes_leaves_n step n) y0 y1 y2)
  infer_instance
noncomputable instance {σ : Type} (step : σ → ((List UInt8) × Int × Int × (List UInt8)) → Option σ) [∀ x0 x1, Mi (step x0 x1)] (y0) (y1) (y2) : Mi (shapes_leaves step y0 y1 y2) := by delta shapes_leaves; infer_instance
noncomputable instance (a0 : (List UInt8) × Int × Int × (List UInt8)) (a1 : List (List UInt8)) : Mi (shapes_Paths_1 a0 a1) := by delta shapes_Paths_1; infer_instance
noncomputable instance (s : List (List UInt8)) (x : Lf) : Mi (pathStep s x) := by delta pathStep; infer_instance
noncomputable def shapes_Paths_is (a0 : Go.L.Pv) : Option ((List (List UInt8)) × (Int × Int)) := 
  Option.bind (value_Validate a0) (fun x3 => if x3.1 = (0 : Int) ∧ x3.2 = (0 : Int) then Option.bind (shapes_leaves pathStep a0 ([] : List (List UInt8)) ([] : List (List UInt8))) (fun x18 => Go.L.chk (x18.length < 4611686018427387904) (Go.L.chk ((isS x18).length ≤ 9223372036854775807) (some ((Lib.compact (isS x18)), ((0 : Int), (0 : Int)))))) else some ([], (x3.1, x3.2)))
theorem shapes_Paths_isE : @shapes_Paths_is = @shapes_Paths := by
  unfold shapes_Paths_is shapes_Paths
  simp only [isS_eq, isI_eq]
noncomputable instance (a0 : Go.L.Pv) : Mi (shapes_Paths_is a0) := by delta shapes_Paths_is; infer_instance
noncomputable instance (a0 : Go.L.Pv) : Mi (shapes_Paths a0) := ⟨(inferInstance : Mi (shapes_Paths_is a0)).c, by rw [← shapes_Paths_isE]; exact (inferInstance : Mi (shapes_Paths_is a0)).h⟩
noncomputable instance (i : Int) (l : List (Lf × List Int)) (x : Lf) : Mi (buildStep i l x) := by delta buildStep; infer_instance
noncomputable instance (a0 : List Int) : Mi (slices_Clone_int_int a0) := by delta slices_Clone_int_int; infer_instance
noncomputable instance (l16 : List UInt8) : Mi (wslice_Number_k1 l16) := by delta wslice_Number_k1; infer_instance
noncomputable instance (a0 : List Int) (s) : Mi (wslice_Number_bl2 a0 s) := by obtain ⟨l30, s13_31⟩ := s; delta wslice_Number_bl2; dsimp only; infer_instance
noncomputable instance (a0 : List Int) (s : (List UInt8) × Int) : Mi (wslice_Number_l2 a0 s) := by delta wslice_Number_l2; infer_instance
noncomputable instance (a0 : List Int) : Mi (wslice_Number a0) := by delta wslice_Number; infer_instance
noncomputable instance (a1 : Int) : Mi (slices_Grow_byte_byte_k1 a1) := by delta slices_Grow_byte_byte_k1; infer_instance
noncomputable instance (_a0 : List UInt8) (a1 : Int) : Mi (slices_Grow_byte_byte _a0 a1) := by delta slices_Grow_byte_byte; infer_instance
noncomputable instance (l57 : List UInt8) : Mi (slices_Concat_byte_byte_k3 l57) := by delta slices_Concat_byte_byte_k3; infer_instance
noncomputable instance (a0 : List (List UInt8)) (s) : Mi (slices_Concat_byte_byte_bl4 a0 s) := by obtain ⟨l69, s27_70⟩ := s; delta slices_Concat_byte_byte_bl4; dsimp only; infer_instance
noncomputable instance (a0 : List (List UInt8)) (s : (List UInt8) × Int) : Mi (slices_Concat_byte_byte_l4 a0 s) := by delta slices_Concat_byte_byte_l4; infer_instance
noncomputable instance (a0 : List (List UInt8)) (s3_15 : Int) : Mi (slices_Concat_byte_byte_k1 a0 s3_15) := by delta slices_Concat_byte_byte_k1; infer_instance
noncomputable instance (a0 : List (List UInt8)) (s) : Mi (slices_Concat_byte_byte_bl2 a0 s) := by obtain ⟨s3_29, s11_30⟩ := s; delta slices_Concat_byte_byte_bl2; dsimp only; infer_instance
noncomputable instance (a0 : List (List UInt8)) (s : Int × Int) : Mi (slices_Concat_byte_byte_l2 a0 s) := by delta slices_Concat_byte_byte_l2; infer_instance
noncomputable instance (a0 : List (List UInt8)) : Mi (slices_Concat_byte_byte a0) := by delta slices_Concat_byte_byte; infer_instance
noncomputable instance (l117 : List UInt8) : Mi (shapes_form_k1 l117) := by delta shapes_form_k1; infer_instance
noncomputable instance (a0 : ((List UInt8) × Int × Int × (List UInt8)) × (List Int)) : Mi (shapes_form a0) := by delta shapes_form; infer_instance
noncomputable instance (l18 : List UInt8) : Mi (wslice_form_k1 l18) := by delta wslice_form_k1; infer_instance
noncomputable instance (a0 : List (((List UInt8) × Int × Int × (List UInt8)) × (List Int))) (s) : Mi (wslice_form_bl2 a0 s) := by obtain ⟨l34, s13_35⟩ := s; delta wslice_form_bl2; dsimp only; infer_instance
noncomputable instance (a0 : List (((List UInt8) × Int × Int × (List UInt8)) × (List Int))) (s : (List UInt8) × Int) : Mi (wslice_form_l2 a0 s) := by delta wslice_form_l2; infer_instance
noncomputable instance (a0 : List (((List UInt8) × Int × Int × (List UInt8)) × (List Int))) : Mi (wslice_form a0) := by delta wslice_form; infer_instance
noncomputable instance (a0 : Int × (List (((List UInt8) × Int × Int × (List UInt8)) × (List Int)))) : Mi (shapes_Index_Bytes a0) := by delta shapes_Index_Bytes; infer_instance
noncomputable instance (a0 : Int) (l71 : List (((List UInt8) × Int × Int × (List UInt8)) × (List Int))) : Mi (shapes_build_k1 a0 l71) := by delta shapes_build_k1; infer_instance
noncomputable def shapes_build_bl2_is (a0 : Int) (a1 : List (((List UInt8) × Int × Int × (List UInt8)) × (List Int))) (x74 : (List ((List UInt8) × Int × Int × (List UInt8)))) : (List (((List UInt8) × Int × Int × (List UInt8)) × (List Int))) × Int → Option (((List (((List UInt8) × Int × Int × (List UInt8)) × (List Int))) × Int) ⊕ ((Int × (List (((List UInt8) × Int × Int × (List UInt8)) × (List Int)))) × (Int × Int))) := fun ⟨l102, s15_103⟩ =>
  if s15_103 < (x74.length : Int) then Go.L.chk (0 ≤ s15_103 ∧ s15_103 < (x74.length : Int)) (Option.bind (slices_Clone_int_int (Go.L.mget [] ((x74.getD s15_103.toNat default).1, (x74.getD s15_103.toNat default).2.1, (x74.getD s15_103.toNat default).2.2.1, (x74.getD s15_103.toNat default).2.2.2) a1)) (fun x114 => Go.L.chk (x114.length < 4611686018427387904) (Go.L.chk ((isI x114).length ≤ 9223372036854775807) (Go.L.chk (Go.E.Cap 72 (l102.length + ([(((x74.getD s15_103.toNat default).1, (x74.getD s15_103.toNat default).2.1, (x74.getD s15_103.toNat default).2.2.1, (x74.getD s15_103.toNat default).2.2.2), (Lib.compact (isI x114)))]).length)) (Go.L.chk (Go.L.I64 (s15_103 + (1 : Int))) (some (Sum.inl ((l102 ++ [(((x74.getD s15_103.toNat default).1, (x74.getD s15_103.toNat default).2.1, (x74.getD s15_103.toNat default).2.2.1, (x74.getD s15_103.toNat default).2.2.2), (Lib.compact (isI x114)))]), (s15_103 + (1 : Int)))))))))) else Option.map Sum.inr ((shapes_build_k1 a0) l102)
theorem shapes_build_bl2_isE : @shapes_build_bl2_is = @shapes_build_bl2 := by
  unfold shapes_build_bl2_is shapes_build_bl2
  simp only [isS_eq, isI_eq]
noncomputable instance (a0 : Int) (a1 : List (((List UInt8) × Int × Int × (List UInt8)) × (List Int))) (x74 : (List ((List UInt8) × Int × Int × (List UInt8)))) (s) : Mi (shapes_build_bl2_is a0 a1 x74 s) := by obtain ⟨l102, s15_103⟩ := s; delta shapes_build_bl2_is; dsimp only; infer_instance
noncomputable instance (a0 : Int) (a1 : List (((List UInt8) × Int × Int × (List UInt8)) × (List Int))) (x74 : (List ((List UInt8) × Int × Int × (List UInt8)))) (s) : Mi (shapes_build_bl2 a0 a1 x74 s) := ⟨(inferInstance : Mi (shapes_build_bl2_is a0 a1 x74 s)).c, by rw [← shapes_build_bl2_isE]; exact (inferInstance : Mi (shapes_build_bl2_is a0 a1 x74 s)).h⟩
noncomputable instance (a0 : Int) (a1 : List (((List UInt8) × Int × Int × (List UInt8)) × (List Int))) (x74 : (List ((List UInt8) × Int × Int × (List UInt8)))) (s : (List (((List UInt8) × Int × Int × (List UInt8)) × (List Int))) × Int) : Mi (shapes_build_l2 a0 a1 x74 s) := by delta shapes_build_l2; infer_instance
noncomputable instance (a0 : Int) (a1 : List (((List UInt8) × Int × Int × (List UInt8)) × (List Int))) : Mi (shapes_build a0 a1) := by delta shapes_build; infer_instance
noncomputable instance (a0 : List Go.L.Pv) (l68 : List (((List UInt8) × Int × Int × (List UInt8)) × (List Int))) : Mi (shapes_Build_k1 a0 l68) := by delta shapes_Build_k1; infer_instance
noncomputable instance (a0 : List Go.L.Pv) (s) : Mi (shapes_Build_bl2 a0 s) := by obtain ⟨l97, s16_98⟩ := s; delta shapes_Build_bl2; dsimp only; infer_instance
noncomputable instance (a0 : List Go.L.Pv) (s : (List (((List UInt8) × Int × Int × (List UInt8)) × (List Int))) × Int) : Mi (shapes_Build_l2 a0 s) := by delta shapes_Build_l2; infer_instance
noncomputable instance (a0 : List Go.L.Pv) : Mi (shapes_Build a0) := by delta shapes_Build; infer_instance
noncomputable instance (a0 : ((List UInt8) × Int × Int × (List UInt8)) × (List Int)) (a1 : Int) (a2 : Int) : Mi (shapes_Index_Number_1 a0 a1 a2) := by delta shapes_Index_Number_1; infer_instance
noncomputable def shapes_Index_collect_s2_k1_is (l58 : List Int) (c59 : Int) (c60 : Int) : Option ((List Int) × Int × Int) := 
  Go.L.chk (l58.length < 4611686018427387904) (Go.L.chk ((isI l58).length ≤ 9223372036854775807) (some ((Lib.compact (isI l58)), c59, c60)))
theorem shapes_Index_collect_s2_k1_isE : @shapes_Index_collect_s2_k1_is = @shapes_Index_collect_s2_k1 := by
  unfold shapes_Index_collect_s2_k1_is shapes_Index_collect_s2_k1
  simp only [isS_eq, isI_eq]
noncomputable instance (l58 : List Int) (c59 : Int) (c60 : Int) : Mi (shapes_Index_collect_s2_k1_is l58 c59 c60) := by delta shapes_Index_collect_s2_k1_is; infer_instance
noncomputable instance (l58 : List Int) (c59 : Int) (c60 : Int) : Mi (shapes_Index_collect_s2_k1 l58 c59 c60) := ⟨(inferInstance : Mi (shapes_Index_collect_s2_k1_is l58 c59 c60)).c, by rw [← shapes_Index_collect_s2_k1_isE]; exact (inferInstance : Mi (shapes_Index_collect_s2_k1_is l58 c59 c60)).h⟩
noncomputable instance (a0 : Int × (List (((List UInt8) × Int × Int × (List UInt8)) × (List Int)))) (a1 : List UInt8) (s) : Mi (shapes_Index_collect_s2_bl2 a0 a1 s) := by obtain ⟨l88, c89, c90, s13_91⟩ := s; delta shapes_Index_collect_s2_bl2; dsimp only; infer_instance
noncomputable instance (a0 : Int × (List (((List UInt8) × Int × Int × (List UInt8)) × (List Int)))) (a1 : List UInt8) (s : (List Int) × Int × Int × Int) : Mi (shapes_Index_collect_s2_l2 a0 a1 s) := by delta shapes_Index_collect_s2_l2; infer_instance
noncomputable instance (a0 : Int × (List (((List UInt8) × Int × Int × (List UInt8)) × (List Int)))) (a1 : List UInt8) (a2_c0 : Int) (a2_c1 : Int) : Mi (shapes_Index_collect_s2 a0 a1 a2_c0 a2_c1) := by delta shapes_Index_collect_s2; infer_instance
noncomputable instance (a0 : Int × (List (((List UInt8) × Int × Int × (List UInt8)) × (List Int)))) (a1 : List UInt8) (a2 : Int) (a3 : Int) : Mi (shapes_Index_Number a0 a1 a2 a3) := by delta shapes_Index_Number; infer_instance
noncomputable instance (_a0 : ((List UInt8) × Int × Int × (List UInt8)) × (List Int)) : Mi (shapes_Index_Find_1 _a0) := by delta shapes_Index_Find_1; infer_instance
noncomputable def shapes_Index_collect_k1_is (l54 : List Int) : Option ((List Int)) := 
  Go.L.chk (l54.length < 4611686018427387904) (Go.L.chk ((isI l54).length ≤ 9223372036854775807) (some ((Lib.compact (isI l54)))))
theorem shapes_Index_collect_k1_isE : @shapes_Index_collect_k1_is = @shapes_Index_collect_k1 := by
  unfold shapes_Index_collect_k1_is shapes_Index_collect_k1
  simp only [isS_eq, isI_eq]
noncomputable instance (l54 : List Int) : Mi (shapes_Index_collect_k1_is l54) := by delta shapes_Index_collect_k1_is; infer_instance
noncomputable instance (l54 : List Int) : Mi (shapes_Index_collect_k1 l54) := ⟨(inferInstance : Mi (shapes_Index_collect_k1_is l54)).c, by rw [← shapes_Index_collect_k1_isE]; exact (inferInstance : Mi (shapes_Index_collect_k1_is l54)).h⟩
noncomputable instance (a0 : Int × (List (((List UInt8) × Int × Int × (List UInt8)) × (List Int)))) (a1 : List UInt8) (s) : Mi (shapes_Index_collect_bl2 a0 a1 s) := by obtain ⟨l81, s13_82⟩ := s; delta shapes_Index_collect_bl2; dsimp only; infer_instance
noncomputable instance (a0 : Int × (List (((List UInt8) × Int × Int × (List UInt8)) × (List Int)))) (a1 : List UInt8) (s : (List Int) × Int) : Mi (shapes_Index_collect_l2 a0 a1 s) := by delta shapes_Index_collect_l2; infer_instance
noncomputable instance (a0 : Int × (List (((List UInt8) × Int × Int × (List UInt8)) × (List Int)))) (a1 : List UInt8) : Mi (shapes_Index_collect a0 a1) := by delta shapes_Index_collect; infer_instance
noncomputable instance (a0 : Int × (List (((List UInt8) × Int × Int × (List UInt8)) × (List Int)))) (a1 : List UInt8) : Mi (shapes_Index_Find a0 a1) := by delta shapes_Index_Find; infer_instance
noncomputable instance (a0 : ((List UInt8) × Int × Int × (List UInt8)) × (List Int)) (a1 : List UInt8) : Mi (shapes_Index_Text_1 a0 a1) := by delta shapes_Index_Text_1; infer_instance
noncomputable def shapes_Index_collect_s3_k1_is (l59 : List Int) (c60 : List UInt8) : Option ((List Int) × (List UInt8)) := 
  Go.L.chk (l59.length < 4611686018427387904) (Go.L.chk ((isI l59).length ≤ 9223372036854775807) (some ((Lib.compact (isI l59)), c60)))
theorem shapes_Index_collect_s3_k1_isE : @shapes_Index_collect_s3_k1_is = @shapes_Index_collect_s3_k1 := by
  unfold shapes_Index_collect_s3_k1_is shapes_Index_collect_s3_k1
  simp only [isS_eq, isI_eq]
noncomputable instance (l59 : List Int) (c60 : List UInt8) : Mi (shapes_Index_collect_s3_k1_is l59 c60) := by delta shapes_Index_collect_s3_k1_is; infer_instance
noncomputable instance (l59 : List Int) (c60 : List UInt8) : Mi (shapes_Index_collect_s3_k1 l59 c60) := ⟨(inferInstance : Mi (shapes_Index_collect_s3_k1_is l59 c60)).c, by rw [← shapes_Index_collect_s3_k1_isE]; exact (inferInstance : Mi (shapes_Index_collect_s3_k1_is l59 c60)).h⟩
noncomputable instance (a0 : Int × (List (((List UInt8) × Int × Int × (List UInt8)) × (List Int)))) (a1 : List UInt8) (s) : Mi (shapes_Index_collect_s3_bl2 a0 a1 s) := by obtain ⟨l89, c90, s13_91⟩ := s; delta shapes_Index_collect_s3_bl2; dsimp only; infer_instance
noncomputable instance (a0 : Int × (List (((List UInt8) × Int × Int × (List UInt8)) × (List Int)))) (a1 : List UInt8) (s : (List Int) × (List UInt8) × Int) : Mi (shapes_Index_collect_s3_l2 a0 a1 s) := by delta shapes_Index_collect_s3_l2; infer_instance
noncomputable instance (a0 : Int × (List (((List UInt8) × Int × Int × (List UInt8)) × (List Int)))) (a1 : List UInt8) (a2_c0 : List UInt8) : Mi (shapes_Index_collect_s3 a0 a1 a2_c0) := by delta shapes_Index_collect_s3; infer_instance
noncomputable instance (a0 : Int × (List (((List UInt8) × Int × Int × (List UInt8)) × (List Int)))) (a1 : List UInt8) (a2 : List UInt8) : Mi (shapes_Index_Text a0 a1 a2) := by delta shapes_Index_Text; infer_instance
noncomputable instance (a0 : Int) (a1 : Int) : Mi (wire_fault a0 a1) := by delta wire_fault; infer_instance
noncomputable instance (a1 : Int) : Mi (wire_ReadNumber_k1 a1) := by delta wire_ReadNumber_k1; infer_instance
noncomputable instance (a0 : List UInt8) (a1 : Int) (s) : Mi (wire_ReadNumber_bl2 a0 a1 s) := by obtain ⟨s7_160, s19_161⟩ := s; delta wire_ReadNumber_bl2; dsimp only; repeat' first | (show Mi _; infer_instance) | refine @iB _ _ _ _ ?_ (fun _ => ?_) | refine @iC _ _ _ _ ?_ | refine @iI _ _ _ _ _ ?_ ?_
noncomputable instance (a0 : List UInt8) (a1 : Int) (s : Int × Int) : Mi (wire_ReadNumber_l2 a0 a1 s) := by delta wire_ReadNumber_l2; infer_instance
noncomputable instance (a0 : List UInt8) (a1 : Int) : Mi (wire_ReadNumber a0 a1) := by delta wire_ReadNumber; infer_instance
noncomputable instance (c26 : Int) (c27 : Int) (c28 : Int) : Mi (shapes_Open_k1 c26 c27 c28) := by delta shapes_Open_k1; infer_instance
noncomputable instance (a0 : List UInt8) (a1 : Int) : Mi (wire_ReadChunk a0 a1) := by delta wire_ReadChunk; infer_instance
noncomputable instance (l65 : List Int) (s12_66 : Int) : Mi (wreads_Number_k1 l65 s12_66) := by delta wreads_Number_k1; infer_instance
noncomputable instance (a0 : List UInt8) (x2 : Int × Int × (Int × Int)) (s) : Mi (wreads_Number_bl2 a0 x2 s) := by obtain ⟨l89, s12_90, s41_91⟩ := s; delta wreads_Number_bl2; dsimp only; infer_instance
noncomputable instance (a0 : List UInt8) (x2 : Int × Int × (Int × Int)) (s : (List Int) × Int × Int) : Mi (wreads_Number_l2 a0 x2 s) := by delta wreads_Number_l2; infer_instance
noncomputable instance (a0 : List UInt8) (a1 : Int) (a2 : Int) : Mi (wreads_Number a0 a1 a2) := by delta wreads_Number; infer_instance
noncomputable instance (x111 : (List Int) × Int × (Int × Int)) (c123 : List UInt8) (c124 : Int) (c125 : Int) (c126 : List UInt8) (s5_128 : Int) : Mi (shapes_readEntry_k5 x111 c123 c124 c125 c126 s5_128) := by delta shapes_readEntry_k5; infer_instance
noncomputable instance (x84 : (List UInt8) × Int × (Int × Int)) (c95 : List UInt8) (c96 : Int) (c97 : Int) (c98 : List UInt8) (s5_100 : Int) : Mi (shapes_readEntry_k4 x84 c95 c96 c97 c98 s5_100) := by delta shapes_readEntry_k4; infer_instance
noncomputable instance (x57 : Int × Int × (Int × Int)) (c69 : List UInt8) (c70 : Int) (c71 : Int) (c72 : List UInt8) (s5_74 : Int) : Mi (shapes_readEntry_k3 x57 c69 c70 c71 c72 s5_74) := by delta shapes_readEntry_k3; infer_instance
noncomputable instance (x30 : Int × Int × (Int × Int)) (c42 : List UInt8) (c43 : Int) (c44 : Int) (c45 : List UInt8) (s5_47 : Int) : Mi (shapes_readEntry_k2 x30 c42 c43 c44 c45 s5_47) := by delta shapes_readEntry_k2; infer_instance
noncomputable instance (x3 : (List UInt8) × Int × (Int × Int)) (c14 : List UInt8) (c15 : Int) (c16 : Int) (c17 : List UInt8) (s5_19 : Int) : Mi (shapes_readEntry_k1 x3 c14 c15 c16 c17 s5_19) := by delta shapes_readEntry_k1; infer_instance
noncomputable instance (a0 : List UInt8) (a1 : Int) : Mi (shapes_readEntry a0 a1) := by delta shapes_readEntry; infer_instance
noncomputable instance (l69 : List (((List UInt8) × Int × Int × (List UInt8)) × (List Int))) (s12_70 : Int) : Mi (wreads_entry_k1 l69 s12_70) := by delta wreads_entry_k1; infer_instance
noncomputable instance (a0 : List UInt8) (x2 : Int × Int × (Int × Int)) (s) : Mi (wreads_entry_bl2 a0 x2 s) := by obtain ⟨l95, s12_96, s41_97⟩ := s; delta wreads_entry_bl2; dsimp only; infer_instance
noncomputable instance (a0 : List UInt8) (x2 : Int × Int × (Int × Int)) (s : (List (((List UInt8) × Int × Int × (List UInt8)) × (List Int))) × Int × Int) : Mi (wreads_entry_l2 a0 x2 s) := by delta wreads_entry_l2; infer_instance
noncomputable instance (a0 : List UInt8) (a1 : Int) (a2 : Int) : Mi (wreads_entry a0 a1 a2) := by delta wreads_entry; infer_instance
noncomputable instance  : Mi (shapes_entry_valid_k1) := by delta shapes_entry_valid_k1; infer_instance
noncomputable instance (a0 : ((List UInt8) × Int × Int × (List UInt8)) × (List Int)) (a1 : Int) (s) : Mi (shapes_entry_valid_bl2 a0 a1 s) := by delta shapes_entry_valid_bl2; infer_instance
noncomputable instance (a0 : ((List UInt8) × Int × Int × (List UInt8)) × (List Int)) (a1 : Int) (s : Int) : Mi (shapes_entry_valid_l2 a0 a1 s) := by delta shapes_entry_valid_l2; infer_instance
noncomputable instance  : Mi (shapes_entry_valid_k3) := by delta shapes_entry_valid_k3; infer_instance
noncomputable instance (a0 : ((List UInt8) × Int × Int × (List UInt8)) × (List Int)) (a1 : Int) (s) : Mi (shapes_entry_valid_bl4 a0 a1 s) := by delta shapes_entry_valid_bl4; infer_instance
noncomputable instance (a0 : ((List UInt8) × Int × Int × (List UInt8)) × (List Int)) (a1 : Int) (s : Int) : Mi (shapes_entry_valid_l4 a0 a1 s) := by delta shapes_entry_valid_l4; infer_instance
noncomputable instance  : Mi (shapes_entry_valid_k5) := by delta shapes_entry_valid_k5; infer_instance
noncomputable instance (a0 : ((List UInt8) × Int × Int × (List UInt8)) × (List Int)) (a1 : Int) (s) : Mi (shapes_entry_valid_bl6 a0 a1 s) := by delta shapes_entry_valid_bl6; infer_instance
noncomputable instance (a0 : ((List UInt8) × Int × Int × (List UInt8)) × (List Int)) (a1 : Int) (s : Int) : Mi (shapes_entry_valid_l6 a0 a1 s) := by delta shapes_entry_valid_l6; infer_instance
noncomputable instance  : Mi (shapes_entry_valid_k19) := by delta shapes_entry_valid_k19; infer_instance
noncomputable instance (a0 : ((List UInt8) × Int × Int × (List UInt8)) × (List Int)) (a1 : Int) (s) : Mi (shapes_entry_valid_bl20 a0 a1 s) := by delta shapes_entry_valid_bl20; infer_instance
noncomputable instance (a0 : ((List UInt8) × Int × Int × (List UInt8)) × (List Int)) (a1 : Int) (s : Int) : Mi (shapes_entry_valid_l20 a0 a1 s) := by delta shapes_entry_valid_l20; infer_instance
noncomputable instance  : Mi (shapes_entry_valid_k17) := by delta shapes_entry_valid_k17; infer_instance
noncomputable instance (a0 : ((List UInt8) × Int × Int × (List UInt8)) × (List Int)) (a1 : Int) (s) : Mi (shapes_entry_valid_bl18 a0 a1 s) := by delta shapes_entry_valid_bl18; infer_instance
noncomputable instance (a0 : ((List UInt8) × Int × Int × (List UInt8)) × (List Int)) (a1 : Int) (s : Int) : Mi (shapes_entry_valid_l18 a0 a1 s) := by delta shapes_entry_valid_l18; infer_instance
noncomputable instance  : Mi (shapes_entry_valid_k15) := by delta shapes_entry_valid_k15; infer_instance
noncomputable instance (a0 : ((List UInt8) × Int × Int × (List UInt8)) × (List Int)) (a1 : Int) (s) : Mi (shapes_entry_valid_bl16 a0 a1 s) := by delta shapes_entry_valid_bl16; infer_instance
noncomputable instance (a0 : ((List UInt8) × Int × Int × (List UInt8)) × (List Int)) (a1 : Int) (s : Int) : Mi (shapes_entry_valid_l16 a0 a1 s) := by delta shapes_entry_valid_l16; infer_instance
noncomputable instance  : Mi (shapes_entry_valid_k13) := by delta shapes_entry_valid_k13; infer_instance
noncomputable instance (a0 : ((List UInt8) × Int × Int × (List UInt8)) × (List Int)) (a1 : Int) (s) : Mi (shapes_entry_valid_bl14 a0 a1 s) := by delta shapes_entry_valid_bl14; infer_instance
noncomputable instance (a0 : ((List UInt8) × Int × Int × (List UInt8)) × (List Int)) (a1 : Int) (s : Int) : Mi (shapes_entry_valid_l14 a0 a1 s) := by delta shapes_entry_valid_l14; infer_instance
noncomputable instance  : Mi (shapes_entry_valid_k11) := by delta shapes_entry_valid_k11; infer_instance
noncomputable instance (a0 : ((List UInt8) × Int × Int × (List UInt8)) × (List Int)) (a1 : Int) (s) : Mi (shapes_entry_valid_bl12 a0 a1 s) := by delta shapes_entry_valid_bl12; infer_instance
noncomputable instance (a0 : ((List UInt8) × Int × Int × (List UInt8)) × (List Int)) (a1 : Int) (s : Int) : Mi (shapes_entry_valid_l12 a0 a1 s) := by delta shapes_entry_valid_l12; infer_instance
noncomputable instance  : Mi (shapes_entry_valid_k9) := by delta shapes_entry_valid_k9; infer_instance
noncomputable instance (a0 : ((List UInt8) × Int × Int × (List UInt8)) × (List Int)) (a1 : Int) (s) : Mi (shapes_entry_valid_bl10 a0 a1 s) := by delta shapes_entry_valid_bl10; infer_instance
noncomputable instance (a0 : ((List UInt8) × Int × Int × (List UInt8)) × (List Int)) (a1 : Int) (s : Int) : Mi (shapes_entry_valid_l10 a0 a1 s) := by delta shapes_entry_valid_l10; infer_instance
noncomputable instance  : Mi (shapes_entry_valid_k7) := by delta shapes_entry_valid_k7; infer_instance
noncomputable instance (a0 : ((List UInt8) × Int × Int × (List UInt8)) × (List Int)) (a1 : Int) (s) : Mi (shapes_entry_valid_bl8 a0 a1 s) := by delta shapes_entry_valid_bl8; infer_instance
noncomputable instance (a0 : ((List UInt8) × Int × Int × (List UInt8)) × (List Int)) (a1 : Int) (s : Int) : Mi (shapes_entry_valid_l8 a0 a1 s) := by delta shapes_entry_valid_l8; infer_instance
noncomputable instance (a0 : ((List UInt8) × Int × Int × (List UInt8)) × (List Int)) (a1 : Int) : Mi (shapes_entry_valid a0 a1) := by delta shapes_entry_valid; infer_instance
noncomputable instance (c255 : Int) (c256 : Int) (c257 : Int) : Mi (shapes_Open_k5 c255 c256 c257) := by delta shapes_Open_k5; infer_instance
noncomputable instance (a0 : List UInt8) (a1 : List UInt8) : Mi (internal_bytealg_CompareString a0 a1) := by delta internal_bytealg_CompareString; infer_instance
noncomputable instance (a0 : List UInt8) (a1 : List UInt8) : Mi (strings_Compare a0 a1) := by delta strings_Compare; infer_instance
noncomputable instance (a0 : Int) : Mi (cmp_isNaN_int a0) := by delta cmp_isNaN_int; infer_instance
noncomputable instance (a0 : Int) (a1 : Int) : Mi (cmp_Compare_int a0 a1) := by delta cmp_Compare_int; infer_instance
noncomputable instance  : Mi (cmp_Or_int_k1) := by delta cmp_Or_int_k1; infer_instance
noncomputable instance (a0 : List Int) (s) : Mi (cmp_Or_int_bl2 a0 s) := by delta cmp_Or_int_bl2; infer_instance
noncomputable instance (a0 : List Int) (s : Int) : Mi (cmp_Or_int_l2 a0 s) := by delta cmp_Or_int_l2; infer_instance
noncomputable instance (a0 : List Int) : Mi (cmp_Or_int a0) := by delta cmp_Or_int; infer_instance
noncomputable instance (a0 : (List UInt8) × Int × Int × (List UInt8)) (a1 : (List UInt8) × Int × Int × (List UInt8)) : Mi (shapes_leaf_compare a0 a1) := by delta shapes_leaf_compare; infer_instance
noncomputable instance (c286 : Int) (c287 : Int) (c288 : Int) : Mi (shapes_Open_k6 c286 c287 c288) := by delta shapes_Open_k6; infer_instance
noncomputable instance (a0 : List UInt8) (a1 : List UInt8) : Mi (bytes_Equal a0 a1) := by delta bytes_Equal; infer_instance
noncomputable instance (c322 : Int) (c323 : Int) (c324 : Int) : Mi (shapes_Open_k7 c322 c323 c324) := by delta shapes_Open_k7; infer_instance
noncomputable instance (a0 : List UInt8) (x10 : (Int × Int)) (x14 : Int × Int × (Int × Int)) (x39 : (List (((List UInt8) × Int × Int × (List UInt8)) × (List Int))) × Int × (Int × Int)) : Mi (shapes_Open_k3 a0 x10 x14 x39) := by delta shapes_Open_k3; infer_instance
noncomputable instance (a0 : List UInt8) (x10 : (Int × Int)) (x14 : Int × Int × (Int × Int)) (x39 : (List (((List UInt8) × Int × Int × (List UInt8)) × (List Int))) × Int × (Int × Int)) (s) : Mi (shapes_Open_bl4 a0 x10 x14 x39 s) := by delta shapes_Open_bl4; infer_instance
noncomputable instance (a0 : List UInt8) (x10 : (Int × Int)) (x14 : Int × Int × (Int × Int)) (x39 : (List (((List UInt8) × Int × Int × (List UInt8)) × (List Int))) × Int × (Int × Int)) (s : Int) : Mi (shapes_Open_l4 a0 x10 x14 x39 s) := by delta shapes_Open_l4; infer_instance
noncomputable instance (c50 : Int) (c51 : Int) (c52 : Int) : Mi (shapes_Open_k2 c50 c51 c52) := by delta shapes_Open_k2; infer_instance
noncomputable instance (a0 : List UInt8) : Mi (shapes_Open a0) := by delta shapes_Open; infer_instance
noncomputable instance  : Mi (ref4_Texts_k1) := by delta ref4_Texts_k1; infer_instance
noncomputable instance (a0 : List (List UInt8)) (a1 : List (List UInt8)) (s) : Mi (ref4_Texts_bl2 a0 a1 s) := by delta ref4_Texts_bl2; infer_instance
noncomputable instance (a0 : List (List UInt8)) (a1 : List (List UInt8)) (s : Int) : Mi (ref4_Texts_l2 a0 a1 s) := by delta ref4_Texts_l2; infer_instance
noncomputable instance (a0 : List (List UInt8)) (a1 : List (List UInt8)) : Mi (ref4_Texts a0 a1) := by delta ref4_Texts; infer_instance
noncomputable instance  : Mi (ref3_Ints_k1) := by delta ref3_Ints_k1; infer_instance
noncomputable instance (a0 : List Int) (a1 : List Int) (s) : Mi (ref3_Ints_bl2 a0 a1 s) := by delta ref3_Ints_bl2; infer_instance
noncomputable instance (a0 : List Int) (a1 : List Int) (s : Int) : Mi (ref3_Ints_l2 a0 a1 s) := by delta ref3_Ints_l2; infer_instance
noncomputable instance (a0 : List Int) (a1 : List Int) : Mi (ref3_Ints a0 a1) := by delta ref3_Ints; infer_instance
noncomputable instance (a0 : Int × (List (((List UInt8) × Int × Int × (List UInt8)) × (List Int)))) : Mi (shapes_Index_Items a0) := by delta shapes_Index_Items; infer_instance
noncomputable instance (a0 : Int) (a1 : Int) : Mi (ref3_At a0 a1) := by delta ref3_At; infer_instance
noncomputable instance  : Mi (law4_shaped) := by delta law4_shaped; repeat' first | (show Mi _; infer_instance) | refine @iB _ _ _ _ ?_ (fun _ => ?_) | refine @iC _ _ _ _ ?_ | refine @iI _ _ _ _ _ ?_ ?_
theorem shaped_true : law4_shaped = some true := (inferInstance : Mi law4_shaped).h true (by kernel_rfl)
end Go.Proofs.YtmfiaecglndldaaGreatDoor
end
section
namespace Go.Proofs.YtmfiaecglndldaaGreatDoor
open Go Go.E Go.RowKit
set_option maxHeartbeats 1000000
set_option maxRecDepth 10000
open _root_.Go.Proofs.Tryz
noncomputable def law4_ShapesOpenIsCanonical (a0 : List UInt8) : Option (Bool) :=
 Option.bind (shapes_Open a0) (fun x1 => Option.bind (law4_shaped) (fun x7 => if !x7 then some (false) else (if (16384 : Int) < (a0.length : Int) then Option.bind (ref3_At (3 : Int) (-1 : Int)) (fun x16 => if x1.2.1 = x16.1 ∧ x1.2.2 = x16.2 then Option.bind (shapes_Index_Items (x1.1.1, x1.1.2)) (fun x20 => some (decide (x20 = (0 : Int)))) else some (false)) else (if x1.2.1 = (0 : Int) then Option.bind (shapes_Merge (x1.1.1, x1.1.2) ((0 : Int), [])) (fun x44 => Option.bind (shapes_Merge ((0 : Int), []) (x1.1.1, x1.1.2)) (fun x50 => Option.bind (shapes_Index_Bytes (x1.1.1, x1.1.2)) (fun x57 => Option.bind (ref3_SameBytes x57 a0) (fun x59 => if x59 then if x44.2.1 = (0 : Int) then if x50.2.1 = (0 : Int) then Option.bind (shapes_Index_Bytes (x44.1.1, x44.1.2)) (fun x67 => Option.bind (ref3_SameBytes x67 a0) (fun x69 => if x69 then Option.bind (shapes_Index_Bytes (x50.1.1, x50.1.2)) (fun x73 => Option.bind (ref3_SameBytes x73 a0) (fun x75 => some (x75))) else some (false))) else some (false) else some (false) else some (false))))) else Option.bind (ref3_At (16 : Int) (-1 : Int)) (fun x32 => if x1.2.1 = x32.1 ∧ x1.2.2 = x32.2 then Option.bind (shapes_Index_Items (x1.1.1, x1.1.2)) (fun x36 => some (decide (x36 = (0 : Int)))) else some (false))))))
theorem law4_ShapesOpenIsCanonical_ok (w : World) (H : PH) (hH : Le H (hp w)) {a0 : List UInt8} {v0_0 : Value} (h0_0 : Vec .byte H v0_0 (a0)) {r : Bool} (h : law4_ShapesOpenIsCanonical a0 = some r) :
  Ok Tryz.prog 10 [v0_0] w (fun v w' => Ext w w' ∧ v = .bool r) := by
 refine Ok_enter (n := 76) [(0, v0_0)] func10 rfl rfl rfl rfl rfl ?_
 have hL := Lcl.start w
 refine W_pz 1 rfl ?_
 refine W_p 1 rfl ?_
 obtain ⟨x1, hb1, h⟩ := Go.L.bind_some h
 refine S_callL rfl rfl hL (shapes_Open_ok _ _ (gz_le hH hL) (h0_0.mono (gz_left hH)) hb1) ?_
 rintro _ w2 ⟨u2_0, rfl, hR2_0⟩ hx2 hL2 hle2
 have hv2_0 := hR2_0.mono (gz_nw hH hL hx2)
 refine S_pu 3 rfl ?_
 refine S_alloc zr47 rfl rfl hL2 ?_
 intro w3 b3 hL3 hle3 _
 replace hv2_0 := hv2_0.mono (gz_mono hH hle3)
 refine S_alloc zr23 rfl rfl hL3 ?_
 intro w4 b4 hL4 hle4 _
 replace hv2_0 := hv2_0.mono (gz_mono hH hle4)
 refine S_storeBN 1 rfl rfl rfl zr47 hL4 rfl rfl (onc rfl (onc hv2_0.one on0)) ?_
 intro w5 hL5 hle5
 replace hv2_0 := hv2_0.mono (gz_mono hH hle5)
 refine S_storeBN 0 rfl rfl rfl zr23 hL5 rfl rfl (onc rfl (onc rfl on0)) ?_
 intro w6 hL6 hle6
 replace hv2_0 := hv2_0.mono (gz_mono hH hle6)
 refine S_seqnil ?_
 refine W_seq ?_
 refine W_seqr ?_
 obtain ⟨x7, hb7, h⟩ := Go.L.bind_some h
 refine S_callL rfl rfl hL6 (law4_shaped_ok _ _ (gz_le hH hL6) hb7) ?_
 rintro _ w8 rfl hx8 hL8 hle8
 replace hv2_0 := hv2_0.mono (gz_mono hH hle8)
 refine S_pz 1 rfl ?_
 refine W_cond rfl (fun hc9 => ?_) (fun hc9 => ?_)
 ·replace h := Go.L.ite_t hc9 h
  refine W_pz 1 rfl ?_
  refine W_ret ?_
  refine At_seq_ret ?_
  obtain rfl := Option.some.inj h
  refine At_body rfl rfl ?_
  exact ⟨hL8.ext, rfl⟩
 ·replace h := Go.L.ite_f hc9 h
  refine W_skip ?_
  refine At_seq ?_
  refine W_seq ?_
  refine W_p 1 rfl ?_
  refine S_v (r_len rfl underlying35 h0_0) rfl ?_
  refine S_pz 1 rfl ?_
  refine W_if rfl (fun hc12 => ?_) (fun hc12 => ?_)
  ·replace h := Go.L.ite_p hc12 h
   refine W_seqd (.q 0 (.q 1 (.q 2 (.q 3 (.q 4 (.q 5 (.q 6 (.q 7 (.q 8 (.tail 9)))))))))) mixed (by kernel_rfl) (fun w14 hx14 => ?_)
   have hL15 := hL8.call hx14
   have hle15 := fz_ext hL8 hx14
   replace hv2_0 := hv2_0.mono (gz_mono hH hle15)
   refine D_v (r_loadBN 0 rfl underlying23 rfl zr23 hL15 rfl) rfl rfl ?_
   obtain ⟨x16, hb16, h⟩ := Go.L.bind_some h
   refine D_call rfl rfl rfl (fun w17 hx17 => ref3_At_ok _ _ (Le.refl _) hb16) ?_
   refine D_v (r_eqA rfl rfl eqg23 (eq23 _ _ _ _ )) rfl rfl ?_
   refine D_pu 1 rfl ?_
   refine D_split (s := 22) rfl (fun hg18 => ?_) (fun hg18 => ?_)
   ·replace h := Go.L.ite_p (of_decide_eq_true hg18) h
    refine D_vg (r_loadBN 1 rfl underlying47 rfl zr47 hL15 rfl) rfl rfl rfl rfl hg18 rfl ?_
    obtain ⟨x20, hb20, h⟩ := Go.L.bind_some h
    have hok21 := (fun (w21 : World) (hx21 : Ext w14 w21) => shapes_Index_Items_ok w21 _ (Le.refl _) ((hv2_0.mono (gz_le hH hL15)).mono hx21.le) hb20)
    refine D_callg rfl rfl rfl rfl hg18 rfl rfl hok21 ?_
    refine D_vg (RunsAt_pu rfl) rfl rfl rfl rfl hg18 rfl ?_
    refine D_v (r_pickT rfl hg18 rfl) rfl rfl ?_
    refine D_pu 1 rfl ?_
    refine D_tail (fun w22 hx22 => ?_)
    have hL23 := hL15.call hx22
    have hle23 := fz_ext hL15 hx22
    replace hv2_0 := hv2_0.mono (gz_mono hH hle23)
    refine S_seqnil ?_
    refine W_ret ?_
    refine At_seq_ret ?_
    obtain rfl := Option.some.inj h
    refine At_body rfl rfl ?_
    exact ⟨hL23.ext, rfl⟩
   ·replace h := Go.L.ite_n (of_decide_eq_false hg18) h
    iterate 3 refine D_no rfl rfl rfl rfl hg18 rfl ?_
    refine D_v (r_pickF rfl hg18 rfl) rfl rfl ?_
    refine D_pu 1 rfl ?_
    refine D_tail (fun w25 hx25 => ?_)
    have hL26 := hL15.call hx25
    have hle26 := fz_ext hL15 hx25
    replace hv2_0 := hv2_0.mono (gz_mono hH hle26)
    refine S_seqnil ?_
    refine W_ret ?_
    refine At_seq_ret ?_
    obtain rfl := Option.some.inj h
    refine At_body rfl rfl ?_
    exact ⟨hL26.ext, rfl⟩
  ·replace h := Go.L.ite_n hc12 h
   refine W_skip ?_
   refine At_seq ?_
   refine W_seq ?_
   refine W_seqr ?_
   refine S_v (r_field rfl underlying23 rfl zr3 (by decide)) rfl ?_
   refine S_v (r_loadB1 0 rfl underlying3 rfl hL8 rfl rfl) rfl ?_
   refine S_pz 1 rfl ?_
   refine W_ifn rfl (fun hc28 => ?_) (fun hc28 => ?_)
   ·replace h := Go.L.ite_n hc28 h
    refine W_seqd (.q 0 (.q 1 (.q 2 (.q 3 (.q 4 (.q 5 (.q 6 (.q 7 (.q 8 (.tail 9)))))))))) mixed (by kernel_rfl) (fun w30 hx30 => ?_)
    have hL31 := hL8.call hx30
    have hle31 := fz_ext hL8 hx30
    replace hv2_0 := hv2_0.mono (gz_mono hH hle31)
    refine D_v (r_loadBN 0 rfl underlying23 rfl zr23 hL31 rfl) rfl rfl ?_
    obtain ⟨x32, hb32, h⟩ := Go.L.bind_some h
    refine D_call rfl rfl rfl (fun w33 hx33 => ref3_At_ok _ _ (Le.refl _) hb32) ?_
    refine D_v (r_eqA rfl rfl eqg23 (eq23 _ _ _ _ )) rfl rfl ?_
    refine D_pu 1 rfl ?_
    refine D_split (s := 33) rfl (fun hg34 => ?_) (fun hg34 => ?_)
    ·replace h := Go.L.ite_p (of_decide_eq_true hg34) h
     refine D_vg (r_loadBN 1 rfl underlying47 rfl zr47 hL31 rfl) rfl rfl rfl rfl hg34 rfl ?_
     obtain ⟨x36, hb36, h⟩ := Go.L.bind_some h
     have hok37 := (fun (w37 : World) (hx37 : Ext w30 w37) => shapes_Index_Items_ok w37 _ (Le.refl _) ((hv2_0.mono (gz_le hH hL31)).mono hx37.le) hb36)
     refine D_callg rfl rfl rfl rfl hg34 rfl rfl hok37 ?_
     refine D_vg (RunsAt_pu rfl) rfl rfl rfl rfl hg34 rfl ?_
     refine D_v (r_pickT rfl hg34 rfl) rfl rfl ?_
     refine D_pu 1 rfl ?_
     refine D_tail (fun w38 hx38 => ?_)
     have hL39 := hL31.call hx38
     have hle39 := fz_ext hL31 hx38
     replace hv2_0 := hv2_0.mono (gz_mono hH hle39)
     refine S_seqnil ?_
     refine W_ret ?_
     refine At_seq_ret ?_
     obtain rfl := Option.some.inj h
     refine At_body rfl rfl ?_
     exact ⟨hL39.ext, rfl⟩
    ·replace h := Go.L.ite_n (of_decide_eq_false hg34) h
     iterate 3 refine D_no rfl rfl rfl rfl hg34 rfl ?_
     refine D_v (r_pickF rfl hg34 rfl) rfl rfl ?_
     refine D_pu 1 rfl ?_
     refine D_tail (fun w41 hx41 => ?_)
     have hL42 := hL31.call hx41
     have hle42 := fz_ext hL31 hx41
     replace hv2_0 := hv2_0.mono (gz_mono hH hle42)
     refine S_seqnil ?_
     refine W_ret ?_
     refine At_seq_ret ?_
     obtain rfl := Option.some.inj h
     refine At_body rfl rfl ?_
     exact ⟨hL42.ext, rfl⟩
   ·replace h := Go.L.ite_p hc28 h
    refine W_skip ?_
    refine At_seq ?_
    refine W_seqr ?_
    refine S_v (r_loadBN 1 rfl underlying47 rfl zr47 hL8 rfl) rfl ?_
    refine S_v (r_build rfl (fun _ => bld47_z _)) rfl ?_
    obtain ⟨x44, hb44, h⟩ := Go.L.bind_some h
    refine S_callL rfl rfl hL8 (shapes_Merge_ok (a0 := (x1.1.1, x1.1.2)) (a1 := ((0 : Int), [])) _ _ (gz_le hH hL8) hv2_0 (Vec.nil _ _) hb44) ?_
    rintro _ w45 ⟨u45_0, rfl, hR45_0⟩ hx45 hL45 hle45
    have hv45_0 := hR45_0.mono (gz_nw hH hL8 hx45)
    replace hv2_0 := hv2_0.mono (gz_mono hH hle45)
    refine S_pu 3 rfl ?_
    refine S_alloc zr47 rfl rfl hL45 ?_
    intro w46 b46 hL46 hle46 _
    replace hv2_0 := hv2_0.mono (gz_mono hH hle46)
    replace hv45_0 := hv45_0.mono (gz_mono hH hle46)
    refine S_alloc zr23 rfl rfl hL46 ?_
    intro w47 b47 hL47 hle47 _
    replace hv2_0 := hv2_0.mono (gz_mono hH hle47)
    replace hv45_0 := hv45_0.mono (gz_mono hH hle47)
    refine S_storeBN 1 rfl rfl rfl zr47 hL47 rfl rfl (onc rfl (onc hv45_0.one on0)) ?_
    intro w48 hL48 hle48
    replace hv2_0 := hv2_0.mono (gz_mono hH hle48)
    replace hv45_0 := hv45_0.mono (gz_mono hH hle48)
    refine S_storeBN 0 rfl rfl rfl zr23 hL48 rfl rfl (onc rfl (onc rfl on0)) ?_
    intro w49 hL49 hle49
    replace hv2_0 := hv2_0.mono (gz_mono hH hle49)
    replace hv45_0 := hv45_0.mono (gz_mono hH hle49)
    refine S_seqnil ?_
    refine W_seqr ?_
    refine S_v (r_build rfl (fun _ => bld47_z _)) rfl ?_
    refine S_v (r_loadBN 3 rfl underlying47 rfl zr47 hL49 rfl) rfl ?_
    obtain ⟨x50, hb50, h⟩ := Go.L.bind_some h
    refine S_callL rfl rfl hL49 (shapes_Merge_ok (a0 := ((0 : Int), [])) (a1 := (x1.1.1, x1.1.2)) _ _ (gz_le hH hL49) (Vec.nil _ _) hv2_0 hb50) ?_
    rintro _ w51 ⟨u51_0, rfl, hR51_0⟩ hx51 hL51 hle51
    have hv51_0 := hR51_0.mono (gz_nw hH hL49 hx51)
    replace hv2_0 := hv2_0.mono (gz_mono hH hle51)
    replace hv45_0 := hv45_0.mono (gz_mono hH hle51)
    refine S_pu 3 rfl ?_
    refine S_alloc zr47 rfl rfl hL51 ?_
    intro w52 b52 hL52 hle52 _
    replace hv2_0 := hv2_0.mono (gz_mono hH hle52)
    replace hv45_0 := hv45_0.mono (gz_mono hH hle52)
    replace hv51_0 := hv51_0.mono (gz_mono hH hle52)
    refine S_alloc zr23 rfl rfl hL52 ?_
    intro w53 b53 hL53 hle53 _
    replace hv2_0 := hv2_0.mono (gz_mono hH hle53)
    replace hv45_0 := hv45_0.mono (gz_mono hH hle53)
    replace hv51_0 := hv51_0.mono (gz_mono hH hle53)
    refine S_storeBN 1 rfl rfl rfl zr47 hL53 rfl rfl (onc rfl (onc hv51_0.one on0)) ?_
    intro w54 hL54 hle54
    replace hv2_0 := hv2_0.mono (gz_mono hH hle54)
    replace hv45_0 := hv45_0.mono (gz_mono hH hle54)
    replace hv51_0 := hv51_0.mono (gz_mono hH hle54)
    refine S_storeBN 0 rfl rfl rfl zr23 hL54 rfl rfl (onc rfl (onc rfl on0)) ?_
    intro w55 hL55 hle55
    replace hv2_0 := hv2_0.mono (gz_mono hH hle55)
    replace hv45_0 := hv45_0.mono (gz_mono hH hle55)
    replace hv51_0 := hv51_0.mono (gz_mono hH hle55)
    refine S_seqnil ?_
    have hG56 := hL55.rG H
    refine W_seqr ?_
    refine S_v (r_loadBN 5 rfl underlying47 rfl zr47 hL55 rfl) rfl ?_
    obtain ⟨x57, hb57, h⟩ := Go.L.bind_some h
    refine S_callL rfl rfl hL55 (shapes_Index_Bytes_ok (a0 := (x1.1.1, x1.1.2)) _ _ (gz_le hH hL55) (hv2_0.mono hG56) hb57) ?_
    rintro u58_0 w58 ⟨_, rfl, hR58_0⟩ hx58 hL58 hle58
    have hv58_0 := hR58_0.vecG hH hL55 hx58
    replace hG56 := hG56.trans (gz_mono hH hle58)
    refine S_pu 1 rfl ?_
    obtain ⟨x59, hb59, h⟩ := Go.L.bind_some h
    refine S_callL rfl rfl hL58 (ref3_SameBytes_ok _ _ (gz_le hH hL58) hv58_0 (h0_0.mono (gz_left hH)) hb59) ?_
    rintro _ w60 rfl hx60 hL60 hle60
    replace hv58_0 := hv58_0.mono (gz_mono hH hle60)
    replace hG56 := hG56.trans (gz_mono hH hle60)
    refine S_pu 1 rfl ?_
    refine S_split (s := 54) rfl (fun hg61 => ?_) (fun hg61 => ?_)
    ·replace h := Go.L.ite_t hg61 h
     refine S_guarded rfl rfl hg61 ?_
     refine S_v (r_field rfl underlying23 rfl zr3 (by decide)) rfl ?_
     refine S_guarded rfl rfl hg61 ?_
     refine S_v (r_loadB1 2 rfl underlying3 rfl hL60 rfl rfl) rfl ?_
     refine S_guarded rfl rfl hg61 ?_
     refine S_v (RunsAt_pu rfl) rfl ?_
     refine S_v (r_pickT rfl hg61 rfl) rfl ?_
     refine S_pu 1 rfl ?_
     refine S_split (s := 59) rfl (fun hg63 => ?_) (fun hg63 => ?_)
     ·replace h := Go.L.ite_p (of_decide_eq_true hg63) h
      refine S_guarded rfl rfl hg63 ?_
      refine S_v (r_field rfl underlying23 rfl zr3 (by decide)) rfl ?_
      refine S_guarded rfl rfl hg63 ?_
      refine S_v (r_loadB1 0 rfl underlying3 rfl hL60 rfl rfl) rfl ?_
      refine S_guarded rfl rfl hg63 ?_
      refine S_v (RunsAt_pu rfl) rfl ?_
      refine S_v (r_pickT rfl hg63 rfl) rfl ?_
      refine S_pu 1 rfl ?_
      refine S_split (s := 64) rfl (fun hg65 => ?_) (fun hg65 => ?_)
      ·replace h := Go.L.ite_p (of_decide_eq_true hg65) h
       refine S_guarded rfl rfl hg65 ?_
       refine S_v (r_loadBN 3 rfl underlying47 rfl zr47 hL60 rfl) rfl ?_
       refine S_guarded rfl rfl hg65 ?_
       obtain ⟨x67, hb67, h⟩ := Go.L.bind_some h
       refine S_callL rfl rfl hL60 (shapes_Index_Bytes_ok (a0 := (x44.1.1, x44.1.2)) _ _ (gz_le hH hL60) (hv45_0.mono hG56) hb67) ?_
       rintro u68_0 w68 ⟨_, rfl, hR68_0⟩ hx68 hL68 hle68
       have hv68_0 := hR68_0.vecG hH hL60 hx68
       replace hv58_0 := hv58_0.mono (gz_mono hH hle68)
       replace hG56 := hG56.trans (gz_mono hH hle68)
       refine S_guarded rfl rfl hg65 ?_
       refine S_v (RunsAt_pu rfl) rfl ?_
       refine S_guarded rfl rfl hg65 ?_
       obtain ⟨x69, hb69, h⟩ := Go.L.bind_some h
       refine S_callL rfl rfl hL68 (ref3_SameBytes_ok _ _ (gz_le hH hL68) hv68_0 (h0_0.mono (gz_left hH)) hb69) ?_
       rintro _ w70 rfl hx70 hL70 hle70
       replace hv58_0 := hv58_0.mono (gz_mono hH hle70)
       replace hv68_0 := hv68_0.mono (gz_mono hH hle70)
       replace hG56 := hG56.trans (gz_mono hH hle70)
       refine S_v (r_pickT rfl hg65 rfl) rfl ?_
       refine S_pu 1 rfl ?_
       refine S_split (s := 70) rfl (fun hg71 => ?_) (fun hg71 => ?_)
       ·replace h := Go.L.ite_t hg71 h
        refine S_guarded rfl rfl hg71 ?_
        refine S_v (r_loadBN 1 rfl underlying47 rfl zr47 hL70 rfl) rfl ?_
        refine S_guarded rfl rfl hg71 ?_
        obtain ⟨x73, hb73, h⟩ := Go.L.bind_some h
        refine S_callL rfl rfl hL70 (shapes_Index_Bytes_ok (a0 := (x50.1.1, x50.1.2)) _ _ (gz_le hH hL70) (hv51_0.mono hG56) hb73) ?_
        rintro u74_0 w74 ⟨_, rfl, hR74_0⟩ hx74 hL74 hle74
        have hv74_0 := hR74_0.vecG hH hL70 hx74
        replace hv58_0 := hv58_0.mono (gz_mono hH hle74)
        replace hv68_0 := hv68_0.mono (gz_mono hH hle74)
        replace hG56 := hG56.trans (gz_mono hH hle74)
        refine S_guarded rfl rfl hg71 ?_
        refine S_v (RunsAt_pu rfl) rfl ?_
        refine S_guarded rfl rfl hg71 ?_
        obtain ⟨x75, hb75, h⟩ := Go.L.bind_some h
        refine S_callL rfl rfl hL74 (ref3_SameBytes_ok _ _ (gz_le hH hL74) hv74_0 (h0_0.mono (gz_left hH)) hb75) ?_
        rintro _ w76 rfl hx76 hL76 hle76
        replace hv58_0 := hv58_0.mono (gz_mono hH hle76)
        replace hv68_0 := hv68_0.mono (gz_mono hH hle76)
        replace hv74_0 := hv74_0.mono (gz_mono hH hle76)
        replace hG56 := hG56.trans (gz_mono hH hle76)
        refine S_v (r_pickT rfl hg71 rfl) rfl ?_
        refine S_pz 1 rfl ?_
        refine W_ret ?_
        obtain rfl := Option.some.inj h
        refine At_body rfl rfl ?_
        exact ⟨hL76.ext, rfl⟩
       ·replace h := Go.L.ite_f hg71 h
        iterate 4 refine S_unwanted rfl rfl hg71 rfl ?_
        refine S_v (r_pickF rfl hg71 rfl) rfl ?_
        refine S_pz 1 rfl ?_
        refine W_ret ?_
        obtain rfl := Option.some.inj h
        refine At_body rfl rfl ?_
        exact ⟨hL70.ext, rfl⟩
      ·replace h := Go.L.ite_n (of_decide_eq_false hg65) h
       iterate 4 refine S_unwanted rfl rfl hg65 rfl ?_
       refine S_v (r_pickF rfl hg65 rfl) rfl ?_
       refine S_pu 1 rfl ?_
       iterate 4 refine S_unwanted rfl rfl rfl rfl ?_
       refine S_v (r_pickF rfl rfl rfl) rfl ?_
       refine S_pz 1 rfl ?_
       refine W_ret ?_
       obtain rfl := Option.some.inj h
       refine At_body rfl rfl ?_
       exact ⟨hL60.ext, rfl⟩
     ·replace h := Go.L.ite_n (of_decide_eq_false hg63) h
      iterate 3 refine S_unwanted rfl rfl hg63 rfl ?_
      refine S_v (r_pickF rfl hg63 rfl) rfl ?_
      refine S_pu 1 rfl ?_
      iterate 4 refine S_unwanted rfl rfl rfl rfl ?_
      refine S_v (r_pickF rfl rfl rfl) rfl ?_
      refine S_pu 1 rfl ?_
      iterate 4 refine S_unwanted rfl rfl rfl rfl ?_
      refine S_v (r_pickF rfl rfl rfl) rfl ?_
      refine S_pz 1 rfl ?_
      refine W_ret ?_
      obtain rfl := Option.some.inj h
      refine At_body rfl rfl ?_
      exact ⟨hL60.ext, rfl⟩
    ·replace h := Go.L.ite_f hg61 h
     iterate 3 refine S_unwanted rfl rfl hg61 rfl ?_
     refine S_v (r_pickF rfl hg61 rfl) rfl ?_
     refine S_pu 1 rfl ?_
     iterate 3 refine S_unwanted rfl rfl rfl rfl ?_
     refine S_v (r_pickF rfl rfl rfl) rfl ?_
     refine S_pu 1 rfl ?_
     iterate 4 refine S_unwanted rfl rfl rfl rfl ?_
     refine S_v (r_pickF rfl rfl rfl) rfl ?_
     refine S_pu 1 rfl ?_
     iterate 4 refine S_unwanted rfl rfl rfl rfl ?_
     refine S_v (r_pickF rfl rfl rfl) rfl ?_
     refine S_pz 1 rfl ?_
     refine W_ret ?_
     obtain rfl := Option.some.inj h
     refine At_body rfl rfl ?_
     exact ⟨hL60.ext, rfl⟩
end Go.Proofs.YtmfiaecglndldaaGreatDoor
end
section
namespace Go.Proofs.YtmfiaecglndldaaGreatDoor
open Go Go.L
theorem keys_nodup {es : List En} (h : es.Pairwise (fun a b => lfCmp a.1 b.1 < 0)) : (es.map Prod.fst).Pairwise (fun a b => lfCmp a b < 0) := List.pairwise_map.2 h
theorem cmp_irr {a : Lf} : ¬ lfCmp a a < 0 := fun h => by have := ordLf.swap a a; omega
/-- The entries of a good index, found again. -/
theorem found_self {es : List En} (hne : ∀ e ∈ es, e.2 ≠ []) (hinc : es.Pairwise (fun a b => lfCmp a.1 b.1 < 0)) : es.foldl (addE 0) [] = es := by
  have key : ∀ (l M : List En), (M ++ l).Pairwise (fun a b => lfCmp a.1 b.1 < 0) → (∀ e ∈ l, e.2 ≠ []) → l.foldl (addE 0) M = M ++ l := by
    intro l
    induction l with
    | nil => intro M _ _; simp
    | cons e l ih =>
      intro M hp hn
      have hnot : e.1 ∉ M.map Prod.fst := fun hm => by
        obtain ⟨a, ha, hae⟩ := List.mem_map.1 hm
        have := (List.pairwise_append.1 hp).2.2 a ha e (.head _)
        rw [hae] at this
        exact cmp_irr this
      have hadd : ∀ (l2 : List Int) (y : List Int), (l2.foldl (fun M z => addI e.1 (z + 0) M) (M ++ [(e.1, y)])) = M ++ [(e.1, y ++ l2)] := by
        intro l2
        induction l2 with
        | nil => intro y; simp
        | cons z l2 ih2 =>
          intro y
          rw [List.foldl_cons]
          have h1 : addI e.1 (z + 0) (M ++ [(e.1, y)]) = M ++ [(e.1, y ++ [z])] := by
            unfold addI
            rw [mget_last [] y hnot []]
            have gen : ∀ (M : List (Lf × List Int)) (w : List Int), e.1 ∉ M.map Prod.fst → mput e.1 w (M ++ [(e.1, y)]) = M ++ [(e.1, w)] := by
              intro M w
              induction M with
              | nil => intro _; simp [mput]
              | cons a M ih3 =>
                intro hm
                simp only [List.map_cons, List.mem_cons, not_or] at hm
                simp only [List.cons_append, mput, if_neg hm.1, ih3 hm.2]
            rw [gen M _ hnot, Int.add_zero]
          rw [h1, ih2]
          simp
      have h2 : addE 0 M e = M ++ [e] := by
        unfold addE addL
        have he := hn e (.head _)
        cases hl : e.2 with
        | nil => exact absurd hl he
        | cons z l2 =>
          rw [List.foldl_cons]
          have h1 : addI e.1 (z + 0) M = M ++ [(e.1, [z])] := by
            unfold addI
            rw [mget_new [] hnot, mput_new _ hnot, Int.add_zero]
            rfl
          rw [h1, hadd]
          rw [List.singleton_append, ← hl]
      rw [List.foldl_cons, h2, ih (M ++ [e]) (by simpa using hp) (fun e he => hn e (.tail _ he))]
      simp
  have := key es [] (by simpa using hinc) hne
  simpa using this
theorem srtL_self {l : List Lf} (h : l.Pairwise (fun a b => lfCmp a b < 0)) : srtL l = l := by
  rw [← isL_eq]
  have hs : l.Pairwise (fun x y => (fun x y => !(Go.Proofs.ltOf lfCmp) y x) x y = true) := h.imp fun {a b} hab => by
    have := ordLf.swap a b
    simp only [Go.Proofs.ltOf, Bool.not_eq_true', decide_eq_false_iff_not]
    omega
  rw [isL_eq]
  exact sorted_eq (le := fun x y => !(Go.Proofs.ltOf lfCmp) y x) (fun a b h1 h2 => ordLf.parts a b (by simpa using h2) (by simpa using h1)) (List.mergeSort_perm l _) (by
    have := isL_eq l
    have hsorted : (srtL l).Pairwise fun x y => (!(Go.Proofs.ltOf lfCmp) y x) = true := by
      rw [← this]
      have hlt : ∀ a b, (!(Go.Proofs.ltOf lfCmp) b a) = true ↔ ¬ lfCmp b a < 0 := fun a b => by simp [Go.Proofs.ltOf]
      refine isB_sorted (fun a b c h1 h2 => ?_) (fun a b => ?_) l
      · rw [hlt] at *
        intro h3
        have s1 := ordLf.swap a b
        rcases Int.lt_trichotomy (lfCmp a b) 0 with h4 | h4 | h4
        · exact h2 (ordLf.trans c a b h3 h4)
        · rw [ordLf.zero a b h4] at h3; exact h2 h3
        · omega
      · rw [hlt, hlt]
        have s1 := ordLf.swap a b
        omega
    exact hsorted) hs
theorem setI_self {l : List Int} (h : l.Pairwise (fun a b => a < b)) : setI l = l := setI_eq (h.imp fun {a b} h => ⟨by omega, by omega⟩) (fun _ => Iff.rfl)
theorem kIdx_self {n : Int} {es : List En} (h : GI n es) : kIdx es = es := by
  unfold kIdx
  rw [srtL_self (keys_nodup h.inc)]
  have key : ∀ (l M : List En), (M ++ l).Pairwise (fun a b => lfCmp a.1 b.1 < 0) → (∀ e ∈ l, e.2.Pairwise (fun a b => a < b)) → (l.map Prod.fst).map (fun k => (k, setI (mget [] k (M ++ l)))) = l := by
    intro l
    induction l with
    | nil => intro M _ _; rfl
    | cons e l ih =>
      intro M hp hn
      have hnot : e.1 ∉ M.map Prod.fst := fun hm => by
        obtain ⟨a, ha, hae⟩ := List.mem_map.1 hm
        have := (List.pairwise_append.1 hp).2.2 a ha e (.head _)
        rw [hae] at this
        exact cmp_irr this
      have h1 := ih (M ++ [e]) (by simpa using hp) (fun e he => hn e (.tail _ he))
      rw [List.append_assoc] at h1
      rw [List.map_cons, List.map_cons]
      congr 1
      have h2 : mget [] e.1 (M ++ e :: l) = e.2 := mget_last [] e.2 hnot l
      rw [h2, setI_self (hn e (.head _))]
  exact key es [] (by simpa using h.inc) (fun e he => (h.ev e he).inc)
theorem GI.ms {n : Int} {es : List En} (h : GI n es) : MS es := by
  refine ⟨h.len, fun k hk => ?_⟩
  obtain ⟨e, he, rfl⟩ := List.mem_map.1 hk
  have hs := h.sz e he
  obtain ⟨A, B, rfl⟩ := List.append_of_mem he
  have hnot : e.1 ∉ A.map Prod.fst := fun hm => by
    obtain ⟨a, ha, hae⟩ := List.mem_map.1 hm
    have := (List.pairwise_append.1 h.inc).2.2 a ha e (.head _)
    rw [hae] at this
    exact cmp_irr this
  have h2 : mget [] e.1 (A ++ e :: B) = e.2 := mget_last [] e.2 hnot B
  rw [h2]
  exact ⟨hs.1, hs.2.1, hs.2.2.1, hs.2.2.2.1, hs.2.2.2.2.2, hs.2.2.2.2.1⟩
theorem inc_len : ∀ {l : List Int} {lo n : Int}, l.Pairwise (fun a b => a < b) → (∀ z ∈ l, lo ≤ z ∧ z < n) → lo ≤ n → (l.length : Int) ≤ n - lo
  | [], lo, n, _, _, h => by simp; omega
  | a :: l, lo, n, hp, hz, h => by
    obtain ⟨p1, p2⟩ := List.pairwise_cons.1 hp
    have ha := hz a (.head _)
    have := inc_len (lo := a + 1) (n := n) p2 (fun z hzz => ⟨by have := p1 z hzz; omega, (hz z (.tail _ hzz)).2⟩) (by omega)
    simp only [List.length_cons]
    omega
theorem GI.few {n : Int} {es : List En} (h : GI n es) : ∀ e ∈ es, e.2.length ≤ 64 := fun e he => by
  have := inc_len (lo := 0) (n := n) (h.ev e he).inc (h.ev e he).items h.n0
  have := h.n64
  omega
theorem lform_pos (e : En) : 1 ≤ (lform e).length := by
  unfold lform chunkF
  simp only [List.flatten_cons, List.length_append]
  have : 1 ≤ (vint (zz (e.1.1.length : Int))).length := by
    unfold vint vintN; split <;> simp
  omega
theorem iform_count (n : Int) (es : List En) : es.length ≤ (iform n es).length := by
  unfold iform
  simp only [List.length_append]
  have : es.length ≤ (es.flatMap lform).length := by
    induction es with
    | nil => simp
    | cons e l ih => rw [List.flatMap_cons, List.length_append, List.length_cons]; have := lform_pos e; omega
  omega
theorem canon_law (b : List UInt8) : law4_ShapesOpenIsCanonical b = some true := by
  unfold law4_ShapesOpenIsCanonical
  obtain ⟨r, h1, h2⟩ := open_ex b
  rw [h1, Option.bind_some, shaped_true, Option.bind_some, if_neg (by decide)]
  unfold shapes_Index_Items ref3_At
  rcases h2 with ⟨rfl, hb⟩ | ⟨rfl, hb⟩ | ⟨n, es, rfl, hb, hG, hf⟩
  · rw [if_pos (by omega)]
    rfl
  · rw [if_neg (by omega)]
    rfl
  · rw [if_neg (by omega)]
    have hcnt := iform_count n es
    rw [hf] at hcnt
    have hi : ∀ e ∈ es, ∀ z ∈ e.2, 0 ≤ z ∧ z ≤ 1000 := fun e he z hz => by
      have := (hG.ev e he).items z hz
      have := hG.n64
      omega
    have hlen : ∀ e ∈ es, e.2.length ≤ 1000 := fun e he => by have := hG.few e he; omega
    have n0 := hG.n0
    have n64 := hG.n64
    have hfs := found_self (fun e he => (hG.ev e he).ne) hG.inc
    have hbuild : shapes_build n es = some ((n, es), (0, 0)) := by
      rw [build_eq (by unfold I64; omega) hG.ms]
      unfold bres
      rw [kIdx_self hG, hf, if_neg (by omega)]
    have hm1 : shapes_Merge (n, es) (0, []) = some ((n, es), (0, 0)) := by
      rw [merge_eq (by omega) (by omega) (by omega) (by simp) hlen hi (fun e he => by cases he) (fun e he => by cases he), if_neg (by omega)]
      unfold both
      rw [hfs, List.foldl_nil, Int.add_zero, hbuild]
    have hm2 : shapes_Merge (0, []) (n, es) = some ((n, es), (0, 0)) := by
      rw [merge_eq (by omega) (by omega) (by simp) (by omega) (fun e he => by cases he) (fun e he => by cases he) hlen hi, if_neg (by omega)]
      unfold both
      rw [List.foldl_nil, hfs, Int.zero_add, hbuild]
    have hby : shapes_Index_Bytes (n, es) = some b := by rw [bytes_eq (by unfold I64; omega) hG.len hG.sz, hf]
    dsimp only
    rw [if_pos rfl, hm1, Option.bind_some, hm2, Option.bind_some, hby, Option.bind_some]
    unfold ref3_SameBytes
    rw [Option.bind_some]
    dsimp only
    simp
end Go.Proofs.YtmfiaecglndldaaGreatDoor
end
section
namespace Go.E
open Go Go.RowKit Go.ChangeShapes Go.WideShapes
section
variable {H : Type} {enc : TypeId × Value → H} {P : Program} {w : World} {base : Nat} {spare : Nat → Bool} {held : Bool}
theorem wf_u8 {n : Int} (h : (Lit.int .u8 n).wf = true) : 0 ≤ n ∧ n ≤ 255 := by
  simpa [Lit.wf, IntKind.min, IntKind.max, IntKind.signed, IntKind.bits] using h
/-- Arguments read, behind a call that leaves old memory as it was, as they read before. -/
theorem trodAll_stays (hl : laidOutB P = true) {W W' : World} (hb : Below W.heap.size W W') : ∀ {ts : List TypeId} {vs : List Value} {ds : List (DataW H)} {ps : List MemPlace}, (∀ t ∈ ts, P.readableRec t = true ∧ t < P.types.size) →
    DataW.TrodAll enc P W 0 (fun _ => true) true ts vs ds ps → (∀ x ∈ ps, x.block < W.heap.size) → DataW.TrodAll enc P W' 0 (fun b => decide (b < W.heap.size)) true ts vs ds ps
  | [], [], [], ps, _, h, _ => h
  | t :: ts, v :: vs, d :: ds, ps, ht, h, hlt => by
    obtain ⟨p, q, h1, h2, rfl⟩ := h
    have ht0 := ht t (.head _)
    exact ⟨p, q, Below.trod hl ht0.1 ht0.2 h1 hb (fun x hx => hlt x (List.mem_append.2 (.inl hx))), trodAll_stays hl hb (fun t' h' => ht t' (.tail _ h')) h2 (fun x hx => hlt x (List.mem_append.2 (.inr hx))), rfl⟩
  | [], [], _ :: _, _, _, h, _ => by cases h
  | [], _ :: _, _, _, _, h, _ => by cases h
  | _ :: _, [], _, _, _, h, _ => by cases h
  | _ :: _, _ :: _, [], _, _, h, _ => by cases h
end
end Go.E
namespace Go.E
open Go Go.RowKit Go.ChangeShapes Go.WideShapes Go.Deep
/-- What is read at a type lies in memory as plain data, of which something holds. -/
def Reads (P : Program) (t : TypeId) {α : Type} (r : Rp α) (ok : α → Prop) : Prop :=
  ∀ {H : Type} {enc : TypeId × Value → H} {w : World} {base : Nat} {spare : Nat → Bool} {held : Bool} {fuel : Nat} {cs : List Value} {x : DataW H × List MemPlace},
    DataW.trod enc P w base spare held fuel t cs = some x → ∃ a, r.rel (hp w) a cs ∧ ok a
section
variable {P : Program} {t e : TypeId}
theorem reads_byte (ht : P.underlying t = some (.int .u8)) : Reads P t .byte (fun _ => True) := fun h => by
  obtain ⟨n, rfl, _, hw⟩ := DataW.trod_int ht h
  have hw' := wf_u8 hw
  refine ⟨Go.L.u8 n, ?_, trivial⟩
  show [_] = [_]
  rw [Go.L.u8_toNat, Int.emod_eq_of_lt (by omega) (by omega)]
theorem reads_slice [Dr] {α : Type} {r : Rp α} {ok : α → Prop} (ht : P.underlying t = some (.slice e)) (hc : P.cellsOf e = r.sz) (hsz : 0 < r.sz) (hr : Reads P e r ok) : Reads P t (.vec r) (fun l => l.length ≤ 9223372036854775807 ∧ ∀ x ∈ l, ok x) := fun {H enc w base spare held fuel cs x} h => by
  rcases open_slice ht h with ⟨rfl, _⟩ | ⟨a, len, cap, m, n, D, Pl, rfl, hb, hl, hm, rfl, _, hel⟩
  · exact ⟨[], ⟨_, rfl, Vec.nil _ _⟩, by simp, by simp⟩
  · have hm2 : len ≤ (if spare a.block then cap else len) := by split <;> omega
    have hx : ∀ i, i < len → ∃ y, ok y ∧ ∃ c, r.rel (hp w) y c ∧ w.cells? base (a.add (i * r.sz)) r.sz = some c := fun i hi => by
      obtain ⟨cs', h1, h2⟩ := hel i (by omega)
      obtain ⟨y, h3, h4⟩ := hr h2
      rw [hc] at h1
      exact ⟨y, h4, cs', h3, h1⟩
    have key : ∀ k, k ≤ len → ∃ l : List α, l.length = k ∧ (∀ x ∈ l, ok x) ∧ ∀ i y, l[i]? = some y → ∃ c, r.rel (hp w) y c ∧ w.cells? base (a.add (i * r.sz)) r.sz = some c := by
      intro k
      induction k with
      | zero => intro _; exact ⟨[], rfl, by simp, by simp⟩
      | succ k ih =>
        intro hk
        obtain ⟨l, h1, h2, h3⟩ := ih (by omega)
        obtain ⟨y, h4, c, h5, h6⟩ := hx k (by omega)
        refine ⟨l ++ [y], by simp [h1], fun z hz => ?_, fun i z hz => ?_⟩
        · rcases List.mem_append.1 hz with hz | hz
          · exact h2 z hz
          · simp at hz; subst hz; exact h4
        · rcases Nat.lt_or_ge i l.length with hi | hi
          · rw [List.getElem?_append_left hi] at hz; exact h3 i z hz
          · rw [List.getElem?_append_right hi] at hz
            have hi0 : i - l.length = 0 := by
              have := (List.getElem?_eq_some_iff.1 hz).1
              simp at this; omega
            rw [hi0] at hz
            simp at hz
            subst hz
            obtain rfl : i = k := by omega
            exact ⟨c, h5, h6⟩
    obtain ⟨l, h1, h2, h3⟩ := key len (Nat.le_refl _)
    have hlm : len ≤ 9223372036854775807 := by unfold maxLen at hm; omega
    refine ⟨l, ⟨_, rfl, some a, cap, by rw [h1], by omega, hm, (fun h => by cases h), fun A hA hne => ?_⟩, by omega, h2⟩
    cases hA
    have cell : ∀ i y, l[i]? = some y → ∃ c, r.rel (hp w) y c ∧ ∀ j u, c[j]? = some u → w.cell? ((a.add (i * r.sz)).add j) = some u := fun i y hy => by
      obtain ⟨c, h4, h5⟩ := h3 i y hy
      obtain ⟨_, hlen, hcell⟩ := World.cells?_some h5
      exact ⟨c, h4, fun j u hu => by rw [← hu]; exact hcell j (by rw [← hlen]; exact (List.getElem?_eq_some_iff.1 hu).1)⟩
    have hspot : a.spot = none := by
      obtain ⟨y, l', rfl⟩ := List.exists_cons_of_ne_nil hne
      obtain ⟨c, h4, h5⟩ := cell 0 y rfl
      have hc0 : 0 < c.length := by rw [r.len h4]; omega
      have := World.cell?_spot (h5 0 _ (List.getElem?_eq_getElem hc0))
      simpa [Addr.add] using this
    refine ⟨hspot, fun i y hy => ?_⟩
    obtain ⟨c, h4, h5⟩ := cell i y hy
    refine ⟨c, h4, fun j u hu => ?_⟩
    rw [← addr_add_add hspot]
    exact h5 j u hu
end
end Go.E
end
section
namespace Go.Proofs.YtmfiaecglndldaaGreatDoor.bulks
open Go Go.E
theorem bound {H : Type} {l : List (DataW H)} (hk : Rows.uptoSmall H l = true) : Rows.uptoBulkAll l ≤ 1048576 := of_decide_eq_true hk
end Go.Proofs.YtmfiaecglndldaaGreatDoor.bulks
namespace Go.Proofs.YtmfiaecglndldaaGreatDoor.bulks
open Go Go.E Go.RowKit Go.ChangeShapes Go.WideShapes Go.Deep Go.L
section
variable {P : Program} {t e : TypeId} {k : Nat}
end
end Go.Proofs.YtmfiaecglndldaaGreatDoor.bulks
end
section
namespace Go.Proofs.YtmfiaecglndldaaGreatDoor
open Go Go.E Go.Lib
def laidU : List (String × DataW Unit) := [("unicode/utf8.acceptRanges", Rows.laid_unicode_utf8_acceptRanges), ("unicode/utf8.first", Rows.laid_unicode_utf8_first)]
noncomputable def laidWorld (os : Os) : World :=
  let w0 := World.holding Tryz.prog os ⟨#[], #[], []⟩
  let put (h : Array Obj) (g : Nat) (cs : Array Value) : Array Obj := h.modify g fun
    | .cells _ t frozen => .cells cs t frozen
    | o => o
  let h1 := put w0.heap 1 (Lib.firstTab.map fun z => Value.int .u8 z).toArray
  let h2 := put h1 2 ((List.range 16).flatMap fun i => [Value.int .u8 (Lib.accLo i), Value.int .u8 (Lib.accHi i)]).toArray
  { w0 with heap := h2 }
theorem door_met (os : Os) (args : Array Value) : laidMetH Tryz.prog laidU ((laidWorld os).forCall (fun _ _ => 0) ⟨#[], args, []⟩).memory :=
  laidMetH_of_parts3 (fuel := 8) (laidMet_of_run' 8 (by kernel_rfl) (by kernel_rfl)) (by kernel_rfl) (by kernel_rfl)
end Go.Proofs.YtmfiaecglndldaaGreatDoor
end
