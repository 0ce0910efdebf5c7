/- Texts of a claim, merged. -/
import Derived.Test.YtmfiaecglndldaaGreatDoorKf6
import Derived.KernelRfl
import Derived.ProofKit
import Derived.OpenShut
import Derived.Carry
import Derived.Deep.Slices
import Derived.Test.YtmfiaecglndldaaGreatDoorRows
import Derived.Lib.LaidU8T
import Derived.LaidMore
import Derived.MakeChecks
import Derived.LaidHandle
set_option linter.unusedVariables false
set_option linter.unusedSimpArgs false
section
namespace Go.L
theorem adj_pairwise {α : Type} [Inhabited α] {R : α → α → Prop} (htr : ∀ a b c, R a b → R b c → R a c) {l : List α} (h : ∀ j, 0 < j → j < l.length → R (l.getD (j - 1) default) (l.getD j default)) : l.Pairwise R := by
  rw [List.pairwise_iff_getElem]
  intro i j hi hj hij
  have key : ∀ d, i + d + 1 < l.length → R (l.getD i default) (l.getD (i + d + 1) default) := by
    intro d
    induction d with
    | zero => intro hd; exact h (i + 1) (by omega) hd
    | succ d ih =>
      intro hd
      have h1 := ih (by omega)
      have h2 := h (i + (d + 1) + 1) (by omega) hd
      rw [show i + (d + 1) + 1 - 1 = i + d + 1 by omega] at h2
      exact htr _ _ _ h1 h2
  have := key (j - i - 1) (by omega)
  rw [show i + (j - i - 1) + 1 = j by omega] at this
  simpa [List.getD_eq_getElem?_getD, List.getElem?_eq_getElem hi, List.getElem?_eq_getElem hj] using this
section
variable {κ β : Type} [DecidableEq κ]
theorem mget_mput (d : β) (k k' : κ) (y : β) : ∀ M : List (κ × β), mget d k' (mput k y M) = if k' = k then y else mget d k' M
  | [] => by simp only [mput, mget]
  | (a, z) :: M => by
    unfold mput
    by_cases h : k = a
    · subst h
      rw [if_pos rfl]
      unfold mget
      by_cases h2 : k' = k
      · rw [if_pos h2, if_pos h2]
      · rw [if_neg h2, if_neg h2]; rw [if_neg h2]
    · rw [if_neg h]
      unfold mget
      rw [mget_mput d k k' y M]
      by_cases h2 : k' = a
      · rw [if_pos h2, if_neg (fun e => h (e.symm.trans h2)), if_pos h2]
      · rw [if_neg h2, if_neg h2]
theorem mput_mem {k : κ} (y : β) : ∀ {M : List (κ × β)}, k ∈ M.map Prod.fst → (mput k y M).map Prod.fst = M.map Prod.fst
  | [], h => by cases h
  | (a, z) :: M, h => by
    unfold mput
    by_cases hk : k = a
    · subst hk; rw [if_pos rfl]; rfl
    · rw [if_neg hk]
      simp only [List.map_cons, List.mem_cons] at h ⊢
      rw [mput_mem y (h.resolve_left hk)]
theorem mput_new {k : κ} (y : β) : ∀ {M : List (κ × β)}, k ∉ M.map Prod.fst → mput k y M = M ++ [(k, y)]
  | [], _ => rfl
  | (a, z) :: M, h => by
    unfold mput
    simp only [List.map_cons, List.mem_cons, not_or] at h
    rw [if_neg h.1, mput_new y h.2]
    rfl
end
/-- An item of a leaf. -/
def addI (k : Lf) (i : Int) (M : List (Lf × List Int)) : List (Lf × List Int) := mput k (mget [] k M ++ [i]) M
def addL (k : Lf) (d : Int) (M : List (Lf × List Int)) (l : List Int) : List (Lf × List Int) := l.foldl (fun M z => addI k (z + d) M) M
end Go.L
namespace Go.Proofs.YtmfiaecglndldaaGreatDoor
open Go Go.L
/-- A good index. -/
structure GI (n : Int) (es : List En) : Prop where
  n0 : 0 ≤ n
  n64 : n ≤ 64
  ev : ∀ e ∈ es, EV n e
  sz : ∀ e ∈ es, EnS e
  len : es.length ≤ 1000000
  inc : es.Pairwise (fun a b => lfCmp a.1 b.1 < 0)
theorem open_run {b : List UInt8} {n : Int} {es : List En} {x14 : Int × Int × (Int × Int)} {x39 : List En × Int × (Int × Int)} (h14 : x14.1 = n) (h39 : x39.1 = es) (hn : 0 ≤ n ∧ n ≤ 64) (hl : es.length ≤ 1000000) (hs : ∀ e ∈ es, EnS e) :
    ∀ (k i : Nat), i + k = es.length → (∀ j, j < i → EV n (es.getD j default) ∧ (0 < j → lfCmp (es.getD (j - 1) default).1 (es.getD j default).1 < 0)) →
      ∃ r, Go.L.run (shapes_Open_bl4 b (16, -1) x14 x39) (i : Int) = some r ∧ (r = ((0, []), (16, -1)) ∨ (r = ((n, es), (0, 0)) ∧ GI n es ∧ iform n es = b)) := by
  subst h14; subst h39
  intro k
  induction k with
  | zero =>
    intro i hi hp
    have hG : GI x14.1 x39.1 := by
      refine ⟨hn.1, hn.2, fun e he => ?_, hs, hl, adj_pairwise (l := x39.1) (R := fun a b : En => lfCmp a.1 b.1 < 0) (fun a b c h1 h2 => ordLf.trans _ _ _ h1 h2) (fun j h0 hj => (hp j (by omega)).2 h0)⟩
      obtain ⟨j, hj, rfl⟩ := List.getElem_of_mem he
      have := (hp j (by omega)).1
      simpa [List.getD_eq_getElem?_getD, List.getElem?_eq_getElem hj] using this
    have e : shapes_Open_bl4 b (16, -1) x14 x39 (i : Int) = (shapes_Open_k3 b (16, -1) x14 x39).map Sum.inr := by
      unfold shapes_Open_bl4
      rw [if_neg (by omega)]
    rw [run_inr e]
    unfold shapes_Open_k3 shapes_Open_k7 bytes_Equal
    rw [bytes_eq (by unfold I64; omega) hl hs, Option.bind_some, Option.bind_some]
    by_cases hb : iform x14.1 x39.1 = b
    · rw [if_neg (by simp [hb])]
      exact ⟨_, rfl, .inr ⟨rfl, hG, hb⟩⟩
    · rw [if_pos (by simp [hb])]
      exact ⟨_, rfl, .inl rfl⟩
  | succ k ih =>
    intro i hi hp
    have hil : i < x39.1.length := by omega
    obtain ⟨c, hv, hc⟩ := valid_ex (x39.1.getD i default) x14.1 (hs _ (getD_mem hil)).2.2.2.2.2
    have e0 : ∀ x : En, shapes_entry_valid ((x.1.1, x.1.2.1, x.1.2.2.1, x.1.2.2.2), x.2) = shapes_entry_valid x := fun _ => rfl
    have hb : shapes_Open_bl4 b (16, -1) x14 x39 (i : Int) = if c = true ∧ (0 < i → lfCmp (x39.1.getD (i - 1) default).1 (x39.1.getD i default).1 < 0) then some (.inl ((i + 1 : Nat) : Int)) else some (.inr ((0, []), (16, -1))) := by
      unfold shapes_Open_bl4 shapes_Open_k5 shapes_Open_k6
      rw [if_pos (by omega), chk_pos (by omega), Int.toNat_natCast, e0, hv, Option.bind_some]
      cases c with
      | false => rw [if_pos (show (!false) = true from rfl), if_neg (by simp)]; rfl
      | true =>
        rw [if_neg (by decide)]
        by_cases h0 : 0 < i
        · rw [if_pos (by omega), chk_pos (by unfold I64; omega), chk_pos (by omega), show ((i : Int) - 1).toNat = i - 1 by omega]
          show (shapes_leaf_compare (x39.1.getD i default).1 (x39.1.getD (i - 1) default).1).bind _ = _
          rw [compare_eq, Option.bind_some]
          have hsw := ordLf.swap (x39.1.getD i default).1 (x39.1.getD (i - 1) default).1
          by_cases h1 : lfCmp (x39.1.getD i default).1 (x39.1.getD (i - 1) default).1 ≤ 0
          · rw [if_pos h1, if_neg (fun hh => by have := hh.2 h0; omega)]; rfl
          · rw [if_neg h1, if_pos ⟨rfl, fun _ => by omega⟩, chk_pos (by unfold I64; omega)]; rfl
        · rw [if_neg (by omega), if_pos ⟨rfl, fun h => absurd h h0⟩, chk_pos (by unfold I64; omega)]; rfl
    by_cases hg : c = true ∧ (0 < i → lfCmp (x39.1.getD (i - 1) default).1 (x39.1.getD i default).1 < 0)
    · rw [if_pos hg] at hb
      rw [run_inl hb]
      refine ih (i + 1) (by omega) fun j hj => ?_
      by_cases hji : j = i
      · subst hji; exact ⟨hc.1 hg.1, hg.2⟩
      · exact hp j (by omega)
    · rw [if_neg hg] at hb
      exact ⟨_, run_inr (m := some ((0, []), (16, -1))) hb, .inl rfl⟩
theorem open_ex (b : List UInt8) : ∃ r, shapes_Open b = some r ∧ ((r = ((0, []), (3, -1)) ∧ 16384 < b.length) ∨ (r = ((0, []), (16, -1)) ∧ b.length ≤ 16384) ∨ ∃ n es, r = ((n, es), (0, 0)) ∧ b.length ≤ 16384 ∧ GI n es ∧ iform n es = b) := by
  unfold shapes_Open shapes_fault
  by_cases h : 16384 < b.length
  · rw [if_pos (by omega)]
    exact ⟨_, rfl, .inl ⟨rfl, h⟩⟩
  · rw [if_neg (by omega), Option.bind_some]
    obtain ⟨⟨n, nx, f⟩, h1, h2⟩ := rnum (b := b) (by omega) (a := 0) (Nat.zero_le _)
    have h1' : wire_ReadNumber b 0 = some (n, nx, f) := h1
    rw [h1', Option.bind_some]
    unfold shapes_Open_k1 shapes_Open_k2 shapes_Open_l4
    rcases h2 with ⟨hf, hn, m, hm, h3, h4⟩ | hf
    · simp only at hf hn hm
      subst hf; subst hm
      dsimp only
      by_cases c1 : n < 0 ∨ 64 < n
      · rw [if_pos (by rcases c1 with c | c <;> simp [c])]
        exact ⟨_, rfl, .inr (.inl ⟨rfl, by omega⟩)⟩
      · rw [if_neg (by have : ¬ n < 0 := by omega
                       have h64 : ¬ 64 < n := by omega
                       simp [this, h64])]
        obtain ⟨⟨es, nx2, f2⟩, k1, k2⟩ := rentries (b := b) (by omega) h4 (most := (b.length : Int)) (by omega)
        rw [k1, Option.bind_some]
        rcases k2 with ⟨hf, ⟨he, hel⟩, _⟩ | hf
        · simp only at hf he hel
          subst hf
          dsimp only
          rw [if_pos ⟨rfl, rfl⟩]
          have hel' : es.length ≤ b.length := by have : (es.length : Int) ≤ (b.length : Int) := hel; omega
          obtain ⟨r, g1, g2⟩ := open_run (b := b) (n := n) (es := es) (x14 := (n, (m : Int), (0, 0))) (x39 := (es, nx2, (0, 0))) rfl rfl (by omega) (by omega) (fun e hee => by
            obtain ⟨q1, q2, q3, q4, q5, q6⟩ := he e hee
            exact ⟨by omega, q2, q3, by omega, q5, by omega⟩) es.length 0 (by omega) (fun j hj => absurd hj (Nat.not_lt_zero j))
          refine ⟨r, g1, ?_⟩
          rcases g2 with g | ⟨g, gg, ggg⟩
          · exact .inr (.inl ⟨g, by omega⟩)
          · exact .inr (.inr ⟨n, es, g, by omega, gg, ggg⟩)
        · dsimp only
          rw [if_neg (fun h => hf h.1)]
          exact ⟨_, rfl, .inr (.inl ⟨rfl, by omega⟩)⟩
    · dsimp only
      have hf' : f.1 ≠ 0 := hf
      rw [if_pos (by simp [hf'])]
      exact ⟨_, rfl, .inr (.inl ⟨rfl, by omega⟩)⟩
/-! ### build -/
/-- The entries of what was found. -/
def kIdx (M : List (Lf × List Int)) : List En := (srtL (M.map Prod.fst)).map fun k => (k, setI (mget [] k M))
def MS (M : List (Lf × List Int)) : Prop := M.length ≤ 1000000 ∧ ∀ k ∈ M.map Prod.fst, k.1.length ≤ 2000000 ∧ I64 k.2.1 ∧ I64 k.2.2.1 ∧ k.2.2.2.length ≤ 2000000 ∧ (mget [] k M).length ≤ 1000000 ∧ ∀ z ∈ mget [] k M, I64 z
theorem srtL_perm' (l : List Lf) : (srtL l).Perm l := List.mergeSort_perm l _
theorem setI_len (l : List Int) : (setI l).length ≤ l.length := Nat.le_trans (Go.E.compact_le _) (Nat.le_of_eq (srtI_perm l).length_eq)
theorem kIdx_S {M : List (Lf × List Int)} (h : MS M) : ∀ e ∈ kIdx M, EnS e := by
  intro e he
  obtain ⟨k, hk, rfl⟩ := List.mem_map.1 he
  obtain ⟨h1, h2, h3, h4, h5, h6⟩ := h.2 k ((srtL_perm' _).mem_iff.1 hk)
  exact ⟨h1, h2, h3, h4, fun z hz => h6 z (((setI_spec _).2 z).1 hz), Nat.le_trans (setI_len _) h5⟩
theorem kIdx_len (M : List (Lf × List Int)) : (kIdx M).length = M.length := by unfold kIdx; rw [List.length_map, srtL_length, List.length_map]
/-- What build answers. -/
def bres (n : Int) (M : List (Lf × List Int)) : (Int × List En) × (Int × Int) := if 16384 < (iform n (kIdx M)).length then ((0, []), (14, -1)) else ((n, kIdx M), (0, 0))
theorem build_eq {n : Int} {M : List (Lf × List Int)} (hn : I64 n) (h : MS M) : shapes_build n M = some (bres n M) := by
  unfold shapes_build sortedK
  have hM := h.1
  rw [chk_pos (by unfold Go.E.Cap; omega), Option.bind_some]
  unfold shapes_build_l2
  have hk1 : shapes_build_k1 n (kIdx M) = some (bres n M) := by
    unfold shapes_build_k1 shapes_fault bres
    rw [bytes_eq hn (by rw [kIdx_len]; exact hM) (kIdx_S h), Option.bind_some]
    by_cases hc : 16384 < (iform n (kIdx M)).length
    · rw [if_pos (by omega), if_pos hc]; rfl
    · rw [if_neg (by omega), if_neg hc]
  have hkl : (srtL (M.map Prod.fst)).length = M.length := by rw [srtL_length, List.length_map]
  refine run_count (fun i => (((srtL (M.map Prod.fst)).take i).map (fun k => (k, setI (mget [] k M))), ((i : Nat) : Int))) (srtL (M.map Prod.fst)).length (fun i hi => ?_) ?_ 0 (Nat.zero_le _)
  · obtain ⟨h1, h2, h3, h4, h5, h6⟩ := h.2 _ ((srtL_perm' _).mem_iff.1 (getD_mem hi))
    have ht : ((srtL (M.map Prod.fst)).take (i + 1)).map (fun k => (k, setI (mget [] k M))) = ((srtL (M.map Prod.fst)).take i).map (fun k => (k, setI (mget [] k M))) ++ [((srtL (M.map Prod.fst)).getD i default, setI (mget [] ((srtL (M.map Prod.fst)).getD i default) M))] := by
      rw [List.take_add_one, List.getElem?_eq_getElem hi, Option.toList_some, List.map_append]
      simp [List.getD_eq_getElem?_getD, List.getElem?_eq_getElem hi]
    rw [ht]
    unfold shapes_build_bl2 slices_Clone_int_int
    dsimp only
    rw [if_pos (by omega), chk_pos (by omega), Int.toNat_natCast]
    generalize (srtL (M.map Prod.fst)).getD i default = k at *
    have e5 : ((k.1, k.2.1, k.2.2.1, k.2.2.2) : Lf) = k := rfl
    simp only [e5]
    rw [chk_pos (by unfold Go.E.Cap; simp only [List.length_nil]; show (0 + (mget [] k M).length) * 8 ≤ _ ∧ _; omega), Option.bind_some]
    show Go.L.chk (([] ++ mget [] k M).length < _) _ = _
    rw [List.nil_append, chk_pos (by omega), chk_pos (by rw [(srtI_perm _).length_eq]; omega), chk_pos (by unfold Go.E.Cap; simp only [List.length_map, List.length_take, List.length_cons, List.length_nil]; omega), chk_pos (by unfold I64; omega)]
    rfl
  · unfold shapes_build_bl2
    dsimp only
    rw [if_neg (by omega), List.take_length]
    exact congrArg (Option.map Sum.inr) hk1
/-! ### Merge -/
def addE (d : Int) (M : List (Lf × List Int)) (e : En) : List (Lf × List Int) := addL e.1 d M e.2
def Bd (N : Nat) (M : List (Lf × List Int)) : Prop := ∀ k, (mget [] k M).length ≤ N
/-- What two indexes have found. -/
def both (n1 : Int) (es1 es2 : List En) : List (Lf × List Int) := es2.foldl (addE n1) (es1.foldl (addE 0) [])
end Go.Proofs.YtmfiaecglndldaaGreatDoor
end
section
namespace Go.L
/-- Steps with slashes between them. -/
def jn : List (List UInt8) → List UInt8
  | [] => []
  | x :: l => if l = [] then x else x ++ 47 :: jn l
theorem jn_len : ∀ {l : List (List UInt8)}, l ≠ [] → (jn l).length + 1 = tot l
  | x :: l, _ => by
    unfold jn tot
    by_cases h : l = []
    · subst h; simp [tot]
    · have := jn_len h
      rw [if_neg h, List.length_append, List.length_cons]
      omega
theorem pcs_slash : ∀ (x cur s : List UInt8), 47 ∉ x → pcs cur (x ++ 47 :: s) = (cur ++ x) :: pcs [] s
  | [], cur, s, _ => by simp [pcs]
  | c :: x, cur, s, h => by
    have hc : c ≠ 47 := fun e => h (by rw [e]; exact .head _)
    simp only [List.cons_append, pcs, if_neg hc]
    rw [pcs_slash x (cur ++ [c]) s (fun hh => h (.tail _ hh))]
    simp
theorem pcs_last : ∀ (x cur : List UInt8), 47 ∉ x → pcs cur x = [cur ++ x]
  | [], cur, _ => by simp [pcs]
  | c :: x, cur, h => by
    have hc : c ≠ 47 := fun e => h (by rw [e]; exact .head _)
    simp only [pcs, if_neg hc]
    rw [pcs_last x (cur ++ [c]) (fun hh => h (.tail _ hh))]
    simp
theorem pcs_jn : ∀ {l : List (List UInt8)}, l ≠ [] → (∀ x ∈ l, 47 ∉ x) → pcs [] (jn l) = l
  | x :: l, _, h => by
    unfold jn
    by_cases hl : l = []
    · subst hl
      rw [if_pos rfl, pcs_last x [] (h x (.head _))]; simp
    · rw [if_neg hl, pcs_slash x [] _ (h x (.head _)), pcs_jn hl (fun y hy => h y (.tail _ hy))]; simp
theorem sl_jn {l : List (List UInt8)} (hne : ∀ x ∈ l, x ≠ []) (h : ∀ x ∈ l, 47 ∉ x) : sl (jn l) = l := by
  unfold sl
  cases l with
  | nil => simp [jn]
  | cons x l =>
    have : jn (x :: l) ≠ [] := by
      unfold jn
      have := hne x (.head _)
      split
      · exact this
      · simp
    rw [if_neg this, pcs_jn (by simp) h]
/-- A step of a path. -/
def stp (x : List UInt8) : Bool := nok x || decide (x = [35])
theorem stp_ne {x : List UInt8} (h : stp x = true) : x ≠ [] ∧ 47 ∉ x ∧ x ≠ [42] ∧ x ≠ [42, 42] := by
  unfold stp at h
  rw [Bool.or_eq_true, decide_eq_true_eq] at h
  rcases h with h | rfl
  · unfold nok at h
    rw [Bool.and_eq_true, decide_eq_true_eq] at h
    obtain ⟨h1, h2⟩ := h
    have hall := List.all_eq_true.1 h2
    refine ⟨fun e => by subst e; simp at h1, fun hh => ?_, fun e => by subst e; simp at h1, fun e => by subst e; simp at h1⟩
    have := hall 47 hh
    revert this; decide
  · decide
theorem wr_ok {w : Bool} {l : List (List UInt8)} : ∀ {a : Int}, (∀ x ∈ l, (stp x || (w && (decide (x = [42]) || decide (x = [42, 42])))) = true) → wr w a l = -1 := by
  induction l with
  | nil => intro a _; rfl
  | cons y l ih =>
    intro a h
    unfold wr
    have := h y (.head _)
    unfold stp at this
    rw [if_pos this]
    exact ih (fun x hx => h x (.tail _ hx))
end Go.L
end
section
namespace Go.L
theorem sum_drop {α : Type} [Inhabited α] (f : α → Nat) {l : List α} {i : Nat} (h : i < l.length) : ((l.drop i).map f).sum = f (l.getD i default) + ((l.drop (i + 1)).map f).sum := by rw [drop_cons h]; simp
end Go.L
namespace Go.Proofs.YtmfiaecglndldaaGreatDoor
open Go Go.L
theorem chk_loop {d : Nat} {v : Pv} {a2 : Int} {self : Pv → Int → Int → Option (Int × (Int × Int))} (hlen : v.f.2.2.2.2.length ≤ 1000) (ha : I64 (a2 + 1))
    (hs : ∀ p ∈ v.f.2.2.2.2, ∀ m : Int, 0 ≤ m → ∃ r, self p m (a2 + 1) = some r ∧ ((r.2 = (0, 0) ∧ Vd d p ∧ r.1 = m + (nodes d p : Nat) ∧ r.1 ≤ 600) ∨ r.2.1 ≠ 0)) :
    ∀ (k i : Nat) (m : Int), i + k = v.f.2.2.2.2.length → 0 ≤ m → m ≤ 600 → ∃ r, Go.L.run (value_check_body_bl2 v a2 self) (m, (i : Int)) = some r ∧ ((r.2 = (0, 0) ∧ (∀ p ∈ v.f.2.2.2.2.drop i, Vd d p) ∧ r.1 = m + (((v.f.2.2.2.2.drop i).map (nodes d)).sum : Nat) ∧ r.1 ≤ 600) ∨ r.2.1 ≠ 0)
  | 0, i, m, hi, h0, h6 => by
    refine ⟨(m, 0, 0), run_inr (m := some (m, 0, 0)) ?_, .inl ⟨rfl, ?_⟩⟩
    · unfold value_check_body_bl2 value_check_body_k1
      dsimp only
      rw [if_neg (by omega)]
    · rw [List.drop_eq_nil_of_le (by omega)]
      exact ⟨by simp, by simp, h6⟩
  | k + 1, i, m, hi, h0, h6 => by
    have hil : i < v.f.2.2.2.2.length := by omega
    obtain ⟨r, h1, h2⟩ := hs _ (getD_mem hil) m h0
    rcases h2 with ⟨hr, g1, g2, g3⟩ | hr
    · have hb : value_check_body_bl2 v a2 self (m, (i : Int)) = some (.inl (r.1, ((i + 1 : Nat) : Int))) := by
        unfold value_check_body_bl2
        dsimp only
        rw [if_pos (by omega), chk_pos (by omega), chk_pos ha, Int.toNat_natCast, h1, Option.bind_some, if_pos (by rw [hr]; exact ⟨rfl, rfl⟩), chk_pos (by unfold I64; omega)]
        rfl
      obtain ⟨q, k1, k2⟩ := chk_loop hlen ha hs k (i + 1) r.1 (by omega) (by omega) g3
      refine ⟨q, by rw [run_inl hb, k1], ?_⟩
      rcases k2 with ⟨hq, l1, l2, l3⟩ | hq
      rotate_left
      · exact .inr hq
      rw [drop_cons hil]
      refine .inl ⟨hq, fun p hp => ?_, ?_, l3⟩
      · rcases List.mem_cons.1 hp with rfl | hp
        · exact g1
        · exact l1 p hp
      · rw [List.map_cons, List.sum_cons, l2, g2]; omega
    · refine ⟨(0, r.2.1, r.2.2), run_inr (m := some (0, r.2.1, r.2.2)) ?_, .inr hr⟩
      unfold value_check_body_bl2
      dsimp only
      rw [if_pos (by omega), chk_pos (by omega), chk_pos ha, Int.toNat_natCast, h1, Option.bind_some, if_neg (fun hh => hr hh.1)]
theorem chk_ex {B : Nat} (hB : B ≤ 100000000000) : ∀ (d n : Nat) (v : Pv) (m : Int), d < n → Sm B d v → d ≤ 10 → 0 ≤ m → ∃ r, value_check_n n v m (11 - (d : Int)) = some r ∧ ((r.2 = (0, 0) ∧ Vd d v ∧ r.1 = m + (nodes d v : Nat) ∧ r.1 ≤ 600) ∨ r.2.1 ≠ 0)
  | _, 0, _, _, h, _, _, _ => absurd h (by omega)
  | 0, n + 1, v, m, _, _, _, _ => by
    refine ⟨(0, 2, m), ?_, .inr (by simp)⟩
    show value_check_body (value_check_n n) v m _ = _
    unfold value_check_body
    rw [if_pos (by right; omega)]
    rfl
  | d + 1, n + 1, v, m, hn, hs, hd, hm => by
    obtain ⟨s1, s2, s3, s4, s5, s6, s7⟩ := hs
    show ∃ r, value_check_body (value_check_n n) v m _ = some r ∧ _
    unfold value_check_body
    by_cases h1 : (600 : Int) ≤ m
    · rw [if_pos (.inl h1)]
      exact ⟨(0, 2, m), rfl, .inr (by simp)⟩
    · rw [if_neg (by omega)]
      obtain ⟨c, h2, h3⟩ := checkNode_ex v (by omega)
      rw [h2, Option.bind_some]
      by_cases hc : c = 0
      · rw [if_pos hc, chk_pos (by unfold I64; omega)]
        have hok := h3 hc
        obtain ⟨r, k1, k2⟩ := chk_loop (d := d) (v := v) (a2 := 11 - ((d + 1 : Nat) : Int)) (self := value_check_n n) (by have := hok.many; omega) (by unfold I64; omega)
          (fun p hp q hq => by
            have := chk_ex hB d n p q (by omega) (s7 p hp) (by omega) hq
            rwa [show (11 : Int) - ((d + 1 : Nat) : Int) + 1 = 11 - (d : Int) by omega]) v.f.2.2.2.2.length 0 (m + 1) (by omega) (by omega) (by omega)
        refine ⟨r, k1, ?_⟩
        rcases k2 with ⟨hr, l1, l2, l3⟩ | hr
        rotate_left
        · exact .inr hr
        rw [List.drop_zero] at l1 l2
        refine .inl ⟨hr, ⟨hok, l1⟩, ?_, l3⟩
        rw [l2]
        unfold nodes
        omega
      · rw [if_neg hc]
        exact ⟨(0, c, m), rfl, .inr hc⟩
/-! ### Encoding -/
theorem chunk_ex {B : Nat} (hB : B ≤ 100000000000) {b : List UInt8} (h : b.length ≤ B) : wire_Chunk b = some (vint (zz (b.length : Int)) ++ b) := by
  unfold wire_Chunk
  have := vint_len (zz (b.length : Int))
  rw [number_eq (by unfold I64; omega), Option.bind_some, chk_pos (by unfold Go.E.Cap; omega)]
theorem enc_loop {B d : Nat} (hB : B ≤ 100000000000) {v : Pv} {self : Pv → Option (List UInt8)} (hlen : v.f.2.2.2.2.length ≤ 600) (hsame : v.f.1 = 4 → v.f.2.2.2.1.length = v.f.2.2.2.2.length) (hnm : ∀ x ∈ v.f.2.2.2.1, x.length ≤ 32)
    (hnod : ((v.f.2.2.2.2).map (nodes d)).sum ≤ 600)
    (hs : ∀ p ∈ v.f.2.2.2.2, ∃ b, self p = some b ∧ b.length + 42 ≤ nodes d p * (B + 100)) :
    ∀ (k i : Nat) (L : List UInt8) (C : Nat), i + k = v.f.2.2.2.2.length → C ≤ 700 → L.length + 42 + (((v.f.2.2.2.2.drop i).map (nodes d)).sum) * (B + 100) ≤ C * (B + 100) → ∃ b, Go.L.run (value_encode_body_bl2 v self) (L, (i : Int)) = some b ∧ b.length + 42 ≤ C * (B + 100)
  | 0, i, L, C, hi, hC, hL => by
    refine ⟨L, run_inr (m := some L) ?_, by omega⟩
    unfold value_encode_body_bl2 value_encode_body_k1
    dsimp only
    rw [if_neg (by omega)]
  | k + 1, i, L, C, hi, hC, hL => by
    have hil : i < v.f.2.2.2.2.length := by omega
    obtain ⟨b, h1, h2⟩ := hs _ (getD_mem hil)
    rw [sum_drop _ hil, Nat.add_mul] at hL
    have hCB : C * (B + 100) ≤ 700 * (100000000000 + 100) := Nat.mul_le_mul hC (by omega)
    have hk3 : ∀ M : List UInt8, M.length + b.length + 42 + ((v.f.2.2.2.2.drop (i + 1)).map (nodes d)).sum * (B + 100) ≤ C * (B + 100) → value_encode_body_k3 v (i : Int) self M = some (.inl (M ++ b, ((i + 1 : Nat) : Int))) := by
      intro M hM
      unfold value_encode_body_k3
      rw [Int.toNat_natCast, h1, Option.bind_some, chk_pos (by unfold Go.E.Cap; omega), chk_pos (by unfold I64; omega)]
      rfl
    by_cases h4 : v.f.1 = 4
    · have hin : i < v.f.2.2.2.1.length := by rw [hsame h4]; exact hil
      have hx := hnm _ (getD_mem hin)
      have hv := vint_len (zz ((v.f.2.2.2.1.getD i default).length : Int))
      have hb : value_encode_body_bl2 v self (L, (i : Int)) = some (.inl ((L ++ (vint (zz ((v.f.2.2.2.1.getD i default).length : Int)) ++ v.f.2.2.2.1.getD i default)) ++ b, ((i + 1 : Nat) : Int))) := by
        unfold value_encode_body_bl2
        dsimp only
        rw [if_pos (by omega), chk_pos (by omega), if_pos h4, chk_pos (by omega), Int.toNat_natCast, chk_pos (by omega), chunk_ex (B := 32) (by decide) hx, Option.bind_some, chk_pos (by unfold Go.E.Cap; simp only [List.length_append]; omega)]
        exact hk3 _ (by simp only [List.length_append]; omega)
      obtain ⟨q, k1, k2⟩ := enc_loop hB hlen hsame hnm hnod hs k (i + 1) _ C (by omega) hC (show ((L ++ (vint (zz ((v.f.2.2.2.1.getD i default).length : Int)) ++ v.f.2.2.2.1.getD i default)) ++ b).length + 42 + _ ≤ _ by simp only [List.length_append]; omega)
      exact ⟨q, by rw [run_inl hb, k1], k2⟩
    · have hb : value_encode_body_bl2 v self (L, (i : Int)) = some (.inl (L ++ b, ((i + 1 : Nat) : Int))) := by
        unfold value_encode_body_bl2
        dsimp only
        rw [if_pos (by omega), chk_pos (by omega), if_neg h4]
        exact hk3 _ (by omega)
      obtain ⟨q, k1, k2⟩ := enc_loop hB hlen hsame hnm hnod hs k (i + 1) _ C (by omega) hC (show (L ++ b).length + 42 + _ ≤ _ by simp only [List.length_append]; omega)
      exact ⟨q, by rw [run_inl hb, k1], k2⟩
theorem nok_len {x : List UInt8} (h : nok x = true) : x.length ≤ 32 := by
  unfold nok at h
  rw [Bool.and_eq_true, decide_eq_true_eq] at h
  omega
theorem nodes_mem {d : Nat} {l : List Pv} {p : Pv} (h : p ∈ l) : nodes d p ≤ (l.map (nodes d)).sum := by
  induction l with
  | nil => cases h
  | cons a l ih =>
    rw [List.map_cons, List.sum_cons]
    rcases List.mem_cons.1 h with rfl | h
    · omega
    · have := ih h; omega
theorem enc_ex {B : Nat} (hB : B ≤ 100000000000) : ∀ (d n : Nat) (v : Pv), d ≤ n → Sm B d v → Vd d v → nodes d v ≤ 600 → ∃ b, value_encode_n n v = some b ∧ b.length + 42 ≤ nodes d v * (B + 100)
  | 0, _, _, _, _, h, _ => h.elim
  | d + 1, 0, _, h, _, _, _ => absurd h (by omega)
  | d + 1, n + 1, v, hn, hs, hv, hnod => by
    obtain ⟨s1, s2, s3, s4, s5, s6, s7⟩ := hs
    obtain ⟨hok, hvp⟩ := hv
    unfold nodes at hnod
    show ∃ b, value_encode_body (value_encode_n n) v = some b ∧ _
    unfold value_encode_body
    have l1 := vint_len (zz v.f.1)
    have l2 := vint_len (zz v.f.2.1)
    have l3 := vint_len (zz (v.f.2.2.1.length : Int))
    have l4 := vint_len (zz (v.f.2.2.2.2.length : Int))
    have hN : 1 * (B + 100) ≤ nodes (d + 1) v * (B + 100) := Nat.mul_le_mul_right _ (by unfold nodes; omega)
    rw [number_eq s5, Option.bind_some]
    by_cases k1 : v.f.1 = 1
    · rw [if_pos k1, number_eq s6, Option.bind_some, chk_pos (by unfold Go.E.Cap; omega)]
      exact ⟨_, rfl, by simp only [List.length_append]; omega⟩
    · rw [if_neg k1]
      by_cases k2 : v.f.1 = 2
      · rw [if_pos k2, chunk_ex hB s1, Option.bind_some, chk_pos (by unfold Go.E.Cap; simp only [List.length_append]; omega)]
        exact ⟨_, rfl, by simp only [List.length_append]; omega⟩
      · have hmany := hok.many
        rw [if_neg k2, number_eq (by unfold I64; omega), Option.bind_some, chk_pos (by unfold Go.E.Cap; omega)]
        obtain ⟨b, h1, h2⟩ := enc_loop (d := d) hB (v := v) (self := value_encode_n n) hok.many hok.same (fun x hx => nok_len (hok.nok x hx)) (by omega)
          (fun p hp => enc_ex hB d n p (by omega) (s7 p hp) (hvp p hp) (by have := nodes_mem (d := d) hp; omega)) v.f.2.2.2.2.length 0 (vint (zz v.f.1) ++ vint (zz (v.f.2.2.2.2.length : Int))) ((v.f.2.2.2.2.map (nodes d)).sum + 1) (by omega) (by omega)
          (by rw [List.drop_zero, Nat.add_mul]; simp only [List.length_append]; omega)
        refine ⟨b, h1, ?_⟩
        unfold nodes
        rwa [Nat.add_comm 1]
theorem validate_ex {B : Nat} (hB : B ≤ 100000000000) {v : Pv} (hs : Sm B 10 v) : ∃ f, value_Validate v = some f ∧ ((f = (0, 0) ∧ Vd 10 v ∧ nodes 10 v ≤ 600) ∨ f.1 ≠ 0) := by
  obtain ⟨r, h1, h2⟩ := chk_ex hB 10 1000 v 0 (by omega) hs (by omega) (Int.le_refl _)
  have h1' : value_check v 0 1 = some r := h1
  unfold value_Validate value_Encode
  rw [h1', Option.bind_some]
  rcases h2 with ⟨hr, k1, k2, k3⟩ | hr
  · rw [if_pos (by rw [hr]; exact ⟨rfl, rfl⟩)]
    obtain ⟨b, h3, h4⟩ := enc_ex hB 10 1000 v (by omega) hs k1 (by omega)
    have h3' : value_encode v = some b := h3
    rw [h3', Option.bind_some]
    by_cases h5 : (4000 : Int) < (b.length : Int)
    · rw [if_pos h5]
      exact ⟨(14, -1), rfl, .inr (by simp)⟩
    · rw [if_neg h5]
      exact ⟨(0, 0), rfl, .inl ⟨rfl, k1, by omega⟩⟩
  · rw [if_neg (fun h => hr h.1)]
    exact ⟨r.2, rfl, .inr hr⟩
end Go.Proofs.YtmfiaecglndldaaGreatDoor
end
section
namespace Go.L
/-- A list, taken element by element. -/
def foldO {σ α : Type} (step : σ → α → Option σ) : σ → List α → Option σ
  | s, [] => some s
  | s, x :: l => (step s x).bind fun s' => foldO step s' l
theorem foldO_append {σ α : Type} {step : σ → α → Option σ} : ∀ (l m : List α) (s : σ), foldO step s (l ++ m) = (foldO step s l).bind fun s' => foldO step s' m
  | [], _, _ => rfl
  | x :: l, m, s => by
    simp only [List.cons_append, foldO]
    cases step s x with
    | none => rfl
    | some s' => exact foldO_append l m s'
/-- The step to a part. -/
def cst (v : Pv) (i : Nat) : List UInt8 := if v.f.1 = 4 then v.f.2.2.2.1.getD i default else [35]
/-- The leaves of a value on a path. -/
def lvs : Nat → Pv → List (List UInt8) → List Lf
  | 0, _, _ => []
  | d + 1, v, p => (jn p, v.f.1, v.f.2.1, v.f.2.2.1) :: (List.range' 0 v.f.2.2.2.2.length).flatMap fun i => lvs d (v.f.2.2.2.2.getD i default) (p ++ [cst v i])
theorem map_getD {α : Type} [Inhabited α] (l : List α) : (List.range' 0 l.length).map (fun i => l.getD i default) = l := by
  rw [← List.range_eq_range']
  apply List.ext_getElem
  · simp
  · intro i h1 h2
    simp [List.getD_eq_getElem?_getD, h2]
theorem lvs_len : ∀ (d : Nat) (v : Pv) (p : List (List UInt8)), (lvs d v p).length = nodes d v
  | 0, _, _ => rfl
  | d + 1, v, p => by
    unfold lvs nodes
    rw [List.length_cons, List.length_flatMap, Nat.add_comm]
    congr 2
    conv => rhs; rw [← map_getD v.f.2.2.2.2]
    rw [List.map_map]
    apply List.map_congr_left
    intro i _
    exact lvs_len d _ _
theorem join_jn : ∀ p : List (List UInt8), Lib.join p [47] = jn p
  | [] => rfl
  | x :: l => by
    have key : ∀ (l : List (List UInt8)) (x : List UInt8), jn (x :: l) = x ++ Lib.joinTail [47] l := by
      intro l
      induction l with
      | nil => intro x; simp [jn, Lib.joinTail]
      | cons y l ih =>
        intro x
        unfold jn
        rw [if_neg (by simp), ih y]
        simp [Lib.joinTail]
    rw [Lib.join_cons, key]
/-- A path of a valid value. -/
def POk (p : List (List UInt8)) : Prop := ∀ x ∈ p, stp x = true
theorem stp_len {x : List UInt8} (h : stp x = true) : x.length ≤ 32 := by
  unfold stp at h
  rw [Bool.or_eq_true, decide_eq_true_eq] at h
  rcases h with h | rfl
  · unfold nok at h; rw [Bool.and_eq_true, decide_eq_true_eq] at h; omega
  · decide
theorem POk.tot {p : List (List UInt8)} (h : POk p) : tot p ≤ 33 * p.length := by
  induction p with
  | nil => simp [Go.L.tot]
  | cons x p ih =>
    have := stp_len (h x (.head _))
    have := ih fun y hy => h y (.tail _ hy)
    unfold Go.L.tot
    simp only [List.length_cons]
    omega
theorem POk.jn_len {p : List (List UInt8)} (h : POk p) : (jn p).length ≤ 33 * p.length := by
  by_cases h0 : p = []
  · subst h0; simp [jn]
  · have := Go.L.jn_len h0
    have := h.tot
    omega
theorem POk.snoc {p : List (List UInt8)} (h : POk p) {x : List UInt8} (hx : stp x = true) : POk (p ++ [x]) := fun y hy => by
  rcases List.mem_append.1 hy with hy | hy
  · exact h y hy
  · rw [List.mem_singleton] at hy; subst hy; exact hx
theorem cst_ok {v : Pv} (h : NodeOk v) {i : Nat} (hi : i < v.f.2.2.2.2.length) : stp (cst v i) = true := by
  unfold cst
  by_cases h4 : v.f.1 = 4
  · rw [if_pos h4]
    have := h.nok _ (getD_mem (by rw [h.same h4]; exact hi))
    unfold stp
    rw [this]; rfl
  · rw [if_neg h4]; decide
theorem POk.nil {p : List (List UInt8)} (h : POk p) : jn p = [] ↔ p = [] := by
  constructor
  · intro hj
    cases p with
    | nil => rfl
    | cons x p =>
      have := (stp_ne (h x (.head _))).1
      unfold jn at hj
      split at hj
      · exact absurd hj this
      · simp at hj
  · rintro rfl; rfl
end Go.L
namespace Go.Proofs.YtmfiaecglndldaaGreatDoor
open Go Go.L
section
variable {σ : Type} {step : σ → Lf → Option σ}
theorem lv_loop {v : Pv} {p : List (List UInt8)} {self : Pv → List (List UInt8) → σ → Option σ} {d : Nat} (hv : NodeOk v) (hp : p.length ≤ 20) (hs : ∀ i s, i < v.f.2.2.2.2.length → self (v.f.2.2.2.2.getD i default) (p ++ [cst v i]) s = foldO step s (lvs d (v.f.2.2.2.2.getD i default) (p ++ [cst v i]))) :
    ∀ (k i : Nat) (s : σ), i + k = v.f.2.2.2.2.length → Go.L.run (shapes_leaves_body_bl1 v p self) ((i : Int), s) = foldO step s ((List.range' i k).flatMap fun i => lvs d (v.f.2.2.2.2.getD i default) (p ++ [cst v i]))
  | 0, i, s, hi => by
    refine run_inr (m := some s) ?_
    unfold shapes_leaves_body_bl1
    dsimp only
    rw [if_neg (by omega)]
  | k + 1, i, s, hi => by
    have hil : i < v.f.2.2.2.2.length := by omega
    have hmany := hv.many
    rw [List.range'_succ, List.flatMap_cons, foldO_append, ← hs i s hil]
    have hk : ∀ x, x = cst v i → shapes_leaves_body_k2 v p (i : Int) self x s = (self (v.f.2.2.2.2.getD i default) (p ++ [cst v i]) s).bind fun s' => some (.inl (((i + 1 : Nat) : Int), s')) := by
      rintro x rfl
      unfold shapes_leaves_body_k2 slices_Clone_string_string
      rw [chk_pos (by unfold Go.E.Cap; simp; omega), Option.bind_some, chk_pos (by unfold Go.E.Cap; simp; omega), Int.toNat_natCast, List.nil_append]
      refine congrArg (Option.bind _) (funext fun x => ?_)
      rw [chk_pos (by unfold I64; omega)]
      rfl
    have hb : shapes_leaves_body_bl1 v p self ((i : Int), s) = (self (v.f.2.2.2.2.getD i default) (p ++ [cst v i]) s).bind fun s' => some (.inl (((i + 1 : Nat) : Int), s')) := by
      unfold shapes_leaves_body_bl1
      dsimp only
      rw [if_pos (by omega), chk_pos (by omega)]
      by_cases h4 : v.f.1 = 4
      · have := hv.same h4
        rw [if_pos h4, chk_pos (by omega), Int.toNat_natCast]
        exact hk _ (by unfold cst; rw [if_pos h4])
      · rw [if_neg h4]
        exact hk _ (by unfold cst; rw [if_neg h4])
    cases hc : self (v.f.2.2.2.2.getD i default) (p ++ [cst v i]) s with
    | none =>
      rw [hc] at hb
      exact run_inr (m := none) hb
    | some s' =>
      rw [hc] at hb
      rw [run_inl hb]
      exact lv_loop hv hp hs k (i + 1) s' (by omega)
theorem lv_n : ∀ (d n : Nat) (v : Pv) (p : List (List UInt8)) (s : σ), d ≤ n → Vd d v → POk p → p.length + d ≤ 20 → shapes_leaves_n step n v p s = foldO step s (lvs d v p)
  | 0, _, _, _, _, _, h, _, _ => h.elim
  | d + 1, 0, _, _, _, h, _, _, _ => absurd h (by omega)
  | d + 1, n + 1, v, p, s, hn, hv, hp, hl => by
    obtain ⟨hok, hvp⟩ := hv
    show shapes_leaves_body step (shapes_leaves_n step n) v p s = _
    unfold shapes_leaves_body joinL lvs
    have := hp.jn_len
    rw [join_jn, chk_pos (by omega), Option.bind_some]
    show (step s (jn p, v.f.1, v.f.2.1, v.f.2.2.1)).bind _ = (step s (jn p, v.f.1, v.f.2.1, v.f.2.2.1)).bind _
    congr 1
    funext s'
    exact lv_loop hok (by omega) (fun i s hi => lv_n d n _ _ s (by omega) (hvp _ (getD_mem hi)) (hp.snoc (cst_ok hok hi)) (by simp; omega)) v.f.2.2.2.2.length 0 s' (by omega)
theorem leaves_eq {v : Pv} (hv : Vd 10 v) (s : σ) : shapes_leaves step v [] s = foldO step s (lvs 10 v []) := lv_n 10 1000 v [] s (by omega) hv (fun x hx => by cases hx) (by simp)
end
end Go.Proofs.YtmfiaecglndldaaGreatDoor
end
section
namespace Go.L
/-- Pairs of a leaf and an item, added one after the other. -/
def adds (P : List (Lf × Int)) (M : List (Lf × List Int)) : List (Lf × List Int) := P.foldl (fun M p => addI p.1 p.2 M) M
theorem adds_append (P Q : List (Lf × Int)) (M : List (Lf × List Int)) : adds (P ++ Q) M = adds Q (adds P M) := List.foldl_append
theorem addI_mem (k k' : Lf) (i z : Int) (M : List (Lf × List Int)) : z ∈ mget [] k' (addI k i M) ↔ z ∈ mget [] k' M ∨ (k' = k ∧ z = i) := by
  unfold addI
  rw [mget_mput]
  by_cases h : k' = k
  · subst h; simp
  · simp [h]
theorem addI_keys (k k' : Lf) (i : Int) (M : List (Lf × List Int)) : k' ∈ (addI k i M).map Prod.fst ↔ k' = k ∨ k' ∈ M.map Prod.fst := by
  unfold addI
  by_cases h : k ∈ M.map Prod.fst
  · rw [mput_mem _ h]
    exact ⟨.inr, fun hh => by rcases hh with rfl | hh; exact h; exact hh⟩
  · rw [mput_new _ h]
    simp only [List.map_append, List.map_cons, List.map_nil, List.mem_append, List.mem_singleton]
    exact ⟨fun hh => hh.symm, fun hh => hh.symm⟩
theorem addI_nodup (k : Lf) (i : Int) {M : List (Lf × List Int)} (h : (M.map Prod.fst).Nodup) : ((addI k i M).map Prod.fst).Nodup := by
  unfold addI
  by_cases hk : k ∈ M.map Prod.fst
  · rw [mput_mem _ hk]; exact h
  · rw [mput_new _ hk, List.map_append]
    exact List.nodup_append.2 ⟨h, List.pairwise_singleton _ _, fun a ha b hb e => by
      simp only [List.map_cons, List.map_nil, List.mem_singleton] at hb
      subst hb; subst e; exact hk ha⟩
theorem adds_mem (k : Lf) (z : Int) : ∀ (P : List (Lf × Int)) (M : List (Lf × List Int)), z ∈ mget [] k (adds P M) ↔ z ∈ mget [] k M ∨ (k, z) ∈ P
  | [], M => by simp [adds]
  | p :: P, M => by
    show z ∈ mget [] k (adds P (addI p.1 p.2 M)) ↔ _
    rw [adds_mem k z P, addI_mem, List.mem_cons, or_assoc]
    have : (k = p.1 ∧ z = p.2) ↔ (k, z) = p := ⟨fun h => Prod.ext h.1 h.2, fun h => by rw [← h]; exact ⟨rfl, rfl⟩⟩
    rw [this]
theorem adds_keys (k : Lf) : ∀ (P : List (Lf × Int)) (M : List (Lf × List Int)), k ∈ (adds P M).map Prod.fst ↔ k ∈ M.map Prod.fst ∨ ∃ z, (k, z) ∈ P
  | [], M => by simp [adds]
  | p :: P, M => by
    show k ∈ (adds P (addI p.1 p.2 M)).map Prod.fst ↔ _
    rw [adds_keys k P, addI_keys]
    constructor
    · rintro ((rfl | h) | ⟨z, h⟩)
      · exact .inr ⟨p.2, .head _⟩
      · exact .inl h
      · exact .inr ⟨z, .tail _ h⟩
    · rintro (h | ⟨z, h⟩)
      · exact .inl (.inr h)
      · rcases List.mem_cons.1 h with rfl | h
        · exact .inl (.inl rfl)
        · exact .inr ⟨z, h⟩
theorem adds_nodup : ∀ (P : List (Lf × Int)) {M : List (Lf × List Int)}, (M.map Prod.fst).Nodup → ((adds P M).map Prod.fst).Nodup
  | [], _, h => h
  | p :: P, _, h => adds_nodup P (addI_nodup p.1 p.2 h)
theorem addI_len (k : Lf) (i : Int) (M : List (Lf × List Int)) (k' : Lf) : (mget [] k' (addI k i M)).length ≤ (mget [] k' M).length + 1 := by
  unfold addI
  rw [mget_mput]
  split
  · rename_i h; subst h; simp
  · omega
theorem addI_count (k : Lf) (i : Int) (M : List (Lf × List Int)) : (addI k i M).length ≤ M.length + 1 := by
  unfold addI
  by_cases h : k ∈ M.map Prod.fst
  · have := congrArg List.length (mput_mem (mget [] k M ++ [i]) h)
    rw [List.length_map, List.length_map] at this
    omega
  · rw [mput_new _ h]; simp
theorem adds_len (k : Lf) : ∀ (P : List (Lf × Int)) (M : List (Lf × List Int)), (mget [] k (adds P M)).length ≤ (mget [] k M).length + P.length
  | [], M => by simp [adds]
  | p :: P, M => by
    have h1 := adds_len k P (addI p.1 p.2 M)
    have h2 := addI_len p.1 p.2 M k
    show (mget [] k (adds P (addI p.1 p.2 M))).length ≤ _
    rw [List.length_cons]; omega
theorem adds_count : ∀ (P : List (Lf × Int)) (M : List (Lf × List Int)), (adds P M).length ≤ M.length + P.length
  | [], M => by simp [adds]
  | p :: P, M => by
    have h1 := adds_count P (addI p.1 p.2 M)
    have h2 := addI_count p.1 p.2 M
    show (adds P (addI p.1 p.2 M)).length ≤ _
    rw [List.length_cons]; omega
end Go.L
namespace Go.Proofs.YtmfiaecglndldaaGreatDoor
open Go Go.L
theorem kIdx_mem {P : List (Lf × Int)} {e : En} : e ∈ kIdx (adds P []) ↔ (∃ z, (e.1, z) ∈ P) ∧ e.2 = setI (mget [] e.1 (adds P [])) := by
  unfold kIdx
  rw [List.mem_map]
  constructor
  · rintro ⟨k, hk, rfl⟩
    have := (adds_keys k P []).1 ((srtL_perm' _).mem_iff.1 hk)
    simp only [List.map_nil, List.not_mem_nil, false_or] at this
    exact ⟨this, rfl⟩
  · rintro ⟨h1, h2⟩
    exact ⟨e.1, (srtL_perm' _).mem_iff.2 ((adds_keys e.1 P []).2 (.inr h1)), Prod.ext rfl h2.symm⟩
/-! ### Build -/
/-- The pairs of values. -/
def prB : Int → List Pv → List (Lf × Int)
  | _, [] => []
  | i, v :: l => ((lvs 10 v []).map fun x => (x, i)) ++ prB (i + 1) l
theorem prB_append : ∀ (i : Int) (a b : List Pv), prB i (a ++ b) = prB i a ++ prB (i + a.length) b
  | i, [], b => by simp [prB]
  | i, v :: a, b => by
    simp only [List.cons_append, prB, List.append_assoc]
    rw [prB_append (i + 1) a b]
    simp only [List.length_cons]
    rw [show i + 1 + (a.length : Int) = i + ((a.length + 1 : Nat) : Int) by omega]
theorem prB_mem : ∀ {i : Int} {a : List Pv} {p : Lf × Int}, p ∈ prB i a ↔ ∃ j : Nat, j < a.length ∧ p.2 = i + j ∧ p.1 ∈ lvs 10 (a.getD j default) []
  | _, [], p => by simp [prB]
  | i, v :: a, p => by
    simp only [prB, List.mem_append, List.mem_map]
    rw [prB_mem]
    constructor
    · rintro (⟨x, hx, rfl⟩ | ⟨j, h1, h2, h3⟩)
      · exact ⟨0, by simp, by simp, hx⟩
      · exact ⟨j + 1, by simp; omega, by omega, h3⟩
    · rintro ⟨j, h1, h2, h3⟩
      cases j with
      | zero => exact .inl ⟨p.1, h3, Prod.ext rfl (by simpa using h2.symm)⟩
      | succ j => exact .inr ⟨j, by simpa using h1, by omega, h3⟩
theorem prB_len : ∀ (i : Int) {a : List Pv}, (∀ v ∈ a, nodes 10 v ≤ 600) → (prB i a).length ≤ 600 * a.length
  | _, [], _ => by simp [prB]
  | i, v :: a, h => by
    simp only [prB, List.length_append, List.length_map, List.length_cons]
    have h1 := prB_len (i + 1) fun v hv => h v (.tail _ hv)
    have h2 := h v (.head _)
    rw [lvs_len]
    omega
theorem fold_build (i : Int) : ∀ (l : List Lf) (M : List (Lf × List Int)) (N : Nat), Bd N M → N + l.length ≤ 1000000000 → foldO (buildStep i) M l = some (adds (l.map fun x => (x, i)) M)
  | [], _, _, _, _ => rfl
  | x :: l, M, N, hM, hN => by
    rw [List.length_cons] at hN
    unfold foldO
    have hx := hM x
    have e : buildStep i M x = some (addI x i M) := by
      unfold buildStep
      rw [chk_pos (by unfold Go.E.Cap; omega)]
      rfl
    rw [e, Option.bind_some, fold_build i l (addI x i M) (N + 1) (fun k => by have := addI_len x i M k; have := hM k; omega) (by omega)]
    rfl
/-- All values are valid. -/
def AllV (a : List Pv) : Prop := ∀ v ∈ a, value_Validate v = some (0, 0) ∧ Vd 10 v ∧ nodes 10 v ≤ 600
theorem bd_adds (P : List (Lf × Int)) : Bd P.length (adds P []) := fun k => by have := adds_len k P []; simpa [mget] using this
/-- What Build answers: a fault of a value, or build's answer. -/
theorem build_run {B : Nat} (hB : B ≤ 100000000000) {a : List Pv} (hl : a.length ≤ 64) (hs : ∀ v ∈ a, Sm B 10 v) : ∀ (k i : Nat), i + k = a.length → AllV (a.take i) →
    (∃ j f, j < a.length ∧ value_Validate (a.getD j default) = some f ∧ f.1 ≠ 0 ∧ AllV (a.take j) ∧ Go.L.run (shapes_Build_bl2 a) (adds (prB 0 (a.take i)) [], (i : Int)) = some ((0, []), (f.1, (j : Int)))) ∨
    (AllV a ∧ Go.L.run (shapes_Build_bl2 a) (adds (prB 0 (a.take i)) [], (i : Int)) = shapes_build (a.length : Int) (adds (prB 0 a) []))
  | 0, i, hi, hv => by
    right
    rw [List.take_of_length_le (by omega)] at hv ⊢
    refine ⟨hv, ?_⟩
    have e : shapes_Build_bl2 a (adds (prB 0 a) [], (i : Int)) = (shapes_build (a.length : Int) (adds (prB 0 a) [])).map Sum.inr := by
      unfold shapes_Build_bl2 shapes_Build_k1
      dsimp only
      rw [if_neg (by omega)]
      cases shapes_build (a.length : Int) (adds (prB 0 a) []) <;> rfl
    exact run_inr e
  | k + 1, i, hi, hv => by
    have hil : i < a.length := by omega
    obtain ⟨f, h1, h2⟩ := validate_ex hB (hs _ (getD_mem hil))
    have htk : a.take (i + 1) = a.take i ++ [a.getD i default] := by
      rw [List.take_add_one, List.getElem?_eq_getElem hil]; simp [List.getD_eq_getElem?_getD, List.getElem?_eq_getElem hil]
    rcases h2 with ⟨rfl, h3, h4⟩ | hf
    · have hlen := prB_len 0 fun v hvm => (hv v hvm).2.2
      rw [List.length_take] at hlen
      have hadd : prB 0 (a.take (i + 1)) = prB 0 (a.take i) ++ (lvs 10 (a.getD i default) []).map fun x => (x, (i : Int)) := by
        rw [htk, prB_append]
        simp only [prB, List.append_nil, List.length_take]
        rw [show (0 : Int) + ((min i a.length : Nat) : Int) = (i : Int) by omega]
      have hb : shapes_Build_bl2 a (adds (prB 0 (a.take i)) [], (i : Int)) = some (.inl (adds (prB 0 (a.take (i + 1))) [], ((i + 1 : Nat) : Int))) := by
        unfold shapes_Build_bl2
        dsimp only
        rw [if_pos (by omega), chk_pos (by omega), Int.toNat_natCast, h1, Option.bind_some, if_pos ⟨rfl, rfl⟩, leaves_eq h3, fold_build (i : Int) _ _ _ (bd_adds _) (by rw [lvs_len]; omega), Option.bind_some, chk_pos (by unfold I64; omega), hadd, adds_append]
        rfl
      rw [run_inl hb]
      refine build_run hB hl hs k (i + 1) (by omega) ?_
      rw [htk]
      intro v hvm
      rcases List.mem_append.1 hvm with h | h
      · exact hv v h
      · rw [List.mem_singleton] at h; subst h; exact ⟨h1, h3, h4⟩
    · left
      refine ⟨i, f, hil, h1, hf, hv, run_inr (m := some ((0, []), (f.1, (i : Int)))) ?_⟩
      unfold shapes_Build_bl2 shapes_fault
      dsimp only
      rw [if_pos (by omega), chk_pos (by omega), Int.toNat_natCast, h1, Option.bind_some, if_neg (fun h => hf h.1)]
      rfl
theorem lvs_mem : ∀ (d : Nat) (v : Pv) (p : List (List UInt8)) {x : Lf}, Vd d v → POk p → x ∈ lvs d v p → ∃ (q : List (List UInt8)) (u : Pv), x = (jn q, u.f.1, u.f.2.1, u.f.2.2.1) ∧ POk q ∧ q.length + 1 ≤ p.length + d ∧ NodeOk u ∧ ∀ B, Sm B d v → I64 u.f.1 ∧ I64 u.f.2.1 ∧ u.f.2.2.1.length ≤ B
  | 0, _, _, _, h, _, _ => h.elim
  | d + 1, v, p, x, hv, hp, hx => by
    obtain ⟨hok, hvp⟩ := hv
    unfold lvs at hx
    rcases List.mem_cons.1 hx with rfl | hx
    · exact ⟨p, v, rfl, hp, by omega, hok, fun B hB => ⟨hB.2.2.2.2.1, hB.2.2.2.2.2.1, hB.1⟩⟩
    · obtain ⟨i, hi, hxi⟩ := List.mem_flatMap.1 hx
      have hil : i < v.f.2.2.2.2.length := by
        have := List.mem_range'_1.1 hi; omega
      obtain ⟨q, u, h1, h2, h3, h4, h5⟩ := lvs_mem d _ _ (hvp _ (getD_mem hil)) (hp.snoc (cst_ok hok hil)) hxi
      refine ⟨q, u, h1, h2, by simp at h3; omega, h4, fun B hB => h5 B (hB.2.2.2.2.2.2 _ (getD_mem hil))⟩
theorem leaf_ok {v : Pv} {x : Lf} (hv : Vd 10 v) (hs : Sm 1048576 10 v) (hx : x ∈ lvs 10 v []) : (x.1.length ≤ 330 ∧ ¬ 0 ≤ wr false 0 (sl x.1)) ∧ (1 ≤ x.2.1 ∧ x.2.1 ≤ 4) ∧ (x.2.2.1 = 0 ∨ x.2.1 = 1) ∧ (x.2.2.2 = [] ∨ x.2.1 = 2) ∧ I64 x.2.2.1 ∧ x.2.2.2.length ≤ 1048576 := by
  obtain ⟨q, u, rfl, h2, h3, h4, h5⟩ := lvs_mem 10 v [] hv (fun y hy => by cases hy) hx
  obtain ⟨g1, g2, g3⟩ := h5 _ hs
  have hj := h2.jn_len
  simp only [List.length_nil] at h3
  refine ⟨⟨by show (jn q).length ≤ 330; omega, ?_⟩, ?_, ?_, ?_, g2, g3⟩
  · show ¬ 0 ≤ wr false 0 (sl (jn q))
    rw [sl_jn (fun y hy => (stp_ne (h2 y hy)).1) (fun y hy => (stp_ne (h2 y hy)).2.1), wr_ok (fun y hy => by rw [h2 y hy]; rfl)]
    decide
  · show 1 ≤ u.f.1 ∧ u.f.1 ≤ 4
    rcases h4.kind with h | h | h | h <;> omega
  · show u.f.2.1 = 0 ∨ u.f.1 = 1
    exact h4.num.symm
  · show u.f.2.2.1 = [] ∨ u.f.1 = 2
    exact h4.bytes.symm
theorem ms_adds {P : List (Lf × Int)} (hP : P.length ≤ 1000000) (h : ∀ p ∈ P, p.1.1.length ≤ 2000000 ∧ I64 p.1.2.1 ∧ I64 p.1.2.2.1 ∧ p.1.2.2.2.length ≤ 2000000 ∧ I64 p.2) : MS (adds P []) := by
  refine ⟨by have := adds_count P []; simp at this; omega, fun k hk => ?_⟩
  rcases (adds_keys k P []).1 hk with h0 | ⟨z, hz⟩
  · cases h0
  · obtain ⟨h1, h2, h3, h4, _⟩ := h _ hz
    refine ⟨h1, h2, h3, h4, by have := bd_adds P k; omega, fun y hy => ?_⟩
    rcases (adds_mem k y P []).1 hy with h0 | hy
    · simp [mget] at h0
    · exact (h _ hy).2.2.2.2
theorem srtL_strict {l : List Lf} (h : l.Nodup) : (srtL l).Pairwise (fun a b => lfCmp a b < 0) := by
  have hsorted : (srtL l).Pairwise fun x y => (!(Go.Proofs.ltOf lfCmp) y x) = true := by
    rw [← isL_eq]
    have hlt : ∀ a b, (!(Go.Proofs.ltOf lfCmp) b a) = true ↔ ¬ lfCmp b a < 0 := fun a b => by simp [Go.Proofs.ltOf]
    refine isB_sorted (fun a b c h1 h2 => ?_) (fun a b => ?_) l
    · rw [hlt] at *
      intro h3
      have s1 := ordLf.swap a b
      rcases Int.lt_trichotomy (lfCmp a b) 0 with h4 | h4 | h4
      · exact h2 (ordLf.trans c a b h3 h4)
      · rw [ordLf.zero a b h4] at h3; exact h2 h3
      · omega
    · rw [hlt, hlt]
      have s1 := ordLf.swap a b
      omega
  have hn : (srtL l).Nodup := (srtL_perm' l).nodup_iff.2 h
  refine (List.pairwise_and_iff.2 ⟨hsorted, hn⟩).imp fun {a b} hab => ?_
  obtain ⟨h1, h2⟩ := hab
  have h1' : ¬ lfCmp b a < 0 := by simpa [Go.Proofs.ltOf] using h1
  have s1 := ordLf.swap a b
  have : lfCmp a b ≠ 0 := fun e => h2 (ordLf.zero a b e)
  omega
/-- The index of valid values is good. -/
theorem gi_build {a : List Pv} (hl : a.length ≤ 64) (hv : AllV a) (hs : ∀ v ∈ a, Sm 1048576 10 v) : GI (a.length : Int) (kIdx (adds (prB 0 a) [])) ∧ MS (adds (prB 0 a) []) := by
  have hlen := prB_len 0 fun v hvm => (hv v hvm).2.2
  have hp : ∀ p ∈ prB 0 a, ((p.1.1.length ≤ 330 ∧ ¬ 0 ≤ wr false 0 (sl p.1.1)) ∧ (1 ≤ p.1.2.1 ∧ p.1.2.1 ≤ 4) ∧ (p.1.2.2.1 = 0 ∨ p.1.2.1 = 1) ∧ (p.1.2.2.2 = [] ∨ p.1.2.1 = 2) ∧ I64 p.1.2.2.1 ∧ p.1.2.2.2.length ≤ 1048576) ∧ 0 ≤ p.2 ∧ p.2 < a.length := fun p hpm => by
    obtain ⟨j, h1, h2, h3⟩ := prB_mem.1 hpm
    exact ⟨leaf_ok (hv _ (getD_mem h1)).2.1 (hs _ (getD_mem h1)) h3, by omega, by omega⟩
  have hMS : MS (adds (prB 0 a) []) := ms_adds (by omega) fun p hpm => by
    obtain ⟨⟨h1, h2, h3, h4, h5, h6⟩, h7, h8⟩ := hp p hpm
    exact ⟨by omega, by unfold I64; omega, h5, by omega, by unfold I64; omega⟩
  refine ⟨⟨by omega, by omega, fun e he => ?_, kIdx_S hMS, by rw [kIdx_len]; exact hMS.1, ?_⟩, hMS⟩
  · obtain ⟨⟨z, hz⟩, h2⟩ := kIdx_mem.1 he
    obtain ⟨⟨g1, g2, g3, g4, g5, g6⟩, g7, g8⟩ := hp _ hz
    have hm : ∀ y, y ∈ e.2 ↔ (e.1, y) ∈ prB 0 a := fun y => by
      rw [h2, (setI_spec _).2, adds_mem]
      simp [mget]
    refine ⟨g1, g2, g3, g4, fun h0 => ?_, fun y hy => ?_, ?_⟩
    · have := (hm z).2 hz
      rw [h0] at this
      cases this
    · exact (hp _ ((hm y).1 hy)).2
    · rw [h2]
      exact (setI_spec _).1.imp fun {a b} h => by omega
  · unfold kIdx
    rw [List.pairwise_map]
    exact srtL_strict (adds_nodup _ (by simp))
/-- What Build answers. -/
theorem build_ex {a : List Pv} (hs : ∀ v ∈ a, Sm 1048576 10 v) : ∃ r, shapes_Build a = some r ∧ ((64 < a.length ∧ r = ((0, []), (2, -1))) ∨
    (a.length ≤ 64 ∧ ∃ j f, j < a.length ∧ value_Validate (a.getD j default) = some f ∧ f.1 ≠ 0 ∧ AllV (a.take j) ∧ r = ((0, []), (f.1, (j : Int)))) ∨
    (a.length ≤ 64 ∧ AllV a ∧ r = bres (a.length : Int) (adds (prB 0 a) []))) := by
  unfold shapes_Build shapes_fault
  by_cases h : 64 < a.length
  · rw [if_pos (by omega)]
    exact ⟨_, rfl, .inl ⟨h, rfl⟩⟩
  · rw [if_neg (by omega)]
    unfold shapes_Build_l2
    rcases build_run (B := 1048576) (by omega) (by omega) hs a.length 0 (by omega) (fun v hv => by simp at hv) with ⟨j, f, h1, h2, h3, h4, h5⟩ | ⟨h1, h2⟩
    · exact ⟨_, h5, .inr (.inl ⟨by omega, j, f, h1, h2, h3, h4, rfl⟩)⟩
    · refine ⟨bres (a.length : Int) (adds (prB 0 a) []), ?_, .inr (.inr ⟨by omega, h1, rfl⟩)⟩
      have := h2.trans (build_eq (by unfold I64; omega) (gi_build (by omega) h1 hs).2)
      exact this
end Go.Proofs.YtmfiaecglndldaaGreatDoor
end
section
namespace Go.Proofs.YtmfiaecglndldaaGreatDoor
open Go Go.E Go.RowKit
set_option maxHeartbeats 1000000
set_option maxRecDepth 10000
open _root_.Go.Proofs.Tryz
noncomputable def shapes_Paths (a0 : Go.L.Pv) : Option ((List (List UInt8)) × (Int × Int)) :=
 Option.bind (value_Validate a0) (fun x3 => if x3.1 = (0 : Int) ∧ x3.2 = (0 : Int) then Option.bind (shapes_leaves pathStep a0 ([] : List (List UInt8)) ([] : List (List UInt8))) (fun x18 => Go.L.chk (x18.length < 4611686018427387904) (Go.L.chk ((srtS x18).length ≤ 9223372036854775807) (some ((Lib.compact (srtS x18)), ((0 : Int), (0 : Int)))))) else some ([], (x3.1, x3.2)))
theorem shapes_Paths_ok (w : World) (H : PH) (hH : Le H (hp w)) {a0 : Go.L.Pv} {v0_0 : Value} {v0_1 : Value} {v0_2 : Value} (h0_0 : Vec .byte H v0_0 (a0.f.2.2.1)) (h0_1 : Vec .st H v0_1 (a0.f.2.2.2.1)) (h0_2 : Vec .tree H v0_2 (a0.f.2.2.2.2)) {r : (List (List UInt8)) × (Int × Int)} (h : shapes_Paths a0 = some r) :
  Ok Tryz.prog 21 [.agg #[.int .i64 a0.f.1, .int .i64 a0.f.2.1, v0_0, v0_1, v0_2]] w (fun v w' => Ext w w' ∧ ∃ u0, v = .tuple #[u0, .agg #[.int .i64 r.2.1, .int .i64 r.2.2]] ∧ OwnH 9 .st H w w' u0 (r.1)) := by
 refine Ok_enter (n := 20) [(0, .agg #[.int .i64 a0.f.1, .int .i64 a0.f.2.1, v0_0, v0_1, v0_2])] func21 rfl rfl rfl rfl rfl ?_
 have hL := Lcl.start w
 refine W_seqr ?_
 refine S_box (t := 38) rfl rfl rfl hL ?_
 intro w1 b1 hL1 hle1 _
 refine S_pu 1 rfl ?_
 refine S_alloc zr23 rfl rfl hL1 ?_
 intro w2 b2 hL2 hle2 _
 refine S_seqnil ?_
 refine W_seq ?_
 refine W_seqr ?_
 refine S_v (r_loadBN 1 rfl underlying38 rfl zr38 hL2 rfl) rfl ?_
 obtain ⟨x3, hb3, h⟩ := Go.L.bind_some h
 refine S_callL rfl rfl hL2 (value_Validate_ok (a0 := a0) _ _ (gz_le hH hL2) (h0_0.mono (gz_left hH)) (h0_1.mono (gz_left hH)) (h0_2.mono (gz_left hH)) hb3) ?_
 rintro _ w4 rfl hx4 hL4 hle4
 refine S_alloc zr23 rfl rfl hL4 ?_
 intro w5 b5 hL5 hle5 _
 refine S_storeBN 0 rfl rfl rfl zr23 hL5 rfl rfl (onc rfl (onc rfl on0)) ?_
 intro w6 hL6 hle6
 refine S_seqnil ?_
 refine W_seqr ?_
 refine S_v (r_loadBN 0 rfl underlying23 rfl zr23 hL6 rfl) rfl ?_
 refine S_v (r_build rfl (fun _ => bld23_z _)) rfl ?_
 refine S_v (r_neA rfl rfl eqg23 (eq23 _ _ _ _ )) rfl ?_
 refine S_seqnil ?_
 refine W_ifn rfl (fun hc7 => ?_) (fun hc7 => ?_)
 ·replace h := Go.L.ite_n hc7 h
  refine W_seqd (.q 0 (.q 1 (.tail 2))) mixed (by kernel_rfl) (fun w9 hx9 => ?_)
  have hL10 := hL6.call hx9
  refine D_v (r_loadBN 0 rfl underlying23 rfl zr23 hL10 rfl) rfl rfl ?_
  refine D_pu 1 rfl ?_
  refine D_tail (fun w11 hx11 => ?_)
  have hL12 := hL10.call hx11
  refine S_storeBN 1 rfl rfl rfl zr23 hL12 rfl rfl (onc rfl (onc rfl on0)) ?_
  intro w13 hL13 hle13
  refine S_seqnil ?_
  refine W_ret ?_
  refine At_seq_ret ?_
  obtain rfl := Option.some.inj h
  refine At_got2 rfl (.tmp rfl) (.cell rfl underlying23 rfl zr23 (box_ptr (i := 1) hL13 rfl)) ?_
  exact ⟨hL13.ext, _, rfl, OwnH.nil⟩
 ·replace h := Go.L.ite_p hc7 h
  refine W_skip ?_
  refine At_seq ?_
  refine W_seqr ?_
  refine S_alloc zr30 rfl rfl hL6 ?_
  intro w15 b15 hL15 hle15 _
  refine S_seqnil ?_
  refine W_seqr ?_
  refine S_v (r_loadBN 3 rfl underlying38 rfl zr38 hL15 rfl) rfl ?_
  refine S_pu 1 rfl ?_
  obtain ⟨hL16, hle16, he16⟩ := row_nilE .st H 9 hL15
  have hL17 : Lcl w [.box b15 [.slice none 0 0] 30, .row (.slice none 0 0) 9 1 (([] : List (List UInt8))).length ([]), .box b5 [.int .i64 x3.1, .int .i64 x3.2] 23, .box b2 [.int .i64 (0 : Int), .int .i64 (0 : Int)] 23, .box b1 [.int .i64 a0.f.1, .int .i64 a0.f.2.1, v0_0, v0_1, v0_2] 38] w15 := hL16.picks [1] rfl
  have hle17 := fz_picks [1] hL16 hL17 rfl
  replace he16 := he16.mono (gz_mono hH hle17)
  obtain ⟨x18, hb18, h⟩ := Go.L.bind_some h
  refine S_call rfl rfl (leaves_paths hH (O := [.box b5 [.int .i64 x3.1, .int .i64 x3.2] 23, .box b2 [.int .i64 (0 : Int), .int .i64 (0 : Int)] 23, .box b1 [.int .i64 a0.f.1, .int .i64 a0.f.2.1, v0_0, v0_1, v0_2] 38]) (a0 := a0) (a1 := ([] : List (List UInt8))) (s := ([] : List (List UInt8))) hL17 he16 (h0_0.mono (gz_left hH)) (h0_1.mono (gz_left hH)) (h0_2.mono (gz_left hH)) (Vec.nil _ _) hb18) ?_
  rintro _ w19 ⟨rfl, u19, y19, hL19, hle19, he19⟩
  refine S_seqnil ?_
  refine W_seqr ?_
  refine S_v (r_loadB1 0 rfl underlying30 rfl hL19 rfl rfl) rfl ?_
  obtain ⟨hk21, h⟩ := Go.L.chk_some h
  refine S_sortS (i := 1) Tryz.laySS rfl ⟨Tryz.f53, _, func53, rfl, rfl⟩ rfl rfl hH hL19 rfl he19 hk21 ?_
  intro w20 xs20 hL20 hle20 he20
  refine S_seqnil ?_
  refine W_seqr ?_
  refine S_v (r_loadB1 0 rfl underlying30 rfl hL20 rfl rfl) rfl ?_
  obtain ⟨hk23, h⟩ := Go.L.chk_some h
  refine S_compS (i := 1) Tryz.layCS rfl ⟨Tryz.f54, _, func54, rfl, rfl⟩ rfl rfl hH hL20 rfl he20 hk23 ?_
  intro v22 w22 xs22 hL22 hle22 he22
  refine S_v (r_build rfl (fun _ => bld23_z _)) rfl ?_
  refine S_pu 1 rfl ?_
  refine S_storeBN 3 rfl rfl rfl zr23 hL22 rfl rfl (onc rfl (onc rfl on0)) ?_
  intro w24 hL24 hle24
  replace he22 := he22.mono (gz_mono hH hle24)
  refine S_seqnil ?_
  refine W_ret ?_
  obtain rfl := Option.some.inj h
  refine At_got2 rfl (.tmp rfl) (.cell rfl underlying23 rfl zr23 (box_ptr (i := 3) hL24 rfl)) ?_
  exact ⟨hL24.ext, _, rfl, (hL24.ownH hH (i := 1) rfl he22)⟩
end Go.Proofs.YtmfiaecglndldaaGreatDoor
end
section
namespace Go.Proofs.YtmfiaecglndldaaGreatDoor
open Go Go.E Go.RowKit
set_option maxHeartbeats 1000000
set_option maxRecDepth 10000
open _root_.Go.Proofs.Tryz
noncomputable def law4_shaped : Option (Bool) :=
 Option.bind (shapes_Match ([42, 42, 47, 99] : List UInt8) ([97, 47, 98, 47, 99] : List UInt8)) (fun x1 => Option.bind (shapes_Match ([42, 47, 99] : List UInt8) ([97, 47, 98, 47, 99] : List UInt8)) (fun x5 => Option.bind (law4_record (5 : Int)) (fun x9 => Option.bind (shapes_Paths x9) (fun x11 => Option.bind (law4_number (5 : Int)) (fun x15 => Option.bind (law4_record (5 : Int)) (fun x17 => Option.bind (shapes_Build ([x15, x17])) (fun x20 => Option.bind (shapes_Index_Number (x20.1.1, x20.1.2) ([97] : List UInt8) (1 : Int) (5 : Int)) (fun x26 => Option.bind (shapes_Index_Find (x20.1.1, x20.1.2) ([42, 42] : List UInt8)) (fun x31 => Option.bind (shapes_Index_Text (x20.1.1, x20.1.2) ([97] : List UInt8) ([])) (fun x35 => Option.bind (shapes_Open ([(0 : UInt8), (0 : UInt8)])) (fun x40 => if x1.2.1 = (0 : Int) then if x5.2.1 = (0 : Int) then if x11.2.1 = (0 : Int) then if x20.2.1 = (0 : Int) then if x26.2.1 = (0 : Int) then if x31.2.1 = (0 : Int) then if x35.2.1 = (0 : Int) then if x40.2.1 = (0 : Int) then (if (bif x1.1 then !x5.1 else false) then Option.bind (ref4_Texts x11.1 ([([] : List UInt8), ([97] : List UInt8)])) (fun x74 => if x74 then Option.bind (ref3_Ints x26.1 ([(1 : Int)])) (fun x79 => if x79 then Option.bind (ref3_Ints x31.1 ([(0 : Int), (1 : Int)])) (fun x84 => if x84 then if (x35.1.length : Int) = (0 : Int) then Option.bind (shapes_Index_Items (x40.1.1, x40.1.2)) (fun x90 => if x90 = (0 : Int) then Option.bind (shapes_Check ([97, 47, 47, 98] : List UInt8)) (fun x94 => Option.bind (ref3_At (1 : Int) (2 : Int)) (fun x96 => some (decide (x94.1 = x96.1 ∧ x94.2 = x96.2)))) else some (false)) else some (false) else some (false)) else some (false)) else some (false)) else some (false)) else some (false) else some (false) else some (false) else some (false) else some (false) else some (false) else some (false) else some (false))))))))))))
theorem law4_shaped_ok (w : World) (H : PH) (hH : Le H (hp w))    {r : Bool} (h : law4_shaped = some r) :
  Ok Tryz.prog 14 [] w (fun v w' => Ext w w' ∧ v = .bool r) := by
 refine Ok_enter (n := 130) [] func14 rfl rfl rfl rfl rfl ?_
 have hL := Lcl.start w
 refine W_pz 1 rfl ?_
 refine W_seqr ?_
 obtain ⟨x1, hb1, h⟩ := Go.L.bind_some h
 refine S_callL rfl rfl hL (shapes_Match_ok _ _ (gz_le hH hL) hb1) ?_
 rintro _ w2 rfl hx2 hL2 hle2
 refine S_pu 3 rfl ?_
 refine S_alloc zr23 rfl rfl hL2 ?_
 intro w3 b3 hL3 hle3 _
 refine S_pu 1 rfl ?_
 refine S_storeBN 0 rfl rfl rfl zr23 hL3 rfl rfl (onc rfl (onc rfl on0)) ?_
 intro w4 hL4 hle4
 refine S_seqnil ?_
 refine W_seqr ?_
 obtain ⟨x5, hb5, h⟩ := Go.L.bind_some h
 refine S_callL rfl rfl hL4 (shapes_Match_ok _ _ (gz_le hH hL4) hb5) ?_
 rintro _ w6 rfl hx6 hL6 hle6
 refine S_pu 3 rfl ?_
 refine S_alloc zr23 rfl rfl hL6 ?_
 intro w7 b7 hL7 hle7 _
 refine S_pu 1 rfl ?_
 refine S_storeBN 0 rfl rfl rfl zr23 hL7 rfl rfl (onc rfl (onc rfl on0)) ?_
 intro w8 hL8 hle8
 refine S_seqnil ?_
 refine W_seqr ?_
 obtain ⟨x9, hb9, h⟩ := Go.L.bind_some h
 refine S_callL rfl rfl hL8 (law4_record_ok _ _ (gz_le hH hL8) hb9) ?_
 rintro _ w10 ⟨u10_0, u10_1, u10_2, rfl, hR10_0, hR10_1, hR10_2⟩ hx10 hL10 hle10
 have hv10_0 := hR10_0.vecG hH hL8 hx10
 have hv10_1 := hR10_1.mono (gz_nw hH hL8 hx10)
 have hv10_2 := hR10_2.mono (gz_nw hH hL8 hx10)
 obtain ⟨x11, hb11, h⟩ := Go.L.bind_some h
 refine S_callL rfl rfl hL10 (shapes_Paths_ok (a0 := x9) _ _ (gz_le hH hL10) hv10_0 hv10_1 hv10_2 hb11) ?_
 rintro _ w12 ⟨u12_0, rfl, hR12_0⟩ hx12 hL12 hle12
 have hv12_0 := hR12_0.vecG hH hL10 hx12
 replace hv10_0 := hv10_0.mono (gz_mono hH hle12)
 replace hv10_1 := hv10_1.mono (gz_mono hH hle12)
 replace hv10_2 := hv10_2.mono (gz_mono hH hle12)
 refine S_pu 3 rfl ?_
 refine S_alloc zr23 rfl rfl hL12 ?_
 intro w13 b13 hL13 hle13 _
 replace hv10_0 := hv10_0.mono (gz_mono hH hle13)
 replace hv10_1 := hv10_1.mono (gz_mono hH hle13)
 replace hv10_2 := hv10_2.mono (gz_mono hH hle13)
 replace hv12_0 := hv12_0.mono (gz_mono hH hle13)
 refine S_pu 1 rfl ?_
 refine S_storeBN 0 rfl rfl rfl zr23 hL13 rfl rfl (onc rfl (onc rfl on0)) ?_
 intro w14 hL14 hle14
 replace hv10_0 := hv10_0.mono (gz_mono hH hle14)
 replace hv10_1 := hv10_1.mono (gz_mono hH hle14)
 replace hv10_2 := hv10_2.mono (gz_mono hH hle14)
 replace hv12_0 := hv12_0.mono (gz_mono hH hle14)
 refine S_seqnil ?_
 refine W_seqr ?_
 obtain ⟨x15, hb15, h⟩ := Go.L.bind_some h
 refine S_callL rfl rfl hL14 (law4_number_ok _ _ (gz_le hH hL14) hb15) ?_
 rintro _ w16 ⟨u16_0, u16_1, u16_2, rfl, hR16_0, hR16_1, hR16_2⟩ hx16 hL16 hle16
 have hv16_0 := hR16_0.vecG hH hL14 hx16
 have hv16_1 := hR16_1.vecG hH hL14 hx16
 have hv16_2 := hR16_2.vecG hH hL14 hx16
 replace hv12_0 := hv12_0.mono (gz_mono hH hle16)
 obtain ⟨x17, hb17, h⟩ := Go.L.bind_some h
 refine S_callL rfl rfl hL16 (law4_record_ok _ _ (gz_le hH hL16) hb17) ?_
 rintro _ w18 ⟨u18_0, u18_1, u18_2, rfl, hR18_0, hR18_1, hR18_2⟩ hx18 hL18 hle18
 have hv18_0 := hR18_0.vecG hH hL16 hx18
 have hv18_1 := hR18_1.mono (gz_nw hH hL16 hx18)
 have hv18_2 := hR18_2.mono (gz_nw hH hL16 hx18)
 replace hv12_0 := hv12_0.mono (gz_mono hH hle18)
 replace hv16_0 := hv16_0.mono (gz_mono hH hle18)
 replace hv16_1 := hv16_1.mono (gz_mono hH hle18)
 replace hv16_2 := hv16_2.mono (gz_mono hH hle18)
 refine S_litE (r := .tree) (l := [x15, x17]) rfl (fun _ => bsl36_2 _ _ _ _ _ _ _ _ _ _ _) rfl (show 2 ≤ 9223372036854775807 by decide) hH hL18 (.c5 (Go.E.Rp.tree_close ⟨_, _, rfl, rfl, ⟨_, _, rfl, rfl, ⟨_, _, rfl, ⟨_, rfl, hv16_0⟩, ⟨_, _, rfl, ⟨_, rfl, hv16_1⟩, ⟨_, rfl, hv16_2⟩⟩⟩⟩⟩) (.c5 (Go.E.Rp.tree_close ⟨_, _, rfl, rfl, ⟨_, _, rfl, rfl, ⟨_, _, rfl, ⟨_, rfl, hv18_0⟩, ⟨_, _, rfl, ⟨_, rfl, hv18_1⟩, ⟨_, rfl, hv18_2⟩⟩⟩⟩⟩) .nil)) ?_
 intro v19 w19 hx19 hL19 hle19 hv19
 replace hv12_0 := hv12_0.mono (gz_mono hH hle19)
 replace hv16_0 := hv16_0.mono (gz_mono hH hle19)
 replace hv16_1 := hv16_1.mono (gz_mono hH hle19)
 replace hv16_2 := hv16_2.mono (gz_mono hH hle19)
 replace hv18_0 := hv18_0.mono (gz_mono hH hle19)
 replace hv18_1 := hv18_1.mono (gz_mono hH hle19)
 replace hv18_2 := hv18_2.mono (gz_mono hH hle19)
 obtain ⟨x20, hb20, h⟩ := Go.L.bind_some h
 refine S_callL rfl rfl hL19 (shapes_Build_ok _ _ (gz_le hH hL19) hv19 hb20) ?_
 rintro _ w21 ⟨u21_0, rfl, hR21_0⟩ hx21 hL21 hle21
 have hv21_0 := hR21_0.mono (gz_nw hH hL19 hx21)
 replace hv12_0 := hv12_0.mono (gz_mono hH hle21)
 replace hv16_0 := hv16_0.mono (gz_mono hH hle21)
 replace hv16_1 := hv16_1.mono (gz_mono hH hle21)
 replace hv16_2 := hv16_2.mono (gz_mono hH hle21)
 replace hv18_0 := hv18_0.mono (gz_mono hH hle21)
 replace hv18_1 := hv18_1.mono (gz_mono hH hle21)
 replace hv18_2 := hv18_2.mono (gz_mono hH hle21)
 replace hv19 := hv19.mono (gz_mono hH hle21)
 refine S_pu 3 rfl ?_
 refine S_alloc zr47 rfl rfl hL21 ?_
 intro w22 b22 hL22 hle22 _
 replace hv12_0 := hv12_0.mono (gz_mono hH hle22)
 replace hv16_0 := hv16_0.mono (gz_mono hH hle22)
 replace hv16_1 := hv16_1.mono (gz_mono hH hle22)
 replace hv16_2 := hv16_2.mono (gz_mono hH hle22)
 replace hv18_0 := hv18_0.mono (gz_mono hH hle22)
 replace hv18_1 := hv18_1.mono (gz_mono hH hle22)
 replace hv18_2 := hv18_2.mono (gz_mono hH hle22)
 replace hv19 := hv19.mono (gz_mono hH hle22)
 replace hv21_0 := hv21_0.mono (gz_mono hH hle22)
 refine S_alloc zr23 rfl rfl hL22 ?_
 intro w23 b23 hL23 hle23 _
 replace hv12_0 := hv12_0.mono (gz_mono hH hle23)
 replace hv16_0 := hv16_0.mono (gz_mono hH hle23)
 replace hv16_1 := hv16_1.mono (gz_mono hH hle23)
 replace hv16_2 := hv16_2.mono (gz_mono hH hle23)
 replace hv18_0 := hv18_0.mono (gz_mono hH hle23)
 replace hv18_1 := hv18_1.mono (gz_mono hH hle23)
 replace hv18_2 := hv18_2.mono (gz_mono hH hle23)
 replace hv19 := hv19.mono (gz_mono hH hle23)
 replace hv21_0 := hv21_0.mono (gz_mono hH hle23)
 refine S_storeBN 1 rfl rfl rfl zr47 hL23 rfl rfl (onc rfl (onc hv21_0.one on0)) ?_
 intro w24 hL24 hle24
 replace hv12_0 := hv12_0.mono (gz_mono hH hle24)
 replace hv16_0 := hv16_0.mono (gz_mono hH hle24)
 replace hv16_1 := hv16_1.mono (gz_mono hH hle24)
 replace hv16_2 := hv16_2.mono (gz_mono hH hle24)
 replace hv18_0 := hv18_0.mono (gz_mono hH hle24)
 replace hv18_1 := hv18_1.mono (gz_mono hH hle24)
 replace hv18_2 := hv18_2.mono (gz_mono hH hle24)
 replace hv19 := hv19.mono (gz_mono hH hle24)
 replace hv21_0 := hv21_0.mono (gz_mono hH hle24)
 refine S_storeBN 0 rfl rfl rfl zr23 hL24 rfl rfl (onc rfl (onc rfl on0)) ?_
 intro w25 hL25 hle25
 replace hv12_0 := hv12_0.mono (gz_mono hH hle25)
 replace hv16_0 := hv16_0.mono (gz_mono hH hle25)
 replace hv16_1 := hv16_1.mono (gz_mono hH hle25)
 replace hv16_2 := hv16_2.mono (gz_mono hH hle25)
 replace hv18_0 := hv18_0.mono (gz_mono hH hle25)
 replace hv18_1 := hv18_1.mono (gz_mono hH hle25)
 replace hv18_2 := hv18_2.mono (gz_mono hH hle25)
 replace hv19 := hv19.mono (gz_mono hH hle25)
 replace hv21_0 := hv21_0.mono (gz_mono hH hle25)
 refine S_seqnil ?_
 refine W_seqr ?_
 refine S_v (r_loadBN 1 rfl underlying47 rfl zr47 hL25 rfl) rfl ?_
 obtain ⟨x26, hb26, h⟩ := Go.L.bind_some h
 refine S_callL rfl rfl hL25 (shapes_Index_Number_ok (a0 := (x20.1.1, x20.1.2)) _ _ (gz_le hH hL25) hv21_0 hb26) ?_
 rintro _ w27 ⟨u27_0, rfl, hR27_0⟩ hx27 hL27 hle27
 have hv27_0 := hR27_0.vecG hH hL25 hx27
 replace hv12_0 := hv12_0.mono (gz_mono hH hle27)
 replace hv21_0 := hv21_0.mono (gz_mono hH hle27)
 refine S_pu 3 rfl ?_
 refine S_alloc zr23 rfl rfl hL27 ?_
 intro w28 b28 hL28 hle28 _
 replace hv12_0 := hv12_0.mono (gz_mono hH hle28)
 replace hv21_0 := hv21_0.mono (gz_mono hH hle28)
 replace hv27_0 := hv27_0.mono (gz_mono hH hle28)
 refine S_pu 1 rfl ?_
 refine S_storeBN 0 rfl rfl rfl zr23 hL28 rfl rfl (onc rfl (onc rfl on0)) ?_
 intro w29 hL29 hle29
 replace hv12_0 := hv12_0.mono (gz_mono hH hle29)
 replace hv21_0 := hv21_0.mono (gz_mono hH hle29)
 replace hv27_0 := hv27_0.mono (gz_mono hH hle29)
 refine S_seqnil ?_
 have hG30 := hL29.rG H
 refine W_seqr ?_
 refine S_v (r_loadBN 2 rfl underlying47 rfl zr47 hL29 rfl) rfl ?_
 obtain ⟨x31, hb31, h⟩ := Go.L.bind_some h
 refine S_callL rfl rfl hL29 (shapes_Index_Find_ok (a0 := (x20.1.1, x20.1.2)) _ _ (gz_le hH hL29) (hv21_0.mono hG30) hb31) ?_
 rintro _ w32 ⟨u32_0, rfl, hR32_0⟩ hx32 hL32 hle32
 have hv32_0 := hR32_0.vecG hH hL29 hx32
 replace hG30 := hG30.trans (gz_mono hH hle32)
 refine S_pu 3 rfl ?_
 refine S_alloc zr23 rfl rfl hL32 ?_
 intro w33 b33 hL33 hle33 _
 replace hv32_0 := hv32_0.mono (gz_mono hH hle33)
 replace hG30 := hG30.trans (gz_mono hH hle33)
 refine S_pu 1 rfl ?_
 refine S_storeBN 0 rfl rfl rfl zr23 hL33 rfl rfl (onc rfl (onc rfl on0)) ?_
 intro w34 hL34 hle34
 replace hv32_0 := hv32_0.mono (gz_mono hH hle34)
 replace hG30 := hG30.trans (gz_mono hH hle34)
 refine S_seqnil ?_
 refine W_seqr ?_
 refine S_v (r_loadBN 3 rfl underlying47 rfl zr47 hL34 rfl) rfl ?_
 obtain ⟨x35, hb35, h⟩ := Go.L.bind_some h
 refine S_callL rfl rfl hL34 (shapes_Index_Text_ok (a0 := (x20.1.1, x20.1.2)) _ _ (gz_le hH hL34) (hv21_0.mono hG30) (Vec.nil _ _) hb35) ?_
 rintro _ w36 ⟨u36_0, rfl, hR36_0⟩ hx36 hL36 hle36
 have hv36_0 := hR36_0.vecG hH hL34 hx36
 replace hv32_0 := hv32_0.mono (gz_mono hH hle36)
 replace hG30 := hG30.trans (gz_mono hH hle36)
 refine S_pu 3 rfl ?_
 refine S_alloc zr23 rfl rfl hL36 ?_
 intro w37 b37 hL37 hle37 _
 replace hv32_0 := hv32_0.mono (gz_mono hH hle37)
 replace hv36_0 := hv36_0.mono (gz_mono hH hle37)
 replace hG30 := hG30.trans (gz_mono hH hle37)
 refine S_pu 1 rfl ?_
 refine S_storeBN 0 rfl rfl rfl zr23 hL37 rfl rfl (onc rfl (onc rfl on0)) ?_
 intro w38 hL38 hle38
 replace hv32_0 := hv32_0.mono (gz_mono hH hle38)
 replace hv36_0 := hv36_0.mono (gz_mono hH hle38)
 replace hG30 := hG30.trans (gz_mono hH hle38)
 refine S_seqnil ?_
 refine W_seqr ?_
 refine S_litE (r := .byte) (l := [(0 : UInt8), (0 : UInt8)]) rfl (fun _ => bsl35_2 _ _ _) rfl (show 2 ≤ 9223372036854775807 by decide) hH hL38 (.c1 rfl (.c1 rfl .nil)) ?_
 intro v39 w39 hx39 hL39 hle39 hv39
 replace hv32_0 := hv32_0.mono (gz_mono hH hle39)
 replace hv36_0 := hv36_0.mono (gz_mono hH hle39)
 replace hG30 := hG30.trans (gz_mono hH hle39)
 obtain ⟨x40, hb40, h⟩ := Go.L.bind_some h
 refine S_callL rfl rfl hL39 (shapes_Open_ok _ _ (gz_le hH hL39) hv39 hb40) ?_
 rintro _ w41 ⟨u41_0, rfl, hR41_0⟩ hx41 hL41 hle41
 have hv41_0 := hR41_0.mono (gz_nw hH hL39 hx41)
 replace hv32_0 := hv32_0.mono (gz_mono hH hle41)
 replace hv36_0 := hv36_0.mono (gz_mono hH hle41)
 replace hv39 := hv39.mono (gz_mono hH hle41)
 replace hG30 := hG30.trans (gz_mono hH hle41)
 refine S_pu 3 rfl ?_
 refine S_alloc zr47 rfl rfl hL41 ?_
 intro w42 b42 hL42 hle42 _
 replace hv32_0 := hv32_0.mono (gz_mono hH hle42)
 replace hv36_0 := hv36_0.mono (gz_mono hH hle42)
 replace hv39 := hv39.mono (gz_mono hH hle42)
 replace hv41_0 := hv41_0.mono (gz_mono hH hle42)
 replace hG30 := hG30.trans (gz_mono hH hle42)
 refine S_alloc zr23 rfl rfl hL42 ?_
 intro w43 b43 hL43 hle43 _
 replace hv32_0 := hv32_0.mono (gz_mono hH hle43)
 replace hv36_0 := hv36_0.mono (gz_mono hH hle43)
 replace hv39 := hv39.mono (gz_mono hH hle43)
 replace hv41_0 := hv41_0.mono (gz_mono hH hle43)
 replace hG30 := hG30.trans (gz_mono hH hle43)
 refine S_storeBN 1 rfl rfl rfl zr47 hL43 rfl rfl (onc rfl (onc hv41_0.one on0)) ?_
 intro w44 hL44 hle44
 replace hv32_0 := hv32_0.mono (gz_mono hH hle44)
 replace hv36_0 := hv36_0.mono (gz_mono hH hle44)
 replace hv39 := hv39.mono (gz_mono hH hle44)
 replace hv41_0 := hv41_0.mono (gz_mono hH hle44)
 replace hG30 := hG30.trans (gz_mono hH hle44)
 refine S_storeBN 0 rfl rfl rfl zr23 hL44 rfl rfl (onc rfl (onc rfl on0)) ?_
 intro w45 hL45 hle45
 replace hv32_0 := hv32_0.mono (gz_mono hH hle45)
 replace hv36_0 := hv36_0.mono (gz_mono hH hle45)
 replace hv39 := hv39.mono (gz_mono hH hle45)
 replace hv41_0 := hv41_0.mono (gz_mono hH hle45)
 replace hG30 := hG30.trans (gz_mono hH hle45)
 refine S_seqnil ?_
 refine W_seq ?_
 have hG46 := hL45.rG H
 refine W_seqr ?_
 refine S_v (r_field rfl underlying23 rfl zr3 (by decide)) rfl ?_
 refine S_v (r_loadB1 9 rfl underlying3 rfl hL45 rfl rfl) rfl ?_
 refine S_pu 2 rfl ?_
 refine S_split (s := 60) rfl (fun hg47 => ?_) (fun hg47 => ?_)
 ·replace h := Go.L.ite_n (not_dec_t hg47) h
  iterate 3 refine S_unwanted rfl rfl hg47 rfl ?_
  refine S_v (r_pickT rfl hg47 rfl) rfl ?_
  refine S_pu 1 rfl ?_
  iterate 3 refine S_unwanted rfl rfl rfl rfl ?_
  refine S_v (r_pickT rfl rfl rfl) rfl ?_
  refine S_pu 1 rfl ?_
  iterate 3 refine S_unwanted rfl rfl rfl rfl ?_
  refine S_v (r_pickT rfl rfl rfl) rfl ?_
  refine S_pu 1 rfl ?_
  iterate 3 refine S_unwanted rfl rfl rfl rfl ?_
  refine S_v (r_pickT rfl rfl rfl) rfl ?_
  refine S_pu 1 rfl ?_
  iterate 3 refine S_unwanted rfl rfl rfl rfl ?_
  refine S_v (r_pickT rfl rfl rfl) rfl ?_
  refine S_pu 1 rfl ?_
  iterate 3 refine S_unwanted rfl rfl rfl rfl ?_
  refine S_v (r_pickT rfl rfl rfl) rfl ?_
  refine S_pu 1 rfl ?_
  iterate 3 refine S_unwanted rfl rfl rfl rfl ?_
  refine S_v (r_pickT rfl rfl rfl) rfl ?_
  refine S_seqnil ?_
  refine W_true rfl ?_
  refine W_pz 1 rfl ?_
  refine W_ret ?_
  refine At_seq_ret ?_
  obtain rfl := Option.some.inj h
  refine At_body rfl rfl ?_
  exact ⟨hL45.ext, rfl⟩
 ·replace h := Go.L.ite_p (not_dec_f hg47) h
  refine S_guarded rfl rfl hg47 ?_
  refine S_v (r_field rfl underlying23 rfl zr3 (by decide)) rfl ?_
  refine S_guarded rfl rfl hg47 ?_
  refine S_v (r_loadB1 8 rfl underlying3 rfl hL45 rfl rfl) rfl ?_
  refine S_guarded rfl rfl hg47 ?_
  refine S_v (RunsAt_pu rfl) rfl ?_
  refine S_v (r_pickF rfl hg47 rfl) rfl ?_
  refine S_pu 1 rfl ?_
  refine S_split (s := 65) rfl (fun hg50 => ?_) (fun hg50 => ?_)
  ·replace h := Go.L.ite_n (not_dec_t hg50) h
   iterate 3 refine S_unwanted rfl rfl hg50 rfl ?_
   refine S_v (r_pickT rfl hg50 rfl) rfl ?_
   refine S_pu 1 rfl ?_
   iterate 3 refine S_unwanted rfl rfl rfl rfl ?_
   refine S_v (r_pickT rfl rfl rfl) rfl ?_
   refine S_pu 1 rfl ?_
   iterate 3 refine S_unwanted rfl rfl rfl rfl ?_
   refine S_v (r_pickT rfl rfl rfl) rfl ?_
   refine S_pu 1 rfl ?_
   iterate 3 refine S_unwanted rfl rfl rfl rfl ?_
   refine S_v (r_pickT rfl rfl rfl) rfl ?_
   refine S_pu 1 rfl ?_
   iterate 3 refine S_unwanted rfl rfl rfl rfl ?_
   refine S_v (r_pickT rfl rfl rfl) rfl ?_
   refine S_pu 1 rfl ?_
   iterate 3 refine S_unwanted rfl rfl rfl rfl ?_
   refine S_v (r_pickT rfl rfl rfl) rfl ?_
   refine S_seqnil ?_
   refine W_true rfl ?_
   refine W_pz 1 rfl ?_
   refine W_ret ?_
   refine At_seq_ret ?_
   obtain rfl := Option.some.inj h
   refine At_body rfl rfl ?_
   exact ⟨hL45.ext, rfl⟩
  ·replace h := Go.L.ite_p (not_dec_f hg50) h
   refine S_guarded rfl rfl hg50 ?_
   refine S_v (r_field rfl underlying23 rfl zr3 (by decide)) rfl ?_
   refine S_guarded rfl rfl hg50 ?_
   refine S_v (r_loadB1 7 rfl underlying3 rfl hL45 rfl rfl) rfl ?_
   refine S_guarded rfl rfl hg50 ?_
   refine S_v (RunsAt_pu rfl) rfl ?_
   refine S_v (r_pickF rfl hg50 rfl) rfl ?_
   refine S_pu 1 rfl ?_
   refine S_split (s := 70) rfl (fun hg53 => ?_) (fun hg53 => ?_)
   ·replace h := Go.L.ite_n (not_dec_t hg53) h
    iterate 3 refine S_unwanted rfl rfl hg53 rfl ?_
    refine S_v (r_pickT rfl hg53 rfl) rfl ?_
    refine S_pu 1 rfl ?_
    iterate 3 refine S_unwanted rfl rfl rfl rfl ?_
    refine S_v (r_pickT rfl rfl rfl) rfl ?_
    refine S_pu 1 rfl ?_
    iterate 3 refine S_unwanted rfl rfl rfl rfl ?_
    refine S_v (r_pickT rfl rfl rfl) rfl ?_
    refine S_pu 1 rfl ?_
    iterate 3 refine S_unwanted rfl rfl rfl rfl ?_
    refine S_v (r_pickT rfl rfl rfl) rfl ?_
    refine S_pu 1 rfl ?_
    iterate 3 refine S_unwanted rfl rfl rfl rfl ?_
    refine S_v (r_pickT rfl rfl rfl) rfl ?_
    refine S_seqnil ?_
    refine W_true rfl ?_
    refine W_pz 1 rfl ?_
    refine W_ret ?_
    refine At_seq_ret ?_
    obtain rfl := Option.some.inj h
    refine At_body rfl rfl ?_
    exact ⟨hL45.ext, rfl⟩
   ·replace h := Go.L.ite_p (not_dec_f hg53) h
    refine S_guarded rfl rfl hg53 ?_
    refine S_v (r_field rfl underlying23 rfl zr3 (by decide)) rfl ?_
    refine S_guarded rfl rfl hg53 ?_
    refine S_v (r_loadB1 5 rfl underlying3 rfl hL45 rfl rfl) rfl ?_
    refine S_guarded rfl rfl hg53 ?_
    refine S_v (RunsAt_pu rfl) rfl ?_
    refine S_v (r_pickF rfl hg53 rfl) rfl ?_
    refine S_pu 1 rfl ?_
    refine S_split (s := 75) rfl (fun hg56 => ?_) (fun hg56 => ?_)
    ·replace h := Go.L.ite_n (not_dec_t hg56) h
     iterate 3 refine S_unwanted rfl rfl hg56 rfl ?_
     refine S_v (r_pickT rfl hg56 rfl) rfl ?_
     refine S_pu 1 rfl ?_
     iterate 3 refine S_unwanted rfl rfl rfl rfl ?_
     refine S_v (r_pickT rfl rfl rfl) rfl ?_
     refine S_pu 1 rfl ?_
     iterate 3 refine S_unwanted rfl rfl rfl rfl ?_
     refine S_v (r_pickT rfl rfl rfl) rfl ?_
     refine S_pu 1 rfl ?_
     iterate 3 refine S_unwanted rfl rfl rfl rfl ?_
     refine S_v (r_pickT rfl rfl rfl) rfl ?_
     refine S_seqnil ?_
     refine W_true rfl ?_
     refine W_pz 1 rfl ?_
     refine W_ret ?_
     refine At_seq_ret ?_
     obtain rfl := Option.some.inj h
     refine At_body rfl rfl ?_
     exact ⟨hL45.ext, rfl⟩
    ·replace h := Go.L.ite_p (not_dec_f hg56) h
     refine S_guarded rfl rfl hg56 ?_
     refine S_v (r_field rfl underlying23 rfl zr3 (by decide)) rfl ?_
     refine S_guarded rfl rfl hg56 ?_
     refine S_v (r_loadB1 4 rfl underlying3 rfl hL45 rfl rfl) rfl ?_
     refine S_guarded rfl rfl hg56 ?_
     refine S_v (RunsAt_pu rfl) rfl ?_
     refine S_v (r_pickF rfl hg56 rfl) rfl ?_
     refine S_pu 1 rfl ?_
     refine S_split (s := 80) rfl (fun hg59 => ?_) (fun hg59 => ?_)
     ·replace h := Go.L.ite_n (not_dec_t hg59) h
      iterate 3 refine S_unwanted rfl rfl hg59 rfl ?_
      refine S_v (r_pickT rfl hg59 rfl) rfl ?_
      refine S_pu 1 rfl ?_
      iterate 3 refine S_unwanted rfl rfl rfl rfl ?_
      refine S_v (r_pickT rfl rfl rfl) rfl ?_
      refine S_pu 1 rfl ?_
      iterate 3 refine S_unwanted rfl rfl rfl rfl ?_
      refine S_v (r_pickT rfl rfl rfl) rfl ?_
      refine S_seqnil ?_
      refine W_true rfl ?_
      refine W_pz 1 rfl ?_
      refine W_ret ?_
      refine At_seq_ret ?_
      obtain rfl := Option.some.inj h
      refine At_body rfl rfl ?_
      exact ⟨hL45.ext, rfl⟩
     ·replace h := Go.L.ite_p (not_dec_f hg59) h
      refine S_guarded rfl rfl hg59 ?_
      refine S_v (r_field rfl underlying23 rfl zr3 (by decide)) rfl ?_
      refine S_guarded rfl rfl hg59 ?_
      refine S_v (r_loadB1 3 rfl underlying3 rfl hL45 rfl rfl) rfl ?_
      refine S_guarded rfl rfl hg59 ?_
      refine S_v (RunsAt_pu rfl) rfl ?_
      refine S_v (r_pickF rfl hg59 rfl) rfl ?_
      refine S_pu 1 rfl ?_
      refine S_split (s := 85) rfl (fun hg62 => ?_) (fun hg62 => ?_)
      ·replace h := Go.L.ite_n (not_dec_t hg62) h
       iterate 3 refine S_unwanted rfl rfl hg62 rfl ?_
       refine S_v (r_pickT rfl hg62 rfl) rfl ?_
       refine S_pu 1 rfl ?_
       iterate 3 refine S_unwanted rfl rfl rfl rfl ?_
       refine S_v (r_pickT rfl rfl rfl) rfl ?_
       refine S_seqnil ?_
       refine W_true rfl ?_
       refine W_pz 1 rfl ?_
       refine W_ret ?_
       refine At_seq_ret ?_
       obtain rfl := Option.some.inj h
       refine At_body rfl rfl ?_
       exact ⟨hL45.ext, rfl⟩
      ·replace h := Go.L.ite_p (not_dec_f hg62) h
       refine S_guarded rfl rfl hg62 ?_
       refine S_v (r_field rfl underlying23 rfl zr3 (by decide)) rfl ?_
       refine S_guarded rfl rfl hg62 ?_
       refine S_v (r_loadB1 2 rfl underlying3 rfl hL45 rfl rfl) rfl ?_
       refine S_guarded rfl rfl hg62 ?_
       refine S_v (RunsAt_pu rfl) rfl ?_
       refine S_v (r_pickF rfl hg62 rfl) rfl ?_
       refine S_pu 1 rfl ?_
       refine S_split (s := 90) rfl (fun hg65 => ?_) (fun hg65 => ?_)
       ·replace h := Go.L.ite_n (not_dec_t hg65) h
        iterate 3 refine S_unwanted rfl rfl hg65 rfl ?_
        refine S_v (r_pickT rfl hg65 rfl) rfl ?_
        refine S_seqnil ?_
        refine W_true rfl ?_
        refine W_pz 1 rfl ?_
        refine W_ret ?_
        refine At_seq_ret ?_
        obtain rfl := Option.some.inj h
        refine At_body rfl rfl ?_
        exact ⟨hL45.ext, rfl⟩
       ·replace h := Go.L.ite_p (not_dec_f hg65) h
        refine S_guarded rfl rfl hg65 ?_
        refine S_v (r_field rfl underlying23 rfl zr3 (by decide)) rfl ?_
        refine S_guarded rfl rfl hg65 ?_
        refine S_v (r_loadB1 0 rfl underlying3 rfl hL45 rfl rfl) rfl ?_
        refine S_guarded rfl rfl hg65 ?_
        refine S_v (RunsAt_pu rfl) rfl ?_
        refine S_v (r_pickF rfl hg65 rfl) rfl ?_
        refine S_seqnil ?_
        refine W_ifn rfl (fun hc68 => ?_) (fun hc68 => ?_)
        ·replace h := Go.L.ite_n hc68 h
         refine W_pz 1 rfl ?_
         refine W_ret ?_
         refine At_seq_ret ?_
         obtain rfl := Option.some.inj h
         refine At_body rfl rfl ?_
         exact ⟨hL45.ext, rfl⟩
        ·replace h := Go.L.ite_p hc68 h
         refine W_skip ?_
         refine At_seq ?_
         refine W_p 2 rfl ?_
         refine S_pickT 2 1 rfl rfl rfl rfl rfl rfl rfl ?_
         refine S_pu 1 rfl ?_
         refine S_split (s := 100) rfl (fun hg71 => ?_) (fun hg71 => ?_)
         ·replace h := Go.L.ite_t hg71 h
          refine S_guarded rfl rfl hg71 ?_
          refine S_v (RunsAt_pu rfl) rfl ?_
          refine S_guarded rfl rfl hg71 ?_
          refine S_litE (r := .st) (l := [([] : List UInt8), ([97] : List UInt8)]) rfl (fun _ => bsl30_2 _ rfl _ rfl _) rfl (show 2 ≤ 9223372036854775807 by decide) hH hL45 (.c1 rfl (.c1 rfl .nil)) ?_
          intro v73 w73 hx73 hL73 hle73 hv73
          replace hG46 := hG46.trans (gz_mono hH hle73)
          refine S_guarded rfl rfl hg71 ?_
          obtain ⟨x74, hb74, h⟩ := Go.L.bind_some h
          refine S_callL rfl rfl hL73 (ref4_Texts_ok _ _ (gz_le hH hL73) ((hv12_0.mono hG30).mono hG46) hv73 hb74) ?_
          rintro _ w75 rfl hx75 hL75 hle75
          replace hv73 := hv73.mono (gz_mono hH hle75)
          replace hG46 := hG46.trans (gz_mono hH hle75)
          refine S_v (r_pickT rfl hg71 rfl) rfl ?_
          refine S_pu 1 rfl ?_
          refine S_split (s := 105) rfl (fun hg76 => ?_) (fun hg76 => ?_)
          ·replace h := Go.L.ite_t hg76 h
           refine S_guarded rfl rfl hg76 ?_
           refine S_v (RunsAt_pu rfl) rfl ?_
           refine S_guarded rfl rfl hg76 ?_
           refine S_litE (r := (.int .i64)) (l := [(1 : Int)]) rfl (fun _ => bsl52_1 _ _) rfl (show 1 ≤ 9223372036854775807 by decide) hH hL75 (.c1 rfl .nil) ?_
           intro v78 w78 hx78 hL78 hle78 hv78
           replace hv73 := hv73.mono (gz_mono hH hle78)
           replace hG46 := hG46.trans (gz_mono hH hle78)
           refine S_guarded rfl rfl hg76 ?_
           obtain ⟨x79, hb79, h⟩ := Go.L.bind_some h
           refine S_callL rfl rfl hL78 (ref3_Ints_ok _ _ (gz_le hH hL78) ((hv27_0.mono hG30).mono hG46) hv78 hb79) ?_
           rintro _ w80 rfl hx80 hL80 hle80
           replace hv73 := hv73.mono (gz_mono hH hle80)
           replace hv78 := hv78.mono (gz_mono hH hle80)
           replace hG46 := hG46.trans (gz_mono hH hle80)
           refine S_v (r_pickT rfl hg76 rfl) rfl ?_
           refine S_pu 1 rfl ?_
           refine S_split (s := 110) rfl (fun hg81 => ?_) (fun hg81 => ?_)
           ·replace h := Go.L.ite_t hg81 h
            refine S_guarded rfl rfl hg81 ?_
            refine S_v (RunsAt_pu rfl) rfl ?_
            refine S_guarded rfl rfl hg81 ?_
            refine S_litE (r := (.int .i64)) (l := [(0 : Int), (1 : Int)]) rfl (fun _ => bsl52_2 _ _ _) rfl (show 2 ≤ 9223372036854775807 by decide) hH hL80 (.c1 rfl (.c1 rfl .nil)) ?_
            intro v83 w83 hx83 hL83 hle83 hv83
            replace hv73 := hv73.mono (gz_mono hH hle83)
            replace hv78 := hv78.mono (gz_mono hH hle83)
            replace hG46 := hG46.trans (gz_mono hH hle83)
            refine S_guarded rfl rfl hg81 ?_
            obtain ⟨x84, hb84, h⟩ := Go.L.bind_some h
            refine S_callL rfl rfl hL83 (ref3_Ints_ok _ _ (gz_le hH hL83) (hv32_0.mono hG46) hv83 hb84) ?_
            rintro _ w85 rfl hx85 hL85 hle85
            replace hv73 := hv73.mono (gz_mono hH hle85)
            replace hv78 := hv78.mono (gz_mono hH hle85)
            replace hv83 := hv83.mono (gz_mono hH hle85)
            replace hG46 := hG46.trans (gz_mono hH hle85)
            refine S_v (r_pickT rfl hg81 rfl) rfl ?_
            refine S_pu 1 rfl ?_
            refine S_split (s := 115) rfl (fun hg86 => ?_) (fun hg86 => ?_)
            ·replace h := Go.L.ite_t hg86 h
             refine S_guarded rfl rfl hg86 ?_
             refine S_v (RunsAt_pu rfl) rfl ?_
             refine S_guarded rfl rfl hg86 ?_
             refine S_v (r_len rfl underlying52 (hv36_0.mono hG46)) rfl ?_
             refine S_guarded rfl rfl hg86 ?_
             refine S_v (RunsAt_pu rfl) rfl ?_
             refine S_v (r_pickT rfl hg86 rfl) rfl ?_
             refine S_pu 1 rfl ?_
             refine S_split (s := 120) rfl (fun hg88 => ?_) (fun hg88 => ?_)
             ·replace h := Go.L.ite_p (of_decide_eq_true hg88) h
              refine S_guarded rfl rfl hg88 ?_
              refine S_v (r_loadBN 1 rfl underlying47 rfl zr47 hL85 rfl) rfl ?_
              refine S_guarded rfl rfl hg88 ?_
              obtain ⟨x90, hb90, h⟩ := Go.L.bind_some h
              refine S_callL rfl rfl hL85 (shapes_Index_Items_ok (a0 := (x40.1.1, x40.1.2)) _ _ (gz_le hH hL85) (hv41_0.mono hG46) hb90) ?_
              rintro _ w91 rfl hx91 hL91 hle91
              replace hv73 := hv73.mono (gz_mono hH hle91)
              replace hv78 := hv78.mono (gz_mono hH hle91)
              replace hv83 := hv83.mono (gz_mono hH hle91)
              replace hG46 := hG46.trans (gz_mono hH hle91)
              refine S_guarded rfl rfl hg88 ?_
              refine S_v (RunsAt_pu rfl) rfl ?_
              refine S_v (r_pickT rfl hg88 rfl) rfl ?_
              refine S_pu 1 rfl ?_
              refine S_split (s := 125) rfl (fun hg92 => ?_) (fun hg92 => ?_)
              ·replace h := Go.L.ite_p (of_decide_eq_true hg92) h
               refine S_guarded rfl rfl hg92 ?_
               obtain ⟨x94, hb94, h⟩ := Go.L.bind_some h
               refine S_callL rfl rfl hL91 (shapes_Check_ok _ _ (gz_le hH hL91) hb94) ?_
               rintro _ w95 rfl hx95 hL95 hle95
               replace hv73 := hv73.mono (gz_mono hH hle95)
               replace hv78 := hv78.mono (gz_mono hH hle95)
               replace hv83 := hv83.mono (gz_mono hH hle95)
               replace hG46 := hG46.trans (gz_mono hH hle95)
               refine S_guarded rfl rfl hg92 ?_
               obtain ⟨x96, hb96, h⟩ := Go.L.bind_some h
               refine S_callL rfl rfl hL95 (ref3_At_ok _ _ (gz_le hH hL95) hb96) ?_
               rintro _ w97 rfl hx97 hL97 hle97
               replace hv73 := hv73.mono (gz_mono hH hle97)
               replace hv78 := hv78.mono (gz_mono hH hle97)
               replace hv83 := hv83.mono (gz_mono hH hle97)
               replace hG46 := hG46.trans (gz_mono hH hle97)
               refine S_guarded rfl rfl hg92 ?_
               refine S_v (r_eqA rfl rfl eqg23 (eq23 _ _ _ _ )) rfl ?_
               refine S_v (r_pickT rfl hg92 rfl) rfl ?_
               refine S_pz 1 rfl ?_
               refine W_ret ?_
               obtain rfl := Option.some.inj h
               refine At_body rfl rfl ?_
               exact ⟨hL97.ext, rfl⟩
              ·replace h := Go.L.ite_n (of_decide_eq_false hg92) h
               iterate 3 refine S_unwanted rfl rfl hg92 rfl ?_
               refine S_v (r_pickF rfl hg92 rfl) rfl ?_
               refine S_pz 1 rfl ?_
               refine W_ret ?_
               obtain rfl := Option.some.inj h
               refine At_body rfl rfl ?_
               exact ⟨hL91.ext, rfl⟩
             ·replace h := Go.L.ite_n (of_decide_eq_false hg88) h
              iterate 3 refine S_unwanted rfl rfl hg88 rfl ?_
              refine S_v (r_pickF rfl hg88 rfl) rfl ?_
              refine S_pu 1 rfl ?_
              iterate 3 refine S_unwanted rfl rfl rfl rfl ?_
              refine S_v (r_pickF rfl rfl rfl) rfl ?_
              refine S_pz 1 rfl ?_
              refine W_ret ?_
              obtain rfl := Option.some.inj h
              refine At_body rfl rfl ?_
              exact ⟨hL85.ext, rfl⟩
            ·replace h := Go.L.ite_f hg86 h
             iterate 3 refine S_unwanted rfl rfl hg86 rfl ?_
             refine S_v (r_pickF rfl hg86 rfl) rfl ?_
             refine S_pu 1 rfl ?_
             iterate 3 refine S_unwanted rfl rfl rfl rfl ?_
             refine S_v (r_pickF rfl rfl rfl) rfl ?_
             refine S_pu 1 rfl ?_
             iterate 3 refine S_unwanted rfl rfl rfl rfl ?_
             refine S_v (r_pickF rfl rfl rfl) rfl ?_
             refine S_pz 1 rfl ?_
             refine W_ret ?_
             obtain rfl := Option.some.inj h
             refine At_body rfl rfl ?_
             exact ⟨hL85.ext, rfl⟩
           ·replace h := Go.L.ite_f hg81 h
            iterate 3 refine S_unwanted rfl rfl hg81 rfl ?_
            refine S_v (r_pickF rfl hg81 rfl) rfl ?_
            refine S_pu 1 rfl ?_
            iterate 3 refine S_unwanted rfl rfl rfl rfl ?_
            refine S_v (r_pickF rfl rfl rfl) rfl ?_
            refine S_pu 1 rfl ?_
            iterate 3 refine S_unwanted rfl rfl rfl rfl ?_
            refine S_v (r_pickF rfl rfl rfl) rfl ?_
            refine S_pu 1 rfl ?_
            iterate 3 refine S_unwanted rfl rfl rfl rfl ?_
            refine S_v (r_pickF rfl rfl rfl) rfl ?_
            refine S_pz 1 rfl ?_
            refine W_ret ?_
            obtain rfl := Option.some.inj h
            refine At_body rfl rfl ?_
            exact ⟨hL80.ext, rfl⟩
          ·replace h := Go.L.ite_f hg76 h
           iterate 3 refine S_unwanted rfl rfl hg76 rfl ?_
           refine S_v (r_pickF rfl hg76 rfl) rfl ?_
           refine S_pu 1 rfl ?_
           iterate 3 refine S_unwanted rfl rfl rfl rfl ?_
           refine S_v (r_pickF rfl rfl rfl) rfl ?_
           refine S_pu 1 rfl ?_
           iterate 3 refine S_unwanted rfl rfl rfl rfl ?_
           refine S_v (r_pickF rfl rfl rfl) rfl ?_
           refine S_pu 1 rfl ?_
           iterate 3 refine S_unwanted rfl rfl rfl rfl ?_
           refine S_v (r_pickF rfl rfl rfl) rfl ?_
           refine S_pu 1 rfl ?_
           iterate 3 refine S_unwanted rfl rfl rfl rfl ?_
           refine S_v (r_pickF rfl rfl rfl) rfl ?_
           refine S_pz 1 rfl ?_
           refine W_ret ?_
           obtain rfl := Option.some.inj h
           refine At_body rfl rfl ?_
           exact ⟨hL75.ext, rfl⟩
         ·replace h := Go.L.ite_f hg71 h
          iterate 3 refine S_unwanted rfl rfl hg71 rfl ?_
          refine S_v (r_pickF rfl hg71 rfl) rfl ?_
          refine S_pu 1 rfl ?_
          iterate 3 refine S_unwanted rfl rfl rfl rfl ?_
          refine S_v (r_pickF rfl rfl rfl) rfl ?_
          refine S_pu 1 rfl ?_
          iterate 3 refine S_unwanted rfl rfl rfl rfl ?_
          refine S_v (r_pickF rfl rfl rfl) rfl ?_
          refine S_pu 1 rfl ?_
          iterate 3 refine S_unwanted rfl rfl rfl rfl ?_
          refine S_v (r_pickF rfl rfl rfl) rfl ?_
          refine S_pu 1 rfl ?_
          iterate 3 refine S_unwanted rfl rfl rfl rfl ?_
          refine S_v (r_pickF rfl rfl rfl) rfl ?_
          refine S_pu 1 rfl ?_
          iterate 3 refine S_unwanted rfl rfl rfl rfl ?_
          refine S_v (r_pickF rfl rfl rfl) rfl ?_
          refine S_pz 1 rfl ?_
          refine W_ret ?_
          obtain rfl := Option.some.inj h
          refine At_body rfl rfl ?_
          exact ⟨hL45.ext, rfl⟩
end Go.Proofs.YtmfiaecglndldaaGreatDoor
end
section
namespace Go.Proofs.YtmfiaecglndldaaGreatDoor
open Go Go.E Go.RowKit Go.L
noncomputable instance (a b c d) : Mi (genSplitL a b c d) := ⟨_, apR _⟩
noncomputable instance (a b) : Mi (idxbL a b) := ⟨_, apR _⟩
noncomputable instance (a b) : Mi (joinL a b) := ⟨_, apR _⟩
noncomputable instance (a) : Mi (nameCF a) := ⟨_, apR _⟩
noncomputable instance (a0 : Int) (a1 : Int) : Mi (shapes_fault a0 a1) := by delta shapes_fault; infer_instance
noncomputable instance (a0 : List UInt8) (a1 : List UInt8) : Mi (strings_Split a0 a1) := by delta strings_Split; infer_instance
noncomputable instance (a0 : List UInt8) : Mi (shapes_steps a0) := by delta shapes_steps; infer_instance
noncomputable instance (a0 : List UInt8) : Mi (value_Name a0) := by delta value_Name; infer_instance
noncomputable instance  : Mi (shapes_Check_k1) := by delta shapes_Check_k1; infer_instance
noncomputable instance (x85 : (List (List UInt8))) (s) : Mi (shapes_Check_bl2 x85 s) := by obtain ⟨s3_122, s13_123⟩ := s; delta shapes_Check_bl2; dsimp only; repeat' first | (show Mi _; infer_instance) | refine @iB _ _ _ _ ?_ (fun _ => ?_) | refine @iC _ _ _ _ ?_ | refine @iI _ _ _ _ _ ?_ ?_
noncomputable instance (x85 : (List (List UInt8))) (s : Int × Int) : Mi (shapes_Check_l2 x85 s) := by delta shapes_Check_l2; infer_instance
noncomputable instance (a0 : List UInt8) : Mi (shapes_Check a0) := by delta shapes_Check; infer_instance
noncomputable instance (a0 : List UInt8) : Mi (shapes_isPath_1 a0) := by delta shapes_isPath_1; infer_instance
noncomputable instance  : Mi (idxf_isPath_1_k1) := by delta idxf_isPath_1_k1; infer_instance
noncomputable instance (a0 : List (List UInt8)) (s) : Mi (idxf_isPath_1_bl2 a0 s) := by delta idxf_isPath_1_bl2; infer_instance
noncomputable instance (a0 : List (List UInt8)) (s : Int) : Mi (idxf_isPath_1_l2 a0 s) := by delta idxf_isPath_1_l2; infer_instance
noncomputable instance (a0 : List (List UInt8)) : Mi (idxf_isPath_1 a0) := by delta idxf_isPath_1; infer_instance
noncomputable instance (a0 : List (List UInt8)) : Mi (conf_isPath_1 a0) := by delta conf_isPath_1; infer_instance
noncomputable instance (a0 : List UInt8) : Mi (shapes_isPath a0) := by delta shapes_isPath; infer_instance
noncomputable instance (a0 : List UInt8) (a1 : List UInt8) : Mi (shapes_matches_1 a0 a1) := by delta shapes_matches_1; infer_instance
noncomputable instance (l233 : List (List UInt8)) (s5_234 : Int) : Mi (slices_CompactFunc_string_string_k4 l233 s5_234) := by delta slices_CompactFunc_string_string_k4; infer_instance
noncomputable instance (s5_128 : Int) (s) : Mi (slices_CompactFunc_string_string_bl5 s5_128 s) := by obtain ⟨l263, s5_264, s7_265⟩ := s; delta slices_CompactFunc_string_string_bl5; dsimp only; infer_instance
noncomputable instance (s5_128 : Int) (s : (List (List UInt8)) × Int × Int) : Mi (slices_CompactFunc_string_string_l5 s5_128 s) := by delta slices_CompactFunc_string_string_l5; infer_instance
noncomputable instance (l127 : List (List UInt8)) (s5_186 : Int) : Mi (slices_CompactFunc_string_string_k3 l127 s5_186) := by delta slices_CompactFunc_string_string_k3; infer_instance
noncomputable instance (l65 : List (List UInt8)) : Mi (slices_CompactFunc_string_string_k1 l65) := by delta slices_CompactFunc_string_string_k1; infer_instance
noncomputable instance  (s) : Mi (slices_CompactFunc_string_string_bl2 s) := by obtain ⟨l127, s5_128⟩ := s; delta slices_CompactFunc_string_string_bl2; dsimp only; infer_instance
noncomputable instance (s : (List (List UInt8)) × Int) : Mi (slices_CompactFunc_string_string_l2 s) := by delta slices_CompactFunc_string_string_l2; infer_instance
noncomputable instance (a0 : List (List UInt8)) : Mi (slices_CompactFunc_string_string a0) := by delta slices_CompactFunc_string_string; infer_instance
noncomputable instance  : Mi (shapes_match_body_k2) := by delta shapes_match_body_k2; infer_instance
noncomputable instance (a0 : List (List UInt8)) (a1 : List (List UInt8)) (self : (List (List UInt8)) → (List (List UInt8)) → Option (Bool)) [∀ x0 x1, Mi (self x0 x1)] (s) : Mi (shapes_match_body_bl3 a0 a1 self s) := by delta shapes_match_body_bl3; infer_instance
noncomputable instance (a0 : List (List UInt8)) (a1 : List (List UInt8)) (self : (List (List UInt8)) → (List (List UInt8)) → Option (Bool)) [∀ x0 x1, Mi (self x0 x1)] (s : Int) : Mi (shapes_match_body_l3 a0 a1 self s) := by delta shapes_match_body_l3; infer_instance
noncomputable instance (a0 : List (List UInt8)) (a1 : List (List UInt8)) (self : (List (List UInt8)) → (List (List UInt8)) → Option (Bool)) [∀ x0 x1, Mi (self x0 x1)] : Mi (shapes_match_body_k1 a0 a1 self) := by delta shapes_match_body_k1; infer_instance
noncomputable instance (self : (List (List UInt8)) → (List (List UInt8)) → Option (Bool)) [∀ x0 x1, Mi (self x0 x1)] (a0 : List (List UInt8)) (a1 : List (List UInt8)) : Mi (shapes_match_body self a0 a1) := by delta shapes_match_body; infer_instance
noncomputable instance shapes_match_nMi  : ∀ (n : Nat) (y0) (y1), Mi (shapes_match_n n y0 y1)
 | 0, _, _ => ⟨none, fun _ h => by cases h⟩
 | n + 1, y0, y1 => by
  haveI := shapes_match_nMi n
  show Mi (shapes_match_body (shapes_match_n n) y0 y1)
  infer_instance
noncomputable instance  (y0) (y1) : Mi (shapes_match y0 y1) := by delta shapes_match; infer_instance
noncomputable instance (a0 : List UInt8) (a1 : List UInt8) : Mi (shapes_matches a0 a1) := by delta shapes_matches; infer_instance
noncomputable instance (a0 : List UInt8) (a1 : List UInt8) : Mi (shapes_Match a0 a1) := by delta shapes_Match; infer_instance
noncomputable instance (a0 : Int) : Mi (law4_number a0) := by delta law4_number; infer_instance
noncomputable instance (a0 : Int) : Mi (law4_record a0) := by delta law4_record; infer_instance
noncomputable instance (a0 : Int) (a1 : Int) : Mi (value_fault a0 a1) := by delta value_fault; infer_instance
noncomputable instance  : Mi (slices_Index_int_int_k1) := by delta slices_Index_int_int_k1; infer_instance
noncomputable instance (a0 : List Int) (a1 : Int) (s) : Mi (slices_Index_int_int_bl2 a0 a1 s) := by delta slices_Index_int_int_bl2; infer_instance
noncomputable instance (a0 : List Int) (a1 : Int) (s : Int) : Mi (slices_Index_int_int_l2 a0 a1 s) := by delta slices_Index_int_int_l2; infer_instance
noncomputable instance (a0 : List Int) (a1 : Int) : Mi (slices_Index_int_int a0 a1) := by delta slices_Index_int_int; infer_instance
noncomputable instance (a0 : List Int) (a1 : Int) : Mi (slices_Contains_int_int a0 a1) := by delta slices_Contains_int_int; infer_instance
noncomputable instance (a0 : List Int) (a1 : Go.L.Pv) : Mi (value_checkNode_1 a0 a1) := by delta value_checkNode_1; infer_instance
noncomputable instance (a0 : List UInt8) : Mi (value_checkNode_2 a0) := by delta value_checkNode_2; infer_instance
noncomputable instance  : Mi (idxf_checkNode_2_k1) := by delta idxf_checkNode_2_k1; infer_instance
noncomputable instance (a0 : List (List UInt8)) (s) : Mi (idxf_checkNode_2_bl2 a0 s) := by delta idxf_checkNode_2_bl2; infer_instance
noncomputable instance (a0 : List (List UInt8)) (s : Int) : Mi (idxf_checkNode_2_l2 a0 s) := by delta idxf_checkNode_2_l2; infer_instance
noncomputable instance (a0 : List (List UInt8)) : Mi (idxf_checkNode_2 a0) := by delta idxf_checkNode_2; infer_instance
noncomputable instance (a0 : List (List UInt8)) : Mi (conf_checkNode_2 a0) := by delta conf_checkNode_2; infer_instance
noncomputable instance  : Mi (slices_Index_string_string_k1) := by delta slices_Index_string_string_k1; infer_instance
noncomputable instance (a0 : List (List UInt8)) (a1 : List UInt8) (s) : Mi (slices_Index_string_string_bl2 a0 a1 s) := by delta slices_Index_string_string_bl2; infer_instance
noncomputable instance (a0 : List (List UInt8)) (a1 : List UInt8) (s : Int) : Mi (slices_Index_string_string_l2 a0 a1 s) := by delta slices_Index_string_string_l2; infer_instance
noncomputable instance (a0 : List (List UInt8)) (a1 : List UInt8) : Mi (slices_Index_string_string a0 a1) := by delta slices_Index_string_string; infer_instance
noncomputable instance (a0 : List (List UInt8)) (a1 : List UInt8) : Mi (slices_Contains_string_string a0 a1) := by delta slices_Contains_string_string; infer_instance
noncomputable instance  : Mi (value_checkNode_k2) := by delta value_checkNode_k2; infer_instance
noncomputable instance (c260 : List (List UInt8)) (s) : Mi (value_checkNode_bl3 c260 s) := by delta value_checkNode_bl3; infer_instance
noncomputable instance (c260 : List (List UInt8)) (s : Int) : Mi (value_checkNode_l3 c260 s) := by delta value_checkNode_l3; infer_instance
noncomputable instance (_c257 : Int) (_c258 : Int) (_c259 : List UInt8) (c260 : List (List UInt8)) (c261 : List Go.L.Pv) (s12_262 : Bool) : Mi (value_checkNode_k1 _c257 _c258 _c259 c260 c261 s12_262) := by delta value_checkNode_k1; infer_instance
noncomputable instance (a0 : Go.L.Pv) : Mi (value_checkNode a0) := by delta value_checkNode; repeat' first | (show Mi _; infer_instance) | refine @iB _ _ _ _ ?_ (fun _ => ?_) | refine @iC _ _ _ _ ?_ | refine @iI _ _ _ _ _ ?_ ?_
noncomputable instance (s9_65 : Int) : Mi (value_check_body_k1 s9_65) := by delta value_check_body_k1; infer_instance
noncomputable instance (a0 : Go.L.Pv) (a2 : Int) (self : Go.L.Pv → Int → Int → Option (Int × (Int × Int))) [∀ x0 x1 x2, Mi (self x0 x1 x2)] (s) : Mi (value_check_body_bl2 a0 a2 self s) := by obtain ⟨s9_90, s33_91⟩ := s; delta value_check_body_bl2; dsimp only; infer_instance
noncomputable instance (a0 : Go.L.Pv) (a2 : Int) (self : Go.L.Pv → Int → Int → Option (Int × (Int × Int))) [∀ x0 x1 x2, Mi (self x0 x1 x2)] (s : Int × Int) : Mi (value_check_body_l2 a0 a2 self s) := by delta value_check_body_l2; infer_instance
noncomputable instance (self : Go.L.Pv → Int → Int → Option (Int × (Int × Int))) [∀ x0 x1 x2, Mi (self x0 x1 x2)] (a0 : Go.L.Pv) (a1 : Int) (a2 : Int) : Mi (value_check_body self a0 a1 a2) := by delta value_check_body; infer_instance
noncomputable instance value_check_nMi  : ∀ (n : Nat) (y0) (y1) (y2), Mi (value_check_n n y0 y1 y2)
 | 0, _, _, _ => ⟨none, fun _ h => by cases h⟩
 | n + 1, y0, y1, y2 => by
  haveI := value_check_nMi n
  show Mi (value_check_body (value_check_n n) y0 y1 y2)
  infer_instance
noncomputable instance  (y0) (y1) (y2) : Mi (value_check y0 y1 y2) := by delta value_check; infer_instance
noncomputable instance (l12 : List UInt8) (s3_13 : Int) : Mi (wire_Number_k1 l12 s3_13) := by delta wire_Number_k1; infer_instance
noncomputable instance  (s) : Mi (wire_Number_bl2 s) := by obtain ⟨l23, s3_24⟩ := s; delta wire_Number_bl2; dsimp only; infer_instance
noncomputable instance (s : (List UInt8) × Int) : Mi (wire_Number_l2 s) := by delta wire_Number_l2; infer_instance
noncomputable instance (a0 : Int) : Mi (wire_Number a0) := by delta wire_Number; infer_instance
noncomputable instance (a0 : List UInt8) : Mi (wire_Chunk a0) := by delta wire_Chunk; infer_instance
noncomputable instance (a0 : Go.L.Pv) (s34_107 : Int) (self : Go.L.Pv → Option ((List UInt8))) [∀ x0, Mi (self x0)] (l128 : List UInt8) : Mi (value_encode_body_k3 a0 s34_107 self l128) := by delta value_encode_body_k3; infer_instance
noncomputable instance (l77 : List UInt8) : Mi (value_encode_body_k1 l77) := by delta value_encode_body_k1; infer_instance
noncomputable instance (a0 : Go.L.Pv) (self : Go.L.Pv → Option ((List UInt8))) [∀ x0, Mi (self x0)] (s) : Mi (value_encode_body_bl2 a0 self s) := by obtain ⟨l106, s34_107⟩ := s; delta value_encode_body_bl2; dsimp only; infer_instance
noncomputable instance (a0 : Go.L.Pv) (self : Go.L.Pv → Option ((List UInt8))) [∀ x0, Mi (self x0)] (s : (List UInt8) × Int) : Mi (value_encode_body_l2 a0 self s) := by delta value_encode_body_l2; infer_instance
noncomputable instance (self : Go.L.Pv → Option ((List UInt8))) [∀ x0, Mi (self x0)] (a0 : Go.L.Pv) : Mi (value_encode_body self a0) := by delta value_encode_body; infer_instance
noncomputable instance value_encode_nMi  : ∀ (n : Nat) (y0), Mi (value_encode_n n y0)
 | 0, _ => ⟨none, fun _ h => by cases h⟩
 | n + 1, y0 => by
  haveI := value_encode_nMi n
  show Mi (value_encode_body (value_encode_n n) y0)
  infer_instance
noncomputable instance  (y0) : Mi (value_encode y0) := by delta value_encode; infer_instance
noncomputable instance (a0 : Go.L.Pv) : Mi (value_Encode a0) := by delta value_Encode; infer_instance
noncomputable instance (a0 : Go.L.Pv) : Mi (value_Validate a0) := by delta value_Validate; infer_instance
noncomputable instance (a0 : List (List UInt8)) : Mi (slices_Clone_string_string a0) := by delta slices_Clone_string_string; infer_instance
noncomputable instance {σ : Type} (a0 : Go.L.Pv) (a1 : List (List UInt8)) (s24_45 : Int) (self : Go.L.Pv → (List (List UInt8)) → σ → Option σ) [∀ x0 x1 x2, Mi (self x0 x1 x2)] (s8_62 : List UInt8) (sJ63 : σ) : Mi (shapes_leaves_body_k2 a0 a1 s24_45 self s8_62 sJ63) := by delta shapes_leaves_body_k2; infer_instance
noncomputable instance {σ : Type} (a0 : Go.L.Pv) (a1 : List (List UInt8)) (self : Go.L.Pv → (List (List UInt8)) → σ → Option σ) [∀ x0 x1 x2, Mi (self x0 x1 x2)] (s) : Mi (shapes_leaves_body_bl1 a0 a1 self s) := by obtain ⟨s24_45, sJ46⟩ := s; delta shapes_leaves_body_bl1; dsimp only; infer_instance
noncomputable instance {σ : Type} (a0 : Go.L.Pv) (a1 : List (List UInt8)) (self : Go.L.Pv → (List (List UInt8)) → σ → Option σ) [∀ x0 x1 x2, Mi (self x0 x1 x2)] (s : Int × σ) : Mi (shapes_leaves_body_l1 a0 a1 self s) := by delta shapes_leaves_body_l1; infer_instance
noncomputable instance {σ : Type} (step : σ → ((List UInt8) × Int × Int × (List UInt8)) → Option σ) [∀ x0 x1, Mi (step x0 x1)] (self : Go.L.Pv → (List (List UInt8)) → σ → Option σ) [∀ x0 x1 x2, Mi (self x0 x1 x2)] (a0 : Go.L.Pv) (a1 : List (List UInt8)) (s : σ) : Mi (shapes_leaves_body step self a0 a1 s) := by delta shapes_leaves_body; infer_instance
noncomputable instance shapes_leaves_nMi {σ : Type} (step : σ → ((List UInt8) × Int × Int × (List UInt8)) → Option σ) [∀ x0 x1, Mi (step x0 x1)] : ∀ (n : Nat) (y0) (y1) (y2), Mi (shapes_leaves_n step n y0 y1 y2)
 | 0, _, _, _ => ⟨none, fun _ h => by cases h⟩
 | n + 1, y0, y1, y2 => by
  haveI := shapes_leaves_nMi step n
  show Mi (shapes_leaves_body step (shapes_leaves_n step n) y0 y1 y2)
  infer_instance
noncomputable instance {σ : Type} (step : σ → ((List UInt8) × Int × Int × (List UInt8)) → Option σ) [∀ x0 x1, Mi (step x0 x1)] (y0) (y1) (y2) : Mi (shapes_leaves step y0 y1 y2) := by delta shapes_leaves; infer_instance
noncomputable instance (a0 : (List UInt8) × Int × Int × (List UInt8)) (a1 : List (List UInt8)) : Mi (shapes_Paths_1 a0 a1) := by delta shapes_Paths_1; infer_instance
noncomputable instance (s : List (List UInt8)) (x : Lf) : Mi (pathStep s x) := by delta pathStep; infer_instance
noncomputable def shapes_Paths_is (a0 : Go.L.Pv) : Option ((List (List UInt8)) × (Int × Int)) := 
  Option.bind (value_Validate a0) (fun x3 => if x3.1 = (0 : Int) ∧ x3.2 = (0 : Int) then Option.bind (shapes_leaves pathStep a0 ([] : List (List UInt8)) ([] : List (List UInt8))) (fun x18 => Go.L.chk (x18.length < 4611686018427387904) (Go.L.chk ((isS x18).length ≤ 9223372036854775807) (some ((Lib.compact (isS x18)), ((0 : Int), (0 : Int)))))) else some ([], (x3.1, x3.2)))
theorem shapes_Paths_isE : @shapes_Paths_is = @shapes_Paths := by
  unfold shapes_Paths_is shapes_Paths
  simp only [isS_eq, isI_eq]
noncomputable instance (a0 : Go.L.Pv) : Mi (shapes_Paths_is a0) := by delta shapes_Paths_is; infer_instance
noncomputable instance (a0 : Go.L.Pv) : Mi (shapes_Paths a0) := ⟨(inferInstance : Mi (shapes_Paths_is a0)).c, by rw [← shapes_Paths_isE]; exact (inferInstance : Mi (shapes_Paths_is a0)).h⟩
noncomputable instance (i : Int) (l : List (Lf × List Int)) (x : Lf) : Mi (buildStep i l x) := by delta buildStep; infer_instance
noncomputable instance (a0 : List Int) : Mi (slices_Clone_int_int a0) := by delta slices_Clone_int_int; infer_instance
noncomputable instance (l16 : List UInt8) : Mi (wslice_Number_k1 l16) := by delta wslice_Number_k1; infer_instance
noncomputable instance (a0 : List Int) (s) : Mi (wslice_Number_bl2 a0 s) := by obtain ⟨l30, s13_31⟩ := s; delta wslice_Number_bl2; dsimp only; infer_instance
noncomputable instance (a0 : List Int) (s : (List UInt8) × Int) : Mi (wslice_Number_l2 a0 s) := by delta wslice_Number_l2; infer_instance
noncomputable instance (a0 : List Int) : Mi (wslice_Number a0) := by delta wslice_Number; infer_instance
noncomputable instance (a1 : Int) : Mi (slices_Grow_byte_byte_k1 a1) := by delta slices_Grow_byte_byte_k1; infer_instance
noncomputable instance (_a0 : List UInt8) (a1 : Int) : Mi (slices_Grow_byte_byte _a0 a1) := by delta slices_Grow_byte_byte; infer_instance
noncomputable instance (l57 : List UInt8) : Mi (slices_Concat_byte_byte_k3 l57) := by delta slices_Concat_byte_byte_k3; infer_instance
noncomputable instance (a0 : List (List UInt8)) (s) : Mi (slices_Concat_byte_byte_bl4 a0 s) := by obtain ⟨l69, s27_70⟩ := s; delta slices_Concat_byte_byte_bl4; dsimp only; infer_instance
noncomputable instance (a0 : List (List UInt8)) (s : (List UInt8) × Int) : Mi (slices_Concat_byte_byte_l4 a0 s) := by delta slices_Concat_byte_byte_l4; infer_instance
noncomputable instance (a0 : List (List UInt8)) (s3_15 : Int) : Mi (slices_Concat_byte_byte_k1 a0 s3_15) := by delta slices_Concat_byte_byte_k1; infer_instance
noncomputable instance (a0 : List (List UInt8)) (s) : Mi (slices_Concat_byte_byte_bl2 a0 s) := by obtain ⟨s3_29, s11_30⟩ := s; delta slices_Concat_byte_byte_bl2; dsimp only; infer_instance
noncomputable instance (a0 : List (List UInt8)) (s : Int × Int) : Mi (slices_Concat_byte_byte_l2 a0 s) := by delta slices_Concat_byte_byte_l2; infer_instance
noncomputable instance (a0 : List (List UInt8)) : Mi (slices_Concat_byte_byte a0) := by delta slices_Concat_byte_byte; infer_instance
noncomputable instance (l117 : List UInt8) : Mi (shapes_form_k1 l117) := by delta shapes_form_k1; infer_instance
noncomputable instance (a0 : ((List UInt8) × Int × Int × (List UInt8)) × (List Int)) : Mi (shapes_form a0) := by delta shapes_form; infer_instance
noncomputable instance (l18 : List UInt8) : Mi (wslice_form_k1 l18) := by delta wslice_form_k1; infer_instance
noncomputable instance (a0 : List (((List UInt8) × Int × Int × (List UInt8)) × (List Int))) (s) : Mi (wslice_form_bl2 a0 s) := by obtain ⟨l34, s13_35⟩ := s; delta wslice_form_bl2; dsimp only; infer_instance
noncomputable instance (a0 : List (((List UInt8) × Int × Int × (List UInt8)) × (List Int))) (s : (List UInt8) × Int) : Mi (wslice_form_l2 a0 s) := by delta wslice_form_l2; infer_instance
noncomputable instance (a0 : List (((List UInt8) × Int × Int × (List UInt8)) × (List Int))) : Mi (wslice_form a0) := by delta wslice_form; infer_instance
noncomputable instance (a0 : Int × (List (((List UInt8) × Int × Int × (List UInt8)) × (List Int)))) : Mi (shapes_Index_Bytes a0) := by delta shapes_Index_Bytes; infer_instance
noncomputable instance (a0 : Int) (l71 : List (((List UInt8) × Int × Int × (List UInt8)) × (List Int))) : Mi (shapes_build_k1 a0 l71) := by delta shapes_build_k1; infer_instance
noncomputable def shapes_build_bl2_is (a0 : Int) (a1 : List (((List UInt8) × Int × Int × (List UInt8)) × (List Int))) (x74 : (List ((List UInt8) × Int × Int × (List UInt8)))) : (List (((List UInt8) × Int × Int × (List UInt8)) × (List Int))) × Int → Option (((List (((List UInt8) × Int × Int × (List UInt8)) × (List Int))) × Int) ⊕ ((Int × (List (((List UInt8) × Int × Int × (List UInt8)) × (List Int)))) × (Int × Int))) := fun ⟨l102, s15_103⟩ =>
  if s15_103 < (x74.length : Int) then Go.L.chk (0 ≤ s15_103 ∧ s15_103 < (x74.length : Int)) (Option.bind (slices_Clone_int_int (Go.L.mget [] ((x74.getD s15_103.toNat default).1, (x74.getD s15_103.toNat default).2.1, (x74.getD s15_103.toNat default).2.2.1, (x74.getD s15_103.toNat default).2.2.2) a1)) (fun x114 => Go.L.chk (x114.length < 4611686018427387904) (Go.L.chk ((isI x114).length ≤ 9223372036854775807) (Go.L.chk (Go.E.Cap 72 (l102.length + ([(((x74.getD s15_103.toNat default).1, (x74.getD s15_103.toNat default).2.1, (x74.getD s15_103.toNat default).2.2.1, (x74.getD s15_103.toNat default).2.2.2), (Lib.compact (isI x114)))]).length)) (Go.L.chk (Go.L.I64 (s15_103 + (1 : Int))) (some (Sum.inl ((l102 ++ [(((x74.getD s15_103.toNat default).1, (x74.getD s15_103.toNat default).2.1, (x74.getD s15_103.toNat default).2.2.1, (x74.getD s15_103.toNat default).2.2.2), (Lib.compact (isI x114)))]), (s15_103 + (1 : Int)))))))))) else Option.map Sum.inr ((shapes_build_k1 a0) l102)
theorem shapes_build_bl2_isE : @shapes_build_bl2_is = @shapes_build_bl2 := by
  unfold shapes_build_bl2_is shapes_build_bl2
  simp only [isS_eq, isI_eq]
noncomputable instance (a0 : Int) (a1 : List (((List UInt8) × Int × Int × (List UInt8)) × (List Int))) (x74 : (List ((List UInt8) × Int × Int × (List UInt8)))) (s) : Mi (shapes_build_bl2_is a0 a1 x74 s) := by obtain ⟨l102, s15_103⟩ := s; delta shapes_build_bl2_is; dsimp only; infer_instance
noncomputable instance (a0 : Int) (a1 : List (((List UInt8) × Int × Int × (List UInt8)) × (List Int))) (x74 : (List ((List UInt8) × Int × Int × (List UInt8)))) (s) : Mi (shapes_build_bl2 a0 a1 x74 s) := ⟨(inferInstance : Mi (shapes_build_bl2_is a0 a1 x74 s)).c, by rw [← shapes_build_bl2_isE]; exact (inferInstance : Mi (shapes_build_bl2_is a0 a1 x74 s)).h⟩
noncomputable instance (a0 : Int) (a1 : List (((List UInt8) × Int × Int × (List UInt8)) × (List Int))) (x74 : (List ((List UInt8) × Int × Int × (List UInt8)))) (s : (List (((List UInt8) × Int × Int × (List UInt8)) × (List Int))) × Int) : Mi (shapes_build_l2 a0 a1 x74 s) := by delta shapes_build_l2; infer_instance
noncomputable instance (a0 : Int) (a1 : List (((List UInt8) × Int × Int × (List UInt8)) × (List Int))) : Mi (shapes_build a0 a1) := by delta shapes_build; infer_instance
noncomputable instance (a0 : List Go.L.Pv) (l68 : List (((List UInt8) × Int × Int × (List UInt8)) × (List Int))) : Mi (shapes_Build_k1 a0 l68) := by delta shapes_Build_k1; infer_instance
noncomputable instance (a0 : List Go.L.Pv) (s) : Mi (shapes_Build_bl2 a0 s) := by obtain ⟨l97, s16_98⟩ := s; delta shapes_Build_bl2; dsimp only; infer_instance
noncomputable instance (a0 : List Go.L.Pv) (s : (List (((List UInt8) × Int × Int × (List UInt8)) × (List Int))) × Int) : Mi (shapes_Build_l2 a0 s) := by delta shapes_Build_l2; infer_instance
noncomputable instance (a0 : List Go.L.Pv) : Mi (shapes_Build a0) := by delta shapes_Build; infer_instance
noncomputable instance (a0 : ((List UInt8) × Int × Int × (List UInt8)) × (List Int)) (a1 : Int) (a2 : Int) : Mi (shapes_Index_Number_1 a0 a1 a2) := by delta shapes_Index_Number_1; infer_instance
noncomputable def shapes_Index_collect_s2_k1_is (l58 : List Int) (c59 : Int) (c60 : Int) : Option ((List Int) × Int × Int) := 
  Go.L.chk (l58.length < 4611686018427387904) (Go.L.chk ((isI l58).length ≤ 9223372036854775807) (some ((Lib.compact (isI l58)), c59, c60)))
theorem shapes_Index_collect_s2_k1_isE : @shapes_Index_collect_s2_k1_is = @shapes_Index_collect_s2_k1 := by
  unfold shapes_Index_collect_s2_k1_is shapes_Index_collect_s2_k1
  simp only [isS_eq, isI_eq]
noncomputable instance (l58 : List Int) (c59 : Int) (c60 : Int) : Mi (shapes_Index_collect_s2_k1_is l58 c59 c60) := by delta shapes_Index_collect_s2_k1_is; infer_instance
noncomputable instance (l58 : List Int) (c59 : Int) (c60 : Int) : Mi (shapes_Index_collect_s2_k1 l58 c59 c60) := ⟨(inferInstance : Mi (shapes_Index_collect_s2_k1_is l58 c59 c60)).c, by rw [← shapes_Index_collect_s2_k1_isE]; exact (inferInstance : Mi (shapes_Index_collect_s2_k1_is l58 c59 c60)).h⟩
noncomputable instance (a0 : Int × (List (((List UInt8) × Int × Int × (List UInt8)) × (List Int)))) (a1 : List UInt8) (s) : Mi (shapes_Index_collect_s2_bl2 a0 a1 s) := by obtain ⟨l88, c89, c90, s13_91⟩ := s; delta shapes_Index_collect_s2_bl2; dsimp only; infer_instance
noncomputable instance (a0 : Int × (List (((List UInt8) × Int × Int × (List UInt8)) × (List Int)))) (a1 : List UInt8) (s : (List Int) × Int × Int × Int) : Mi (shapes_Index_collect_s2_l2 a0 a1 s) := by delta shapes_Index_collect_s2_l2; infer_instance
noncomputable instance (a0 : Int × (List (((List UInt8) × Int × Int × (List UInt8)) × (List Int)))) (a1 : List UInt8) (a2_c0 : Int) (a2_c1 : Int) : Mi (shapes_Index_collect_s2 a0 a1 a2_c0 a2_c1) := by delta shapes_Index_collect_s2; infer_instance
noncomputable instance (a0 : Int × (List (((List UInt8) × Int × Int × (List UInt8)) × (List Int)))) (a1 : List UInt8) (a2 : Int) (a3 : Int) : Mi (shapes_Index_Number a0 a1 a2 a3) := by delta shapes_Index_Number; infer_instance
noncomputable instance (_a0 : ((List UInt8) × Int × Int × (List UInt8)) × (List Int)) : Mi (shapes_Index_Find_1 _a0) := by delta shapes_Index_Find_1; infer_instance
noncomputable def shapes_Index_collect_k1_is (l54 : List Int) : Option ((List Int)) := 
  Go.L.chk (l54.length < 4611686018427387904) (Go.L.chk ((isI l54).length ≤ 9223372036854775807) (some ((Lib.compact (isI l54)))))
theorem shapes_Index_collect_k1_isE : @shapes_Index_collect_k1_is = @shapes_Index_collect_k1 := by
  unfold shapes_Index_collect_k1_is shapes_Index_collect_k1
  simp only [isS_eq, isI_eq]
noncomputable instance (l54 : List Int) : Mi (shapes_Index_collect_k1_is l54) := by delta shapes_Index_collect_k1_is; infer_instance
noncomputable instance (l54 : List Int) : Mi (shapes_Index_collect_k1 l54) := ⟨(inferInstance : Mi (shapes_Index_collect_k1_is l54)).c, by rw [← shapes_Index_collect_k1_isE]; exact (inferInstance : Mi (shapes_Index_collect_k1_is l54)).h⟩
noncomputable instance (a0 : Int × (List (((List UInt8) × Int × Int × (List UInt8)) × (List Int)))) (a1 : List UInt8) (s) : Mi (shapes_Index_collect_bl2 a0 a1 s) := by obtain ⟨l81, s13_82⟩ := s; delta shapes_Index_collect_bl2; dsimp only; infer_instance
noncomputable instance (a0 : Int × (List (((List UInt8) × Int × Int × (List UInt8)) × (List Int)))) (a1 : List UInt8) (s : (List Int) × Int) : Mi (shapes_Index_collect_l2 a0 a1 s) := by delta shapes_Index_collect_l2; infer_instance
noncomputable instance (a0 : Int × (List (((List UInt8) × Int × Int × (List UInt8)) × (List Int)))) (a1 : List UInt8) : Mi (shapes_Index_collect a0 a1) := by delta shapes_Index_collect; infer_instance
noncomputable instance (a0 : Int × (List (((List UInt8) × Int × Int × (List UInt8)) × (List Int)))) (a1 : List UInt8) : Mi (shapes_Index_Find a0 a1) := by delta shapes_Index_Find; infer_instance
noncomputable instance (a0 : ((List UInt8) × Int × Int × (List UInt8)) × (List Int)) (a1 : List UInt8) : Mi (shapes_Index_Text_1 a0 a1) := by delta shapes_Index_Text_1; infer_instance
noncomputable def shapes_Index_collect_s3_k1_is (l59 : List Int) (c60 : List UInt8) : Option ((List Int) × (List UInt8)) := 
  Go.L.chk (l59.length < 4611686018427387904) (Go.L.chk ((isI l59).length ≤ 9223372036854775807) (some ((Lib.compact (isI l59)), c60)))
theorem shapes_Index_collect_s3_k1_isE : @shapes_Index_collect_s3_k1_is = @shapes_Index_collect_s3_k1 := by
  unfold shapes_Index_collect_s3_k1_is shapes_Index_collect_s3_k1
  simp only [isS_eq, isI_eq]
noncomputable instance (l59 : List Int) (c60 : List UInt8) : Mi (shapes_Index_collect_s3_k1_is l59 c60) := by delta shapes_Index_collect_s3_k1_is; infer_instance
noncomputable instance (l59 : List Int) (c60 : List UInt8) : Mi (shapes_Index_collect_s3_k1 l59 c60) := ⟨(inferInstance : Mi (shapes_Index_collect_s3_k1_is l59 c60)).c, by rw [← shapes_Index_collect_s3_k1_isE]; exact (inferInstance : Mi (shapes_Index_collect_s3_k1_is l59 c60)).h⟩
noncomputable instance (a0 : Int × (List (((List UInt8) × Int × Int × (List UInt8)) × (List Int)))) (a1 : List UInt8) (s) : Mi (shapes_Index_collect_s3_bl2 a0 a1 s) := by obtain ⟨l89, c90, s13_91⟩ := s; delta shapes_Index_collect_s3_bl2; dsimp only; infer_instance
noncomputable instance (a0 : Int × (List (((List UInt8) × Int × Int × (List UInt8)) × (List Int)))) (a1 : List UInt8) (s : (List Int) × (List UInt8) × Int) : Mi (shapes_Index_collect_s3_l2 a0 a1 s) := by delta shapes_Index_collect_s3_l2; infer_instance
noncomputable instance (a0 : Int × (List (((List UInt8) × Int × Int × (List UInt8)) × (List Int)))) (a1 : List UInt8) (a2_c0 : List UInt8) : Mi (shapes_Index_collect_s3 a0 a1 a2_c0) := by delta shapes_Index_collect_s3; infer_instance
noncomputable instance (a0 : Int × (List (((List UInt8) × Int × Int × (List UInt8)) × (List Int)))) (a1 : List UInt8) (a2 : List UInt8) : Mi (shapes_Index_Text a0 a1 a2) := by delta shapes_Index_Text; infer_instance
noncomputable instance (a0 : Int) (a1 : Int) : Mi (wire_fault a0 a1) := by delta wire_fault; infer_instance
noncomputable instance (a1 : Int) : Mi (wire_ReadNumber_k1 a1) := by delta wire_ReadNumber_k1; infer_instance
noncomputable instance (a0 : List UInt8) (a1 : Int) (s) : Mi (wire_ReadNumber_bl2 a0 a1 s) := by obtain ⟨s7_160, s19_161⟩ := s; delta wire_ReadNumber_bl2; dsimp only; repeat' first | (show Mi _; infer_instance) | refine @iB _ _ _ _ ?_ (fun _ => ?_) | refine @iC _ _ _ _ ?_ | refine @iI _ _ _ _ _ ?_ ?_
noncomputable instance (a0 : List UInt8) (a1 : Int) (s : Int × Int) : Mi (wire_ReadNumber_l2 a0 a1 s) := by delta wire_ReadNumber_l2; infer_instance
noncomputable instance (a0 : List UInt8) (a1 : Int) : Mi (wire_ReadNumber a0 a1) := by delta wire_ReadNumber; infer_instance
noncomputable instance (c26 : Int) (c27 : Int) (c28 : Int) : Mi (shapes_Open_k1 c26 c27 c28) := by delta shapes_Open_k1; infer_instance
noncomputable instance (a0 : List UInt8) (a1 : Int) : Mi (wire_ReadChunk a0 a1) := by delta wire_ReadChunk; infer_instance
noncomputable instance (l65 : List Int) (s12_66 : Int) : Mi (wreads_Number_k1 l65 s12_66) := by delta wreads_Number_k1; infer_instance
noncomputable instance (a0 : List UInt8) (x2 : Int × Int × (Int × Int)) (s) : Mi (wreads_Number_bl2 a0 x2 s) := by obtain ⟨l89, s12_90, s41_91⟩ := s; delta wreads_Number_bl2; dsimp only; infer_instance
noncomputable instance (a0 : List UInt8) (x2 : Int × Int × (Int × Int)) (s : (List Int) × Int × Int) : Mi (wreads_Number_l2 a0 x2 s) := by delta wreads_Number_l2; infer_instance
noncomputable instance (a0 : List UInt8) (a1 : Int) (a2 : Int) : Mi (wreads_Number a0 a1 a2) := by delta wreads_Number; infer_instance
noncomputable instance (x111 : (List Int) × Int × (Int × Int)) (c123 : List UInt8) (c124 : Int) (c125 : Int) (c126 : List UInt8) (s5_128 : Int) : Mi (shapes_readEntry_k5 x111 c123 c124 c125 c126 s5_128) := by delta shapes_readEntry_k5; infer_instance
noncomputable instance (x84 : (List UInt8) × Int × (Int × Int)) (c95 : List UInt8) (c96 : Int) (c97 : Int) (c98 : List UInt8) (s5_100 : Int) : Mi (shapes_readEntry_k4 x84 c95 c96 c97 c98 s5_100) := by delta shapes_readEntry_k4; infer_instance
noncomputable instance (x57 : Int × Int × (Int × Int)) (c69 : List UInt8) (c70 : Int) (c71 : Int) (c72 : List UInt8) (s5_74 : Int) : Mi (shapes_readEntry_k3 x57 c69 c70 c71 c72 s5_74) := by delta shapes_readEntry_k3; infer_instance
noncomputable instance (x30 : Int × Int × (Int × Int)) (c42 : List UInt8) (c43 : Int) (c44 : Int) (c45 : List UInt8) (s5_47 : Int) : Mi (shapes_readEntry_k2 x30 c42 c43 c44 c45 s5_47) := by delta shapes_readEntry_k2; infer_instance
noncomputable instance (x3 : (List UInt8) × Int × (Int × Int)) (c14 : List UInt8) (c15 : Int) (c16 : Int) (c17 : List UInt8) (s5_19 : Int) : Mi (shapes_readEntry_k1 x3 c14 c15 c16 c17 s5_19) := by delta shapes_readEntry_k1; infer_instance
noncomputable instance (a0 : List UInt8) (a1 : Int) : Mi (shapes_readEntry a0 a1) := by delta shapes_readEntry; infer_instance
noncomputable instance (l69 : List (((List UInt8) × Int × Int × (List UInt8)) × (List Int))) (s12_70 : Int) : Mi (wreads_entry_k1 l69 s12_70) := by delta wreads_entry_k1; infer_instance
noncomputable instance (a0 : List UInt8) (x2 : Int × Int × (Int × Int)) (s) : Mi (wreads_entry_bl2 a0 x2 s) := by obtain ⟨l95, s12_96, s41_97⟩ := s; delta wreads_entry_bl2; dsimp only; infer_instance
noncomputable instance (a0 : List UInt8) (x2 : Int × Int × (Int × Int)) (s : (List (((List UInt8) × Int × Int × (List UInt8)) × (List Int))) × Int × Int) : Mi (wreads_entry_l2 a0 x2 s) := by delta wreads_entry_l2; infer_instance
noncomputable instance (a0 : List UInt8) (a1 : Int) (a2 : Int) : Mi (wreads_entry a0 a1 a2) := by delta wreads_entry; infer_instance
noncomputable instance  : Mi (shapes_entry_valid_k1) := by delta shapes_entry_valid_k1; infer_instance
noncomputable instance (a0 : ((List UInt8) × Int × Int × (List UInt8)) × (List Int)) (a1 : Int) (s) : Mi (shapes_entry_valid_bl2 a0 a1 s) := by delta shapes_entry_valid_bl2; infer_instance
noncomputable instance (a0 : ((List UInt8) × Int × Int × (List UInt8)) × (List Int)) (a1 : Int) (s : Int) : Mi (shapes_entry_valid_l2 a0 a1 s) := by delta shapes_entry_valid_l2; infer_instance
noncomputable instance  : Mi (shapes_entry_valid_k3) := by delta shapes_entry_valid_k3; infer_instance
noncomputable instance (a0 : ((List UInt8) × Int × Int × (List UInt8)) × (List Int)) (a1 : Int) (s) : Mi (shapes_entry_valid_bl4 a0 a1 s) := by delta shapes_entry_valid_bl4; infer_instance
noncomputable instance (a0 : ((List UInt8) × Int × Int × (List UInt8)) × (List Int)) (a1 : Int) (s : Int) : Mi (shapes_entry_valid_l4 a0 a1 s) := by delta shapes_entry_valid_l4; infer_instance
noncomputable instance  : Mi (shapes_entry_valid_k5) := by delta shapes_entry_valid_k5; infer_instance
noncomputable instance (a0 : ((List UInt8) × Int × Int × (List UInt8)) × (List Int)) (a1 : Int) (s) : Mi (shapes_entry_valid_bl6 a0 a1 s) := by delta shapes_entry_valid_bl6; infer_instance
noncomputable instance (a0 : ((List UInt8) × Int × Int × (List UInt8)) × (List Int)) (a1 : Int) (s : Int) : Mi (shapes_entry_valid_l6 a0 a1 s) := by delta shapes_entry_valid_l6; infer_instance
noncomputable instance  : Mi (shapes_entry_valid_k19) := by delta shapes_entry_valid_k19; infer_instance
noncomputable instance (a0 : ((List UInt8) × Int × Int × (List UInt8)) × (List Int)) (a1 : Int) (s) : Mi (shapes_entry_valid_bl20 a0 a1 s) := by delta shapes_entry_valid_bl20; infer_instance
noncomputable instance (a0 : ((List UInt8) × Int × Int × (List UInt8)) × (List Int)) (a1 : Int) (s : Int) : Mi (shapes_entry_valid_l20 a0 a1 s) := by delta shapes_entry_valid_l20; infer_instance
noncomputable instance  : Mi (shapes_entry_valid_k17) := by delta shapes_entry_valid_k17; infer_instance
noncomputable instance (a0 : ((List UInt8) × Int × Int × (List UInt8)) × (List Int)) (a1 : Int) (s) : Mi (shapes_entry_valid_bl18 a0 a1 s) := by delta shapes_entry_valid_bl18; infer_instance
noncomputable instance (a0 : ((List UInt8) × Int × Int × (List UInt8)) × (List Int)) (a1 : Int) (s : Int) : Mi (shapes_entry_valid_l18 a0 a1 s) := by delta shapes_entry_valid_l18; infer_instance
noncomputable instance  : Mi (shapes_entry_valid_k15) := by delta shapes_entry_valid_k15; infer_instance
noncomputable instance (a0 : ((List UInt8) × Int × Int × (List UInt8)) × (List Int)) (a1 : Int) (s) : Mi (shapes_entry_valid_bl16 a0 a1 s) := by delta shapes_entry_valid_bl16; infer_instance
noncomputable instance (a0 : ((List UInt8) × Int × Int × (List UInt8)) × (List Int)) (a1 : Int) (s : Int) : Mi (shapes_entry_valid_l16 a0 a1 s) := by delta shapes_entry_valid_l16; infer_instance
noncomputable instance  : Mi (shapes_entry_valid_k13) := by delta shapes_entry_valid_k13; infer_instance
noncomputable instance (a0 : ((List UInt8) × Int × Int × (List UInt8)) × (List Int)) (a1 : Int) (s) : Mi (shapes_entry_valid_bl14 a0 a1 s) := by delta shapes_entry_valid_bl14; infer_instance
noncomputable instance (a0 : ((List UInt8) × Int × Int × (List UInt8)) × (List Int)) (a1 : Int) (s : Int) : Mi (shapes_entry_valid_l14 a0 a1 s) := by delta shapes_entry_valid_l14; infer_instance
noncomputable instance  : Mi (shapes_entry_valid_k11) := by delta shapes_entry_valid_k11; infer_instance
noncomputable instance (a0 : ((List UInt8) × Int × Int × (List UInt8)) × (List Int)) (a1 : Int) (s) : Mi (shapes_entry_valid_bl12 a0 a1 s) := by delta shapes_entry_valid_bl12; infer_instance
noncomputable instance (a0 : ((List UInt8) × Int × Int × (List UInt8)) × (List Int)) (a1 : Int) (s : Int) : Mi (shapes_entry_valid_l12 a0 a1 s) := by delta shapes_entry_valid_l12; infer_instance
noncomputable instance  : Mi (shapes_entry_valid_k9) := by delta shapes_entry_valid_k9; infer_instance
noncomputable instance (a0 : ((List UInt8) × Int × Int × (List UInt8)) × (List Int)) (a1 : Int) (s) : Mi (shapes_entry_valid_bl10 a0 a1 s) := by delta shapes_entry_valid_bl10; infer_instance
noncomputable instance (a0 : ((List UInt8) × Int × Int × (List UInt8)) × (List Int)) (a1 : Int) (s : Int) : Mi (shapes_entry_valid_l10 a0 a1 s) := by delta shapes_entry_valid_l10; infer_instance
noncomputable instance  : Mi (shapes_entry_valid_k7) := by delta shapes_entry_valid_k7; infer_instance
noncomputable instance (a0 : ((List UInt8) × Int × Int × (List UInt8)) × (List Int)) (a1 : Int) (s) : Mi (shapes_entry_valid_bl8 a0 a1 s) := by delta shapes_entry_valid_bl8; infer_instance
noncomputable instance (a0 : ((List UInt8) × Int × Int × (List UInt8)) × (List Int)) (a1 : Int) (s : Int) : Mi (shapes_entry_valid_l8 a0 a1 s) := by delta shapes_entry_valid_l8; infer_instance
noncomputable instance (a0 : ((List UInt8) × Int × Int × (List UInt8)) × (List Int)) (a1 : Int) : Mi (shapes_entry_valid a0 a1) := by delta shapes_entry_valid; infer_instance
noncomputable instance (c255 : Int) (c256 : Int) (c257 : Int) : Mi (shapes_Open_k5 c255 c256 c257) := by delta shapes_Open_k5; infer_instance
noncomputable instance (a0 : List UInt8) (a1 : List UInt8) : Mi (internal_bytealg_CompareString a0 a1) := by delta internal_bytealg_CompareString; infer_instance
noncomputable instance (a0 : List UInt8) (a1 : List UInt8) : Mi (strings_Compare a0 a1) := by delta strings_Compare; infer_instance
noncomputable instance (a0 : Int) : Mi (cmp_isNaN_int a0) := by delta cmp_isNaN_int; infer_instance
noncomputable instance (a0 : Int) (a1 : Int) : Mi (cmp_Compare_int a0 a1) := by delta cmp_Compare_int; infer_instance
noncomputable instance  : Mi (cmp_Or_int_k1) := by delta cmp_Or_int_k1; infer_instance
noncomputable instance (a0 : List Int) (s) : Mi (cmp_Or_int_bl2 a0 s) := by delta cmp_Or_int_bl2; infer_instance
noncomputable instance (a0 : List Int) (s : Int) : Mi (cmp_Or_int_l2 a0 s) := by delta cmp_Or_int_l2; infer_instance
noncomputable instance (a0 : List Int) : Mi (cmp_Or_int a0) := by delta cmp_Or_int; infer_instance
noncomputable instance (a0 : (List UInt8) × Int × Int × (List UInt8)) (a1 : (List UInt8) × Int × Int × (List UInt8)) : Mi (shapes_leaf_compare a0 a1) := by delta shapes_leaf_compare; infer_instance
noncomputable instance (c286 : Int) (c287 : Int) (c288 : Int) : Mi (shapes_Open_k6 c286 c287 c288) := by delta shapes_Open_k6; infer_instance
noncomputable instance (a0 : List UInt8) (a1 : List UInt8) : Mi (bytes_Equal a0 a1) := by delta bytes_Equal; infer_instance
noncomputable instance (c322 : Int) (c323 : Int) (c324 : Int) : Mi (shapes_Open_k7 c322 c323 c324) := by delta shapes_Open_k7; infer_instance
noncomputable instance (a0 : List UInt8) (x10 : (Int × Int)) (x14 : Int × Int × (Int × Int)) (x39 : (List (((List UInt8) × Int × Int × (List UInt8)) × (List Int))) × Int × (Int × Int)) : Mi (shapes_Open_k3 a0 x10 x14 x39) := by delta shapes_Open_k3; infer_instance
noncomputable instance (a0 : List UInt8) (x10 : (Int × Int)) (x14 : Int × Int × (Int × Int)) (x39 : (List (((List UInt8) × Int × Int × (List UInt8)) × (List Int))) × Int × (Int × Int)) (s) : Mi (shapes_Open_bl4 a0 x10 x14 x39 s) := by delta shapes_Open_bl4; infer_instance
noncomputable instance (a0 : List UInt8) (x10 : (Int × Int)) (x14 : Int × Int × (Int × Int)) (x39 : (List (((List UInt8) × Int × Int × (List UInt8)) × (List Int))) × Int × (Int × Int)) (s : Int) : Mi (shapes_Open_l4 a0 x10 x14 x39 s) := by delta shapes_Open_l4; infer_instance
noncomputable instance (c50 : Int) (c51 : Int) (c52 : Int) : Mi (shapes_Open_k2 c50 c51 c52) := by delta shapes_Open_k2; infer_instance
noncomputable instance (a0 : List UInt8) : Mi (shapes_Open a0) := by delta shapes_Open; infer_instance
noncomputable instance  : Mi (ref4_Texts_k1) := by delta ref4_Texts_k1; infer_instance
noncomputable instance (a0 : List (List UInt8)) (a1 : List (List UInt8)) (s) : Mi (ref4_Texts_bl2 a0 a1 s) := by delta ref4_Texts_bl2; infer_instance
noncomputable instance (a0 : List (List UInt8)) (a1 : List (List UInt8)) (s : Int) : Mi (ref4_Texts_l2 a0 a1 s) := by delta ref4_Texts_l2; infer_instance
noncomputable instance (a0 : List (List UInt8)) (a1 : List (List UInt8)) : Mi (ref4_Texts a0 a1) := by delta ref4_Texts; infer_instance
noncomputable instance  : Mi (ref3_Ints_k1) := by delta ref3_Ints_k1; infer_instance
noncomputable instance (a0 : List Int) (a1 : List Int) (s) : Mi (ref3_Ints_bl2 a0 a1 s) := by delta ref3_Ints_bl2; infer_instance
noncomputable instance (a0 : List Int) (a1 : List Int) (s : Int) : Mi (ref3_Ints_l2 a0 a1 s) := by delta ref3_Ints_l2; infer_instance
noncomputable instance (a0 : List Int) (a1 : List Int) : Mi (ref3_Ints a0 a1) := by delta ref3_Ints; infer_instance
noncomputable instance (a0 : Int × (List (((List UInt8) × Int × Int × (List UInt8)) × (List Int)))) : Mi (shapes_Index_Items a0) := by delta shapes_Index_Items; infer_instance
noncomputable instance (a0 : Int) (a1 : Int) : Mi (ref3_At a0 a1) := by delta ref3_At; infer_instance
noncomputable instance  : Mi (law4_shaped) := by delta law4_shaped; repeat' first | (show Mi _; infer_instance) | refine @iB _ _ _ _ ?_ (fun _ => ?_) | refine @iC _ _ _ _ ?_ | refine @iI _ _ _ _ _ ?_ ?_
theorem shaped_true : law4_shaped = some true := (inferInstance : Mi law4_shaped).h true (by kernel_rfl)
end Go.Proofs.YtmfiaecglndldaaGreatDoor
end
section
namespace Go.Proofs.YtmfiaecglndldaaGreatDoor
open Go Go.L
theorem bres_cases (n : Int) (M : List (Lf × List Int)) : (16384 < (iform n (kIdx M)).length ∧ bres n M = ((0, []), (14, -1))) ∨ ((iform n (kIdx M)).length ≤ 16384 ∧ bres n M = ((n, kIdx M), (0, 0))) := by
  unfold bres
  by_cases h : 16384 < (iform n (kIdx M)).length
  · rw [if_pos h]; exact .inl ⟨h, rfl⟩
  · rw [if_neg h]; exact .inr ⟨by omega, rfl⟩
end Go.Proofs.YtmfiaecglndldaaGreatDoor
end
section
namespace Go.Proofs.YtmfiaecglndldaaGreatDoor
open Go Go.E Go.RowKit
set_option maxHeartbeats 1000000
set_option maxRecDepth 10000
open _root_.Go.Proofs.Tryz
noncomputable def law4_ShapesOpenRefusesChanges_k1 (a2 : List UInt8) (x29 : (List UInt8)) : Option (Bool) :=
 if (a2.length : Int) = (0 : Int) then some (decide ((0 : Int) < (x29.length : Int))) else Go.L.chk (Go.L.I64 ((x29.length : Int) + (a2.length : Int))) (if (16384 : Int) < ((x29.length : Int) + (a2.length : Int)) then some (decide ((0 : Int) < (x29.length : Int))) else Go.L.chk (Go.E.Cap 1 (([] : List UInt8).length + x29.length)) (Go.L.chk (Go.E.Cap 1 ((([] : List UInt8) ++ x29).length + a2.length)) (Option.bind (shapes_Open ((([] : List UInt8) ++ x29) ++ a2)) (fun x113 => Option.bind (ref3_At (16 : Int) (-1 : Int)) (fun x121 => if x113.2.1 = x121.1 ∧ x113.2.2 = x121.2 then Option.bind (shapes_Index_Items (x113.1.1, x113.1.2)) (fun x125 => some (decide (x125 = (0 : Int)))) else some (false))))))
noncomputable def law4_ShapesOpenRefusesChanges (a0 : List Go.L.Pv) (a1 : Int) (a2 : List UInt8) : Option (Bool) :=
 Option.bind (shapes_Build a0) (fun x1 => Option.bind (law4_shaped) (fun x7 => if !x7 then Option.bind (law4_shaped) (fun x11 => if x11 then Option.bind (shapes_Index_Items (x1.1.1, x1.1.2)) (fun x15 => some (decide (x15 = (0 : Int)))) else some (false)) else if x1.2.1 = (0 : Int) then Option.bind (shapes_Index_Bytes (x1.1.1, x1.1.2)) (fun x29 => Go.L.chk (Go.L.I64 ((x29.length : Int) - (1 : Int))) (Option.bind (ref3_In a1 (0 : Int) ((x29.length : Int) - (1 : Int))) (fun x66 => if x66 then Go.L.chk (0 ≤ a1 ∧ a1 ≤ (x29.length : Int)) (Option.bind (shapes_Open (x29.take a1.toNat)) (fun x72 => Option.bind (ref3_At (16 : Int) (-1 : Int)) (fun x81 => if x72.2.1 = x81.1 ∧ x72.2.2 = x81.2 then Option.bind (shapes_Index_Items (x72.1.1, x72.1.2)) (fun x88 => if x88 = (0 : Int) then (law4_ShapesOpenRefusesChanges_k1 a2 x29) else some (false)) else some (false)))) else (law4_ShapesOpenRefusesChanges_k1 a2 x29)))) else Option.bind (law4_shaped) (fun x21 => if x21 then Option.bind (shapes_Index_Items (x1.1.1, x1.1.2)) (fun x25 => some (decide (x25 = (0 : Int)))) else some (false))))
theorem law4_ShapesOpenRefusesChanges_ok (w : World) (H : PH) (hH : Le H (hp w)) {a0 : List Go.L.Pv} {a1 : Int} {a2 : List UInt8} {v0_0 : Value} {v2_0 : Value} (h0_0 : Vec .tree H v0_0 (a0)) (h2_0 : Vec .byte H v2_0 (a2)) {r : Bool} (h : law4_ShapesOpenRefusesChanges a0 a1 a2 = some r) :
  Ok Tryz.prog 9 [v0_0, .int .i64 a1, v2_0] w (fun v w' => Ext w w' ∧ v = .bool r) := by
 refine Ok_enter (n := 88) [(0, v0_0), (1, .int .i64 a1), (2, v2_0)] func9 rfl rfl rfl rfl rfl ?_
 have hL := Lcl.start w
 refine W_pz 1 rfl ?_
 refine W_p 1 rfl ?_
 obtain ⟨x1, hb1, h⟩ := Go.L.bind_some h
 refine S_callL rfl rfl hL (shapes_Build_ok _ _ (gz_le hH hL) (h0_0.mono (gz_left hH)) hb1) ?_
 rintro _ w2 ⟨u2_0, rfl, hR2_0⟩ hx2 hL2 hle2
 have hv2_0 := hR2_0.mono (gz_nw hH hL hx2)
 refine S_pu 3 rfl ?_
 refine S_alloc zr47 rfl rfl hL2 ?_
 intro w3 b3 hL3 hle3 _
 replace hv2_0 := hv2_0.mono (gz_mono hH hle3)
 refine S_alloc zr23 rfl rfl hL3 ?_
 intro w4 b4 hL4 hle4 _
 replace hv2_0 := hv2_0.mono (gz_mono hH hle4)
 refine S_storeBN 1 rfl rfl rfl zr47 hL4 rfl rfl (onc rfl (onc hv2_0.one on0)) ?_
 intro w5 hL5 hle5
 replace hv2_0 := hv2_0.mono (gz_mono hH hle5)
 refine S_storeBN 0 rfl rfl rfl zr23 hL5 rfl rfl (onc rfl (onc rfl on0)) ?_
 intro w6 hL6 hle6
 replace hv2_0 := hv2_0.mono (gz_mono hH hle6)
 refine S_seqnil ?_
 refine W_seq ?_
 refine W_seqr ?_
 obtain ⟨x7, hb7, h⟩ := Go.L.bind_some h
 refine S_callL rfl rfl hL6 (law4_shaped_ok _ _ (gz_le hH hL6) hb7) ?_
 rintro _ w8 rfl hx8 hL8 hle8
 replace hv2_0 := hv2_0.mono (gz_mono hH hle8)
 refine S_pu 2 rfl ?_
 refine S_split (s := 22) rfl (fun hg9 => ?_) (fun hg9 => ?_)
 ·replace h := Go.L.ite_t hg9 h
  iterate 3 refine S_unwanted rfl rfl hg9 rfl ?_
  refine S_v (r_pickT rfl hg9 rfl) rfl ?_
  refine S_seqnil ?_
  refine W_true rfl ?_
  refine W_seqr ?_
  obtain ⟨x11, hb11, h⟩ := Go.L.bind_some h
  refine S_callL rfl rfl hL8 (law4_shaped_ok _ _ (gz_le hH hL8) hb11) ?_
  rintro _ w12 rfl hx12 hL12 hle12
  replace hv2_0 := hv2_0.mono (gz_mono hH hle12)
  refine S_pu 1 rfl ?_
  refine S_split (s := 28) rfl (fun hg13 => ?_) (fun hg13 => ?_)
  ·replace h := Go.L.ite_t hg13 h
   refine S_guarded rfl rfl hg13 ?_
   refine S_v (r_loadBN 1 rfl underlying47 rfl zr47 hL12 rfl) rfl ?_
   refine S_guarded rfl rfl hg13 ?_
   obtain ⟨x15, hb15, h⟩ := Go.L.bind_some h
   refine S_callL rfl rfl hL12 (shapes_Index_Items_ok (a0 := (x1.1.1, x1.1.2)) _ _ (gz_le hH hL12) hv2_0 hb15) ?_
   rintro _ w16 rfl hx16 hL16 hle16
   replace hv2_0 := hv2_0.mono (gz_mono hH hle16)
   refine S_guarded rfl rfl hg13 ?_
   refine S_v (RunsAt_pu rfl) rfl ?_
   refine S_v (r_pickT rfl hg13 rfl) rfl ?_
   refine S_pz 1 rfl ?_
   refine W_ret ?_
   refine At_seq_ret ?_
   obtain rfl := Option.some.inj h
   refine At_body rfl rfl ?_
   exact ⟨hL16.ext, rfl⟩
  ·replace h := Go.L.ite_f hg13 h
   iterate 3 refine S_unwanted rfl rfl hg13 rfl ?_
   refine S_v (r_pickF rfl hg13 rfl) rfl ?_
   refine S_pz 1 rfl ?_
   refine W_ret ?_
   refine At_seq_ret ?_
   obtain rfl := Option.some.inj h
   refine At_body rfl rfl ?_
   exact ⟨hL12.ext, rfl⟩
 ·replace h := Go.L.ite_f hg9 h
  refine S_guarded rfl rfl hg9 ?_
  refine S_v (r_field rfl underlying23 rfl zr3 (by decide)) rfl ?_
  refine S_guarded rfl rfl hg9 ?_
  refine S_v (r_loadB1 0 rfl underlying3 rfl hL8 rfl rfl) rfl ?_
  refine S_guarded rfl rfl hg9 ?_
  refine S_v (RunsAt_pu rfl) rfl ?_
  refine S_v (r_pickF rfl hg9 rfl) rfl ?_
  refine S_seqnil ?_
  refine W_ifn rfl (fun hc19 => ?_) (fun hc19 => ?_)
  ·replace h := Go.L.ite_n hc19 h
   refine W_seqr ?_
   obtain ⟨x21, hb21, h⟩ := Go.L.bind_some h
   refine S_callL rfl rfl hL8 (law4_shaped_ok _ _ (gz_le hH hL8) hb21) ?_
   rintro _ w22 rfl hx22 hL22 hle22
   replace hv2_0 := hv2_0.mono (gz_mono hH hle22)
   refine S_pu 1 rfl ?_
   refine S_split (s := 28) rfl (fun hg23 => ?_) (fun hg23 => ?_)
   ·replace h := Go.L.ite_t hg23 h
    refine S_guarded rfl rfl hg23 ?_
    refine S_v (r_loadBN 1 rfl underlying47 rfl zr47 hL22 rfl) rfl ?_
    refine S_guarded rfl rfl hg23 ?_
    obtain ⟨x25, hb25, h⟩ := Go.L.bind_some h
    refine S_callL rfl rfl hL22 (shapes_Index_Items_ok (a0 := (x1.1.1, x1.1.2)) _ _ (gz_le hH hL22) hv2_0 hb25) ?_
    rintro _ w26 rfl hx26 hL26 hle26
    replace hv2_0 := hv2_0.mono (gz_mono hH hle26)
    refine S_guarded rfl rfl hg23 ?_
    refine S_v (RunsAt_pu rfl) rfl ?_
    refine S_v (r_pickT rfl hg23 rfl) rfl ?_
    refine S_pz 1 rfl ?_
    refine W_ret ?_
    refine At_seq_ret ?_
    obtain rfl := Option.some.inj h
    refine At_body rfl rfl ?_
    exact ⟨hL26.ext, rfl⟩
   ·replace h := Go.L.ite_f hg23 h
    iterate 3 refine S_unwanted rfl rfl hg23 rfl ?_
    refine S_v (r_pickF rfl hg23 rfl) rfl ?_
    refine S_pz 1 rfl ?_
    refine W_ret ?_
    refine At_seq_ret ?_
    obtain rfl := Option.some.inj h
    refine At_body rfl rfl ?_
    exact ⟨hL22.ext, rfl⟩
  ·replace h := Go.L.ite_p hc19 h
   refine W_skip ?_
   refine At_seq ?_
   refine W_seqr ?_
   refine S_v (r_loadBN 1 rfl underlying47 rfl zr47 hL8 rfl) rfl ?_
   obtain ⟨x29, hb29, h⟩ := Go.L.bind_some h
   refine S_callL rfl rfl hL8 (shapes_Index_Bytes_ok (a0 := (x1.1.1, x1.1.2)) _ _ (gz_le hH hL8) hv2_0 hb29) ?_
   rintro u30_0 w30 ⟨_, rfl, hR30_0⟩ hx30 hL30 hle30
   have hv30_0 := hR30_0.vecG hH hL8 hx30
   replace hv2_0 := hv2_0.mono (gz_mono hH hle30)
   refine S_pz 1 rfl ?_
   refine W_cut (σ := Unit) (fun (_ : Unit) => [(2, v2_0), (9, u30_0)]) (fun (_ : Unit) wr => InO w [.box b4 [.int .i64 x1.2.1, .int .i64 x1.2.2] 23, .box b3 [.int .i64 x1.1.1, u2_0] 47] wr fun Oz => Vec .byte (gz H w wr Oz) (u30_0) (x29) ∧ Vec (.pair (.pair .st (.pair (.int .i64) (.pair (.int .i64) .st))) (.vec (.int .i64))) (gz H w wr Oz) (u2_0) (x1.1.2) ∧ (law4_ShapesOpenRefusesChanges_k1 a2 x29) = some r) ?_ ?_
   ·refine W_p 2 rfl ?_
    refine S_v (r_len rfl underlying35 hv30_0) rfl ?_
    obtain ⟨hk65, h⟩ := Go.L.chk_some h
    refine S_v (r_ar64 rfl rfl rfl hk65) rfl ?_
    obtain ⟨x66, hb66, h⟩ := Go.L.bind_some h
    refine S_callL rfl rfl hL30 (ref3_In_ok _ _ (gz_le hH hL30) hb66) ?_
    rintro _ w67 rfl hx67 hL67 hle67
    replace hv2_0 := hv2_0.mono (gz_mono hH hle67)
    replace hv30_0 := hv30_0.mono (gz_mono hH hle67)
    refine S_seqnil ?_
    refine W_cond rfl (fun hc68 => ?_) (fun hc68 => ?_)
    ·replace h := Go.L.ite_t hc68 h
     refine W_p 2 rfl ?_
     obtain ⟨hk71, h⟩ := Go.L.chk_some h
     refine S_sliceH rfl rfl underlying35 zr5 hv30_0 hk71 rfl ?_
     intro v70 hv70
     obtain ⟨x72, hb72, h⟩ := Go.L.bind_some h
     refine S_callL rfl rfl hL67 (shapes_Open_ok _ _ (gz_le hH hL67) hv70 hb72) ?_
     rintro _ w73 ⟨u73_0, rfl, hR73_0⟩ hx73 hL73 hle73
     have hv73_0 := hR73_0.mono (gz_nw hH hL67 hx73)
     replace hv2_0 := hv2_0.mono (gz_mono hH hle73)
     replace hv30_0 := hv30_0.mono (gz_mono hH hle73)
     replace hv70 := hv70.mono (gz_mono hH hle73)
     refine S_pu 3 rfl ?_
     refine S_alloc zr47 rfl rfl hL73 ?_
     intro w74 b74 hL74 hle74 _
     replace hv2_0 := hv2_0.mono (gz_mono hH hle74)
     replace hv30_0 := hv30_0.mono (gz_mono hH hle74)
     replace hv70 := hv70.mono (gz_mono hH hle74)
     replace hv73_0 := hv73_0.mono (gz_mono hH hle74)
     refine S_alloc zr23 rfl rfl hL74 ?_
     intro w75 b75 hL75 hle75 _
     replace hv2_0 := hv2_0.mono (gz_mono hH hle75)
     replace hv30_0 := hv30_0.mono (gz_mono hH hle75)
     replace hv70 := hv70.mono (gz_mono hH hle75)
     replace hv73_0 := hv73_0.mono (gz_mono hH hle75)
     refine S_storeBN 1 rfl rfl rfl zr47 hL75 rfl rfl (onc rfl (onc hv73_0.one on0)) ?_
     intro w76 hL76 hle76
     replace hv2_0 := hv2_0.mono (gz_mono hH hle76)
     replace hv30_0 := hv30_0.mono (gz_mono hH hle76)
     replace hv70 := hv70.mono (gz_mono hH hle76)
     replace hv73_0 := hv73_0.mono (gz_mono hH hle76)
     refine S_storeBN 0 rfl rfl rfl zr23 hL76 rfl rfl (onc rfl (onc rfl on0)) ?_
     intro w77 hL77 hle77
     replace hv2_0 := hv2_0.mono (gz_mono hH hle77)
     replace hv30_0 := hv30_0.mono (gz_mono hH hle77)
     replace hv70 := hv70.mono (gz_mono hH hle77)
     replace hv73_0 := hv73_0.mono (gz_mono hH hle77)
     refine S_seqnil ?_
     have hG78 := hL77.rG H
     refine W_seqd (.q 0 (.q 1 (.q 2 (.q 3 (.q 4 (.q 5 (.q 6 (.q 7 (.tail 8))))))))) mixed (by kernel_rfl) (fun w79 hx79 => ?_)
     have hL80 := hL77.call hx79
     have hle80 := fz_ext hL77 hx79
     replace hG78 := hG78.trans (gz_mono hH hle80)
     refine D_v (r_loadBN 0 rfl underlying23 rfl zr23 hL80 rfl) rfl rfl ?_
     obtain ⟨x81, hb81, h⟩ := Go.L.bind_some h
     refine D_call rfl rfl rfl (fun w82 hx82 => ref3_At_ok _ _ (Le.refl _) hb81) ?_
     refine D_v (r_neA rfl rfl eqg23 (eq23 _ _ _ _ )) rfl rfl ?_
     refine D_pu 1 rfl ?_
     refine D_split (s := 50) rfl (fun hg83 => ?_) (fun hg83 => ?_)
     ·replace h := Go.L.ite_n (not_dec_t hg83) h
      iterate 3 refine D_no rfl rfl rfl rfl hg83 rfl ?_
      refine D_v (r_pickT rfl hg83 rfl) rfl rfl ?_
      refine D_tail (fun w85 hx85 => ?_)
      have hL86 := hL80.call hx85
      have hle86 := fz_ext hL80 hx85
      replace hG78 := hG78.trans (gz_mono hH hle86)
      refine S_seqnil ?_
      refine W_true rfl ?_
      refine W_pz 1 rfl ?_
      refine W_ret ?_
      refine At_cut_ret ?_
      obtain rfl := Option.some.inj h
      refine At_body rfl rfl ?_
      exact ⟨hL86.ext, rfl⟩
     ·replace h := Go.L.ite_p (not_dec_f hg83) h
      refine D_vg (r_loadBN 1 rfl underlying47 rfl zr47 hL80 rfl) rfl rfl rfl rfl hg83 rfl ?_
      obtain ⟨x88, hb88, h⟩ := Go.L.bind_some h
      have hok89 := (fun (w89 : World) (hx89 : Ext w79 w89) => shapes_Index_Items_ok w89 _ (Le.refl _) (((hv73_0.mono hG78).mono (gz_le hH hL80)).mono hx89.le) hb88)
      refine D_callg rfl rfl rfl rfl hg83 rfl rfl hok89 ?_
      refine D_vg (RunsAt_pu rfl) rfl rfl rfl rfl hg83 rfl ?_
      refine D_v (r_pickF rfl hg83 rfl) rfl rfl ?_
      refine D_tail (fun w90 hx90 => ?_)
      have hL91 := hL80.call hx90
      have hle91 := fz_ext hL80 hx90
      replace hG78 := hG78.trans (gz_mono hH hle91)
      refine S_seqnil ?_
      refine W_ifn rfl (fun hc92 => ?_) (fun hc92 => ?_)
      ·replace h := Go.L.ite_n hc92 h
       refine W_pz 1 rfl ?_
       refine W_ret ?_
       refine At_cut_ret ?_
       obtain rfl := Option.some.inj h
       refine At_body rfl rfl ?_
       exact ⟨hL91.ext, rfl⟩
      ·replace h := Go.L.ite_p hc92 h
       refine W_skip ?_
       have hL95 := hL91.dropAt (i := 0) rfl
       replace hG78 := hG78.trans (gz_mono hH (fz_dropAt (i := 0) rfl))
       have hL96 := hL95.dropAt (i := 0) rfl
       replace hG78 := hG78.trans (gz_mono hH (fz_dropAt (i := 0) rfl))
       refine At_cut () (.cons rfl (.cons rfl (Sub.nil _))) ⟨hL96, (hv30_0.mono hG78), (hv2_0.mono hG78), h⟩
    ·replace h := Go.L.ite_f hc68 h
     refine W_skip ?_
     refine At_cut () (.cons rfl (.cons rfl (Sub.nil _))) ⟨hL67, hv30_0, hv2_0, h⟩
   ·rintro _ wr63 ⟨hL63, hf63_0, hf63_1, h⟩
    refine W_seq ?_
    refine W_p 1 rfl ?_
    refine S_v (r_len rfl underlying35 h2_0) rfl ?_
    refine S_pu 2 rfl ?_
    refine S_split (s := 58) rfl (fun hg99 => ?_) (fun hg99 => ?_)
    ·replace h := Go.L.ite_p (of_decide_eq_true hg99) h
     iterate 6 refine S_unwanted rfl rfl hg99 rfl ?_
     refine S_v (r_pickT rfl hg99 rfl) rfl ?_
     refine S_seqnil ?_
     refine W_true rfl ?_
     refine W_p 1 rfl ?_
     refine S_v (r_len rfl underlying35 hf63_0) rfl ?_
     refine S_pz 2 rfl ?_
     refine W_ret ?_
     refine At_seq_ret ?_
     obtain rfl := Option.some.inj h
     refine At_body rfl rfl ?_
     exact ⟨hL63.ext, rfl⟩
    ·replace h := Go.L.ite_n (of_decide_eq_false hg99) h
     refine S_guarded rfl rfl hg99 ?_
     refine S_v (RunsAt_pu rfl) rfl ?_
     refine S_guarded rfl rfl hg99 ?_
     refine S_v (r_len rfl underlying35 hf63_0) rfl ?_
     refine S_guarded rfl rfl hg99 ?_
     refine S_v (RunsAt_pu rfl) rfl ?_
     refine S_guarded rfl rfl hg99 ?_
     refine S_v (r_len rfl underlying35 h2_0) rfl ?_
     refine S_guarded rfl rfl hg99 ?_
     obtain ⟨hk102, h⟩ := Go.L.chk_some h
     refine S_v (r_ar64 rfl rfl rfl hk102) rfl ?_
     refine S_guarded rfl rfl hg99 ?_
     refine S_v (RunsAt_pu rfl) rfl ?_
     refine S_v (r_pickF rfl hg99 rfl) rfl ?_
     refine S_seqnil ?_
     refine W_if rfl (fun hc103 => ?_) (fun hc103 => ?_)
     ·replace h := Go.L.ite_p hc103 h
      refine W_p 1 rfl ?_
      refine S_v (r_len rfl underlying35 hf63_0) rfl ?_
      refine S_pz 2 rfl ?_
      refine W_ret ?_
      refine At_seq_ret ?_
      obtain rfl := Option.some.inj h
      refine At_body rfl rfl ?_
      exact ⟨hL63.ext, rfl⟩
     ·replace h := Go.L.ite_n hc103 h
      refine W_skip ?_
      refine At_seq ?_
      refine W_p 1 rfl ?_
      obtain ⟨hL106, hle106, he106⟩ := row_nilE .byte H 5 hL63
      replace hf63_0 := hf63_0.mono (gz_mono hH hle106)
      replace hf63_1 := hf63_1.mono (gz_mono hH hle106)
      refine S_seqnil ?_
      have hG107 := hL106.rG H
      refine W_p 2 rfl ?_
      obtain ⟨hk109, h⟩ := Go.L.chk_some h
      refine S_appE (r := .byte) (l := ([] : List UInt8)) (m := x29) 0 rfl rfl underlying35 zr5 rfl (by decide) rfl hH hL106 rfl (he106.mono hG107) (hf63_0.mono hG107) hk109 ?_
      intro v108 w108 xs108 hL108 hle108 he108
      replace hG107 := hG107.trans (gz_mono hH hle108)
      refine S_pz 1 rfl ?_
      refine W_p 2 rfl ?_
      obtain ⟨hk111, h⟩ := Go.L.chk_some h
      refine S_appE (r := .byte) (l := (([] : List UInt8) ++ x29)) (m := a2) 0 rfl rfl underlying35 zr5 rfl (by decide) rfl hH hL108 rfl he108 (h2_0.mono (gz_left hH)) hk111 ?_
      intro v110 w110 xs110 hL110 hle110 he110
      replace hG107 := hG107.trans (gz_mono hH hle110)
      refine S_pz 1 rfl ?_
      refine W_p 1 rfl ?_
      have hv112 := hL110.vecG hH (i := 0) rfl he110
      have hL112 := hL110.dropAt (i := 0) rfl
      replace hG107 := hG107.trans (gz_mono hH (fz_dropAt (i := 0) rfl))
      obtain ⟨x113, hb113, h⟩ := Go.L.bind_some h
      refine S_callL rfl rfl hL112 (shapes_Open_ok _ _ (gz_le hH hL112) hv112 hb113) ?_
      rintro _ w114 ⟨u114_0, rfl, hR114_0⟩ hx114 hL114 hle114
      have hv114_0 := hR114_0.mono (gz_nw hH hL112 hx114)
      replace hv112 := hv112.mono (gz_mono hH hle114)
      replace hG107 := hG107.trans (gz_mono hH hle114)
      refine S_pu 3 rfl ?_
      refine S_alloc zr47 rfl rfl hL114 ?_
      intro w115 b115 hL115 hle115 _
      replace hv112 := hv112.mono (gz_mono hH hle115)
      replace hv114_0 := hv114_0.mono (gz_mono hH hle115)
      replace hG107 := hG107.trans (gz_mono hH hle115)
      refine S_alloc zr23 rfl rfl hL115 ?_
      intro w116 b116 hL116 hle116 _
      replace hv112 := hv112.mono (gz_mono hH hle116)
      replace hv114_0 := hv114_0.mono (gz_mono hH hle116)
      replace hG107 := hG107.trans (gz_mono hH hle116)
      refine S_storeBN 1 rfl rfl rfl zr47 hL116 rfl rfl (onc rfl (onc hv114_0.one on0)) ?_
      intro w117 hL117 hle117
      replace hv112 := hv112.mono (gz_mono hH hle117)
      replace hv114_0 := hv114_0.mono (gz_mono hH hle117)
      replace hG107 := hG107.trans (gz_mono hH hle117)
      refine S_storeBN 0 rfl rfl rfl zr23 hL117 rfl rfl (onc rfl (onc rfl on0)) ?_
      intro w118 hL118 hle118
      replace hv112 := hv112.mono (gz_mono hH hle118)
      replace hv114_0 := hv114_0.mono (gz_mono hH hle118)
      replace hG107 := hG107.trans (gz_mono hH hle118)
      refine S_seqnil ?_
      refine W_seqd (.q 0 (.q 1 (.q 2 (.q 3 (.q 4 (.q 5 (.q 6 (.q 7 (.q 8 (.tail 9)))))))))) mixed (by kernel_rfl) (fun w119 hx119 => ?_)
      have hL120 := hL118.call hx119
      have hle120 := fz_ext hL118 hx119
      replace hv114_0 := hv114_0.mono (gz_mono hH hle120)
      replace hG107 := hG107.trans (gz_mono hH hle120)
      refine D_v (r_loadBN 0 rfl underlying23 rfl zr23 hL120 rfl) rfl rfl ?_
      obtain ⟨x121, hb121, h⟩ := Go.L.bind_some h
      refine D_call rfl rfl rfl (fun w122 hx122 => ref3_At_ok _ _ (Le.refl _) hb121) ?_
      refine D_v (r_eqA rfl rfl eqg23 (eq23 _ _ _ _ )) rfl rfl ?_
      refine D_pu 1 rfl ?_
      refine D_split (s := 83) rfl (fun hg123 => ?_) (fun hg123 => ?_)
      ·replace h := Go.L.ite_p (of_decide_eq_true hg123) h
       refine D_vg (r_loadBN 1 rfl underlying47 rfl zr47 hL120 rfl) rfl rfl rfl rfl hg123 rfl ?_
       obtain ⟨x125, hb125, h⟩ := Go.L.bind_some h
       have hok126 := (fun (w126 : World) (hx126 : Ext w119 w126) => shapes_Index_Items_ok w126 _ (Le.refl _) ((hv114_0.mono (gz_le hH hL120)).mono hx126.le) hb125)
       refine D_callg rfl rfl rfl rfl hg123 rfl rfl hok126 ?_
       refine D_vg (RunsAt_pu rfl) rfl rfl rfl rfl hg123 rfl ?_
       refine D_v (r_pickT rfl hg123 rfl) rfl rfl ?_
       refine D_pu 1 rfl ?_
       refine D_tail (fun w127 hx127 => ?_)
       have hL128 := hL120.call hx127
       have hle128 := fz_ext hL120 hx127
       replace hv114_0 := hv114_0.mono (gz_mono hH hle128)
       replace hG107 := hG107.trans (gz_mono hH hle128)
       refine S_seqnil ?_
       refine W_ret ?_
       obtain rfl := Option.some.inj h
       refine At_body rfl rfl ?_
       exact ⟨hL128.ext, rfl⟩
      ·replace h := Go.L.ite_n (of_decide_eq_false hg123) h
       iterate 3 refine D_no rfl rfl rfl rfl hg123 rfl ?_
       refine D_v (r_pickF rfl hg123 rfl) rfl rfl ?_
       refine D_pu 1 rfl ?_
       refine D_tail (fun w130 hx130 => ?_)
       have hL131 := hL120.call hx130
       have hle131 := fz_ext hL120 hx130
       replace hv114_0 := hv114_0.mono (gz_mono hH hle131)
       replace hG107 := hG107.trans (gz_mono hH hle131)
       refine S_seqnil ?_
       refine W_ret ?_
       obtain rfl := Option.some.inj h
       refine At_body rfl rfl ?_
       exact ⟨hL131.ext, rfl⟩
end Go.Proofs.YtmfiaecglndldaaGreatDoor
end
section
namespace Go.L
theorem vintN_uniq : ∀ (n u u' : Nat) (t t' : List UInt8), u < 128 ^ n → u' < 128 ^ n → 1 ≤ n → vintN n u ++ t = vintN n u' ++ t' → u = u' ∧ t = t'
  | 0, _, _, _, _, _, _, h, _ => absurd h (by omega)
  | n + 1, u, u', t, t', hu, hu', _, h => by
    unfold vintN at h
    have hb : ∀ {a b : Nat}, a < 256 → b < 256 → UInt8.ofNat a = UInt8.ofNat b → a = b := fun ha hb he => by
      have := congrArg UInt8.toNat he
      simpa [Nat.mod_eq_of_lt ha, Nat.mod_eq_of_lt hb] using this
    by_cases c : 128 ≤ u <;> by_cases c' : 128 ≤ u'
    · rw [if_pos c, if_pos c', List.cons_append, List.cons_append] at h
      obtain ⟨h1, h2⟩ := List.cons.inj h
      have h1 := hb (by omega) (by omega) h1
      have hn : 1 ≤ n := by
        rcases Nat.eq_zero_or_pos n with h0 | h0
        · subst h0; simp at hu; omega
        · exact h0
      obtain ⟨h3, h4⟩ := vintN_uniq n (u / 128) (u' / 128) t t' (Nat.div_lt_of_lt_mul (by rw [Nat.pow_succ, Nat.mul_comm] at hu; exact hu)) (Nat.div_lt_of_lt_mul (by rw [Nat.pow_succ, Nat.mul_comm] at hu'; exact hu')) hn h2
      exact ⟨by omega, h4⟩
    · rw [if_pos c, if_neg c', List.cons_append, List.cons_append] at h
      have := hb (by omega) (by omega) (List.cons.inj h).1
      omega
    · rw [if_neg c, if_pos c', List.cons_append, List.cons_append] at h
      have := hb (by omega) (by omega) (List.cons.inj h).1
      omega
    · rw [if_neg c, if_neg c', List.cons_append, List.cons_append] at h
      obtain ⟨h1, h2⟩ := List.cons.inj h
      exact ⟨hb (by omega) (by omega) h1, h2⟩
theorem num_uniq {a a' : Int} {t t' : List UInt8} (h : I64 a) (h' : I64 a') (e : vint (zz a) ++ t = vint (zz a') ++ t') : a = a' ∧ t = t' := by
  obtain ⟨h1, h2⟩ := vintN_uniq 10 (zz a) (zz a') t t' (Nat.lt_trans (zz_lt h) (by decide)) (Nat.lt_trans (zz_lt h') (by decide)) (by decide) e
  refine ⟨?_, h2⟩
  have := congrArg unzz h1
  rwa [unzz_zz, unzz_zz] at this
theorem chunk_uniq {s s' t t' : List UInt8} (h : s.length ≤ 2000000) (h' : s'.length ≤ 2000000) (e : chunkF s ++ t = chunkF s' ++ t') : s = s' ∧ t = t' := by
  unfold chunkF at e
  rw [List.append_assoc, List.append_assoc] at e
  obtain ⟨h1, h2⟩ := num_uniq (by unfold I64; omega) (by unfold I64; omega) e
  exact List.append_inj h2 (by omega)
theorem list_uniq : ∀ {l l' : List Int} {t t' : List UInt8}, l.length = l'.length → (∀ z ∈ l, I64 z) → (∀ z ∈ l', I64 z) → (l.flatMap fun i => vint (zz i)) ++ t = (l'.flatMap fun i => vint (zz i)) ++ t' → l = l' ∧ t = t'
  | [], [], _, _, _, _, _, e => ⟨rfl, e⟩
  | [], _ :: _, _, _, h, _, _, _ => by simp at h
  | _ :: _, [], _, _, h, _, _, _ => by simp at h
  | z :: l, z' :: l', t, t', hl, h, h', e => by
    rw [List.flatMap_cons, List.flatMap_cons, List.append_assoc, List.append_assoc] at e
    obtain ⟨h1, h2⟩ := num_uniq (h z (.head _)) (h' z' (.head _)) e
    obtain ⟨h3, h4⟩ := list_uniq (by simpa using hl) (fun y hy => h y (.tail _ hy)) (fun y hy => h' y (.tail _ hy)) h2
    exact ⟨by rw [h1, h3], h4⟩
theorem items_uniq {l l' : List Int} {t t' : List UInt8} (hl : l.length ≤ 1000000) (hl' : l'.length ≤ 1000000) (h : ∀ z ∈ l, I64 z) (h' : ∀ z ∈ l', I64 z) (e : itemsF l ++ t = itemsF l' ++ t') : l = l' ∧ t = t' := by
  unfold itemsF at e
  rw [List.append_assoc, List.append_assoc] at e
  obtain ⟨h1, h2⟩ := num_uniq (by unfold I64; omega) (by unfold I64; omega) e
  exact list_uniq (by omega) h h' h2
end Go.L
namespace Go.Proofs.YtmfiaecglndldaaGreatDoor
open Go Go.L
theorem lform_uniq {e e' : En} {t t' : List UInt8} (h : EnS e) (h' : EnS e') (heq : lform e ++ t = lform e' ++ t') : e = e' ∧ t = t' := by
  unfold lform at heq
  simp only [List.flatten_cons, List.flatten_nil, List.append_nil, List.append_assoc] at heq
  obtain ⟨p1, p2, p3, p4, p5, p6⟩ := h
  obtain ⟨q1, q2, q3, q4, q5, q6⟩ := h'
  obtain ⟨r1, s1⟩ := chunk_uniq p1 q1 heq
  obtain ⟨r2, s2⟩ := num_uniq p2 q2 s1
  obtain ⟨r3, s3⟩ := num_uniq p3 q3 s2
  obtain ⟨r4, s4⟩ := chunk_uniq p4 q4 s3
  obtain ⟨r5, s5⟩ := items_uniq p6 q6 p5 q5 s4
  exact ⟨Prod.ext (Prod.ext r1 (Prod.ext r2 (Prod.ext r3 r4))) r5, s5⟩
theorem forms_uniq : ∀ {es es' : List En} {t t' : List UInt8}, es.length = es'.length → (∀ e ∈ es, EnS e) → (∀ e ∈ es', EnS e) → es.flatMap lform ++ t = es'.flatMap lform ++ t' → es = es' ∧ t = t'
  | [], [], _, _, _, _, _, e => ⟨rfl, e⟩
  | [], _ :: _, _, _, h, _, _, _ => by simp at h
  | _ :: _, [], _, _, h, _, _, _ => by simp at h
  | z :: l, z' :: l', t, t', hl, h, h', e => by
    rw [List.flatMap_cons, List.flatMap_cons, List.append_assoc, List.append_assoc] at e
    obtain ⟨h1, h2⟩ := lform_uniq (h z (.head _)) (h' z' (.head _)) e
    obtain ⟨h3, h4⟩ := forms_uniq (by simpa using hl) (fun y hy => h y (.tail _ hy)) (fun y hy => h' y (.tail _ hy)) h2
    exact ⟨by rw [h1, h3], h4⟩
/-- A form says of which index it is, and where it ends. -/
theorem iform_uniq {n n' : Int} {es es' : List En} {t t' : List UInt8} (h : GI n es) (h' : GI n' es') (e : iform n es ++ t = iform n' es' ++ t') : n = n' ∧ es = es' ∧ t = t' := by
  unfold iform at e
  simp only [List.append_assoc] at e
  have a1 := h.n0
  have a2 := h.n64
  have b1 := h'.n0
  have b2 := h'.n64
  have a3 := h.len
  have b3 := h'.len
  obtain ⟨r1, s1⟩ := num_uniq (by unfold I64; omega) (by unfold I64; omega) e
  obtain ⟨r2, s2⟩ := num_uniq (by unfold I64; omega) (by unfold I64; omega) s1
  obtain ⟨r3, s3⟩ := forms_uniq (by omega) h.sz h'.sz s2
  exact ⟨r1, r3, s3⟩
theorem refuse_law {a : List Pv} {keep : Int} {more : List UInt8} (hs : ∀ v ∈ a, Sm 1048576 10 v) (hm : more.length ≤ 1048576) : law4_ShapesOpenRefusesChanges a keep more = some true := by
  unfold law4_ShapesOpenRefusesChanges
  obtain ⟨x, hx1, hx2⟩ := build_ex hs
  rw [hx1, Option.bind_some, shaped_true, Option.bind_some, if_neg (by decide)]
  unfold shapes_Index_Items ref3_At ref3_In
  have hfault : (x.2.1 ≠ 0 ∧ x.1.1 = 0) ∨ (a.length ≤ 64 ∧ AllV a ∧ (iform (a.length : Int) (kIdx (adds (prB 0 a) []))).length ≤ 16384 ∧ x = (((a.length : Int), kIdx (adds (prB 0 a) [])), (0, 0))) := by
    rcases hx2 with ⟨_, rfl⟩ | ⟨_, j, f, _, _, hf, _, rfl⟩ | ⟨h1, h2, rfl⟩
    · exact .inl ⟨by simp, rfl⟩
    · exact .inl ⟨hf, rfl⟩
    · rcases bres_cases (a.length : Int) (adds (prB 0 a) []) with ⟨_, h⟩ | ⟨h3, h⟩
      · rw [h]; exact .inl ⟨by simp, rfl⟩
      · rw [h]; exact .inr ⟨h1, h2, h3, rfl⟩
  rcases hfault with ⟨h1, h2⟩ | ⟨hla, hva, hfa, rfl⟩
  · rw [if_neg h1, Option.bind_some, if_pos rfl, h2]; rfl
  · have hG := (gi_build hla hva hs).1
    generalize hn : (a.length : Int) = n at *
    generalize kIdx (adds (prB 0 a) []) = es at *
    have n0 := hG.n0
    have n64 := hG.n64
    have hby : shapes_Index_Bytes (n, es) = some (iform n es) := bytes_eq (by unfold I64; omega) hG.len hG.sz
    have hpos : 1 ≤ (iform n es).length := by
      unfold iform
      rw [List.length_append]
      have : 1 ≤ (vint (zz n)).length := by unfold vint vintN; split <;> simp
      omega
    dsimp only
    rw [if_pos rfl, hby, Option.bind_some, chk_pos (by unfold I64; omega), Option.bind_some]
    have hk1 : law4_ShapesOpenRefusesChanges_k1 more (iform n es) = some true := by
      unfold law4_ShapesOpenRefusesChanges_k1 shapes_Index_Items ref3_At
      by_cases c1 : (more.length : Int) = 0
      · rw [if_pos c1]; simp; omega
      · rw [if_neg c1, chk_pos (by unfold I64; omega)]
        by_cases c2 : (16384 : Int) < ((iform n es).length : Int) + (more.length : Int)
        · rw [if_pos c2]; simp; omega
        · rw [if_neg c2, chk_pos (by unfold Go.E.Cap; simp; omega), List.nil_append, chk_pos (by unfold Go.E.Cap; omega)]
          obtain ⟨r, h1, h2⟩ := open_ex (iform n es ++ more)
          rw [h1, Option.bind_some, Option.bind_some]
          rcases h2 with ⟨_, h⟩ | ⟨rfl, _⟩ | ⟨n', es', rfl, _, hG', hf⟩
          · rw [List.length_append] at h; omega
          · rfl
          · exfalso
            have := (iform_uniq hG hG' (t := more) (t' := []) (by rw [hf, List.append_nil])).2.2
            rw [this] at c1
            simp at c1
    by_cases hkp : 0 ≤ keep ∧ keep ≤ ((iform n es).length : Int) - 1
    · rw [if_pos (by simpa using hkp), chk_pos (by omega)]
      obtain ⟨r, h1, h2⟩ := open_ex ((iform n es).take keep.toNat)
      rw [h1, Option.bind_some, Option.bind_some]
      rcases h2 with ⟨_, h⟩ | ⟨rfl, _⟩ | ⟨n', es', rfl, _, hG', hf⟩
      · rw [List.length_take] at h; omega
      · rw [if_pos ⟨rfl, rfl⟩, Option.bind_some, if_pos rfl, hk1]
      · exfalso
        have := (iform_uniq hG hG' (t := []) (t' := (iform n es).drop keep.toNat) (by rw [hf, List.append_nil, List.take_append_drop])).2.2
        have h9 := congrArg List.length this
        rw [List.length_drop] at h9
        simp at h9
        omega
    · rw [if_neg (by simpa using hkp), hk1]
end Go.Proofs.YtmfiaecglndldaaGreatDoor
end
section
namespace Go.E
open Go Go.RowKit Go.ChangeShapes Go.WideShapes
section
variable {H : Type} {enc : TypeId × Value → H} {P : Program} {w : World} {base : Nat} {spare : Nat → Bool} {held : Bool}
theorem wf_u8 {n : Int} (h : (Lit.int .u8 n).wf = true) : 0 ≤ n ∧ n ≤ 255 := by
  simpa [Lit.wf, IntKind.min, IntKind.max, IntKind.signed, IntKind.bits] using h
theorem wf_i64 {n : Int} (h : (Lit.int .i64 n).wf = true) : -9223372036854775808 ≤ n ∧ n ≤ 9223372036854775807 := by
  simpa [Lit.wf, IntKind.min, IntKind.max, IntKind.signed, IntKind.bits] using h
/-- Arguments read, behind a call that leaves old memory as it was, as they read before. -/
theorem trodAll_stays (hl : laidOutB P = true) {W W' : World} (hb : Below W.heap.size W W') : ∀ {ts : List TypeId} {vs : List Value} {ds : List (DataW H)} {ps : List MemPlace}, (∀ t ∈ ts, P.readableRec t = true ∧ t < P.types.size) →
    DataW.TrodAll enc P W 0 (fun _ => true) true ts vs ds ps → (∀ x ∈ ps, x.block < W.heap.size) → DataW.TrodAll enc P W' 0 (fun b => decide (b < W.heap.size)) true ts vs ds ps
  | [], [], [], ps, _, h, _ => h
  | t :: ts, v :: vs, d :: ds, ps, ht, h, hlt => by
    obtain ⟨p, q, h1, h2, rfl⟩ := h
    have ht0 := ht t (.head _)
    exact ⟨p, q, Below.trod hl ht0.1 ht0.2 h1 hb (fun x hx => hlt x (List.mem_append.2 (.inl hx))), trodAll_stays hl hb (fun t' h' => ht t' (.tail _ h')) h2 (fun x hx => hlt x (List.mem_append.2 (.inr hx))), rfl⟩
  | [], [], _ :: _, _, _, h, _ => by cases h
  | [], _ :: _, _, _, _, h, _ => by cases h
  | _ :: _, [], _, _, _, h, _ => by cases h
  | _ :: _, _ :: _, [], _, _, h, _ => by cases h
end
end Go.E
namespace Go.E
open Go Go.RowKit Go.ChangeShapes Go.WideShapes Go.Deep
/-- What is read at a type lies in memory as plain data, of which something holds. -/
def Reads (P : Program) (t : TypeId) {α : Type} (r : Rp α) (ok : α → Prop) : Prop :=
  ∀ {H : Type} {enc : TypeId × Value → H} {w : World} {base : Nat} {spare : Nat → Bool} {held : Bool} {fuel : Nat} {cs : List Value} {x : DataW H × List MemPlace},
    DataW.trod enc P w base spare held fuel t cs = some x → ∃ a, r.rel (hp w) a cs ∧ ok a
section
variable {P : Program} {t e : TypeId}
theorem reads_i64 (ht : P.underlying t = some (.int .i64)) : Reads P t (.int .i64) (fun n => Go.L.I64 n) := fun h => by
  obtain ⟨n, rfl, _, hw⟩ := DataW.trod_int ht h
  exact ⟨n, rfl, wf_i64 hw⟩
theorem reads_byte (ht : P.underlying t = some (.int .u8)) : Reads P t .byte (fun _ => True) := fun h => by
  obtain ⟨n, rfl, _, hw⟩ := DataW.trod_int ht h
  have hw' := wf_u8 hw
  refine ⟨Go.L.u8 n, ?_, trivial⟩
  show [_] = [_]
  rw [Go.L.u8_toNat, Int.emod_eq_of_lt (by omega) (by omega)]
theorem reads_slice [Dr] {α : Type} {r : Rp α} {ok : α → Prop} (ht : P.underlying t = some (.slice e)) (hc : P.cellsOf e = r.sz) (hsz : 0 < r.sz) (hr : Reads P e r ok) : Reads P t (.vec r) (fun l => l.length ≤ 9223372036854775807 ∧ ∀ x ∈ l, ok x) := fun {H enc w base spare held fuel cs x} h => by
  rcases open_slice ht h with ⟨rfl, _⟩ | ⟨a, len, cap, m, n, D, Pl, rfl, hb, hl, hm, rfl, _, hel⟩
  · exact ⟨[], ⟨_, rfl, Vec.nil _ _⟩, by simp, by simp⟩
  · have hm2 : len ≤ (if spare a.block then cap else len) := by split <;> omega
    have hx : ∀ i, i < len → ∃ y, ok y ∧ ∃ c, r.rel (hp w) y c ∧ w.cells? base (a.add (i * r.sz)) r.sz = some c := fun i hi => by
      obtain ⟨cs', h1, h2⟩ := hel i (by omega)
      obtain ⟨y, h3, h4⟩ := hr h2
      rw [hc] at h1
      exact ⟨y, h4, cs', h3, h1⟩
    have key : ∀ k, k ≤ len → ∃ l : List α, l.length = k ∧ (∀ x ∈ l, ok x) ∧ ∀ i y, l[i]? = some y → ∃ c, r.rel (hp w) y c ∧ w.cells? base (a.add (i * r.sz)) r.sz = some c := by
      intro k
      induction k with
      | zero => intro _; exact ⟨[], rfl, by simp, by simp⟩
      | succ k ih =>
        intro hk
        obtain ⟨l, h1, h2, h3⟩ := ih (by omega)
        obtain ⟨y, h4, c, h5, h6⟩ := hx k (by omega)
        refine ⟨l ++ [y], by simp [h1], fun z hz => ?_, fun i z hz => ?_⟩
        · rcases List.mem_append.1 hz with hz | hz
          · exact h2 z hz
          · simp at hz; subst hz; exact h4
        · rcases Nat.lt_or_ge i l.length with hi | hi
          · rw [List.getElem?_append_left hi] at hz; exact h3 i z hz
          · rw [List.getElem?_append_right hi] at hz
            have hi0 : i - l.length = 0 := by
              have := (List.getElem?_eq_some_iff.1 hz).1
              simp at this; omega
            rw [hi0] at hz
            simp at hz
            subst hz
            obtain rfl : i = k := by omega
            exact ⟨c, h5, h6⟩
    obtain ⟨l, h1, h2, h3⟩ := key len (Nat.le_refl _)
    have hlm : len ≤ 9223372036854775807 := by unfold maxLen at hm; omega
    refine ⟨l, ⟨_, rfl, some a, cap, by rw [h1], by omega, hm, (fun h => by cases h), fun A hA hne => ?_⟩, by omega, h2⟩
    cases hA
    have cell : ∀ i y, l[i]? = some y → ∃ c, r.rel (hp w) y c ∧ ∀ j u, c[j]? = some u → w.cell? ((a.add (i * r.sz)).add j) = some u := fun i y hy => by
      obtain ⟨c, h4, h5⟩ := h3 i y hy
      obtain ⟨_, hlen, hcell⟩ := World.cells?_some h5
      exact ⟨c, h4, fun j u hu => by rw [← hu]; exact hcell j (by rw [← hlen]; exact (List.getElem?_eq_some_iff.1 hu).1)⟩
    have hspot : a.spot = none := by
      obtain ⟨y, l', rfl⟩ := List.exists_cons_of_ne_nil hne
      obtain ⟨c, h4, h5⟩ := cell 0 y rfl
      have hc0 : 0 < c.length := by rw [r.len h4]; omega
      have := World.cell?_spot (h5 0 _ (List.getElem?_eq_getElem hc0))
      simpa [Addr.add] using this
    refine ⟨hspot, fun i y hy => ?_⟩
    obtain ⟨c, h4, h5⟩ := cell i y hy
    refine ⟨c, h4, fun j u hu => ?_⟩
    rw [← addr_add_add hspot]
    exact h5 j u hu
end
end Go.E
end
section
namespace Go.Proofs.YtmfiaecglndldaaGreatDoor.bulks
open Go Go.E
theorem one_le {H : Type} (d : DataW H) : 1 ≤ Rows.uptoBulk d := by
  cases d with
  | lit l => cases l <;> simp [Rows.uptoBulk]
  | nil => simp [Rows.uptoBulk]
  | ptr d => simp [Rows.uptoBulk]
  | slice elems spare => simp [Rows.uptoBulk]
  | agg parts => simp [Rows.uptoBulk]
  | iface t d => simp [Rows.uptoBulk]
  | map entries => simp [Rows.uptoBulk]
  | held h => simp [Rows.uptoBulk]
theorem length_le {H : Type} (l : List (DataW H)) : l.length ≤ Rows.uptoBulkAll l := by
  induction l with
  | nil => simp [Rows.uptoBulkAll]
  | cons x r ih => have := one_le x; simp only [Rows.uptoBulkAll, List.length_cons]; omega
theorem bound {H : Type} {l : List (DataW H)} (hk : Rows.uptoSmall H l = true) : Rows.uptoBulkAll l ≤ 1048576 := of_decide_eq_true hk
theorem slice_bulk {H : Type} {enc : TypeId × Value → H} {P : Program} {w : World} {base : Nat} {spare : Nat → Bool} {held : Bool} {fuel : Nat} {t e : TypeId} {b : Option Addr} {len cap : Nat} {x : DataW H × List MemPlace}
    (ht : P.underlying t = some (.slice e)) (h : DataW.trod enc P w base spare held fuel t [.slice b len cap] = some x) : len + 1 ≤ Rows.uptoBulk x.1 := by
  rcases Deep.open_slice ht h with ⟨h1, rfl⟩ | ⟨a, len', cap', m, n, D, Pl, h1, _, _, _, _, rfl, _⟩
  · simp only [List.cons.injEq, Value.slice.injEq, and_true] at h1
    obtain ⟨_, rfl, _⟩ := h1
    exact Nat.le_refl _
  · simp only [List.cons.injEq, Value.slice.injEq, and_true] at h1
    obtain ⟨_, rfl, _⟩ := h1
    have h2 := length_le ((List.range len).map D)
    rw [List.length_map, List.length_range] at h2
    simp only [Rows.uptoBulk]
    omega
theorem vec_len {α : Type} {r : Rp α} {H : PH} {b : Option Addr} {len cap : Nat} {l : List α} (h : Vec r H (.slice b len cap) l) : l.length = len := by
  obtain ⟨_, _, h1, _⟩ := h.ex
  simp only [Value.slice.injEq] at h1
  exact h1.2.1.symm
end Go.Proofs.YtmfiaecglndldaaGreatDoor.bulks
namespace Go.Proofs.YtmfiaecglndldaaGreatDoor.bulks
open Go Go.E Go.RowKit Go.ChangeShapes Go.WideShapes Go.Deep Go.L
theorem all_mem {H : Type} {l : List (DataW H)} {x : DataW H} (h : x ∈ l) : Rows.uptoBulk x ≤ Rows.uptoBulkAll l := by
  induction l with
  | nil => cases h
  | cons y l ih =>
    simp only [Rows.uptoBulkAll]
    rcases List.mem_cons.1 h with rfl | h
    · omega
    · have := ih h; omega
/-- What is read at a type with so much bulk lies in memory as plain data that is small. -/
def RB (P : Program) (t : TypeId) {α : Type} (r : Rp α) (ok : α → Prop) (k : Nat) : Prop :=
  ∀ {H : Type} {enc : TypeId × Value → H} {w : World} {base : Nat} {spare : Nat → Bool} {held : Bool} {fuel : Nat} {cs : List Value} {x : DataW H × List MemPlace},
    Rows.uptoBulk x.1 ≤ k → DataW.trod enc P w base spare held fuel t cs = some x → ∃ a, r.rel (hp w) a cs ∧ ok a
section
variable {P : Program} {t e : TypeId} {k : Nat}
theorem RB.use {α : Type} {r : Rp α} {ok : α → Prop} (h : RB P t r ok k) {H : Type} {enc : TypeId × Value → H} {w : World} {base : Nat} {spare : Nat → Bool} {held : Bool} {fuel : Nat} {cs : List Value} {d : DataW H} {p : List MemPlace}
    (hk : Rows.uptoBulk d ≤ k) (hx : DataW.trod enc P w base spare held fuel t cs = some (d, p)) : ∃ a, r.rel (hp w) a cs ∧ ok a := @h H enc w base spare held fuel cs (d, p) hk hx
theorem rb_of {α : Type} {r : Rp α} {ok : α → Prop} (h : Reads P t r ok) : RB P t r ok k := fun _ hx => h hx
theorem rb_str (ht : P.underlying t = some .string) : RB P t .st (fun l => l.length ≤ k) k := fun hk h => by
  obtain ⟨s, rfl, rfl, hs⟩ := DataW.trod_string ht h
  simp only [Rows.uptoBulk] at hk
  exact ⟨s.data.toList, by show [_] = [_]; simp, by omega⟩
theorem rb_slice {α : Type} {r : Rp α} {ok : α → Prop} (ht : P.underlying t = some (.slice e)) (hc : P.cellsOf e = r.sz) (hsz : 0 < r.sz) (hr : RB P e r ok k) : RB P t (.vec r) (fun l => l.length ≤ k ∧ ∀ x ∈ l, ok x) k := fun {H enc w base spare held fuel cs x} hk h => by
  rcases open_slice ht h with ⟨rfl, _⟩ | ⟨a, len, cap, m, n, D, Pl, rfl, hb, hl, hm, rfl, rfl, hel⟩
  · exact ⟨[], ⟨_, rfl, Vec.nil _ _⟩, by simp, by simp⟩
  · have hm2 : len ≤ (if spare a.block then cap else len) := by split <;> omega
    simp only [Rows.uptoBulk] at hk
    have hlk := length_le ((List.range len).map D)
    rw [List.length_map, List.length_range] at hlk
    have hx : ∀ i, i < len → ∃ y, ok y ∧ ∃ c, r.rel (hp w) y c ∧ w.cells? base (a.add (i * r.sz)) r.sz = some c := fun i hi => by
      obtain ⟨cs', h1, h2⟩ := hel i (by omega)
      have hDi := all_mem (List.mem_map_of_mem (f := D) (List.mem_range.2 hi))
      obtain ⟨y, h3, h4⟩ := hr (x := (D i, Pl i)) (by show Rows.uptoBulk (D i) ≤ k; omega) h2
      rw [hc] at h1
      exact ⟨y, h4, cs', h3, h1⟩
    have key : ∀ k, k ≤ len → ∃ l : List α, l.length = k ∧ (∀ x ∈ l, ok x) ∧ ∀ i y, l[i]? = some y → ∃ c, r.rel (hp w) y c ∧ w.cells? base (a.add (i * r.sz)) r.sz = some c := by
      intro k
      induction k with
      | zero => intro _; exact ⟨[], rfl, by simp, by simp⟩
      | succ k ih =>
        intro hk
        obtain ⟨l, h1, h2, h3⟩ := ih (by omega)
        obtain ⟨y, h4, c, h5, h6⟩ := hx k (by omega)
        refine ⟨l ++ [y], by simp [h1], fun z hz => ?_, fun i z hz => ?_⟩
        · rcases List.mem_append.1 hz with hz | hz
          · exact h2 z hz
          · simp at hz; subst hz; exact h4
        · rcases Nat.lt_or_ge i l.length with hi | hi
          · rw [List.getElem?_append_left hi] at hz; exact h3 i z hz
          · rw [List.getElem?_append_right hi] at hz
            have hi0 : i - l.length = 0 := by
              have := (List.getElem?_eq_some_iff.1 hz).1
              simp at this; omega
            rw [hi0] at hz
            simp at hz
            subst hz
            obtain rfl : i = k := by omega
            exact ⟨c, h5, h6⟩
    obtain ⟨l, h1, h2, h3⟩ := key len (Nat.le_refl _)
    refine ⟨l, ⟨_, rfl, some a, cap, by rw [h1], by omega, hm, (fun h => by cases h), fun A hA hne => ?_⟩, by omega, h2⟩
    cases hA
    have cell : ∀ i y, l[i]? = some y → ∃ c, r.rel (hp w) y c ∧ ∀ j u, c[j]? = some u → w.cell? ((a.add (i * r.sz)).add j) = some u := fun i y hy => by
      obtain ⟨c, h4, h5⟩ := h3 i y hy
      obtain ⟨_, hlen, hcell⟩ := World.cells?_some h5
      exact ⟨c, h4, fun j u hu => by rw [← hu]; exact hcell j (by rw [← hlen]; exact (List.getElem?_eq_some_iff.1 hu).1)⟩
    have hspot : a.spot = none := by
      obtain ⟨y, l', rfl⟩ := List.exists_cons_of_ne_nil hne
      obtain ⟨c, h4, h5⟩ := cell 0 y rfl
      have hc0 : 0 < c.length := by rw [r.len h4]; omega
      have := World.cell?_spot (h5 0 _ (List.getElem?_eq_getElem hc0))
      simpa [Addr.add] using this
    refine ⟨hspot, fun i y hy => ?_⟩
    obtain ⟨c, h4, h5⟩ := cell i y hy
    refine ⟨c, h4, fun j u hu => ?_⟩
    rw [← addr_add_add hspot]
    exact h5 j u hu
/-- A value of package api. -/
theorem rb_tree {f0 f1 f2 f3 f4 : Field} {tb ts tp te : TypeId} (ht : P.underlying t = some (.struct #[f0, f1, f2, f3, f4])) (hc : P.cellsOf t = 5)
    (o0 : f0.offset = 0) (o1 : f1.offset = 1) (o2 : f2.offset = 2) (o3 : f3.offset = 3) (o4 : f4.offset = 4)
    (u0 : P.underlying f0.type = some (.int .i64)) (u1 : P.underlying f1.type = some (.int .i64)) (e2 : f2.type = tb) (e3 : f3.type = ts) (e4 : f4.type = tp)
    (c0 : P.cellsOf f0.type = 1) (c1 : P.cellsOf f1.type = 1) (c2 : P.cellsOf tb = 1) (c3 : P.cellsOf ts = 1) (c4 : P.cellsOf tp = 1)
    (ub : P.underlying tb = some (.slice te)) (ue : P.underlying te = some (.int .u8)) (ce : P.cellsOf te = 1) {tg : TypeId} (us : P.underlying ts = some (.slice tg)) (ug : P.underlying tg = some .string) (cg : P.cellsOf tg = 1) (up : P.underlying tp = some (.slice t)) (B : Nat) (k : Nat) (hB : k ≤ B) : RB P t .tree (fun v => ∀ d, Sm B d v) k := by
  induction k with
  | zero =>
    intro H enc w base spare held fuel cs x hk h
    have := one_le x.1
    omega
  | succ k ih0 =>
    intro H enc w base spare held fuel cs x hk h
    subst e2; subst e3; subst e4
    obtain ⟨xs, n, rfl, rfl, hl, hlen, hfs⟩ := DataW.trod_struct ht h
    have ih : RB P t .tree (fun v => ∀ d, Sm B d v) k := @ih0 (by omega)
    simp only [Rows.uptoBulk] at hk
    have hb : ∀ y ∈ xs, Rows.uptoBulk y.1 ≤ k := fun y hy => by
      have := all_mem (List.mem_map_of_mem (f := fun z : DataW H × List MemPlace => z.1) hy)
      omega
    have hx5 : xs.length = 5 := by simpa using hlen
    have get : ∀ (i : Nat) (f : Field), (#[f0, f1, f2, f3, f4] : Array Field)[i]? = some f → i < 5 → P.cellsOf f.type = 1 → f.offset = i → ∃ y : DataW H × List MemPlace, Rows.uptoBulk y.1 ≤ k ∧ DataW.trod enc P w base spare held n f.type ((cs.drop i).take 1) = some y := fun i f hf hi hcf hof => by
      have h1 := hfs i f hf
      rw [hcf, hof, List.getElem?_eq_getElem (by omega : i < xs.length)] at h1
      exact ⟨_, hb _ (List.getElem_mem _), h1⟩
    obtain ⟨y0, b0, t0⟩ := get 0 f0 rfl (by omega) c0 o0
    obtain ⟨y1, b1, t1⟩ := get 1 f1 rfl (by omega) c1 o1
    obtain ⟨y2, b2, t2⟩ := get 2 f2 rfl (by omega) c2 o2
    obtain ⟨y3, b3, t3⟩ := get 3 f3 rfl (by omega) c3 o3
    obtain ⟨y4, b4, t4⟩ := get 4 f4 rfl (by omega) c4 o4
    obtain ⟨a0, r0, q0⟩ := rb_of (k := k) (reads_i64 u0) b0 t0
    obtain ⟨a1, r1, q1⟩ := rb_of (k := k) (reads_i64 u1) b1 t1
    obtain ⟨a2, r2, q2, _⟩ := rb_slice ub ce (by decide) (rb_of (k := k) (reads_byte ue)) b2 t2
    obtain ⟨a3, r3, q3, q3'⟩ := rb_slice us cg (by decide) (rb_str (k := k) ug) b3 t3
    obtain ⟨a4, r4, q4, q4'⟩ := rb_slice up (r := .tree) hc (by decide) ih b4 t4
    refine ⟨.mk a0 a1 a2 a3 a4, Rp.tree_close ?_, fun d => ?_⟩
    · have hcs : cs = (cs.drop 0).take 1 ++ ((cs.drop 1).take 1 ++ ((cs.drop 2).take 1 ++ ((cs.drop 3).take 1 ++ (cs.drop 4).take 1))) := by
        have h5 : cs.length = 5 := by rw [hl, hc]
        match cs, h5 with
        | [_, _, _, _, _], _ => rfl
      exact ⟨_, _, hcs, r0, _, _, rfl, r1, _, _, rfl, r2, _, _, rfl, r3, r4⟩
    · cases d with
      | zero => exact trivial
      | succ d => exact ⟨by show a2.length ≤ B; omega, by show a3.length ≤ B; omega, by show a4.length ≤ B; omega, fun x hx => by have := q3' x hx; omega, q0, q1, fun p hp => q4' p hp d⟩
end
end Go.Proofs.YtmfiaecglndldaaGreatDoor.bulks
end
section
namespace Go.Proofs.YtmfiaecglndldaaGreatDoor
open Go Go.E Go.Lib
def laidU : List (String × DataW Unit) := [("unicode/utf8.acceptRanges", Rows.laid_unicode_utf8_acceptRanges), ("unicode/utf8.first", Rows.laid_unicode_utf8_first)]
noncomputable def laidWorld (os : Os) : World :=
  let w0 := World.holding Tryz.prog os ⟨#[], #[], []⟩
  let put (h : Array Obj) (g : Nat) (cs : Array Value) : Array Obj := h.modify g fun
    | .cells _ t frozen => .cells cs t frozen
    | o => o
  let h1 := put w0.heap 1 (Lib.firstTab.map fun z => Value.int .u8 z).toArray
  let h2 := put h1 2 ((List.range 16).flatMap fun i => [Value.int .u8 (Lib.accLo i), Value.int .u8 (Lib.accHi i)]).toArray
  { w0 with heap := h2 }
theorem door_met (os : Os) (args : Array Value) : laidMetH Tryz.prog laidU ((laidWorld os).forCall (fun _ _ => 0) ⟨#[], args, []⟩).memory :=
  laidMetH_of_parts3 (fuel := 8) (laidMet_of_run' 8 (by kernel_rfl) (by kernel_rfl)) (by kernel_rfl) (by kernel_rfl)
end Go.Proofs.YtmfiaecglndldaaGreatDoor
end
