/- Plainly: two bases that most shares fit are of one secret; all choices are tried. No program in sight. -/
import Derived.Test.YtidedcbaahiplaaPolyE
import Derived.Test.YtidedcbaahiplaaSpecC
namespace Go.M

/-- The positions of the shares that do not fit a base. -/
def nfs (b l : List Sh) : List Nat := (List.range l.length).filter fun i => decide (atS b (kb (l.getD i default).1) ≠ (l.getD i default).2)
theorem nfs_mem {b l : List Sh} {i : Nat} : i ∈ nfs b l ↔ i < l.length ∧ atS b (kb (l.getD i default).1) ≠ (l.getD i default).2 := by simp [nfs]

/-- A base: shares of different keepers, of one length. -/
structure Bs (m D : Nat) (b : List Sh) : Prop where
  len : b.length = m
  pos : 0 < m
  nd : (kps b).Nodup
  d : ∀ i, i < b.length → (b.getD i default).2.length = D
theorem Bs.d' {m D : Nat} {b : List Sh} (h : Bs m D b) : ∀ j, j < b.length → (b.getD j default).2.length = (b.getD 0 default).2.length := fun j hj => by
  have := h.pos; have := h.len
  rw [h.d j hj, h.d 0 (by omega)]
theorem Bs.at_length {m D : Nat} {b : List Sh} (h : Bs m D b) (x : UInt8) : (atS b x).length = D := by
  have := h.pos; have := h.len
  rw [atS_length h.d', h.d 0 (by omega)]
/-- The polynomial of a column. -/
def colP (b : List Sh) (j : Nat) : List UInt8 := lagC (kps b) (fun i => (b.getD i default).2.getD j default) (kps b).length
theorem colP_length {b : List Sh} {j : Nat} : (colP b j).length = b.length := by rw [colP, lagC_length _ _ _ (Nat.le_refl _), kps_length]
theorem Bs.at_get {m D : Nat} {b : List Sh} (h : Bs m D b) {x : UInt8} {j : Nat} (hj : j < D) : (atS b x).getD j default = hv (colP b j) x := by
  have := h.pos; have := h.len
  rw [atS_get h.d' (by rw [h.d 0 (by omega)]; exact hj), colP, hv_lagC _ _ _ _ (Nat.le_refl _)]
  rfl
theorem kps_get {l : List Sh} {i : Nat} (hi : i < l.length) : (kps l).getD i default = kb (l.getD i default).1 := by
  simp [kps, List.getD_eq_getElem?_getD, hi]
/-- A base fits itself. -/
theorem Bs.self {m D : Nat} {b : List Sh} (h : Bs m D b) {i : Nat} (hi : i < b.length) : atS b (kb (b.getD i default).1) = (b.getD i default).2 := by
  refine ext_getD (by rw [h.at_length, h.d i hi]) fun j hj => ?_
  rw [h.at_length] at hj
  have := h.pos; have := h.len
  rw [atS_get h.d' (by rw [h.d 0 (by omega)]; exact hj), ← kps_get hi, lag_at h.nd (by rw [kps_length]; exact hi)]
/-- Two bases that agree at as many points as they have shares agree everywhere. -/
theorem Bs.agree {m D : Nat} {b c : List Sh} (hb : Bs m D b) (hc : Bs m D c) {xs : List UInt8} (hx : xs.Nodup) (hm : m ≤ xs.length) (h : ∀ x ∈ xs, atS b x = atS c x) (x : UInt8) : atS b x = atS c x := by
  refine ext_getD (by rw [hb.at_length, hc.at_length]) fun j hj => ?_
  rw [hb.at_length] at hj
  rw [hb.at_get hj, hc.at_get hj]
  have e : colP b j = colP c j := hv_eq_of (xs := xs) (by rw [colP_length, colP_length, hb.len, hc.len]) (by rw [colP_length, hb.len]; exact hm) hx fun y hy => by
    rw [← hb.at_get hj, ← hc.at_get hj, h y hy]
  rw [e]
theorem filter_two {α : Type} (p q : α → Bool) : ∀ l : List α, l.length ≤ (l.filter fun a => p a && q a).length + (l.filter fun a => !p a).length + (l.filter fun a => !q a).length
  | [] => by simp
  | a :: l => by
    have ih := filter_two p q l
    simp only [List.filter_cons, List.length_cons]
    cases p a <;> cases q a <;> simp <;> omega
theorem Fine.kb_ne {l : List Sh} (h : Fine l) {i j : Nat} (hi : i < l.length) (hj : j < l.length) (hij : i ≠ j) : kb (l.getD i default).1 ≠ kb (l.getD j default).1 := fun e => by
  have := kb_inj (h.k i hi) (h.k j hj) e
  rcases Nat.lt_or_gt_of_ne hij with k | k
  · exact h.n i j k hj this
  · exact h.n j i k hi this.symm
/-- Two bases that most shares fit give the same values. -/
theorem code_unique {l b c : List Sh} {m D : Nat} (hl : Fine l) (hb : Bs m D b) (hc : Bs m D c) (hn : (nfs b l).length + (nfs c l).length + m ≤ l.length) (x : UInt8) : atS b x = atS c x := by
  let p : Nat → Bool := fun i => decide (atS b (kb (l.getD i default).1) = (l.getD i default).2)
  let q : Nat → Bool := fun i => decide (atS c (kb (l.getD i default).1) = (l.getD i default).2)
  have h2 := filter_two p q (List.range l.length)
  have e1 : (List.range l.length).filter (fun a => !p a) = nfs b l := by unfold nfs; congr 1; funext i; simp [p]
  have e2 : (List.range l.length).filter (fun a => !q a) = nfs c l := by unfold nfs; congr 1; funext i; simp [q]
  rw [e1, e2, List.length_range] at h2
  refine hb.agree hc (xs := ((List.range l.length).filter fun a => p a && q a).map fun i => kb (l.getD i default).1) ?_ (by rw [List.length_map]; omega) (fun y hy => ?_) x
  · unfold List.Nodup
    rw [List.pairwise_map]
    have hnd : ((List.range l.length).filter fun a => p a && q a).Nodup := List.nodup_range.sublist List.filter_sublist
    refine hnd.imp_of_mem fun {a b} ha hb hab => ?_
    have ha' := List.mem_range.1 (List.mem_filter.1 ha).1
    have hb' := List.mem_range.1 (List.mem_filter.1 hb).1
    exact hl.kb_ne ha' hb' hab
  · obtain ⟨i, hi, rfl⟩ := List.mem_map.1 hy
    have := (List.mem_filter.1 hi).2
    simp only [p, q, Bool.and_eq_true, decide_eq_true_eq] at this
    rw [this.1, this.2]
theorem nfs_congr {l b c : List Sh} (h : ∀ x, atS b x = atS c x) : nfs b l = nfs c l := by unfold nfs; simp only [h]

/-- What is told of shares that do not fit. -/
theorem wrF_eq (b l : List Sh) (most : Int) : ∀ (n i : Nat) (acc : List Int), (acc.length : Int) ≤ most →
    wrF b l most n i acc = (let L := ((List.range' i n).filter fun j => decide (atS b (kb (l.getD j default).1) ≠ (l.getD j default).2)).map fun j : Nat => (j : Int)
      if ((acc.length + L.length : Nat) : Int) ≤ most then some (acc ++ L) else none)
  | 0, i, acc, h => by simp [wrF, h]
  | n + 1, i, acc, h => by
    rw [wrF, List.range'_succ, List.filter_cons]
    by_cases hf : atS b (kb (l.getD i default).1) = (l.getD i default).2
    · rw [if_pos hf, wrF_eq b l most n (i + 1) acc h]
      simp only [ne_eq, hf, not_true_eq_false, decide_false, Bool.false_eq_true, if_false]
    · rw [if_neg hf]
      simp only [ne_eq, hf, not_false_eq_true, decide_true, if_true, List.map_cons, List.length_cons]
      by_cases hm : most < ((acc.length + 1 : Nat) : Int)
      · rw [if_pos hm, if_neg (by omega)]
      · rw [if_neg hm, wrF_eq b l most n (i + 1) _ (by rw [List.length_append, List.length_singleton]; omega)]
        simp only [ne_eq, List.length_append, List.length_singleton, List.append_assoc, List.singleton_append]
        rw [Nat.add_assoc, Nat.add_comm 1]
theorem wrF_nfs {b l : List Sh} {most : Int} (h : 0 ≤ most) : wrF b l most l.length 0 [] = if ((nfs b l).length : Int) ≤ most then some ((nfs b l).map fun j : Nat => (j : Int)) else none := by
  rw [wrF_eq b l most l.length 0 [] (by simpa using h)]
  simp only [List.length_nil, Nat.zero_add, List.nil_append, List.length_map]
  rw [← List.range_eq_range']
  rfl

/-- All choices are tried. -/
theorem vis_get {R : Type} {step : List Int → Option R} {k n : Nat} {x : R} : ∀ (d : Nat) (ch : List Int), d ≤ n → vis step k n d ch = some x →
    ∃ ext : List Nat, ext.Sublist (List.range' (n - d) d) ∧ (ch ++ ext.map fun j : Nat => (j : Int)).length = k ∧ step (ch ++ ext.map fun j : Nat => (j : Int)) = some x
  | 0, ch, _, h => by
    rw [vis] at h
    split at h
    · rename_i hk; exact ⟨[], List.nil_sublist _, by simpa using hk, by simpa using h⟩
    · cases h
  | d + 1, ch, hd, h => by
    rw [vis] at h
    split at h
    · rename_i hk; exact ⟨[], List.nil_sublist _, by simpa using hk, by simpa using h⟩
    · rw [List.range'_succ, show n - (d + 1) + 1 = n - d by omega]
      cases hv : vis step k n d (ch ++ [((n - (d + 1) : Nat) : Int)]) with
      | some r =>
        rw [hv] at h; cases h
        obtain ⟨ext, h1, h2, h3⟩ := vis_get d _ (by omega) hv
        refine ⟨(n - (d + 1)) :: ext, h1.cons_cons _, ?_, ?_⟩
        · rw [List.map_cons, ← List.singleton_append, ← List.append_assoc]; exact h2
        · rw [List.map_cons, ← List.singleton_append, ← List.append_assoc]; exact h3
      | none =>
        rw [hv] at h
        obtain ⟨ext, h1, h2, h3⟩ := vis_get d ch (by omega) h
        exact ⟨ext, h1.cons _, h2, h3⟩
theorem vis_all {R : Type} {step : List Int → Option R} {k n : Nat} : ∀ (d : Nat) (ch : List Int), d ≤ n → vis step k n d ch = none →
    ∀ ext : List Nat, ext.Sublist (List.range' (n - d) d) → (ch ++ ext.map fun j : Nat => (j : Int)).length = k → step (ch ++ ext.map fun j : Nat => (j : Int)) = none
  | 0, ch, _, h, ext, hs, hk => by
    have : ext = [] := by simpa using hs
    subst this
    rw [vis, if_pos (by simpa using hk)] at h
    simpa using h
  | d + 1, ch, hd, h, ext, hs, hk => by
    rw [vis] at h
    split at h
    · rename_i hk'
      have : ext = [] := by
        rw [List.length_append, List.length_map] at hk
        exact List.eq_nil_of_length_eq_zero (by omega)
      subst this
      simpa using h
    · rw [List.range'_succ, show n - (d + 1) + 1 = n - d by omega] at hs
      cases hv : vis step k n d (ch ++ [((n - (d + 1) : Nat) : Int)]) with
      | some r => rw [hv] at h; cases h
      | none =>
        rw [hv] at h
        cases hs with
        | cons _ hs => exact vis_all d ch (by omega) h ext hs hk
        | cons_cons _ hs =>
          rename_i ext
          have := vis_all d _ (by omega) hv ext hs (by rw [List.map_cons, ← List.singleton_append, ← List.append_assoc] at hk; exact hk)
          rw [List.map_cons, ← List.singleton_append, ← List.append_assoc]
          exact this
theorem pk_all (l : List Sh) : ((List.range l.length).map fun i => l.getD i default) = l := by
  refine List.ext_getElem (by simp) fun i h1 h2 => ?_
  simp [List.getD_eq_getElem?_getD, h2]
theorem pk_cast (l : List Sh) (ext : List Nat) : pk l (ext.map fun j : Nat => (j : Int)) = ext.map fun i => l.getD i default := by
  simp [pk]
theorem pk_sub {l : List Sh} {ext : List Nat} (h : ext.Sublist (List.range l.length)) : (pk l (ext.map fun j : Nat => (j : Int))).Sublist l := by
  rw [pk_cast]
  have := h.map fun i => l.getD i default
  rw [pk_all] at this
  exact this
theorem sub_pk {l b : List Sh} (h : b.Sublist l) : ∃ ext : List Nat, ext.Sublist (List.range l.length) ∧ pk l (ext.map fun j : Nat => (j : Int)) = b := by
  rw [← pk_all l] at h
  obtain ⟨ext, h1, h2⟩ := List.sublist_map_iff.1 h
  refine ⟨ext, by simpa using h1, ?_⟩
  rw [pk_cast, h2]
/-- A part of a list of shares, as many as needed, is a base. -/
theorem Fine.sub_bs {l b : List Sh} {m : Nat} (h : Fine l) (hs : b.Sublist l) (hm : b.length = m) (h0 : 0 < m) : Bs m (l.getD 0 default).2.length b := by
  refine ⟨hm, h0, ?_, fun i hi => ?_⟩
  · exact h.nodup.sublist (hs.map _)
  · have hmem : b.getD i default ∈ l := hs.subset (by simp [List.getD_eq_getElem?_getD, hi])
    obtain ⟨j, hj, e⟩ := List.getElem_of_mem hmem
    rw [← e, ← getD_lt hj]
    exact h.d j hj
/-- What Mend finds: the base that most shares fit. -/
theorem mend_find {l : List Sh} {m : Int} (hc : chkAll l m = (0, 0)) :
    (∃ b : List Sh, b.Sublist l ∧ b.length = m.toNat ∧ 2 * ((nfs b l).length : Int) ≤ (l.length : Int) - m ∧ mnF l m = (0, 0) ∧ mnS l m = atS b 0 ∧ mnB l m = (nfs b l).map fun j : Nat => (j : Int)) ∨
    ((∀ b : List Sh, b.Sublist l → b.length = m.toNat → ¬ 2 * ((nfs b l).length : Int) ≤ (l.length : Int) - m) ∧ mnF l m = (19, -1) ∧ mnS l m = [] ∧ mnB l m = []) := by
  obtain ⟨_, _, h10, h1, h2, h3⟩ := chkAll_ok hc
  have hm0 : (0 : Int) ≤ ((l.length : Int) - m) / 2 := by omega
  cases hr : mnR l m with
  | some x =>
    left
    unfold mnR at hr
    obtain ⟨ext, e1, e2, e3⟩ := vis_get l.length [] (Nat.le_refl _) hr
    rw [Nat.sub_self, ← List.range_eq_range'] at e1
    rw [List.nil_append] at e2 e3
    unfold mst at e3
    rw [wrF_nfs hm0] at e3
    split at e3
    · rename_i hle
      simp only [Option.map_some, Option.some.injEq] at e3
      subst e3
      have hF : mnF l m = (0, 0) := by rw [mnF, if_neg (fun h => h hc), show mnR l m = some _ from hr, if_neg (by simp)]
      refine ⟨pk l (ext.map fun j : Nat => (j : Int)), pk_sub e1, by rw [pk_length]; exact e2, by omega, hF, ?_, ?_⟩
      · rw [mnS, if_pos hF, show mnR l m = some _ from hr]; rfl
      · rw [mnB, if_pos hF, show mnR l m = some _ from hr]; rfl
    · cases e3
  | none =>
    right
    have hF : mnF l m = (19, -1) := by rw [mnF, if_neg (fun h => h hc), hr]; rfl
    refine ⟨fun b hb hbl hle => ?_, hF, by rw [mnS, if_neg (by rw [hF]; decide)], by rw [mnB, if_neg (by rw [hF]; decide)]⟩
    obtain ⟨ext, e1, e2⟩ := sub_pk hb
    unfold mnR at hr
    have := vis_all l.length [] (Nat.le_refl _) hr ext (by rw [Nat.sub_self, ← List.range_eq_range']; exact e1) (by rw [List.nil_append, ← pk_length l, e2]; exact hbl)
    rw [List.nil_append] at this
    unfold mst at this
    rw [e2, wrF_nfs hm0, if_pos (by omega)] at this
    cases this
end Go.M
