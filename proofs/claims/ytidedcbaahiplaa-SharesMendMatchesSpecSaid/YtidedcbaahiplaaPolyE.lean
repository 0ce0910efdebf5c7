/- Plain laws: renewed shares fit, and give the same secret. No program in sight. -/
import Derived.Test.YtidedcbaahiplaaPolyD
namespace Go.M
theorem ext_getD {l m : List UInt8} (h : l.length = m.length) (k : ∀ i, i < l.length → l.getD i default = m.getD i default) : l = m := by
  apply List.ext_getElem h
  intro i h1 h2
  have := k i h1
  rwa [getD_lt h1, getD_lt h2] at this
theorem lag_add (p : List UInt8) (y z : Nat → UInt8) (x : UInt8) : lag p (fun j => y j ^^^ z j) x = lag p y x ^^^ lag p z x := by
  unfold lag
  rw [← sm_add]
  exact sm_congr fun i _ => gmul_xor_right _ _ _
theorem lag_congr {p : List UInt8} {y z : Nat → UInt8} {x : UInt8} (h : ∀ j, j < p.length → y j = z j) : lag p y x = lag p z x := by
  unfold lag
  exact sm_congr fun i hi => by rw [h i hi]
theorem frF_ok {l : List Sh} {m : Nat} : ∀ (n i : Nat), frF l m n i = (0, 0) → ∀ j, i ≤ j → j < i + n → atS (l.take m) (kb (l.getD j default).1) = (l.getD j default).2
  | 0, i, _, j, h1, h2 => by omega
  | n + 1, i, h, j, h1, h2 => by
    rw [frF] at h
    split at h
    · rename_i hf
      rcases Nat.eq_or_lt_of_le h1 with e | e
      · subst e; exact hf
      · exact frF_ok n (i + 1) h j e (by omega)
    · cases h
/-- Each share's data with those of a share of another list added. -/
theorem rnl_get {l : List Sh} {m i : Nat} {R : List UInt8} (hi : i < l.length) : (rnl l m R l.length).getD i default = rn1 m R (l.getD 0 default).2.length (l.getD i default) := by
  unfold rnl
  rw [getD_lt (by rw [List.length_map, List.length_take]; omega), getD_lt hi]
  simp
theorem rn_data {l : List Sh} {m : Nat} {R : List UInt8} (hf : Fine l) (_h1 : 1 ≤ m) (_h2 : m ≤ l.length) (hR : R.length = (m - 1) * (l.getD 0 default).2.length) {i : Nat} (hi : i < l.length) : (((rnl l m R l.length).getD i default).1 = (l.getD i default).1) ∧ ((rnl l m R l.length).getD i default).2.length = (l.getD 0 default).2.length ∧
    ∀ j, j < (l.getD 0 default).2.length → ((rnl l m R l.length).getD i default).2.getD j default = (ev (List.replicate (l.getD 0 default).2.length 0) m R (kb (l.getD i default).1)).getD j default ^^^ (l.getD i default).2.getD j default := by
  have he : (ev (List.replicate (l.getD 0 default).2.length 0) m R (kb (l.getD i default).1)).length = (l.getD 0 default).2.length := by rw [ev_length (by rw [List.length_replicate]; exact hR), List.length_replicate]
  have hd := hf.d i hi
  rw [rnl_get hi]
  refine ⟨rfl, ?_, fun j hj => ?_⟩
  · show (addRow _ _ _).length = _
    rw [addRow_length, he, hd]; omega
  · show (addRow _ _ _).getD j default = _
    rw [addRow_get (by omega) (by omega), gmul_comm, gmul_one]
section
variable {l : List Sh} {m : Nat} {R : List UInt8} (hf : Fine l) (h1 : 1 ≤ m) (h2 : m ≤ l.length) (hR : R.length = (m - 1) * (l.getD 0 default).2.length)
include hf h1 h2 hR
theorem rn_fine : Fine (rnl l m R l.length) := by
  have hl : (rnl l m R l.length).length = l.length := rnl_length (Nat.le_refl _)
  have h0 := (rn_data hf h1 h2 hR (show 0 < l.length by omega)).2.1
  refine ⟨by rw [hl]; exact hf.len, fun i hi => ?_, fun i j hij hj => ?_, fun i hi => ?_, fun i hi => ?_⟩
  · rw [hl] at hi; rw [(rn_data hf h1 h2 hR hi).1]; exact hf.k i hi
  · rw [hl] at hj; rw [(rn_data hf h1 h2 hR hj).1, (rn_data hf h1 h2 hR (show i < l.length by omega)).1]; exact hf.n i j hij hj
  · rw [hl] at hi; rw [(rn_data hf h1 h2 hR hi).2.1]; exact hf.m 0 (by omega)
  · rw [hl] at hi; rw [(rn_data hf h1 h2 hR hi).2.1, h0]
/-- The polynomials through renewed shares are the old ones and those of zero. -/
theorem rn_at (x : UInt8) : (atS ((rnl l m R l.length).take m) x).length = (l.getD 0 default).2.length ∧ ∀ j, j < (l.getD 0 default).2.length →
    (atS ((rnl l m R l.length).take m) x).getD j default = (ev (List.replicate (l.getD 0 default).2.length 0) m R x).getD j default ^^^ (atS (l.take m) x).getD j default := by
  have hl : (rnl l m R l.length).length = l.length := rnl_length (Nat.le_refl _)
  have hR' : R.length = (m - 1) * (List.replicate (l.getD 0 default).2.length (0 : UInt8)).length := by rw [List.length_replicate]; exact hR
  have hb : (l.take m).length = m := by rw [List.length_take]; omega
  have hb' : ((rnl l m R l.length).take m).length = m := by rw [List.length_take, hl]; omega
  have g0 : (l.take m).getD 0 default = l.getD 0 default := getD_take (by omega)
  have g0' : ((rnl l m R l.length).take m).getD 0 default = (rnl l m R l.length).getD 0 default := getD_take (by omega)
  have hd : ∀ j, j < (l.take m).length → ((l.take m).getD j default).2.length = ((l.take m).getD 0 default).2.length := fun j hj => by
    rw [getD_take (by omega), g0]; exact hf.d j (by omega)
  have hd' : ∀ j, j < ((rnl l m R l.length).take m).length → (((rnl l m R l.length).take m).getD j default).2.length = (((rnl l m R l.length).take m).getD 0 default).2.length := fun j hj => by
    rw [getD_take (by omega), g0', (rn_data hf h1 h2 hR (show j < l.length by omega)).2.1, (rn_data hf h1 h2 hR (show 0 < l.length by omega)).2.1]
  have n0' : (((rnl l m R l.length).take m).getD 0 default).2.length = (l.getD 0 default).2.length := by rw [g0', (rn_data hf h1 h2 hR (show 0 < l.length by omega)).2.1]
  -- the shares of zero
  have hz : Ofs (List.replicate (l.getD 0 default).2.length 0) m R ((l.take m).map fun s => (s.1, ev (List.replicate (l.getD 0 default).2.length 0) m R (kb s.1))) := by
    refine ⟨fun s hs => ?_, fun s hs => ?_, ?_⟩
    · obtain ⟨t, _, rfl⟩ := List.mem_map.1 hs; rfl
    · obtain ⟨t, ht, rfl⟩ := List.mem_map.1 hs
      exact hf.mem t (List.mem_of_mem_take ht)
    · rw [List.pairwise_map]
      exact hf.pair.sublist (List.take_sublist _ _)
  have hzl : ((l.take m).map fun s => (s.1, ev (List.replicate (l.getD 0 default).2.length 0) m R (kb s.1))).length = m := by rw [List.length_map, hb]
  have hza := ofs_at (x := x) hz hzl h1 hR'
  refine ⟨by rw [atS_length hd', n0'], fun j hj => ?_⟩
  rw [atS_get hd' (by rw [n0']; exact hj), atS_get hd (by rw [g0]; exact hj), ← hza]
  have hzg : ∀ i, i < m → ((l.take m).map fun s => (s.1, ev (List.replicate (l.getD 0 default).2.length 0) m R (kb s.1))).getD i default = ((l.getD i default).1, ev (List.replicate (l.getD 0 default).2.length 0) m R (kb (l.getD i default).1)) := fun i hi => by
    rw [getD_lt (by rw [hzl]; exact hi), getD_lt (show i < l.length by omega)]
    simp
  have hzd : ∀ i, i < ((l.take m).map fun s => (s.1, ev (List.replicate (l.getD 0 default).2.length 0) m R (kb s.1))).length → (((l.take m).map fun s => (s.1, ev (List.replicate (l.getD 0 default).2.length 0) m R (kb s.1))).getD i default).2.length = (((l.take m).map fun s => (s.1, ev (List.replicate (l.getD 0 default).2.length 0) m R (kb s.1))).getD 0 default).2.length := fun i hi => by
    rw [hzl] at hi
    rw [hzg i hi, hzg 0 (by omega), ev_length hR', ev_length hR']
  rw [atS_get hzd (by rw [hzg 0 (by omega)]; show j < (ev _ _ _ _).length; rw [ev_length hR', List.length_replicate]; exact hj)]
  have k1 : kps ((rnl l m R l.length).take m) = kps (l.take m) := by
    unfold kps
    apply List.ext_getElem (by rw [List.length_map, List.length_map, hb, hb'])
    intro i q1 q2
    rw [List.length_map, hb'] at q1
    have := (rn_data hf h1 h2 hR (show i < l.length by omega)).1
    rw [getD_lt (show i < (rnl l m R l.length).length by omega), getD_lt (show i < l.length by omega)] at this
    simp [this]
  have k2 : kps ((l.take m).map fun s => (s.1, ev (List.replicate (l.getD 0 default).2.length 0) m R (kb s.1))) = kps (l.take m) := by
    unfold kps
    rw [List.map_map]; rfl
  rw [k1, k2, ← lag_add]
  refine lag_congr fun i hi => ?_
  rw [kps_length, hb] at hi
  rw [getD_take hi, getD_take hi, hzg i hi, (rn_data hf h1 h2 hR (show i < l.length by omega)).2.2 j hj]
/-- Renewed shares fit, and give the same secret. -/
theorem rn_join (hfr : frg l m = (0, 0)) : frg (rnl l m R l.length) m = (0, 0) ∧ atS ((rnl l m R l.length).take m) 0 = atS (l.take m) 0 := by
  have hl : (rnl l m R l.length).length = l.length := rnl_length (Nat.le_refl _)
  have hR' : R.length = (m - 1) * (List.replicate (l.getD 0 default).2.length (0 : UInt8)).length := by rw [List.length_replicate]; exact hR
  have hd : ∀ j, j < (l.take m).length → ((l.take m).getD j default).2.length = ((l.take m).getD 0 default).2.length := fun j hj => by
    rw [List.length_take] at hj
    rw [getD_take (by omega), getD_take (by omega)]; exact hf.d j (by omega)
  constructor
  · unfold frg
    refine frF_all _ _ fun j q1 q2 => ?_
    have hj : j < l.length := by omega
    have hfit := frF_ok _ _ hfr j q1 (by omega)
    obtain ⟨r1, r2, r3⟩ := rn_data hf h1 h2 hR hj
    obtain ⟨a1, a2⟩ := rn_at hf h1 h2 hR (kb (l.getD j default).1)
    rw [r1]
    refine ext_getD (by rw [a1, r2]) fun i hi => ?_
    rw [a1] at hi
    rw [a2 i hi, r3 i hi, hfit]
  · obtain ⟨a1, a2⟩ := rn_at hf h1 h2 hR 0
    refine ext_getD (by rw [a1, atS_length hd, getD_take (by omega)]) fun i hi => ?_
    rw [a1] at hi
    rw [a2 i hi, ev_zero h1 hR', getD_lt (by rw [List.length_replicate]; exact hi), List.getElem_replicate, zero_x]
end
end Go.M
