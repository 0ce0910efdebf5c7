/- The law MendNamesForgers, plainly. -/
import Derived.Test.YtidedcbaahiplaaShD
namespace Go.Proofs.Ytidedcbaahiplaa
open Go Go.L

section
variable {S R : List UInt8} {m k : Int} {bits : Int} {ch : List UInt8}
/-- Whether a share is changed. -/
def mp (S : List UInt8) (bits : Int) (ch : List UInt8) (j : Nat) : Bool :=
  if j < ch.length then (if ((ch.getD j default).toNat : Int) = 0 then false else if 0 < S.length then decide ((M.dgs (max bits 0).toNat 10).getD (9 - j) default = 1) else false) else false
theorem mp_true {j : Nat} (h : mp S bits ch j = true) : j < ch.length ∧ ch.getD j default ≠ 0 ∧ 0 < S.length := by
  unfold mp at h
  split at h
  · rename_i h1
    split at h
    · cases h
    · rename_i h2
      split at h
      · rename_i h3
        exact ⟨h1, fun e => h2 (by rw [e]; rfl), h3⟩
      · cases h
  · cases h
theorem filter_succ (p : Nat → Bool) (i : Nat) : (List.range (i + 1)).filter p = (List.range i).filter p ++ (if p i then [i] else []) := by
  rw [List.range_succ, List.filter_append]
  simp [List.filter_cons]
theorem filter_range_len (p : Nat → Bool) (i : Nat) : ((List.range i).filter p).length ≤ i := by
  have := List.length_filter_le p (List.range i)
  rw [List.length_range] at this; exact this
theorem bad_collect (hk : 0 ≤ k ∧ k ≤ 10) (hb : bits ≤ 9223372036854775807) (x1 : List (Int × List UInt8) × (Int × Int)) :
    law4_SharesMendNamesForgers_l2 S m k bits ch x1 ([], 0) = law4_SharesMendNamesForgers_k1 S m k ch x1 (((List.range k.toNat).filter (mp S bits ch)).map fun j : Nat => (j : Int)) := by
  refine run_count (fun i => (((List.range i).filter (mp S bits ch)).map fun j : Nat => (j : Int), (i : Int))) k.toNat (fun i hi => ?_) ?_ 0 (Nat.zero_le _)
  · show law4_SharesMendNamesForgers_bl2 S m k bits ch x1 (_, (i : Int)) = some (Sum.inl (((List.range (i + 1)).filter (mp S bits ch)).map fun j : Nat => (j : Int), ((i + 1 : Nat) : Int)))
    have hI : I64 ((i : Int) + 1) := by unfold I64; omega
    have hl := filter_range_len (mp S bits ch) i
    simp only [law4_SharesMendNamesForgers_bl2]
    rw [if_pos (by omega), filter_succ]
    by_cases h1 : i < ch.length
    · rw [if_pos (by omega), chk_pos (by omega)]
      rw [Int.toNat_natCast]
      by_cases h2 : ((ch.getD i default).toNat : Int) = 0
      · rw [if_pos h2, chk_pos hI, if_neg (by rw [mp, if_pos h1, if_pos h2]; decide), List.append_nil]; rfl
      · rw [if_neg h2]
        by_cases h3 : 0 < S.length
        · have hd : digitsL (max bits 0) 10 = some (M.dgs (max bits 0).toNat 10) := by
            unfold digitsL
            rw [chk_pos (by omega)]; rfl
          have h10 : (M.dgs (max bits 0).toNat 10).length = 10 := M.dgP_length _ _ _
          rw [if_pos (by omega), hd, Option.bind_some, chk_pos (by unfold I64; omega), h10, chk_pos (by omega), show ((9 : Int) - (i : Int)).toNat = 9 - i by omega]
          by_cases h4 : (M.dgs (max bits 0).toNat 10).getD (9 - i) default = 1
          · rw [if_pos h4, List.length_map, chk_pos (by unfold Go.E.Cap; simp only [List.length_singleton]; omega), chk_pos hI, if_pos (by rw [mp, if_pos h1, if_neg h2, if_pos h3]; simpa using h4), List.map_append]; rfl
          · rw [if_neg h4, chk_pos hI, if_neg (by rw [mp, if_pos h1, if_neg h2, if_pos h3]; simpa using h4), List.append_nil]; rfl
        · rw [if_neg (by omega), chk_pos hI, if_neg (by rw [mp, if_pos h1, if_neg h2, if_neg h3]; decide), List.append_nil]; rfl
    · rw [if_neg (by omega), chk_pos hI, if_neg (by rw [mp, if_neg h1]; decide), List.append_nil]; rfl
  · show law4_SharesMendNamesForgers_bl2 S m k bits ch x1 (_, (k.toNat : Int)) = _
    simp only [law4_SharesMendNamesForgers_bl2]
    rw [if_neg (by omega)]

/-- Some of the shares are changed. -/
structure Chd (S R : List UInt8) (m k : Nat) (bad : List Nat) (l : List M.Sh) : Prop where
  len : l.length = k
  get : ∀ i, i < k → (l.getD i default).1 = (i : Int) + 1 ∧ (l.getD i default).2.length = S.length ∧ ((l.getD i default).2 = M.ev S m R (M.kb ((i : Int) + 1)) ↔ i ∉ bad)
theorem Chd.start {m k : Nat} (hR : R.length = (m - 1) * S.length) : Chd S R m k [] (M.spl S m R k) :=
  ⟨M.spl_length _ _ _ _, fun i hi => by rw [spl_get hi]; exact ⟨rfl, M.ev_length hR, by simp⟩⟩
theorem Chd.step {m k : Nat} {bad : List Nat} {l : List M.Sh} {j p : Nat} {c : UInt8} (h : Chd S R m k bad l) (hR : R.length = (m - 1) * S.length) (hj : j < k) (hn : j ∉ bad) (hp : p < S.length) (hc : c ≠ 0) :
    Chd S R m k (bad ++ [j]) (l.set j ((l.getD j default).1, (l.getD j default).2.set p ((l.getD j default).2.getD p default ^^^ c))) := by
  have hjl : j < l.length := by rw [h.len]; exact hj
  refine ⟨by rw [List.length_set, h.len], fun i hi => ?_⟩
  rw [set_getD _ _ _ _ hjl]
  by_cases e : i = j
  · subst e
    have hg := h.get i hi
    have hb : p < (M.ev S m R (M.kb ((i : Int) + 1))).length := by rw [M.ev_length hR]; exact hp
    rw [if_pos rfl, hg.2.2.2 hn]
    refine ⟨hg.1, by simp only [List.length_set]; exact M.ev_length hR, ?_⟩
    simp only [List.mem_append, List.mem_singleton, or_true, not_true_eq_false, iff_false]
    intro he
    have h7 : List.getD _ p default = List.getD _ p default := congrArg (fun z => List.getD z p default) he
    rw [set_getD _ _ _ _ hb, if_pos rfl] at h7
    refine hc ?_
    have := congrArg (fun z => (M.ev S m R (M.kb ((i : Int) + 1))).getD p default ^^^ z) h7
    simpa [← UInt8.xor_assoc] using this
  · rw [if_neg e]
    have hg := h.get i hi
    exact ⟨hg.1, hg.2.1, by rw [hg.2.2]; simp [e]⟩
theorem filter_two' (p : Nat → Bool) (k : Nat) : k ≤ ((List.range k).filter p).length + ((List.range k).filter fun i => !p i).length := by
  have := M.filter_two (fun _ => true) p (List.range k)
  have e : (List.range k).filter (fun _ => false) = [] := by simp
  simp only [Bool.true_and, Bool.not_true, List.length_range, e, List.length_nil, Nat.add_zero] at this
  exact this
/-- Mend names those that are changed, if they are few. -/
theorem chd_mend {m k : Nat} {p : Nat → Bool} {l : List M.Sh} (h : Chd S R m k ((List.range k).filter p) l) (hS : S.length ≤ 4096) (h1 : 1 ≤ m) (h2 : m ≤ 10) (h3 : m ≤ k) (h4 : k ≤ 10) (hR : R.length = (m - 1) * S.length) (hf : 2 * ((List.range k).filter p).length ≤ k - m) :
    M.mnF l m = (0, 0) ∧ M.mnS l m = S ∧ M.mnB l m = ((List.range k).filter p).map fun j : Nat => (j : Int) := by
  have hlen := h.len
  have hfine : M.Fine l := fine_of (by omega) (fun i hi => (h.get i (by omega)).1) hS (fun i hi => (h.get i (by omega)).2.1)
  have hch : M.chkAll l (m : Int) = (0, 0) := by
    unfold M.chkAll; rw [if_neg (fun h => h (M.fine_chkList hfine)), if_neg (by omega), if_neg (by omega)]
  have hl0 : (l.getD 0 default).2.length = S.length := (h.get 0 (by omega)).2.1
  obtain ⟨ht, hta⟩ := true_base (S := S) (R := R) h1 h2 hR
  have n2 : M.nfs (M.spl S m R m) l = (List.range k).filter p := by
    unfold M.nfs
    rw [hlen]
    refine List.filter_congr fun i hi => ?_
    have hi' := List.mem_range.1 hi
    have hg := h.get i hi'
    rw [hta, hg.1]
    by_cases hp : p i = true
    · have : i ∈ (List.range k).filter p := List.mem_filter.2 ⟨hi, hp⟩
      rw [hp]
      simp only [ne_eq, decide_eq_true_eq]
      exact fun e => hg.2.2.1 e.symm this
    · have : i ∉ (List.range k).filter p := fun e => hp (List.mem_filter.1 e).2
      rw [Bool.not_eq_true] at hp
      rw [hp, hg.2.2.2 this]
      simp
  rcases M.mend_find hch with ⟨b, b1, b2, b3, b4, b5, b6⟩ | ⟨b1, _⟩
  · rw [Int.toNat_natCast] at b2
    have hb : M.Bs m S.length b := by
      have := hfine.sub_bs b1 b2 (by omega)
      rw [hl0] at this; exact this
    have hu := M.code_unique hfine hb ht (by rw [n2]; omega)
    refine ⟨b4, ?_, ?_⟩
    · rw [b5, hu, hta, M.ev_zero h1 hR]
    · rw [b6, M.nfs_congr hu, n2]
  · exfalso
    have hcount := filter_two' p k
    have hsub : ((((List.range k).filter fun i => !p i).take m).map fun i => l.getD i default).Sublist l := by
      have := ((List.take_sublist m ((List.range k).filter fun i => !p i)).trans List.filter_sublist).map fun i => l.getD i default
      rw [← hlen, M.pk_all] at this
      rw [← hlen]
      exact this
    have hbl : ((((List.range k).filter fun i => !p i).take m).map fun i => l.getD i default).length = m := by
      rw [List.length_map, List.length_take]; omega
    have ho : M.Ofs S m R ((((List.range k).filter fun i => !p i).take m).map fun i => l.getD i default) := by
      refine ⟨fun s hs => ?_, fun s hs => ?_, hfine.pair.sublist hsub⟩
      · obtain ⟨i, hi, rfl⟩ := List.mem_map.1 hs
        have hi' := List.mem_filter.1 (List.mem_of_mem_take hi)
        have hik := List.mem_range.1 hi'.1
        have hg := h.get i hik
        rw [hg.1, hg.2.2.2 (fun e => by have := (List.mem_filter.1 e).2; simp [this] at hi')]
      · exact hfine.mem s (hsub.subset hs)
    have hu : ∀ x, M.atS ((((List.range k).filter fun i => !p i).take m).map fun i => l.getD i default) x = M.atS (M.spl S m R m) x := fun x => by
      rw [M.ofs_at ho hbl h1 hR, hta]
    refine b1 _ hsub (by rw [hbl, Int.toNat_natCast]) ?_
    rw [M.nfs_congr hu, n2]
    omega

theorem mend_names (hb : bits ≤ 9223372036854775807) : law4_SharesMendNamesForgers S m k R bits ch = some true := by
  unfold law4_SharesMendNamesForgers
  rw [split_eq, Option.bind_some, if_neg (by decide)]
  simp only
  by_cases hf : (M.spF S m k R).1 = 0
  · obtain ⟨e0, hS, h1, h2, h3, h4, hR⟩ := spF_ok hf
    have eA : M.spA S m k R = M.spl S m.toNat R k.toNat := by rw [M.spA, if_pos e0]
    rw [if_pos hf, eA, M.spl_length, if_pos (by omega), bad_collect (by omega) hb]
    unfold law4_SharesMendNamesForgers_k1
    have hl := filter_range_len (mp S bits ch) k.toNat
    rw [List.length_map, chk_pos (by unfold I64; omega), chk_pos (by unfold I64; omega)]
    by_cases h5 : k - m < 2 * ((((List.range k.toNat).filter (mp S bits ch)).length : Nat) : Int)
    · rw [if_pos h5]
    · rw [if_neg h5]
      generalize hbad : (List.range k.toNat).filter (mp S bits ch) = bad at *
      have hnd : bad.Nodup := by rw [← hbad]; exact List.nodup_range.sublist List.filter_sublist
      have hmem : ∀ j ∈ bad, j < k.toNat ∧ j < ch.length ∧ ch.getD j default ≠ 0 ∧ 0 < S.length := fun j hj => by
        rw [← hbad] at hj
        have := List.mem_filter.1 hj
        exact ⟨List.mem_range.1 this.1, mp_true this.2⟩
      refine run_inv (fun s => ∃ t : Nat, s.2 = (t : Int) ∧ t ≤ bad.length ∧ Chd S R m.toNat k.toNat (bad.take t) s.1) (fun s => (bad.length - s.2.toNat : Nat)) (fun s hs => ?_) ⟨0, rfl, Nat.zero_le _, Chd.start hR⟩
      obtain ⟨l, t'⟩ := s
      obtain ⟨t, ht, htl, hc⟩ := hs
      simp only at ht hc
      subst ht
      by_cases hlt : t < bad.length
      · left
        have hg : (bad.map fun j : Nat => (j : Int)).getD t default = ((bad.getD t default : Nat) : Int) := by
          simp [List.getD_eq_getElem?_getD, hlt]
        have hj := hmem (bad.getD t default) (by simp [List.getD_eq_getElem?_getD, hlt])
        generalize hjj : bad.getD t default = j at hj hg
        have hcj := hc.get j hj.1
        have hlen := hc.len
        have hmod : ((j : Int) % (S.length : Int)) = ((j % S.length : Nat) : Int) := by rw [Int.natCast_emod]
        have hmlt := Nat.mod_lt j hj.2.2.2
        have hjn : j ∉ bad.take t := by
          intro hin
          obtain ⟨i, hi, e⟩ := List.getElem_of_mem hin
          rw [List.length_take] at hi
          rw [List.getElem_take] at e
          have e2 : bad[t] = j := by rw [← hjj]; simp [List.getD_eq_getElem?_getD, hlt]
          have := List.pairwise_iff_getElem.1 hnd i t (by omega) hlt (by omega)
          rw [e, e2] at this
          exact this rfl
        refine ⟨(l.set j ((l.getD j default).1, (l.getD j default).2.set (j % S.length) ((l.getD j default).2.getD (j % S.length) default ^^^ ch.getD j default)), (t : Int) + 1), ?_, ⟨t + 1, by simp, by omega, ?_⟩, by simp only [Int.toNat_natCast]; omega⟩
        · simp only [law4_SharesMendNamesForgers_bl4, List.length_map, Int.toNat_natCast]
          rw [if_pos (by omega), chk_pos (by omega)]
          simp only [hg, hmod, Int.toNat_natCast, hcj.2.1]
          rw [chk_pos (by omega), if_pos trivial]
          rw [chk_pos (by omega), chk_pos (by omega), chk_pos (by omega), chk_pos (by omega), chk_pos (by omega), chk_pos (by omega), chk_pos (by omega), chk_pos (by omega), chk_pos (by omega), chk_pos (by omega), chk_pos (by omega), chk_pos (by omega), chk_pos (by unfold I64; omega)]
        · rw [List.take_succ_eq_append_getElem hlt, show bad[t] = j by rw [← hjj]; simp [List.getD_eq_getElem?_getD, hlt]]
          exact hc.step hR hj.1 hjn hmlt hj.2.2.1
      · right
        obtain rfl : t = bad.length := by omega
        rw [List.take_length, ← hbad] at hc
        have hm := chd_mend hc hS (by omega) (by omega) (by omega) (by omega) hR (by rw [hbad]; omega)
        rw [Int.toNat_of_nonneg (by omega)] at hm
        simp only [law4_SharesMendNamesForgers_bl4, List.length_map]
        rw [if_neg (by omega)]
        unfold law4_SharesMendNamesForgers_k3
        rw [hm.1, if_pos rfl, hm.2.1, if_pos rfl, hm.2.2, hbad]
        simp
  · rw [if_neg hf, if_pos trivial, if_neg hf, spA_none hf]
    rfl
end
end Go.Proofs.Ytidedcbaahiplaa
