/- The law OneForgedIsSeen, plainly. -/
import Derived.Test.YtidedcbaahiplaaShC
import Derived.Test.YtidedcbaahiplaaPolyF
import Derived.Test.YtidedcbaahiplaaP4
namespace Go.Proofs.Ytidedcbaahiplaa
open Go Go.L

theorem u8_kb {k : Int} (h : 0 ≤ k ∧ k ≤ 255) : u8 k = M.kb k := by
  unfold u8 M.kb
  rw [Int.emod_eq_of_lt h.1 (by omega)]
theorem split_eq {S R : List UInt8} {m k : Int} : shares_Split S m k R = some (M.spA S m k R, M.spF S m k R) := by
  unfold shares_Split shf_fault shf_valid
  simp only [Option.bind_some]
  by_cases h1 : (4096 : Int) < (S.length : Int)
  · have e : M.spF S m k R = (3, -1) := by unfold M.spF; rw [if_pos (by omega)]
    rw [if_pos h1, M.spA, e, if_neg (by decide)]
  · rw [if_neg h1]
    by_cases h2 : 1 ≤ m ∧ m ≤ 10
    · rw [if_neg (by simp [h2])]
      by_cases h3 : k < m ∨ 10 < k
      · have e : M.spF S m k R = (4, -3) := by unfold M.spF; rw [if_neg (by omega), if_neg (by omega), if_pos h3]
        rw [if_pos h3, M.spA, e, if_neg (by decide)]
      · rw [if_neg h3, chk_pos (by unfold I64; omega)]
        have hmul : 0 ≤ (m - 1) * (S.length : Int) ∧ (m - 1) * (S.length : Int) ≤ 9 * 4096 := ⟨Int.mul_nonneg (by omega) (by omega), Int.mul_le_mul (by omega) (by omega) (by omega) (by omega)⟩
        rw [chk_pos (by unfold I64; omega)]
        by_cases h4 : (R.length : Int) = (m - 1) * (S.length : Int)
        · have e : M.spF S m k R = (0, 0) := by unfold M.spF; rw [if_neg (by omega), if_neg (by omega), if_neg h3, if_neg (fun h => h h4)]
          rw [if_pos h4, M.spA, e, if_pos rfl]
          have hR : R.length = (m.toNat - 1) * S.length := by
            obtain ⟨mm, rfl⟩ := Int.eq_ofNat_of_zero_le (show 0 ≤ m by omega)
            rw [Int.toNat_natCast]
            apply Int.ofNat.inj
            show (R.length : Int) = (((mm - 1) * S.length : Nat) : Int)
            rw [h4, Int.natCast_mul, Int.ofNat_sub (by omega)]; rfl
          refine run_count (fun i => (M.spl S m.toNat R i, (i : Int) + 1)) k.toNat (fun i hi => ?_) ?_ 0 (Nat.zero_le _)
          · show shares_Split_bl2 S m k R (M.spl S m.toNat R i, (i : Int) + 1) = _
            simp only [shares_Split_bl2, evalL]
            rw [if_pos (by omega), chk_pos ⟨by omega, by omega, by omega, hR⟩, Option.bind_some, M.spl_length, chk_pos (by unfold Go.E.Cap; omega), chk_pos (by unfold I64; omega), M.spl_succ, u8_kb (by omega)]
            rfl
          · show shares_Split_bl2 S m k R (M.spl S m.toNat R k.toNat, (k.toNat : Int) + 1) = _
            simp only [shares_Split_bl2]
            rw [if_neg (by omega)]
            rfl
        · have e : M.spF S m k R = (9, -4) := by unfold M.spF; rw [if_neg (by omega), if_neg (by omega), if_neg h3, if_pos h4]
          rw [if_neg h4, M.spA, e, if_neg (by decide)]
    · have e : M.spF S m k R = (4, -2) := by unfold M.spF; rw [if_neg (by omega), if_pos h2]
      rw [if_pos (by simp [h2]), M.spA, e, if_neg (by decide)]

theorem spF_ok {S R : List UInt8} {m k : Int} (h : (M.spF S m k R).1 = 0) : M.spF S m k R = (0, 0) ∧ S.length ≤ 4096 ∧ 1 ≤ m ∧ m ≤ 10 ∧ m ≤ k ∧ k ≤ 10 ∧ R.length = (m.toNat - 1) * S.length := by
  unfold M.spF at h ⊢
  split at h
  · cases h
  · rename_i h1
    split at h
    · cases h
    · rename_i h2
      split at h
      · cases h
      · rename_i h3
        split at h
        · cases h
        · rename_i h4
          have h2' : 1 ≤ m ∧ m ≤ 10 := Decidable.byContradiction h2
          have h4' := Decidable.byContradiction h4
          refine ⟨by rw [if_neg h1, if_neg h2, if_neg h3, if_neg h4], by omega, by omega, by omega, by omega, by omega, ?_⟩
          obtain ⟨mm, rfl⟩ := Int.eq_ofNat_of_zero_le (show 0 ≤ m by omega)
          rw [Int.toNat_natCast]
          apply Int.ofNat.inj
          show (R.length : Int) = (((mm - 1) * S.length : Nat) : Int)
          rw [h4', Int.natCast_mul, Int.ofNat_sub (by omega)]; rfl
theorem spA_none {S R : List UInt8} {m k : Int} (h : (M.spF S m k R).1 ≠ 0) : M.spA S m k R = [] := by
  unfold M.spA; rw [if_neg (fun e => h (by rw [e]))]

section
variable {S R : List UInt8} {m k : Nat}
theorem spl_get {i : Nat} (hi : i < k) : (M.spl S m R k).getD i default = ((i : Int) + 1, M.ev S m R (M.kb ((i : Int) + 1))) := by
  simp [M.spl, List.getD_eq_getElem?_getD, hi]
/-- Shares of the keepers 1 to k, whatever they hold, of one length. -/
theorem fine_of {l : List M.Sh} (hk : l.length ≤ 10) (h1 : ∀ i, i < l.length → (l.getD i default).1 = (i : Int) + 1) {D : Nat} (hD : D ≤ 4096) (h2 : ∀ i, i < l.length → (l.getD i default).2.length = D) : M.Fine l := by
  refine ⟨hk, fun i hi => by rw [h1 i hi]; omega, fun i j hij hj => by rw [h1 i (by omega), h1 j hj]; omega, fun i hi => by rw [h2 i hi]; exact hD, fun i hi => by rw [h2 i hi, h2 0 (by omega)]⟩
/-- The true shares of the first keepers. -/
theorem true_base (hm : 1 ≤ m) (hm2 : m ≤ 10) (hR : R.length = (m - 1) * S.length) : M.Bs m S.length (M.spl S m R m) ∧ ∀ x, M.atS (M.spl S m R m) x = M.ev S m R x := by
  have ho := M.spl_ofs (S := S) (R := R) (m := m) hm2
  refine ⟨⟨M.spl_length _ _ _ _, by omega, ho.nodup, fun i hi => ?_⟩, fun x => M.ofs_at ho (M.spl_length _ _ _ _) hm hR⟩
  rw [M.spl_length] at hi
  rw [spl_get hi, M.ev_length hR]
end
theorem frF_form {l : List M.Sh} {m : Nat} : ∀ (n i : Nat), M.frF l m n i = (0, 0) ∨ ∃ j, i ≤ j ∧ j < i + n ∧ M.frF l m n i = (19, (j : Int))
  | 0, i => .inl rfl
  | n + 1, i => by
    rw [M.frF]
    split
    · rcases frF_form n (i + 1) with h | ⟨j, h1, h2, h3⟩
      · exact .inl h
      · exact .inr ⟨j, by omega, by omega, h3⟩
    · exact .inr ⟨i, by omega, by omega, rfl⟩
theorem set_getD {α : Type} [Inhabited α] (l : List α) (i j : Nat) (a : α) (hi : i < l.length) : (l.set i a).getD j default = if j = i then a else l.getD j default := by
  rw [List.getD_eq_getElem?_getD, List.getElem?_set]
  by_cases h : i = j
  · subst h; simp [hi]
  · rw [if_neg h, if_neg (fun e => h e.symm), List.getD_eq_getElem?_getD]

theorem one_forged {S R : List UInt8} {m k at_ bt : Int} {c : UInt8} : law4_SharesOneForgedIsSeen S m k R at_ bt c = some true := by
  unfold law4_SharesOneForgedIsSeen
  rw [split_eq, Option.bind_some, if_neg (by decide)]
  simp only
  by_cases hf : (M.spF S m k R).1 = 0
  · obtain ⟨e0, hS, h1, h2, h3, h4, hR⟩ := spF_ok hf
    have eA : M.spA S m k R = M.spl S m.toNat R k.toNat := by rw [M.spA, if_pos e0]
    rw [if_pos hf, eA, M.spl_length, chk_pos (by unfold I64; omega)]
    by_cases h5 : (0 : Int) ≤ at_ ∧ at_ ≤ ((k.toNat : Nat) : Int) - 1
    · rw [if_pos h5, chk_pos (by unfold I64; omega)]
      by_cases h6 : ((0 : Int) ≤ bt ∧ bt ≤ ((S.length : Int) - (1 : Int))) ∧ c ≠ 0 ∧ k ≠ m
      · have hc0 : ¬ ((c.toNat : Int) = 0) := fun e => h6.2.1 (UInt8.toNat.inj (by show c.toNat = 0; omega))
        rw [if_neg (by simp [h6.1, h6.2.2]; omega), if_pos (by omega), chk_pos (by omega)]
        rw [spl_get (by omega)]
        simp only
        rw [M.ev_length hR, if_pos rfl, chk_pos (by omega), chk_pos (by omega), chk_pos (by omega), chk_pos (by omega)]
        -- the changed list
        generalize hl : (M.spl S m.toNat R k.toNat).set at_.toNat _ = l
        have hat : at_.toNat < (M.spl S m.toNat R k.toNat).length := by rw [M.spl_length]; omega
        have hlen : l.length = k.toNat := by rw [← hl, List.length_set, M.spl_length]
        have hget : ∀ i, i < k.toNat → (l.getD i default).1 = (i : Int) + 1 ∧ (l.getD i default).2.length = S.length ∧ ((l.getD i default).2 = M.ev S m.toNat R (M.kb ((i : Int) + 1)) ↔ i ≠ at_.toNat) := by
          intro i hi
          rw [← hl, set_getD _ _ _ _ hat]
          by_cases e : i = at_.toNat
          · subst e
            rw [if_pos rfl]
            refine ⟨rfl, by simp only [List.length_set]; exact M.ev_length hR, ?_⟩
            simp only [ne_eq, not_true_eq_false, iff_false]
            intro he
            have hb : bt.toNat < (M.ev S m.toNat R (M.kb ((at_.toNat : Int) + 1))).length := by rw [M.ev_length hR]; omega
            have h7 : List.getD _ bt.toNat default = List.getD _ bt.toNat default := congrArg (fun z => List.getD z bt.toNat default) he
            rw [set_getD _ _ _ _ hb, if_pos rfl] at h7
            refine h6.2.1 ?_
            have := congrArg (fun z => (M.ev S m.toNat R (M.kb ((at_.toNat : Int) + 1))).getD bt.toNat default ^^^ z) h7
            simpa [← UInt8.xor_assoc] using this
          · rw [if_neg e, spl_get hi]
            exact ⟨rfl, M.ev_length hR, by simp [e]⟩
        have hfine : M.Fine l := fine_of (by omega) (fun i hi => (hget i (by omega)).1) hS (fun i hi => (hget i (by omega)).2.1)
        have hch : M.chkAll l m = (0, 0) := by
          unfold M.chkAll; rw [if_neg (fun h => h (M.fine_chkList hfine)), if_neg (by omega), if_neg (by omega)]
        have hjn : M.jnF l m = M.frg l m.toNat := by rw [M.jnF, if_neg (fun h => h hch)]
        have hl0 : (l.getD 0 default).2.length = S.length := (hget 0 (by omega)).2.1
        rcases frF_form (l := l) (m := m.toNat) (l.length - m.toNat) m.toNat with hz | ⟨j, j1, j2, hz⟩
        · exfalso
          have hb : M.Bs m.toNat S.length (l.take m.toNat) := by
            have := hfine.sub_bs (List.take_sublist m.toNat l) (m := m.toNat) (by rw [List.length_take]; omega) (by omega)
            rw [hl0] at this; exact this
          obtain ⟨ht, hta⟩ := true_base (S := S) (R := R) (m := m.toNat) (by omega) (by omega) hR
          have hall : ∀ i, i < l.length → M.atS (l.take m.toNat) (M.kb (l.getD i default).1) = (l.getD i default).2 := by
            intro i hi
            rcases Nat.lt_or_ge i m.toNat with h | h
            · have := hb.self (i := i) (by rw [List.length_take]; omega)
              rw [M.getD_take h] at this; exact this
            · exact M.frF_ok _ _ hz i h (by omega)
          have n1 : M.nfs (l.take m.toNat) l = [] := List.eq_nil_iff_forall_not_mem.2 fun i hi => by
            have := M.nfs_mem.1 hi; exact this.2 (hall i this.1)
          have n2 : M.nfs (M.spl S m.toNat R m.toNat) l = [at_.toNat] := by
            have hx : ∀ i, i ∈ M.nfs (M.spl S m.toNat R m.toNat) l ↔ i = at_.toNat := fun i => by
              rw [M.nfs_mem]
              constructor
              · rintro ⟨a, b⟩
                rw [hta, (hget i (by omega)).1] at b
                exact Decidable.byContradiction fun ne => b ((hget i (by omega)).2.2.2 ne).symm
              · rintro rfl
                refine ⟨by omega, fun b => ?_⟩
                rw [hta, (hget _ (by omega)).1] at b
                exact (hget at_.toNat (by omega)).2.2.1 b.symm rfl
            have hnd : (M.nfs (M.spl S m.toNat R m.toNat) l).Nodup := List.nodup_range.sublist List.filter_sublist
            generalize M.nfs (M.spl S m.toNat R m.toNat) l = z at hx hnd
            cases z with
            | nil => exact absurd ((hx _).2 rfl) (by simp)
            | cons a z =>
              have ha := (hx a).1 (by simp)
              subst ha
              cases z with
              | nil => rfl
              | cons b z =>
                have hb := (hx b).1 (by simp)
                subst hb
                simp at hnd
          have hu := M.code_unique hfine hb ht (by rw [n1, n2]; simp; omega)
          have := M.nfs_congr (l := l) hu
          rw [n1, n2] at this
          cases this
        · have hz' : M.frg l m.toNat = (19, (j : Int)) := hz
          rw [hjn, hz', if_pos rfl, chk_pos (by unfold I64; omega), if_pos (by simp only; omega), M.jn, if_neg (by rw [hjn, hz']; simp)]
          rfl
      · have hcond : (bif (bif !decide ((0 : Int) ≤ bt ∧ bt ≤ ((S.length : Int) - (1 : Int))) then true else decide ((c.toNat : Int) = 0)) then true else decide (k = m)) = true := by
          by_cases a : (0 : Int) ≤ bt ∧ bt ≤ ((S.length : Int) - (1 : Int))
          · by_cases b : c = 0
            · subst b; simp
            · have : k = m := Decidable.byContradiction fun e => h6 ⟨a, b, e⟩
              simp [this]
          · simp [a]
        rw [if_pos hcond, if_pos trivial, if_pos hf]
    · rw [if_neg h5, if_pos trivial, if_pos hf]
  · rw [if_neg hf, if_pos trivial, if_neg hf, spA_none hf]
    rfl
end Go.Proofs.Ytidedcbaahiplaa
