/- The law ExplainIsUnique, plainly: what the walk computes is true. -/
import Derived.Test.YtidedcbaahiplaaP1
import Derived.Test.YtidedcbaahiplaaPolyC
namespace Go.Proofs.Ytidedcbaahiplaa
open Go Go.L

theorem ofs_exF {S R : List UInt8} {m : Int} {l : List M.Sh} (h : M.Ofs S m.toNat R l) (hl : l.length ≤ 10) (hS : S.length ≤ 4096) (hm : 1 ≤ m ∧ m ≤ 10) (hR : R.length = (m.toNat - 1) * S.length) (hlen : (l.length : Int) = m - 1) : M.exF l m S = (0, 0) := by
  unfold M.exF
  rw [if_neg (fun k => k (M.ofs_chk h hl hS hR)), if_neg (fun k => k hm), if_neg (fun k => k hlen), if_neg (by omega), if_neg]
  intro ⟨h0, h1⟩
  apply h1
  rw [(M.ofs_get h h0).1, M.ev_length hR]

theorem explain_unique {S R : List UInt8} {m bits : Int} (hb : bits ≤ 9223372036854775807) : law4_SharesExplainIsUnique S m R bits = some true := by
  unfold law4_SharesExplainIsUnique
  rw [if_neg (by decide)]
  by_cases herr : (M.spF S m 10 R).1 = 0
  · rw [if_pos herr]
    obtain ⟨e0, q1, q2, q3, q4, q5, hR⟩ := M.spF_ok herr
    rw [M.spA_good e0]
    have hsl : (M.spl S m.toNat R (10 : Int).toNat).length = 10 := M.spl_length _ _ _ _
    have hd : digitsL (max bits 0) 10 = some (M.dgs (max bits 0).toNat 10) := by
      unfold digitsL
      rw [chk_pos (by omega)]; rfl
    have hb1 : ∀ x ∈ M.dgs (max bits 0).toNat 10, x = 0 ∨ x = 1 := fun x hx => M.dgP_bit _ _ _ x hx
    have hl1 : (M.dgs (max bits 0).toNat 10).length ≤ 60 := by rw [M.dgs, M.dgP_length]; decide
    have hn := M.nmF_lt hb1 (Nat.le_refl _) hl1
    rw [hd, Option.bind_some]
    unfold numberL
    rw [chk_pos ⟨hb1, hl1⟩, Option.bind_some]
    generalize hb2 : M.nmF (M.dgs (max bits 0).toNat 10) (M.dgs (max bits 0).toNat 10).length = b at hn
    unfold chosenL
    rw [chk_pos (by omega), Option.bind_some, chk_pos (by unfold I64; omega)]
    have hof : M.Ofs S m.toNat R (M.chs (M.spl S m.toNat R (10 : Int).toNat) ((b.toNat : Nat) : Int).toNat (M.spl S m.toNat R (10 : Int).toNat).length) := (M.spl_ofs (by decide)).sub ((M.chs_sub _ _ _ (Nat.le_refl _)).trans (List.take_sublist _ _))
    have hcl := M.chs_length_le (M.spl S m.toNat R (10 : Int).toNat) ((b.toNat : Nat) : Int).toNat (M.spl S m.toNat R (10 : Int).toNat).length
    generalize M.chs (M.spl S m.toNat R (10 : Int).toNat) ((b.toNat : Nat) : Int).toNat (M.spl S m.toNat R (10 : Int).toNat).length = l at hof hcl
    by_cases hlen : (l.length : Int) = m - 1
    · rw [if_pos hlen]
      have he := ofs_exF hof (by omega) q1 ⟨by omega, by omega⟩ hR hlen
      have hx : M.exA l m S = R := by rw [M.exA, if_pos he]; exact M.ofs_explain hof (by omega) (by omega) hR
      rw [he, if_pos rfl, hx]
      simp
    · rw [if_neg hlen]
  · rw [if_neg herr, if_pos rfl, M.spA_bad herr]
    simp
end Go.Proofs.Ytidedcbaahiplaa
