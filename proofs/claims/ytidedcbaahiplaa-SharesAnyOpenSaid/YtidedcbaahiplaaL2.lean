/- The law AnyOpen. -/
import Derived.Test.YtidedcbaahiplaaC7
import Derived.Test.YtidedcbaahiplaaPolyB
import Derived.KernelRfl
namespace Go.Proofs.Ytidedcbaahiplaa
open Go Go.E Go.RowKit
set_option maxRecDepth 10000 in
theorem law_anyopen (w : World) {sv rv : Value} {S R : List UInt8} {m kk bits : Int} (hs : Vec .byte (hp w) sv S) (hr : Vec .byte (hp w) rv R) (hbits : bits ≤ 9223372036854775807) :
    Ok Try.prog 5 [sv, .int .i64 m, .int .i64 kk, rv, .int .i64 bits] w (fun v w' => Ext w w' ∧ v = .bool true) := by
  have hls := hs.len_le
  have hlr := hr.len_le
  refine Ok_enter (n := 69) [(0, sv), (1, .int .i64 m), (2, .int .i64 kk), (3, rv), (4, .int .i64 bits)] Try.func5 rfl rfl rfl rfl rfl ?_
  have hL := Lcl.start w
  refine W_seqr ?_
  refine S_pu 1 rfl ?_
  refine S_seqnil ?_
  refine W_seqr ?_
  refine S_pu 4 rfl ?_
  refine S_callL rfl rfl hL (split_ok _ (hs.mono hL.arg) (hr.mono hL.arg)) ?_
  rintro _ w1 ⟨v1, rfl, hR1⟩ hx1 _ _
  have hv1 := hR1.vec.mono (nw_fz hL)
  have hL1 := hL.call hx1
  have hle1 := fz_ext hL hx1
  refine S_pu 3 rfl ?_
  refine S_alloc zr25 rfl rfl hL1 ?_
  intro w2 b2 hL2 hle2 _
  replace hv1 := hv1.mono hle2
  refine S_pu 1 rfl ?_
  refine S_storeBN 0 rfl rfl rfl zr25 hL2 rfl rfl (onc rfl (onc rfl on0)) ?_
  intro w3 hL3 hle3
  replace hv1 := hv1.mono hle3
  refine S_seqnil ?_
  refine W_seq ?_
  refine W_seqr ?_
  refine S_callL rfl rfl hL3 (opens_ok _ ) ?_
  rintro _ w4 rfl hx4 hL4 hle4
  replace hv1 := hv1.mono hle4
  refine S_pu 2 rfl ?_
  refine S_split (s := 26) rfl (fun hg5 => ?_) (fun hg5 => ?_)
  · exact absurd hg5 (by decide)
  · refine S_guarded rfl rfl hg5 ?_
    refine S_v (r_field rfl Try.underlying25 rfl zr3 (by decide)) rfl ?_
    refine S_guarded rfl rfl hg5 ?_
    refine S_v (r_loadB1 0 rfl Try.underlying3 rfl hL4 rfl rfl) rfl ?_
    refine S_guarded rfl rfl hg5 ?_
    refine S_v (RunsAt_pu rfl) rfl ?_
    refine S_v (r_pickF rfl hg5 rfl) rfl ?_
    refine S_seqnil ?_
    refine W_ifn rfl (fun herr => ?_) (fun herr => ?_)
    · refine W_seqr ?_
      refine S_callL rfl rfl hL4 (opens_ok _ ) ?_
      rintro _ w6 rfl hx6 hL6 hle6
      replace hv1 := hv1.mono hle6
      refine S_pu 1 rfl ?_
      refine S_split (s := 32) rfl (fun hg7 => ?_) (fun hg7 => ?_)
      · refine S_guarded rfl rfl hg7 ?_
        refine S_v (RunsAt_pu rfl) rfl ?_
        refine S_guarded rfl rfl hg7 ?_
        refine S_v (r_len rfl Try.underlying23 hv1) rfl ?_
        refine S_guarded rfl rfl hg7 ?_
        refine S_v (RunsAt_pu rfl) rfl ?_
        refine S_v (r_pickT rfl hg7 rfl) rfl ?_
        refine S_pu 1 rfl ?_
        refine S_seqnil ?_
        refine W_ret ?_
        refine At_seq_ret ?_
        refine At_body rfl rfl ?_
        exact ⟨hL6.ext, congrArg Value.bool (by rw [M.spA_bad herr]; simp)⟩
      · exact absurd hg7 (by decide)
    · obtain ⟨e0, q1, q2, q3, q4, q5, hR⟩ := M.spF_ok herr
      rw [M.spA_good e0] at hv1
      have hsl : (M.spl S m.toNat R kk.toNat).length = kk.toNat := M.spl_length _ _ _ _
      have hof : M.Ofs S m.toNat R (M.chs (M.spl S m.toNat R kk.toNat) (M.nmF (M.dgs (max bits 0).toNat 10) (M.dgs (max bits 0).toNat 10).length).toNat (M.spl S m.toNat R kk.toNat).length) := (M.spl_ofs (by omega)).sub ((M.chs_sub _ _ _ (Nat.le_refl _)).trans (List.take_sublist _ _))
      have hcl := M.chs_length_le (M.spl S m.toNat R kk.toNat) (M.nmF (M.dgs (max bits 0).toNat 10) (M.dgs (max bits 0).toNat 10).length).toNat (M.spl S m.toNat R kk.toNat).length
      have hj := M.ofs_join hof (by omega) q1 (by omega) (by omega) hR
      refine W.sub (L' := [(0, sv), (1, .int .i64 ((m.toNat : Nat) : Int)), (4, .int .i64 bits), (11, v1)]) ?_ (.cons rfl (.int rfl (by omega) (.cons rfl (.cons rfl (.nil _)))))
      refine W_skip ?_
      refine At_seq ?_
      refine W_seqr ?_
      refine S_pu 2 rfl ?_
      refine S_v (r_maxN rfl rfl (by decide)) rfl ?_
      refine S_callL rfl rfl hL4 (digits_ok (c := 10) _ (by omega) (by decide)) ?_
      intro v8 w8 hR8 hx8 _ _
      have hv8 := hR8.vec.mono (nw_fz hL4)
      have hL8 := hL4.call hx8
      have hle8 := fz_ext hL4 hx8
      replace hv1 := hv1.mono hle8
      refine S_callL rfl rfl hL8 (number_ok _ (hv8.mono (fz_le _ _)) (fun x hx => M.dgP_bit _ _ _ x hx) (by rw [M.dgs, M.dgP_length]; decide)) ?_
      rintro _ w9 rfl hx9 hL9 hle9
      replace hv1 := hv1.mono hle9
      replace hv8 := hv8.mono hle9
      refine S_callL rfl rfl hL9 (chosen_ok _ (fz_le _ _) hv1 (by omega) (by have h := M.nmF_lt (l := (M.dgs (max bits 0).toNat 10)) (fun x hx => M.dgP_bit _ _ _ x hx) (Nat.le_refl _) (by rw [M.dgs, M.dgP_length]; decide); omega)) ?_
      intro v10 w10 hR10 hx10 hL10 hle10
      replace hR10 := hR10.mono (un_le hle10 (nw_fz hL9))
      replace hv1 := hv1.mono hle10
      replace hv8 := hv8.mono hle10
      refine S_pu 1 rfl ?_
      refine S_seqnil ?_
      refine W_seqr ?_
      refine S_pu 2 rfl ?_
      refine S_callL rfl rfl hL10 (join_ok _ (hR10.mono (fz_le _ _))) ?_
      rintro _ w11 ⟨v11, rfl, hR11⟩ hx11 _ _
      have hv11 := hR11.vec.mono (nw_fz hL10)
      have hL11 := hL10.call hx11
      have hle11 := fz_ext hL10 hx11
      replace hv1 := hv1.mono hle11
      replace hv8 := hv8.mono hle11
      replace hR10 := hR10.mono hle11
      refine S_pu 3 rfl ?_
      refine S_alloc zr25 rfl rfl hL11 ?_
      intro w12 b12 hL12 hle12 _
      replace hv1 := hv1.mono hle12
      replace hv8 := hv8.mono hle12
      replace hR10 := hR10.mono hle12
      replace hv11 := hv11.mono hle12
      refine S_pu 1 rfl ?_
      refine S_storeBN 0 rfl rfl rfl zr25 hL12 rfl rfl (onc rfl (onc rfl on0)) ?_
      intro w13 hL13 hle13
      replace hv1 := hv1.mono hle13
      replace hv8 := hv8.mono hle13
      replace hR10 := hR10.mono hle13
      replace hv11 := hv11.mono hle13
      refine S_seqnil ?_
      refine W_seq ?_
      refine W_seqr ?_
      refine S_pu 1 rfl ?_
      refine S_v (r_len rfl Try.underlying23 hR10) rfl ?_
      refine S_pu 2 rfl ?_
      refine S_seqnil ?_
      refine W_if rfl (fun hlt => ?_) (fun hlt => ?_)
      · have hfew : (M.chs (M.spl S m.toNat R kk.toNat) (M.nmF (M.dgs (max bits 0).toNat 10) (M.dgs (max bits 0).toNat 10).length).toNat (M.spl S m.toNat R kk.toNat).length).length < m.toNat := (by omega)
        refine W_seqd (.q 0 (.q 1 (.q 2 (.q 3 (.q 4 (.q 5 (.q 6 (.q 7 (.q 8 (.tail 9)))))))))) mixed (by kernel_rfl) (fun w14 hx14 => ?_)
        have hL15 := hL13.call hx14
        have hle15 := fz_ext hL13 hx14
        replace hv1 := hv1.mono hle15
        replace hv8 := hv8.mono hle15
        replace hR10 := hR10.mono hle15
        replace hv11 := hv11.mono hle15
        refine D_v (r_loadBN 0 rfl Try.underlying25 rfl zr25 hL15 rfl) rfl rfl ?_
        refine D_call rfl rfl rfl (fun w16 hx16 => rat_ok _ ) ?_
        refine D_v (r_eqA rfl rfl eqg25 (eq25 _ _ _ _)) rfl rfl ?_
        refine D_pu 1 rfl ?_
        refine D_split (s := 56) rfl (fun hg17 => ?_) (fun hg17 => ?_)
        · refine D_vg (RunsAt_pu rfl) rfl rfl rfl rfl hg17 rfl ?_
          refine D_vg (r_len rfl Try.underlying22 hv11) rfl rfl rfl rfl hg17 rfl ?_
          refine D_vg (RunsAt_pu rfl) rfl rfl rfl rfl hg17 rfl ?_
          refine D_v (r_pickT rfl hg17 rfl) rfl rfl ?_
          refine D_pu 1 rfl ?_
          refine D_tail (fun w18 hx18 => ?_)
          have hL19 := hL15.call hx18
          have hle19 := fz_ext hL15 hx18
          replace hv1 := hv1.mono hle19
          replace hv8 := hv8.mono hle19
          replace hR10 := hR10.mono hle19
          replace hv11 := hv11.mono hle19
          refine S_seqnil ?_
          refine W_ret ?_
          refine At_seq_ret ?_
          refine At_body rfl rfl ?_
          exact ⟨hL19.ext, congrArg Value.bool (by rw [(hj.1 hfew).2]; simp)⟩
        · exact absurd hg17 (by rw [(hj.1 hfew).1]; decide)
      · have hmany : m.toNat ≤ (M.chs (M.spl S m.toNat R kk.toNat) (M.nmF (M.dgs (max bits 0).toNat 10) (M.dgs (max bits 0).toNat 10).length).toNat (M.spl S m.toNat R kk.toNat).length).length := (by omega)
        refine W_skip ?_
        refine At_seq ?_
        refine W_seqr ?_
        refine S_v (r_field rfl Try.underlying25 rfl zr3 (by decide)) rfl ?_
        refine S_v (r_loadB1 0 rfl Try.underlying3 rfl hL13 rfl rfl) rfl ?_
        refine S_pu 2 rfl ?_
        refine S_split (s := 64) rfl (fun hg20 => ?_) (fun hg20 => ?_)
        · refine S_guarded rfl rfl hg20 ?_
          refine S_v (RunsAt_pu rfl) rfl ?_
          refine S_guarded rfl rfl hg20 ?_
          refine S_v (RunsAt_pu rfl) rfl ?_
          refine S_guarded rfl rfl hg20 ?_
          refine S_callL rfl rfl hL13 (same_ok _ (hv11.mono (fz_le _ _)) (hs.mono hL13.arg)) ?_
          rintro _ w21 rfl hx21 hL21 hle21
          replace hv1 := hv1.mono hle21
          replace hv8 := hv8.mono hle21
          replace hR10 := hR10.mono hle21
          replace hv11 := hv11.mono hle21
          refine S_v (r_pickT rfl hg20 rfl) rfl ?_
          refine S_pu 1 rfl ?_
          refine S_seqnil ?_
          refine W_ret ?_
          refine At_body rfl rfl ?_
          exact ⟨hL21.ext, congrArg Value.bool (by rw [(hj.2 hmany).2]; simp)⟩
        · exact absurd hg20 (by rw [(hj.2 hmany).1]; decide)
end Go.Proofs.Ytidedcbaahiplaa
