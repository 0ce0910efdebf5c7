/- The law of Split. -/
import Derived.Test.YtidedcbaahiplaaC6
import Derived.Test.YtidedcbaahiplaaPlainA
import Derived.KernelRfl
namespace Go.Proofs.Ytidedcbaahiplaa
open Go Go.E Go.RowKit
theorem splitf_len (w : World) {S R : List UInt8} {m k : Int} (hs : S.length ≤ 9223372036854775807) : Ok Try.prog 13 [.int .i64 (S.length : Int), .int .i64 m, .int .i64 k, .int .i64 (R.length : Int)] w (fun v w' => Ext w w' ∧ v = .agg #[.int .i64 (M.spF S m k R).1, .int .i64 (M.spF S m k R).2]) := by
  have h := splitf_ok w (m := m) (k := k) (r := (R.length : Int)) hs
  rw [M.sfF_spF] at h
  exact h

set_option maxRecDepth 10000 in
theorem law_split (w : World) {sv rv : Value} {S R : List UInt8} {m kk : Int} (hs : Vec .byte (hp w) sv S) (hr : Vec .byte (hp w) rv R) :
    Ok Try.prog 3 [sv, .int .i64 m, .int .i64 kk, rv] w (fun v w' => Ext w w' ∧ v = .bool true) := by
  have hls := hs.len_le
  have hlr := hr.len_le
  refine Ok_enter (n := 81) [(0, sv), (1, .int .i64 m), (2, .int .i64 kk), (3, rv)] Try.func3 rfl rfl rfl rfl rfl ?_
  have hL := Lcl.start w
  refine W_seqr ?_
  refine S_pu 1 rfl ?_
  refine S_seqnil ?_
  refine W_seqr ?_
  refine S_pu 4 rfl ?_
  refine S_callL rfl rfl hL (split_ok _ (hs.mono hL.arg) (hr.mono hL.arg)) ?_
  rintro _ w1 ⟨v1, rfl, hR1⟩ hx1 _ _
  have hv1 := hR1.vec.mono (nw_fz hL)
  have hL1 := hL.call hx1
  have hle1 := fz_ext hL hx1
  refine S_pu 3 rfl ?_
  refine S_alloc zr25 rfl rfl hL1 ?_
  intro w2 b2 hL2 hle2 _
  replace hv1 := hv1.mono hle2
  refine S_pu 1 rfl ?_
  refine S_storeBN 0 rfl rfl rfl zr25 hL2 rfl rfl (onc rfl (onc rfl on0)) ?_
  intro w3 hL3 hle3
  replace hv1 := hv1.mono hle3
  refine S_seqnil ?_
  refine W_seqr ?_
  refine S_pu 1 rfl ?_
  refine S_v (r_len rfl Try.underlying22 hs) rfl ?_
  refine S_pu 3 rfl ?_
  refine S_v (r_len rfl Try.underlying22 hr) rfl ?_
  refine S_callL rfl rfl hL3 (splitf_len (S := S) (R := R) _ hls) ?_
  rintro _ w4 rfl hx4 hL4 hle4
  replace hv1 := hv1.mono hle4
  refine S_alloc zr25 rfl rfl hL4 ?_
  intro w5 b5 hL5 hle5 _
  replace hv1 := hv1.mono hle5
  refine S_storeBN 0 rfl rfl rfl zr25 hL5 rfl rfl (onc rfl (onc rfl on0)) ?_
  intro w6 hL6 hle6
  replace hv1 := hv1.mono hle6
  refine S_seqnil ?_
  refine W_seq ?_
  refine W_seqr ?_
  refine S_callL rfl rfl hL6 (opens_ok _ ) ?_
  rintro _ w7 rfl hx7 hL7 hle7
  replace hv1 := hv1.mono hle7
  refine S_pu 2 rfl ?_
  refine S_split (s := 30) rfl (fun hg8 => ?_) (fun hg8 => ?_)
  · exact absurd hg8 (by decide)
  · refine S_guarded rfl rfl hg8 ?_
    refine S_v (r_loadBN 1 rfl Try.underlying25 rfl zr25 hL7 rfl) rfl ?_
    refine S_guarded rfl rfl hg8 ?_
    refine S_v (r_loadBN 0 rfl Try.underlying25 rfl zr25 hL7 rfl) rfl ?_
    refine S_guarded rfl rfl hg8 ?_
    refine S_v (r_neA rfl rfl eqg25 (eq25 _ _ _ _)) rfl ?_
    refine S_v (r_pickF rfl hg8 rfl) rfl ?_
    refine S_pu 1 rfl ?_
    refine S_split (s := 35) rfl (fun hg9 => ?_) (fun hg9 => ?_)
    · exact absurd hg9 (by simp)
    · refine S_guarded rfl rfl hg9 ?_
      refine S_v (r_field rfl Try.underlying25 rfl zr3 (by decide)) rfl ?_
      refine S_guarded rfl rfl hg9 ?_
      refine S_v (r_loadB1 0 rfl Try.underlying3 rfl hL7 rfl rfl) rfl ?_
      refine S_guarded rfl rfl hg9 ?_
      refine S_v (RunsAt_pu rfl) rfl ?_
      refine S_v (r_pickF rfl hg9 rfl) rfl ?_
      refine S_pu 1 rfl ?_
      refine S_split (s := 40) rfl (fun hg10 => ?_) (fun hg10 => ?_)
      · have herr := of_ndecide hg10
        refine S_unwanted rfl rfl hg10 rfl ?_
        refine S_unwanted rfl rfl hg10 rfl ?_
        refine S_unwanted rfl rfl hg10 rfl ?_
        refine S_unwanted rfl rfl hg10 rfl ?_
        refine S_v (r_pickT rfl hg10 rfl) rfl ?_
        refine S_seqnil ?_
        refine W_true rfl ?_
        refine W_seqr ?_
        refine S_callL rfl rfl hL7 (opens_ok _ ) ?_
        rintro _ w11 rfl hx11 hL11 hle11
        replace hv1 := hv1.mono hle11
        refine S_pu 1 rfl ?_
        refine S_split (s := 47) rfl (fun hg12 => ?_) (fun hg12 => ?_)
        · refine S_guarded rfl rfl hg12 ?_
          refine S_v (r_loadBN 1 rfl Try.underlying25 rfl zr25 hL11 rfl) rfl ?_
          refine S_guarded rfl rfl hg12 ?_
          refine S_v (r_loadBN 0 rfl Try.underlying25 rfl zr25 hL11 rfl) rfl ?_
          refine S_guarded rfl rfl hg12 ?_
          refine S_v (r_eqA rfl rfl eqg25 (eq25 _ _ _ _)) rfl ?_
          refine S_v (r_pickT rfl hg12 rfl) rfl ?_
          refine S_pu 1 rfl ?_
          refine S_split (s := 52) rfl (fun hg13 => ?_) (fun hg13 => ?_)
          · refine S_guarded rfl rfl hg13 ?_
            refine S_v (r_field rfl Try.underlying25 rfl zr3 (by decide)) rfl ?_
            refine S_guarded rfl rfl hg13 ?_
            refine S_v (r_loadB1 0 rfl Try.underlying3 rfl hL11 rfl rfl) rfl ?_
            refine S_guarded rfl rfl hg13 ?_
            refine S_v (RunsAt_pu rfl) rfl ?_
            refine S_v (r_pickT rfl hg13 rfl) rfl ?_
            refine S_pu 1 rfl ?_
            refine S_split (s := 57) rfl (fun hg14 => ?_) (fun hg14 => ?_)
            · refine S_guarded rfl rfl hg14 ?_
              refine S_v (RunsAt_pu rfl) rfl ?_
              refine S_guarded rfl rfl hg14 ?_
              refine S_v (r_len rfl Try.underlying23 hv1) rfl ?_
              refine S_guarded rfl rfl hg14 ?_
              refine S_v (RunsAt_pu rfl) rfl ?_
              refine S_v (r_pickT rfl hg14 rfl) rfl ?_
              refine S_pu 1 rfl ?_
              refine S_seqnil ?_
              refine W_ret ?_
              refine At_seq_ret ?_
              refine At_body rfl rfl ?_
              exact ⟨hL11.ext, congrArg Value.bool (by rw [M.spA_bad herr]; simp)⟩
            · exact absurd hg14 (by simp; exact herr)
          · exact absurd hg13 (by simp)
        · exact absurd hg12 (by decide)
      · have hok := of_ndecide2 hg10
        obtain ⟨e0, q1, q2, q3, q4, q5, hR⟩ := M.spF_ok hok
        have hsl : (M.spl S m.toNat R kk.toNat).length = kk.toNat := M.spl_length _ _ _ _
        rw [M.spA_good e0] at hv1
        refine S_guarded rfl rfl hg10 ?_
        refine S_v (RunsAt_pu rfl) rfl ?_
        refine S_guarded rfl rfl hg10 ?_
        refine S_v (r_len rfl Try.underlying23 hv1) rfl ?_
        refine S_guarded rfl rfl hg10 ?_
        refine S_v (RunsAt_pu rfl) rfl ?_
        refine S_guarded rfl rfl hg10 ?_
        refine S_v (RunsAt_pu rfl) rfl ?_
        refine S_v (r_pickF rfl hg10 rfl) rfl ?_
        refine S_seqnil ?_
        refine W_ifn rfl (fun hc15 => ?_) (fun hc15 => ?_)
        · exact absurd (by omega) hc15
        · refine W.sub (L' := [(0, sv), (1, .int .i64 ((m.toNat : Nat) : Int)), (2, .int .i64 kk), (3, rv), (9, v1), (10, .pointer (some ⟨b2, 0, none⟩)), (11, .pointer (some ⟨b5, 0, none⟩))]) ?_ (.cons rfl (.int rfl (by omega) (.cons rfl (.cons rfl (.cons rfl (.cons rfl (.cons rfl (.nil _))))))))
          refine W_skip ?_
          refine At_seq ?_
          refine W_seq ?_
          refine W_seqr ?_
          refine S_pu 1 rfl ?_
          refine S_seqnil ?_
          refine W_block ?_
          refine W_loop (σ := Nat) (fun i => [(12, .int .i64 (i : Int)), (0, sv), (1, .int .i64 ((m.toNat : Nat) : Int)), (2, .int .i64 kk), (3, rv), (9, v1)]) (fun i wr => Lcl w [.box b5 [.int .i64 (M.spF S m kk R).1, .int .i64 (M.spF S m kk R).2] 25, .box b2 [.int .i64 (M.spF S m kk R).1, .int .i64 (M.spF S m kk R).2] 25] wr ∧ i ≤ kk.toNat ∧ Vec shr (fz wr [.box b5 [.int .i64 (M.spF S m kk R).1, .int .i64 (M.spF S m kk R).2] 25, .box b2 [.int .i64 (M.spF S m kk R).1, .int .i64 (M.spF S m kk R).2] 25]) v1 (M.spl S m.toNat R kk.toNat)) (fun i => kk.toNat - i) 0 (.int rfl rfl (.cons rfl (.cons rfl (.cons rfl (.cons rfl (.cons rfl (Sub.nil _))))))) ⟨hL7, Nat.zero_le _, hv1⟩ ?_
          rintro i wr16 ⟨hL16, hil, hl16⟩
          refine W_seq ?_
          refine W_seqr ?_
          refine S_pu 3 rfl ?_
          refine S_seqnil ?_
          refine W_if rfl (fun hc17 => ?_) (fun hc17 => ?_)
          · refine W_skip ?_
            refine At_seq ?_
            refine W_seq ?_
            refine W_block ?_
            refine W_seqd (.q 0 (.q 1 (.q 2 (.q 3 (.q 4 (.q 5 (.q 6 (.q 7 (.q 8 (.q 9 (.h 10 (.h 11 (.q 12 (.q 13 (.tail 14))))))))))))))) mixed (by kernel_rfl) (fun w18 hx18 => ?_)
            have hL19 := hL16.call hx18
            have hle19 := fz_ext hL16 hx18
            replace hl16 := hl16.mono hle19
            refine D_pu 3 rfl ?_
            refine D_v (r_ar64 rfl rfl rfl (by omega)) rfl rfl ?_
            refine D_slice rfl rfl Try.underlying23 zr32 hl16 (i) ((i + 1)) ⟨_, rfl⟩ ⟨_, rfl⟩ (by omega) rfl ?_
            intro v20 hv20
            rw [show i + 1 - i = 1 by omega, M.spl_one (by omega) hR (by omega)] at hv20
            refine D_pu 4 rfl ?_
            refine D_v (r_ar64 rfl rfl rfl (by omega)) rfl rfl ?_
            refine D_hcall rfl rfl rfl (fun w21 hx21 => rshare_ok _ (hs.mono (hL19.call hx21).arg) (hr.mono (hL19.call hx21).arg) (by omega) (by omega) (by omega) hR (by omega)) ?_
            rintro w21 _ w22 hx21 hx22 ⟨v22, rfl, hR22⟩
            have hL23 := hL19.call hx21
            have hle23 := fz_ext hL19 hx21
            replace hl16 := hl16.mono hle23
            replace hv20 := hv20.mono hle23
            have hv22 := hR22.vec.mono (nw_fz hL23)
            have hL24 := hL23.call hx22
            have hle24 := fz_ext hL23 hx22
            replace hl16 := hl16.mono hle24
            replace hv20 := hv20.mono hle24
            refine D_lit rfl (sz := 2) rfl (fun _ => bsl23_1 _ _ _) rfl (by decide) rfl hL24 ?_
            intro v25 w25 hx25 hL25 hle25 hs25
            replace hl16 := hl16.mono hle25
            replace hv20 := hv20.mono hle25
            replace hv22 := hv22.mono hle25
            have hv25 := vec_of_src (el1 hv22) hs25
            refine D_call rfl rfl rfl (fun w26 hx26 => samesh_ok _ ((hv20.mono (fz_le _ _)).mono hx26.le) ((hv25.mono (fz_le _ _)).mono hx26.le)) ?_
            refine D_pu 1 rfl ?_
            refine D_tail (fun w27 hx27 => ?_)
            have hL28 := hL25.call hx27
            have hle28 := fz_ext hL25 hx27
            replace hl16 := hl16.mono hle28
            replace hv20 := hv20.mono hle28
            replace hv22 := hv22.mono hle28
            replace hs25 := hs25.mono hle28
            replace hv25 := hv25.mono hle28
            refine S_seqnil ?_
            refine W_ifn rfl (fun hc29 => ?_) (fun hc29 => ?_)
            · exact absurd rfl hc29
            · refine W_skip ?_
              refine At_block ?_
              refine At_seq ?_
              refine W_region ?_
              refine S_pu 1 rfl ?_
              refine S_v (r_ar64 rfl rfl rfl (by omega)) rfl ?_
              refine S_pu 1 rfl ?_
              refine S_nil ?_
              refine At_round (i + 1) (.int rfl (by omega) (.cons rfl (.cons rfl (.cons rfl (.cons rfl (.cons rfl (Sub.nil _))))))) ⟨hL28, by omega, hl16⟩ (by omega)
          · refine W_exit ?_
            refine At_seq_exit ?_
            refine At_loop_exit ?_
            refine At_exit ?_
            refine At_seq ?_
            refine W_seqr ?_
            refine S_pu 1 rfl ?_
            refine S_seqnil ?_
            refine W_ret ?_
            refine At_body rfl rfl ?_
            exact ⟨hL16.ext, rfl⟩
end Go.Proofs.Ytidedcbaahiplaa
