/- Generated walks: laws on fmindex. -/
import Derived.Test.YtmifkdfaaaaicaaQ3
import Derived.KernelRfl
namespace Go.Proofs.Ytmifkdfaaaaicaa
open Go Go.E Go.RowKit
noncomputable def law4_FmindexFindsMatchSpec (a0 : List UInt8) (a1 : List UInt8) : Option (Bool) :=
  Option.bind (fmindex_Build a0) (fun x1 => Option.bind (law4_finds) (fun x9 => if !x9 then some (false) else Option.bind (law4_textFault a0) (fun x16 => if x1.2.1 = x16.1 ∧ x1.2.2 = x16.2 then (if x1.2.1 = (0 : Int) then Option.bind (fmindex_Index_Count (x1.1.1, x1.1.2.1, x1.1.2.2) a1) (fun x28 => Option.bind (fmindex_Index_Locate (x1.1.1, x1.1.2.1, x1.1.2.2) a1) (fun x32 => Option.bind (law4_patternFault a1) (fun x36 => if x28.2.1 = x36.1 ∧ x28.2.2 = x36.2 then if x32.2.1 = x36.1 ∧ x32.2.2 = x36.2 then (if x36.1 = (0 : Int) then Option.bind (ref4_Places a0 a1) (fun x52 => Option.bind (fmindex_Index_Length (x1.1.1, x1.1.2.1, x1.1.2.2)) (fun x54 => if x54 = (a0.length : Int) then if x28.1 = (x52.length : Int) then Option.bind (ref3_Ints x32.1 x52) (fun x60 => some (x60)) else some (false) else some (false))) else (if x28.1 = (0 : Int) then some (decide ((x32.1.length : Int) = (0 : Int))) else some (false))) else some (false) else some (false)))) else Option.bind (fmindex_Index_Length (x1.1.1, x1.1.2.1, x1.1.2.2)) (fun x25 => some (decide (x25 = (0 : Int))))) else some (false))))

set_option maxRecDepth 10000 in
theorem law4_FmindexFindsMatchSpec_ok (w : World) (H : PH) (hH : Le H (hp w)) {a0 : List UInt8} {a1 : List UInt8} {v0_0 : Value} {v1_0 : Value} (h0_0 : Vec .byte H v0_0 (a0)) (h1_0 : Vec .byte H v1_0 (a1)) {r : Bool} (h : law4_FmindexFindsMatchSpec a0 a1 = some r) :
    Ok Try.prog 8 [v0_0, v1_0] w (fun v w' => Ext w w' ∧ v = .bool r) := by
  refine Ok_enter (n := 83) [(0, v0_0), (1, v1_0)] Try.func8 rfl rfl rfl rfl rfl ?_
  have hL := Lcl.start w
  refine W_seqr ?_
  refine S_pu 1 rfl ?_
  refine S_seqnil ?_
  refine W_seqr ?_
  refine S_pu 1 rfl ?_
  obtain ⟨x1, hb1, h⟩ := Go.L.bind_some h
  refine S_callL rfl rfl hL (fmindex_Build_ok _ _ (gz_le hH hL) (h0_0.mono (gz_left hH)) hb1) ?_
  rintro _ w2 ⟨u2_0, u2_1, u2_2, rfl, hR2_0, hR2_1, hR2_2⟩ hx2 hL2 hle2
  have hv2_0 := hR2_0.mono (gz_nw hH hL hx2)
  have hv2_1 := hR2_1.mono (gz_nw hH hL hx2)
  have hv2_2 := hR2_2.mono (gz_nw hH hL hx2)
  refine S_pu 3 rfl ?_
  refine S_alloc zr50 rfl rfl hL2 ?_
  intro w3 b3 hL3 hle3 _
  replace hv2_0 := hv2_0.mono (gz_mono hH hle3)
  replace hv2_1 := hv2_1.mono (gz_mono hH hle3)
  replace hv2_2 := hv2_2.mono (gz_mono hH hle3)
  refine S_alloc zr25 rfl rfl hL3 ?_
  intro w4 b4 hL4 hle4 _
  replace hv2_0 := hv2_0.mono (gz_mono hH hle4)
  replace hv2_1 := hv2_1.mono (gz_mono hH hle4)
  replace hv2_2 := hv2_2.mono (gz_mono hH hle4)
  refine S_storeBN 1 rfl rfl rfl zr50 hL4 rfl rfl (onc hv2_0.one (onc hv2_1.one (onc hv2_2.one on0))) ?_
  intro w5 hL5 hle5
  replace hv2_0 := hv2_0.mono (gz_mono hH hle5)
  replace hv2_1 := hv2_1.mono (gz_mono hH hle5)
  replace hv2_2 := hv2_2.mono (gz_mono hH hle5)
  refine S_storeBN 0 rfl rfl rfl zr25 hL5 rfl rfl (onc rfl (onc rfl on0)) ?_
  intro w6 hL6 hle6
  replace hv2_0 := hv2_0.mono (gz_mono hH hle6)
  replace hv2_1 := hv2_1.mono (gz_mono hH hle6)
  replace hv2_2 := hv2_2.mono (gz_mono hH hle6)
  refine S_seqnil ?_
  refine W_seq ?_
  refine W_seqd (.q 0 (.q 1 (.q 2 (.q 3 (.q 4 (.q 5 (.q 6 (.q 7 (.tail 8))))))))) mixed (by kernel_rfl) (fun w7 hx7 => ?_)
  have hL8 := hL6.call hx7
  have hle8 := fz_ext hL6 hx7
  replace hv2_0 := hv2_0.mono (gz_mono hH hle8)
  replace hv2_1 := hv2_1.mono (gz_mono hH hle8)
  replace hv2_2 := hv2_2.mono (gz_mono hH hle8)
  obtain ⟨x9, hb9, h⟩ := Go.L.bind_some h
  refine D_call rfl rfl rfl (fun w10 hx10 => law4_finds_ok _ _ (Le.refl _) hb9) ?_
  refine D_pu 2 rfl ?_
  refine D_split (s := 20) rfl (fun hg11 => ?_) (fun hg11 => ?_)
  · replace h := Go.L.ite_t hg11 h
    refine D_no rfl rfl rfl rfl hg11 rfl ?_
    refine D_no rfl rfl rfl rfl hg11 rfl ?_
    refine D_no rfl rfl rfl rfl hg11 rfl ?_
    refine D_no rfl rfl rfl rfl hg11 rfl ?_
    refine D_v (r_pickT rfl hg11 rfl) rfl rfl ?_
    refine D_tail (fun w13 hx13 => ?_)
    have hL14 := hL8.call hx13
    have hle14 := fz_ext hL8 hx13
    replace hv2_0 := hv2_0.mono (gz_mono hH hle14)
    replace hv2_1 := hv2_1.mono (gz_mono hH hle14)
    replace hv2_2 := hv2_2.mono (gz_mono hH hle14)
    refine S_seqnil ?_
    refine W_true rfl ?_
    refine W_seqr ?_
    refine S_pu 1 rfl ?_
    refine S_seqnil ?_
    refine W_ret ?_
    refine At_seq_ret ?_
    obtain rfl := Option.some.inj h
    refine At_body rfl rfl ?_
    exact ⟨hL14.ext, rfl⟩
  · replace h := Go.L.ite_f hg11 h
    refine D_vg (r_loadBN 0 rfl Try.underlying25 rfl zr25 hL8 rfl) rfl rfl rfl rfl hg11 rfl ?_
    refine D_vg (RunsAt_pu rfl) rfl rfl rfl rfl hg11 rfl ?_
    obtain ⟨x16, hb16, h⟩ := Go.L.bind_some h
    refine D_callg rfl rfl rfl rfl hg11 rfl rfl (fun w17 hx17 => law4_textFault_ok _ _ (Le.refl _) ((h0_0.mono (hH.trans hL8.arg)).mono hx17.le) hb16) ?_
    refine D_vg (r_neA rfl rfl eqg25 (eq25 _ _ _ _ )) rfl rfl rfl rfl hg11 rfl ?_
    refine D_v (r_pickF rfl hg11 rfl) rfl rfl ?_
    refine D_tail (fun w18 hx18 => ?_)
    have hL19 := hL8.call hx18
    have hle19 := fz_ext hL8 hx18
    replace hv2_0 := hv2_0.mono (gz_mono hH hle19)
    replace hv2_1 := hv2_1.mono (gz_mono hH hle19)
    replace hv2_2 := hv2_2.mono (gz_mono hH hle19)
    refine S_seqnil ?_
    refine W_ifn rfl (fun hc20 => ?_) (fun hc20 => ?_)
    · replace h := Go.L.ite_n hc20 h
      refine W_seqr ?_
      refine S_pu 1 rfl ?_
      refine S_seqnil ?_
      refine W_ret ?_
      refine At_seq_ret ?_
      obtain rfl := Option.some.inj h
      refine At_body rfl rfl ?_
      exact ⟨hL19.ext, rfl⟩
    · replace h := Go.L.ite_p hc20 h
      refine W_skip ?_
      refine At_seq ?_
      refine W_seq ?_
      refine W_seqr ?_
      refine S_v (r_field rfl Try.underlying25 rfl zr3 (by decide)) rfl ?_
      refine S_v (r_loadB1 0 rfl Try.underlying3 rfl hL19 rfl rfl) rfl ?_
      refine S_pu 1 rfl ?_
      refine S_seqnil ?_
      refine W_ifn rfl (fun hc23 => ?_) (fun hc23 => ?_)
      · replace h := Go.L.ite_n hc23 h
        refine W_seqr ?_
        refine S_v (r_loadBN 1 rfl Try.underlying50 rfl zr50 hL19 rfl) rfl ?_
        obtain ⟨x25, hb25, h⟩ := Go.L.bind_some h
        refine S_callL rfl rfl hL19 (fmindex_Index_Length_ok _ _ (gz_le hH hL19) hv2_0 hv2_1 hv2_2 hb25) ?_
        rintro _ w26 rfl hx26 hL26 hle26
        replace hv2_0 := hv2_0.mono (gz_mono hH hle26)
        replace hv2_1 := hv2_1.mono (gz_mono hH hle26)
        replace hv2_2 := hv2_2.mono (gz_mono hH hle26)
        refine S_pu 2 rfl ?_
        refine S_seqnil ?_
        refine W_ret ?_
        refine At_seq_ret ?_
        obtain rfl := Option.some.inj h
        refine At_body rfl rfl ?_
        exact ⟨hL26.ext, rfl⟩
      · replace h := Go.L.ite_p hc23 h
        refine W_skip ?_
        refine At_seq ?_
        refine W_seqr ?_
        refine S_v (r_loadBN 1 rfl Try.underlying50 rfl zr50 hL19 rfl) rfl ?_
        refine S_pu 1 rfl ?_
        obtain ⟨x28, hb28, h⟩ := Go.L.bind_some h
        refine S_callL rfl rfl hL19 (fmindex_Index_Count_ok _ _ (gz_le hH hL19) hv2_0 hv2_1 hv2_2 (h1_0.mono (gz_left hH)) hb28) ?_
        rintro _ w29 rfl hx29 hL29 hle29
        replace hv2_0 := hv2_0.mono (gz_mono hH hle29)
        replace hv2_1 := hv2_1.mono (gz_mono hH hle29)
        replace hv2_2 := hv2_2.mono (gz_mono hH hle29)
        refine S_pu 3 rfl ?_
        refine S_alloc zr25 rfl rfl hL29 ?_
        intro w30 b30 hL30 hle30 _
        replace hv2_0 := hv2_0.mono (gz_mono hH hle30)
        replace hv2_1 := hv2_1.mono (gz_mono hH hle30)
        replace hv2_2 := hv2_2.mono (gz_mono hH hle30)
        refine S_pu 1 rfl ?_
        refine S_storeBN 0 rfl rfl rfl zr25 hL30 rfl rfl (onc rfl (onc rfl on0)) ?_
        intro w31 hL31 hle31
        replace hv2_0 := hv2_0.mono (gz_mono hH hle31)
        replace hv2_1 := hv2_1.mono (gz_mono hH hle31)
        replace hv2_2 := hv2_2.mono (gz_mono hH hle31)
        refine S_seqnil ?_
        refine W_seqr ?_
        refine S_v (r_loadBN 2 rfl Try.underlying50 rfl zr50 hL31 rfl) rfl ?_
        refine S_pu 1 rfl ?_
        obtain ⟨x32, hb32, h⟩ := Go.L.bind_some h
        refine S_callL rfl rfl hL31 (fmindex_Index_Locate_ok _ _ (gz_le hH hL31) hv2_0 hv2_1 hv2_2 (h1_0.mono (gz_left hH)) hb32) ?_
        rintro _ w33 ⟨u33_0, rfl, hR33_0⟩ hx33 hL33 hle33
        have hv33_0 := hR33_0.vecG hH hL31 hx33
        replace hv2_0 := hv2_0.mono (gz_mono hH hle33)
        replace hv2_1 := hv2_1.mono (gz_mono hH hle33)
        replace hv2_2 := hv2_2.mono (gz_mono hH hle33)
        refine S_pu 3 rfl ?_
        refine S_alloc zr25 rfl rfl hL33 ?_
        intro w34 b34 hL34 hle34 _
        replace hv2_0 := hv2_0.mono (gz_mono hH hle34)
        replace hv2_1 := hv2_1.mono (gz_mono hH hle34)
        replace hv2_2 := hv2_2.mono (gz_mono hH hle34)
        replace hv33_0 := hv33_0.mono (gz_mono hH hle34)
        refine S_pu 1 rfl ?_
        refine S_storeBN 0 rfl rfl rfl zr25 hL34 rfl rfl (onc rfl (onc rfl on0)) ?_
        intro w35 hL35 hle35
        replace hv2_0 := hv2_0.mono (gz_mono hH hle35)
        replace hv2_1 := hv2_1.mono (gz_mono hH hle35)
        replace hv2_2 := hv2_2.mono (gz_mono hH hle35)
        replace hv33_0 := hv33_0.mono (gz_mono hH hle35)
        refine S_seqnil ?_
        refine W_seqr ?_
        refine S_pu 1 rfl ?_
        obtain ⟨x36, hb36, h⟩ := Go.L.bind_some h
        refine S_callL rfl rfl hL35 (law4_patternFault_ok _ _ (gz_le hH hL35) (h1_0.mono (gz_left hH)) hb36) ?_
        rintro _ w37 rfl hx37 hL37 hle37
        replace hv2_0 := hv2_0.mono (gz_mono hH hle37)
        replace hv2_1 := hv2_1.mono (gz_mono hH hle37)
        replace hv2_2 := hv2_2.mono (gz_mono hH hle37)
        replace hv33_0 := hv33_0.mono (gz_mono hH hle37)
        refine S_alloc zr25 rfl rfl hL37 ?_
        intro w38 b38 hL38 hle38 _
        replace hv2_0 := hv2_0.mono (gz_mono hH hle38)
        replace hv2_1 := hv2_1.mono (gz_mono hH hle38)
        replace hv2_2 := hv2_2.mono (gz_mono hH hle38)
        replace hv33_0 := hv33_0.mono (gz_mono hH hle38)
        refine S_storeBN 0 rfl rfl rfl zr25 hL38 rfl rfl (onc rfl (onc rfl on0)) ?_
        intro w39 hL39 hle39
        replace hv2_0 := hv2_0.mono (gz_mono hH hle39)
        replace hv2_1 := hv2_1.mono (gz_mono hH hle39)
        replace hv2_2 := hv2_2.mono (gz_mono hH hle39)
        replace hv33_0 := hv33_0.mono (gz_mono hH hle39)
        refine S_seqnil ?_
        refine W_seq ?_
        refine W_seqr ?_
        refine S_v (r_loadBN 2 rfl Try.underlying25 rfl zr25 hL39 rfl) rfl ?_
        refine S_v (r_loadBN 0 rfl Try.underlying25 rfl zr25 hL39 rfl) rfl ?_
        refine S_v (r_neA rfl rfl eqg25 (eq25 _ _ _ _ )) rfl ?_
        refine S_pu 1 rfl ?_
        refine S_split (s := 49) rfl (fun hg40 => ?_) (fun hg40 => ?_)
        · replace h := Go.L.ite_n (not_dec_t hg40) h
          refine S_unwanted rfl rfl hg40 rfl ?_
          refine S_unwanted rfl rfl hg40 rfl ?_
          refine S_unwanted rfl rfl hg40 rfl ?_
          refine S_v (r_pickT rfl hg40 rfl) rfl ?_
          refine S_seqnil ?_
          refine W_true rfl ?_
          refine W_seqr ?_
          refine S_pu 1 rfl ?_
          refine S_seqnil ?_
          refine W_ret ?_
          refine At_seq_ret ?_
          obtain rfl := Option.some.inj h
          refine At_body rfl rfl ?_
          exact ⟨hL39.ext, rfl⟩
        · replace h := Go.L.ite_p (not_dec_f hg40) h
          refine S_guarded rfl rfl hg40 ?_
          refine S_v (r_loadBN 1 rfl Try.underlying25 rfl zr25 hL39 rfl) rfl ?_
          refine S_guarded rfl rfl hg40 ?_
          refine S_v (r_loadBN 0 rfl Try.underlying25 rfl zr25 hL39 rfl) rfl ?_
          refine S_guarded rfl rfl hg40 ?_
          refine S_v (r_neA rfl rfl eqg25 (eq25 _ _ _ _ )) rfl ?_
          refine S_v (r_pickF rfl hg40 rfl) rfl ?_
          refine S_seqnil ?_
          refine W_ifn rfl (fun hc43 => ?_) (fun hc43 => ?_)
          · replace h := Go.L.ite_n hc43 h
            refine W_seqr ?_
            refine S_pu 1 rfl ?_
            refine S_seqnil ?_
            refine W_ret ?_
            refine At_seq_ret ?_
            obtain rfl := Option.some.inj h
            refine At_body rfl rfl ?_
            exact ⟨hL39.ext, rfl⟩
          · replace h := Go.L.ite_p hc43 h
            refine W_skip ?_
            refine At_seq ?_
            refine W_seq ?_
            refine W_seqr ?_
            refine S_v (r_field rfl Try.underlying25 rfl zr3 (by decide)) rfl ?_
            refine S_v (r_loadB1 0 rfl Try.underlying3 rfl hL39 rfl rfl) rfl ?_
            refine S_pu 1 rfl ?_
            refine S_seqnil ?_
            refine W_ifn rfl (fun hc46 => ?_) (fun hc46 => ?_)
            · replace h := Go.L.ite_n hc46 h
              refine W_seqr ?_
              refine S_pu 3 rfl ?_
              refine S_split (s := 59) rfl (fun hg48 => ?_) (fun hg48 => ?_)
              · replace h := Go.L.ite_p (of_decide_eq_true hg48) h
                refine S_guarded rfl rfl hg48 ?_
                refine S_v (RunsAt_pu rfl) rfl ?_
                refine S_guarded rfl rfl hg48 ?_
                refine S_v (r_len rfl Try.underlying23 hv33_0) rfl ?_
                refine S_guarded rfl rfl hg48 ?_
                refine S_v (RunsAt_pu rfl) rfl ?_
                refine S_v (r_pickT rfl hg48 rfl) rfl ?_
                refine S_pu 1 rfl ?_
                refine S_seqnil ?_
                refine W_ret ?_
                refine At_seq_ret ?_
                obtain rfl := Option.some.inj h
                refine At_body rfl rfl ?_
                exact ⟨hL39.ext, rfl⟩
              · replace h := Go.L.ite_n (of_decide_eq_false hg48) h
                refine S_unwanted rfl rfl hg48 rfl ?_
                refine S_unwanted rfl rfl hg48 rfl ?_
                refine S_unwanted rfl rfl hg48 rfl ?_
                refine S_v (r_pickF rfl hg48 rfl) rfl ?_
                refine S_pu 1 rfl ?_
                refine S_seqnil ?_
                refine W_ret ?_
                refine At_seq_ret ?_
                obtain rfl := Option.some.inj h
                refine At_body rfl rfl ?_
                exact ⟨hL39.ext, rfl⟩
            · replace h := Go.L.ite_p hc46 h
              refine W_skip ?_
              refine At_seq ?_
              refine W_seqr ?_
              refine S_pu 2 rfl ?_
              obtain ⟨x52, hb52, h⟩ := Go.L.bind_some h
              refine S_callL rfl rfl hL39 (ref4_Places_ok _ _ (gz_le hH hL39) (h0_0.mono (gz_left hH)) (h1_0.mono (gz_left hH)) hb52) ?_
              rintro u53_0 w53 ⟨_, rfl, hR53_0⟩ hx53 hL53 hle53
              have hv53_0 := hR53_0.vecG hH hL39 hx53
              replace hv2_0 := hv2_0.mono (gz_mono hH hle53)
              replace hv2_1 := hv2_1.mono (gz_mono hH hle53)
              replace hv2_2 := hv2_2.mono (gz_mono hH hle53)
              replace hv33_0 := hv33_0.mono (gz_mono hH hle53)
              refine S_pu 1 rfl ?_
              refine S_seqnil ?_
              refine W_seqr ?_
              refine S_v (r_loadBN 4 rfl Try.underlying50 rfl zr50 hL53 rfl) rfl ?_
              obtain ⟨x54, hb54, h⟩ := Go.L.bind_some h
              refine S_callL rfl rfl hL53 (fmindex_Index_Length_ok _ _ (gz_le hH hL53) hv2_0 hv2_1 hv2_2 hb54) ?_
              rintro _ w55 rfl hx55 hL55 hle55
              replace hv2_0 := hv2_0.mono (gz_mono hH hle55)
              replace hv2_1 := hv2_1.mono (gz_mono hH hle55)
              replace hv2_2 := hv2_2.mono (gz_mono hH hle55)
              replace hv33_0 := hv33_0.mono (gz_mono hH hle55)
              replace hv53_0 := hv53_0.mono (gz_mono hH hle55)
              refine S_pu 1 rfl ?_
              refine S_v (r_len rfl Try.underlying22 h0_0) rfl ?_
              refine S_pu 2 rfl ?_
              refine S_split (s := 72) rfl (fun hg56 => ?_) (fun hg56 => ?_)
              · replace h := Go.L.ite_p (of_decide_eq_true hg56) h
                refine S_guarded rfl rfl hg56 ?_
                refine S_v (RunsAt_pu rfl) rfl ?_
                refine S_guarded rfl rfl hg56 ?_
                refine S_v (RunsAt_pu rfl) rfl ?_
                refine S_guarded rfl rfl hg56 ?_
                refine S_v (r_len rfl Try.underlying23 hv53_0) rfl ?_
                refine S_guarded rfl rfl hg56 ?_
                refine S_v (RunsAt_pu rfl) rfl ?_
                refine S_v (r_pickT rfl hg56 rfl) rfl ?_
                refine S_pu 1 rfl ?_
                refine S_split (s := 78) rfl (fun hg58 => ?_) (fun hg58 => ?_)
                · replace h := Go.L.ite_p (of_decide_eq_true hg58) h
                  refine S_guarded rfl rfl hg58 ?_
                  refine S_v (RunsAt_pu rfl) rfl ?_
                  refine S_guarded rfl rfl hg58 ?_
                  refine S_v (RunsAt_pu rfl) rfl ?_
                  refine S_guarded rfl rfl hg58 ?_
                  obtain ⟨x60, hb60, h⟩ := Go.L.bind_some h
                  refine S_callL rfl rfl hL55 (ref3_Ints_ok _ _ (gz_le hH hL55) hv33_0 hv53_0 hb60) ?_
                  rintro _ w61 rfl hx61 hL61 hle61
                  replace hv2_0 := hv2_0.mono (gz_mono hH hle61)
                  replace hv2_1 := hv2_1.mono (gz_mono hH hle61)
                  replace hv2_2 := hv2_2.mono (gz_mono hH hle61)
                  replace hv33_0 := hv33_0.mono (gz_mono hH hle61)
                  replace hv53_0 := hv53_0.mono (gz_mono hH hle61)
                  refine S_v (r_pickT rfl hg58 rfl) rfl ?_
                  refine S_pu 1 rfl ?_
                  refine S_seqnil ?_
                  refine W_ret ?_
                  obtain rfl := Option.some.inj h
                  refine At_body rfl rfl ?_
                  exact ⟨hL61.ext, rfl⟩
                · replace h := Go.L.ite_n (of_decide_eq_false hg58) h
                  refine S_unwanted rfl rfl hg58 rfl ?_
                  refine S_unwanted rfl rfl hg58 rfl ?_
                  refine S_unwanted rfl rfl hg58 rfl ?_
                  refine S_v (r_pickF rfl hg58 rfl) rfl ?_
                  refine S_pu 1 rfl ?_
                  refine S_seqnil ?_
                  refine W_ret ?_
                  obtain rfl := Option.some.inj h
                  refine At_body rfl rfl ?_
                  exact ⟨hL55.ext, rfl⟩
              · replace h := Go.L.ite_n (of_decide_eq_false hg56) h
                refine S_unwanted rfl rfl hg56 rfl ?_
                refine S_unwanted rfl rfl hg56 rfl ?_
                refine S_unwanted rfl rfl hg56 rfl ?_
                refine S_unwanted rfl rfl hg56 rfl ?_
                refine S_v (r_pickF rfl hg56 rfl) rfl ?_
                refine S_pu 1 rfl ?_
                refine S_unwanted rfl rfl rfl rfl ?_
                refine S_unwanted rfl rfl rfl rfl ?_
                refine S_unwanted rfl rfl rfl rfl ?_
                refine S_v (r_pickF rfl rfl rfl) rfl ?_
                refine S_pu 1 rfl ?_
                refine S_seqnil ?_
                refine W_ret ?_
                obtain rfl := Option.some.inj h
                refine At_body rfl rfl ?_
                exact ⟨hL55.ext, rfl⟩

noncomputable def law4_FmindexExtractMatchesSpec (a0 : List UInt8) (a1 : Int) (a2 : Int) : Option (Bool) :=
  Option.bind (fmindex_Build a0) (fun x1 => Option.bind (law4_finds) (fun x7 => if !x7 then Option.bind (law4_finds) (fun x11 => if x11 then some (decide ((2048 : Int) < (a0.length : Int))) else some (false)) else if x1.2.1 = (0 : Int) then Option.bind (fmindex_Index_Extract (x1.1.1, x1.1.2.1, x1.1.2.2) a1 a2) (fun x25 => Option.bind (ref3_In a1 (0 : Int) (a0.length : Int)) (fun x29 => if !x29 then Option.bind (ref3_At (4 : Int) (-1 : Int)) (fun x35 => if x25.2.1 = x35.1 ∧ x25.2.2 = x35.2 then some (decide ((x25.1.length : Int) = (0 : Int))) else some (false)) else Option.bind (ref3_In a2 a1 (a0.length : Int)) (fun x45 => if !x45 then Option.bind (ref3_At (4 : Int) (-2 : Int)) (fun x51 => if x25.2.1 = x51.1 ∧ x25.2.2 = x51.2 then some (decide ((x25.1.length : Int) = (0 : Int))) else some (false)) else (if x25.2.1 = (0 : Int) then Go.L.chk (0 ≤ a1 ∧ a1 ≤ a2 ∧ a2 ≤ (a0.length : Int)) (Option.bind (ref3_SameBytes x25.1 ((a0.drop a1.toNat).take (a2.toNat - a1.toNat))) (fun x65 => some (x65))) else some (false))))) else Option.bind (law4_finds) (fun x19 => if x19 then some (decide ((2048 : Int) < (a0.length : Int))) else some (false))))

set_option maxRecDepth 10000 in
theorem law4_FmindexExtractMatchesSpec_ok (w : World) (H : PH) (hH : Le H (hp w)) {a0 : List UInt8} {a1 : Int} {a2 : Int} {v0_0 : Value} (h0_0 : Vec .byte H v0_0 (a0)) {r : Bool} (h : law4_FmindexExtractMatchesSpec a0 a1 a2 = some r) :
    Ok Try.prog 9 [v0_0, .int .i64 a1, .int .i64 a2] w (fun v w' => Ext w w' ∧ v = .bool r) := by
  refine Ok_enter (n := 74) [(0, v0_0), (1, .int .i64 a1), (2, .int .i64 a2)] Try.func9 rfl rfl rfl rfl rfl ?_
  have hL := Lcl.start w
  refine W_seqr ?_
  refine S_pu 1 rfl ?_
  refine S_seqnil ?_
  refine W_seqr ?_
  refine S_pu 1 rfl ?_
  obtain ⟨x1, hb1, h⟩ := Go.L.bind_some h
  refine S_callL rfl rfl hL (fmindex_Build_ok _ _ (gz_le hH hL) (h0_0.mono (gz_left hH)) hb1) ?_
  rintro _ w2 ⟨u2_0, u2_1, u2_2, rfl, hR2_0, hR2_1, hR2_2⟩ hx2 hL2 hle2
  have hv2_0 := hR2_0.mono (gz_nw hH hL hx2)
  have hv2_1 := hR2_1.mono (gz_nw hH hL hx2)
  have hv2_2 := hR2_2.mono (gz_nw hH hL hx2)
  refine S_pu 3 rfl ?_
  refine S_alloc zr50 rfl rfl hL2 ?_
  intro w3 b3 hL3 hle3 _
  replace hv2_0 := hv2_0.mono (gz_mono hH hle3)
  replace hv2_1 := hv2_1.mono (gz_mono hH hle3)
  replace hv2_2 := hv2_2.mono (gz_mono hH hle3)
  refine S_alloc zr25 rfl rfl hL3 ?_
  intro w4 b4 hL4 hle4 _
  replace hv2_0 := hv2_0.mono (gz_mono hH hle4)
  replace hv2_1 := hv2_1.mono (gz_mono hH hle4)
  replace hv2_2 := hv2_2.mono (gz_mono hH hle4)
  refine S_storeBN 1 rfl rfl rfl zr50 hL4 rfl rfl (onc hv2_0.one (onc hv2_1.one (onc hv2_2.one on0))) ?_
  intro w5 hL5 hle5
  replace hv2_0 := hv2_0.mono (gz_mono hH hle5)
  replace hv2_1 := hv2_1.mono (gz_mono hH hle5)
  replace hv2_2 := hv2_2.mono (gz_mono hH hle5)
  refine S_storeBN 0 rfl rfl rfl zr25 hL5 rfl rfl (onc rfl (onc rfl on0)) ?_
  intro w6 hL6 hle6
  replace hv2_0 := hv2_0.mono (gz_mono hH hle6)
  replace hv2_1 := hv2_1.mono (gz_mono hH hle6)
  replace hv2_2 := hv2_2.mono (gz_mono hH hle6)
  refine S_seqnil ?_
  refine W_seq ?_
  refine W_seqr ?_
  obtain ⟨x7, hb7, h⟩ := Go.L.bind_some h
  refine S_callL rfl rfl hL6 (law4_finds_ok _ _ (gz_le hH hL6) hb7) ?_
  rintro _ w8 rfl hx8 hL8 hle8
  replace hv2_0 := hv2_0.mono (gz_mono hH hle8)
  replace hv2_1 := hv2_1.mono (gz_mono hH hle8)
  replace hv2_2 := hv2_2.mono (gz_mono hH hle8)
  refine S_pu 2 rfl ?_
  refine S_split (s := 18) rfl (fun hg9 => ?_) (fun hg9 => ?_)
  · replace h := Go.L.ite_t hg9 h
    refine S_unwanted rfl rfl hg9 rfl ?_
    refine S_unwanted rfl rfl hg9 rfl ?_
    refine S_unwanted rfl rfl hg9 rfl ?_
    refine S_v (r_pickT rfl hg9 rfl) rfl ?_
    refine S_seqnil ?_
    refine W_true rfl ?_
    refine W_seqr ?_
    obtain ⟨x11, hb11, h⟩ := Go.L.bind_some h
    refine S_callL rfl rfl hL8 (law4_finds_ok _ _ (gz_le hH hL8) hb11) ?_
    rintro _ w12 rfl hx12 hL12 hle12
    replace hv2_0 := hv2_0.mono (gz_mono hH hle12)
    replace hv2_1 := hv2_1.mono (gz_mono hH hle12)
    replace hv2_2 := hv2_2.mono (gz_mono hH hle12)
    refine S_pu 1 rfl ?_
    refine S_split (s := 24) rfl (fun hg13 => ?_) (fun hg13 => ?_)
    · replace h := Go.L.ite_t hg13 h
      refine S_guarded rfl rfl hg13 ?_
      refine S_v (RunsAt_pu rfl) rfl ?_
      refine S_guarded rfl rfl hg13 ?_
      refine S_v (r_len rfl Try.underlying22 h0_0) rfl ?_
      refine S_guarded rfl rfl hg13 ?_
      refine S_v (RunsAt_pu rfl) rfl ?_
      refine S_v (r_pickT rfl hg13 rfl) rfl ?_
      refine S_pu 1 rfl ?_
      refine S_seqnil ?_
      refine W_ret ?_
      refine At_seq_ret ?_
      obtain rfl := Option.some.inj h
      refine At_body rfl rfl ?_
      exact ⟨hL12.ext, rfl⟩
    · replace h := Go.L.ite_f hg13 h
      refine S_unwanted rfl rfl hg13 rfl ?_
      refine S_unwanted rfl rfl hg13 rfl ?_
      refine S_unwanted rfl rfl hg13 rfl ?_
      refine S_v (r_pickF rfl hg13 rfl) rfl ?_
      refine S_pu 1 rfl ?_
      refine S_seqnil ?_
      refine W_ret ?_
      refine At_seq_ret ?_
      obtain rfl := Option.some.inj h
      refine At_body rfl rfl ?_
      exact ⟨hL12.ext, rfl⟩
  · replace h := Go.L.ite_f hg9 h
    refine S_guarded rfl rfl hg9 ?_
    refine S_v (r_field rfl Try.underlying25 rfl zr3 (by decide)) rfl ?_
    refine S_guarded rfl rfl hg9 ?_
    refine S_v (r_loadB1 0 rfl Try.underlying3 rfl hL8 rfl rfl) rfl ?_
    refine S_guarded rfl rfl hg9 ?_
    refine S_v (RunsAt_pu rfl) rfl ?_
    refine S_v (r_pickF rfl hg9 rfl) rfl ?_
    refine S_seqnil ?_
    refine W_ifn rfl (fun hc17 => ?_) (fun hc17 => ?_)
    · replace h := Go.L.ite_n hc17 h
      refine W_seqr ?_
      obtain ⟨x19, hb19, h⟩ := Go.L.bind_some h
      refine S_callL rfl rfl hL8 (law4_finds_ok _ _ (gz_le hH hL8) hb19) ?_
      rintro _ w20 rfl hx20 hL20 hle20
      replace hv2_0 := hv2_0.mono (gz_mono hH hle20)
      replace hv2_1 := hv2_1.mono (gz_mono hH hle20)
      replace hv2_2 := hv2_2.mono (gz_mono hH hle20)
      refine S_pu 1 rfl ?_
      refine S_split (s := 24) rfl (fun hg21 => ?_) (fun hg21 => ?_)
      · replace h := Go.L.ite_t hg21 h
        refine S_guarded rfl rfl hg21 ?_
        refine S_v (RunsAt_pu rfl) rfl ?_
        refine S_guarded rfl rfl hg21 ?_
        refine S_v (r_len rfl Try.underlying22 h0_0) rfl ?_
        refine S_guarded rfl rfl hg21 ?_
        refine S_v (RunsAt_pu rfl) rfl ?_
        refine S_v (r_pickT rfl hg21 rfl) rfl ?_
        refine S_pu 1 rfl ?_
        refine S_seqnil ?_
        refine W_ret ?_
        refine At_seq_ret ?_
        obtain rfl := Option.some.inj h
        refine At_body rfl rfl ?_
        exact ⟨hL20.ext, rfl⟩
      · replace h := Go.L.ite_f hg21 h
        refine S_unwanted rfl rfl hg21 rfl ?_
        refine S_unwanted rfl rfl hg21 rfl ?_
        refine S_unwanted rfl rfl hg21 rfl ?_
        refine S_v (r_pickF rfl hg21 rfl) rfl ?_
        refine S_pu 1 rfl ?_
        refine S_seqnil ?_
        refine W_ret ?_
        refine At_seq_ret ?_
        obtain rfl := Option.some.inj h
        refine At_body rfl rfl ?_
        exact ⟨hL20.ext, rfl⟩
    · replace h := Go.L.ite_p hc17 h
      refine W_skip ?_
      refine At_seq ?_
      refine W_seqr ?_
      refine S_v (r_loadBN 1 rfl Try.underlying50 rfl zr50 hL8 rfl) rfl ?_
      refine S_pu 2 rfl ?_
      obtain ⟨x25, hb25, h⟩ := Go.L.bind_some h
      refine S_callL rfl rfl hL8 (fmindex_Index_Extract_ok _ _ (gz_le hH hL8) hv2_0 hv2_1 hv2_2 hb25) ?_
      rintro _ w26 ⟨u26_0, rfl, hR26_0⟩ hx26 hL26 hle26
      have hv26_0 := hR26_0.vecG hH hL8 hx26
      replace hv2_0 := hv2_0.mono (gz_mono hH hle26)
      replace hv2_1 := hv2_1.mono (gz_mono hH hle26)
      replace hv2_2 := hv2_2.mono (gz_mono hH hle26)
      refine S_pu 3 rfl ?_
      refine S_alloc zr25 rfl rfl hL26 ?_
      intro w27 b27 hL27 hle27 _
      replace hv2_0 := hv2_0.mono (gz_mono hH hle27)
      replace hv2_1 := hv2_1.mono (gz_mono hH hle27)
      replace hv2_2 := hv2_2.mono (gz_mono hH hle27)
      replace hv26_0 := hv26_0.mono (gz_mono hH hle27)
      refine S_pu 1 rfl ?_
      refine S_storeBN 0 rfl rfl rfl zr25 hL27 rfl rfl (onc rfl (onc rfl on0)) ?_
      intro w28 hL28 hle28
      replace hv2_0 := hv2_0.mono (gz_mono hH hle28)
      replace hv2_1 := hv2_1.mono (gz_mono hH hle28)
      replace hv2_2 := hv2_2.mono (gz_mono hH hle28)
      replace hv26_0 := hv26_0.mono (gz_mono hH hle28)
      refine S_seqnil ?_
      refine W_seq ?_
      refine W_seqr ?_
      refine S_pu 2 rfl ?_
      refine S_v (r_len rfl Try.underlying22 h0_0) rfl ?_
      obtain ⟨x29, hb29, h⟩ := Go.L.bind_some h
      refine S_callL rfl rfl hL28 (ref3_In_ok _ _ (gz_le hH hL28) hb29) ?_
      rintro _ w30 rfl hx30 hL30 hle30
      replace hv2_0 := hv2_0.mono (gz_mono hH hle30)
      replace hv2_1 := hv2_1.mono (gz_mono hH hle30)
      replace hv2_2 := hv2_2.mono (gz_mono hH hle30)
      replace hv26_0 := hv26_0.mono (gz_mono hH hle30)
      refine S_pu 1 rfl ?_
      refine S_seqnil ?_
      refine W_cond rfl (fun hc31 => ?_) (fun hc31 => ?_)
      · replace h := Go.L.ite_t hc31 h
        refine W_seqd (.q 0 (.q 1 (.q 2 (.q 3 (.q 4 (.q 5 (.q 6 (.q 7 (.q 8 (.tail 9)))))))))) mixed (by kernel_rfl) (fun w33 hx33 => ?_)
        have hL34 := hL30.call hx33
        have hle34 := fz_ext hL30 hx33
        replace hv2_0 := hv2_0.mono (gz_mono hH hle34)
        replace hv2_1 := hv2_1.mono (gz_mono hH hle34)
        replace hv2_2 := hv2_2.mono (gz_mono hH hle34)
        replace hv26_0 := hv26_0.mono (gz_mono hH hle34)
        refine D_v (r_loadBN 0 rfl Try.underlying25 rfl zr25 hL34 rfl) rfl rfl ?_
        obtain ⟨x35, hb35, h⟩ := Go.L.bind_some h
        refine D_call rfl rfl rfl (fun w36 hx36 => ref3_At_ok _ _ (Le.refl _) hb35) ?_
        refine D_v (r_eqA rfl rfl eqg25 (eq25 _ _ _ _ )) rfl rfl ?_
        refine D_pu 1 rfl ?_
        refine D_split (s := 44) rfl (fun hg37 => ?_) (fun hg37 => ?_)
        · replace h := Go.L.ite_p (of_decide_eq_true hg37) h
          refine D_vg (RunsAt_pu rfl) rfl rfl rfl rfl hg37 rfl ?_
          refine D_vg (r_len rfl Try.underlying22 hv26_0) rfl rfl rfl rfl hg37 rfl ?_
          refine D_vg (RunsAt_pu rfl) rfl rfl rfl rfl hg37 rfl ?_
          refine D_v (r_pickT rfl hg37 rfl) rfl rfl ?_
          refine D_pu 1 rfl ?_
          refine D_tail (fun w39 hx39 => ?_)
          have hL40 := hL34.call hx39
          have hle40 := fz_ext hL34 hx39
          replace hv2_0 := hv2_0.mono (gz_mono hH hle40)
          replace hv2_1 := hv2_1.mono (gz_mono hH hle40)
          replace hv2_2 := hv2_2.mono (gz_mono hH hle40)
          replace hv26_0 := hv26_0.mono (gz_mono hH hle40)
          refine S_seqnil ?_
          refine W_ret ?_
          refine At_seq_ret ?_
          obtain rfl := Option.some.inj h
          refine At_body rfl rfl ?_
          exact ⟨hL40.ext, rfl⟩
        · replace h := Go.L.ite_n (of_decide_eq_false hg37) h
          refine D_no rfl rfl rfl rfl hg37 rfl ?_
          refine D_no rfl rfl rfl rfl hg37 rfl ?_
          refine D_no rfl rfl rfl rfl hg37 rfl ?_
          refine D_v (r_pickF rfl hg37 rfl) rfl rfl ?_
          refine D_pu 1 rfl ?_
          refine D_tail (fun w42 hx42 => ?_)
          have hL43 := hL34.call hx42
          have hle43 := fz_ext hL34 hx42
          replace hv2_0 := hv2_0.mono (gz_mono hH hle43)
          replace hv2_1 := hv2_1.mono (gz_mono hH hle43)
          replace hv2_2 := hv2_2.mono (gz_mono hH hle43)
          replace hv26_0 := hv26_0.mono (gz_mono hH hle43)
          refine S_seqnil ?_
          refine W_ret ?_
          refine At_seq_ret ?_
          obtain rfl := Option.some.inj h
          refine At_body rfl rfl ?_
          exact ⟨hL43.ext, rfl⟩
      · replace h := Go.L.ite_f hc31 h
        refine W_skip ?_
        refine At_seq ?_
        refine W_seq ?_
        refine W_seqr ?_
        refine S_pu 3 rfl ?_
        refine S_v (r_len rfl Try.underlying22 h0_0) rfl ?_
        obtain ⟨x45, hb45, h⟩ := Go.L.bind_some h
        refine S_callL rfl rfl hL30 (ref3_In_ok _ _ (gz_le hH hL30) hb45) ?_
        rintro _ w46 rfl hx46 hL46 hle46
        replace hv2_0 := hv2_0.mono (gz_mono hH hle46)
        replace hv2_1 := hv2_1.mono (gz_mono hH hle46)
        replace hv2_2 := hv2_2.mono (gz_mono hH hle46)
        replace hv26_0 := hv26_0.mono (gz_mono hH hle46)
        refine S_pu 1 rfl ?_
        refine S_seqnil ?_
        refine W_cond rfl (fun hc47 => ?_) (fun hc47 => ?_)
        · replace h := Go.L.ite_t hc47 h
          refine W_seqd (.q 0 (.q 1 (.q 2 (.q 3 (.q 4 (.q 5 (.q 6 (.q 7 (.q 8 (.tail 9)))))))))) mixed (by kernel_rfl) (fun w49 hx49 => ?_)
          have hL50 := hL46.call hx49
          have hle50 := fz_ext hL46 hx49
          replace hv2_0 := hv2_0.mono (gz_mono hH hle50)
          replace hv2_1 := hv2_1.mono (gz_mono hH hle50)
          replace hv2_2 := hv2_2.mono (gz_mono hH hle50)
          replace hv26_0 := hv26_0.mono (gz_mono hH hle50)
          refine D_v (r_loadBN 0 rfl Try.underlying25 rfl zr25 hL50 rfl) rfl rfl ?_
          obtain ⟨x51, hb51, h⟩ := Go.L.bind_some h
          refine D_call rfl rfl rfl (fun w52 hx52 => ref3_At_ok _ _ (Le.refl _) hb51) ?_
          refine D_v (r_eqA rfl rfl eqg25 (eq25 _ _ _ _ )) rfl rfl ?_
          refine D_pu 1 rfl ?_
          refine D_split (s := 58) rfl (fun hg53 => ?_) (fun hg53 => ?_)
          · replace h := Go.L.ite_p (of_decide_eq_true hg53) h
            refine D_vg (RunsAt_pu rfl) rfl rfl rfl rfl hg53 rfl ?_
            refine D_vg (r_len rfl Try.underlying22 hv26_0) rfl rfl rfl rfl hg53 rfl ?_
            refine D_vg (RunsAt_pu rfl) rfl rfl rfl rfl hg53 rfl ?_
            refine D_v (r_pickT rfl hg53 rfl) rfl rfl ?_
            refine D_pu 1 rfl ?_
            refine D_tail (fun w55 hx55 => ?_)
            have hL56 := hL50.call hx55
            have hle56 := fz_ext hL50 hx55
            replace hv2_0 := hv2_0.mono (gz_mono hH hle56)
            replace hv2_1 := hv2_1.mono (gz_mono hH hle56)
            replace hv2_2 := hv2_2.mono (gz_mono hH hle56)
            replace hv26_0 := hv26_0.mono (gz_mono hH hle56)
            refine S_seqnil ?_
            refine W_ret ?_
            refine At_seq_ret ?_
            obtain rfl := Option.some.inj h
            refine At_body rfl rfl ?_
            exact ⟨hL56.ext, rfl⟩
          · replace h := Go.L.ite_n (of_decide_eq_false hg53) h
            refine D_no rfl rfl rfl rfl hg53 rfl ?_
            refine D_no rfl rfl rfl rfl hg53 rfl ?_
            refine D_no rfl rfl rfl rfl hg53 rfl ?_
            refine D_v (r_pickF rfl hg53 rfl) rfl rfl ?_
            refine D_pu 1 rfl ?_
            refine D_tail (fun w58 hx58 => ?_)
            have hL59 := hL50.call hx58
            have hle59 := fz_ext hL50 hx58
            replace hv2_0 := hv2_0.mono (gz_mono hH hle59)
            replace hv2_1 := hv2_1.mono (gz_mono hH hle59)
            replace hv2_2 := hv2_2.mono (gz_mono hH hle59)
            replace hv26_0 := hv26_0.mono (gz_mono hH hle59)
            refine S_seqnil ?_
            refine W_ret ?_
            refine At_seq_ret ?_
            obtain rfl := Option.some.inj h
            refine At_body rfl rfl ?_
            exact ⟨hL59.ext, rfl⟩
        · replace h := Go.L.ite_f hc47 h
          refine W_skip ?_
          refine At_seq ?_
          refine W_seqr ?_
          refine S_v (r_field rfl Try.underlying25 rfl zr3 (by decide)) rfl ?_
          refine S_v (r_loadB1 0 rfl Try.underlying3 rfl hL46 rfl rfl) rfl ?_
          refine S_pu 2 rfl ?_
          refine S_split (s := 66) rfl (fun hg61 => ?_) (fun hg61 => ?_)
          · replace h := Go.L.ite_p (of_decide_eq_true hg61) h
            refine S_guarded rfl rfl hg61 ?_
            refine S_v (RunsAt_pu rfl) rfl ?_
            refine S_guarded rfl rfl hg61 ?_
            refine S_v (RunsAt_pu rfl) rfl ?_
            refine S_guarded rfl rfl hg61 ?_
            refine S_v (RunsAt_pu rfl) rfl ?_
            refine S_guarded rfl rfl hg61 ?_
            refine S_v (RunsAt_pu rfl) rfl ?_
            refine S_guarded rfl rfl hg61 ?_
            obtain ⟨hk64, h⟩ := Go.L.chk_some h
            refine S_sliceB rfl rfl rfl Try.underlying22 zr5 h0_0 hk64 rfl ?_
            intro v63 hv63
            refine S_guarded rfl rfl hg61 ?_
            obtain ⟨x65, hb65, h⟩ := Go.L.bind_some h
            refine S_callL rfl rfl hL46 (ref3_SameBytes_ok _ _ (gz_le hH hL46) hv26_0 (hv63.mono (gz_left hH)) hb65) ?_
            rintro _ w66 rfl hx66 hL66 hle66
            replace hv2_0 := hv2_0.mono (gz_mono hH hle66)
            replace hv2_1 := hv2_1.mono (gz_mono hH hle66)
            replace hv2_2 := hv2_2.mono (gz_mono hH hle66)
            replace hv26_0 := hv26_0.mono (gz_mono hH hle66)
            refine S_v (r_pickT rfl hg61 rfl) rfl ?_
            refine S_pu 1 rfl ?_
            refine S_seqnil ?_
            refine W_ret ?_
            obtain rfl := Option.some.inj h
            refine At_body rfl rfl ?_
            exact ⟨hL66.ext, rfl⟩
          · replace h := Go.L.ite_n (of_decide_eq_false hg61) h
            refine S_unwanted rfl rfl hg61 rfl ?_
            refine S_unwanted rfl rfl hg61 rfl ?_
            refine S_unwanted rfl rfl hg61 rfl ?_
            refine S_unwanted rfl rfl hg61 rfl ?_
            refine S_unwanted rfl rfl hg61 rfl ?_
            refine S_unwanted rfl rfl hg61 rfl ?_
            refine S_v (r_pickF rfl hg61 rfl) rfl ?_
            refine S_pu 1 rfl ?_
            refine S_seqnil ?_
            refine W_ret ?_
            obtain rfl := Option.some.inj h
            refine At_body rfl rfl ?_
            exact ⟨hL46.ext, rfl⟩

noncomputable def law4_FmindexFormMatchesSpec (a0 : List UInt8) : Option (Bool) :=
  Option.bind (fmindex_Build a0) (fun x1 => Option.bind (law4_finds) (fun x7 => if !x7 then Option.bind (law4_finds) (fun x11 => if x11 then if x1.2.1 = (0 : Int) then some (true) else some (decide ((2048 : Int) < (a0.length : Int))) else some (false)) else if x1.2.1 = (0 : Int) then if (150 : Int) < (a0.length : Int) then Option.bind (law4_finds) (fun x33 => if x33 then if x1.2.1 = (0 : Int) then some (true) else some (decide ((2048 : Int) < (a0.length : Int))) else some (false)) else Option.bind (fmindex_Index_Bytes (x1.1.1, x1.1.2.1, x1.1.2.2)) (fun x42 => Option.bind (ref4_Form a0) (fun x44 => Option.bind (ref3_SameBytes x42 x44) (fun x46 => some (x46)))) else Option.bind (law4_finds) (fun x22 => if x22 then if x1.2.1 = (0 : Int) then some (true) else some (decide ((2048 : Int) < (a0.length : Int))) else some (false))))

set_option maxRecDepth 10000 in
theorem law4_FmindexFormMatchesSpec_ok (w : World) (H : PH) (hH : Le H (hp w)) {a0 : List UInt8} {v0_0 : Value} (h0_0 : Vec .byte H v0_0 (a0)) {r : Bool} (h : law4_FmindexFormMatchesSpec a0 = some r) :
    Ok Try.prog 10 [v0_0] w (fun v w' => Ext w w' ∧ v = .bool r) := by
  refine Ok_enter (n := 38) [(0, v0_0)] Try.func10 rfl rfl rfl rfl rfl ?_
  have hL := Lcl.start w
  refine W_seqr ?_
  refine S_pu 1 rfl ?_
  refine S_seqnil ?_
  refine W_seqr ?_
  refine S_pu 1 rfl ?_
  obtain ⟨x1, hb1, h⟩ := Go.L.bind_some h
  refine S_callL rfl rfl hL (fmindex_Build_ok _ _ (gz_le hH hL) (h0_0.mono (gz_left hH)) hb1) ?_
  rintro _ w2 ⟨u2_0, u2_1, u2_2, rfl, hR2_0, hR2_1, hR2_2⟩ hx2 hL2 hle2
  have hv2_0 := hR2_0.mono (gz_nw hH hL hx2)
  have hv2_1 := hR2_1.mono (gz_nw hH hL hx2)
  have hv2_2 := hR2_2.mono (gz_nw hH hL hx2)
  refine S_pu 3 rfl ?_
  refine S_alloc zr50 rfl rfl hL2 ?_
  intro w3 b3 hL3 hle3 _
  replace hv2_0 := hv2_0.mono (gz_mono hH hle3)
  replace hv2_1 := hv2_1.mono (gz_mono hH hle3)
  replace hv2_2 := hv2_2.mono (gz_mono hH hle3)
  refine S_alloc zr25 rfl rfl hL3 ?_
  intro w4 b4 hL4 hle4 _
  replace hv2_0 := hv2_0.mono (gz_mono hH hle4)
  replace hv2_1 := hv2_1.mono (gz_mono hH hle4)
  replace hv2_2 := hv2_2.mono (gz_mono hH hle4)
  refine S_storeBN 1 rfl rfl rfl zr50 hL4 rfl rfl (onc hv2_0.one (onc hv2_1.one (onc hv2_2.one on0))) ?_
  intro w5 hL5 hle5
  replace hv2_0 := hv2_0.mono (gz_mono hH hle5)
  replace hv2_1 := hv2_1.mono (gz_mono hH hle5)
  replace hv2_2 := hv2_2.mono (gz_mono hH hle5)
  refine S_storeBN 0 rfl rfl rfl zr25 hL5 rfl rfl (onc rfl (onc rfl on0)) ?_
  intro w6 hL6 hle6
  replace hv2_0 := hv2_0.mono (gz_mono hH hle6)
  replace hv2_1 := hv2_1.mono (gz_mono hH hle6)
  replace hv2_2 := hv2_2.mono (gz_mono hH hle6)
  refine S_seqnil ?_
  refine W_seq ?_
  refine W_seqr ?_
  obtain ⟨x7, hb7, h⟩ := Go.L.bind_some h
  refine S_callL rfl rfl hL6 (law4_finds_ok _ _ (gz_le hH hL6) hb7) ?_
  rintro _ w8 rfl hx8 hL8 hle8
  replace hv2_0 := hv2_0.mono (gz_mono hH hle8)
  replace hv2_1 := hv2_1.mono (gz_mono hH hle8)
  replace hv2_2 := hv2_2.mono (gz_mono hH hle8)
  refine S_pu 2 rfl ?_
  refine S_split (s := 12) rfl (fun hg9 => ?_) (fun hg9 => ?_)
  · replace h := Go.L.ite_t hg9 h
    refine S_unwanted rfl rfl hg9 rfl ?_
    refine S_unwanted rfl rfl hg9 rfl ?_
    refine S_unwanted rfl rfl hg9 rfl ?_
    refine S_v (r_pickT rfl hg9 rfl) rfl ?_
    refine S_pu 1 rfl ?_
    refine S_unwanted rfl rfl rfl rfl ?_
    refine S_unwanted rfl rfl rfl rfl ?_
    refine S_unwanted rfl rfl rfl rfl ?_
    refine S_v (r_pickT rfl rfl rfl) rfl ?_
    refine S_seqnil ?_
    refine W_true rfl ?_
    refine W_seqr ?_
    obtain ⟨x11, hb11, h⟩ := Go.L.bind_some h
    refine S_callL rfl rfl hL8 (law4_finds_ok _ _ (gz_le hH hL8) hb11) ?_
    rintro _ w12 rfl hx12 hL12 hle12
    replace hv2_0 := hv2_0.mono (gz_mono hH hle12)
    replace hv2_1 := hv2_1.mono (gz_mono hH hle12)
    replace hv2_2 := hv2_2.mono (gz_mono hH hle12)
    refine S_pu 1 rfl ?_
    refine S_split (s := 23) rfl (fun hg13 => ?_) (fun hg13 => ?_)
    · replace h := Go.L.ite_t hg13 h
      refine S_guarded rfl rfl hg13 ?_
      refine S_v (r_field rfl Try.underlying25 rfl zr3 (by decide)) rfl ?_
      refine S_guarded rfl rfl hg13 ?_
      refine S_v (r_loadB1 0 rfl Try.underlying3 rfl hL12 rfl rfl) rfl ?_
      refine S_guarded rfl rfl hg13 ?_
      refine S_v (RunsAt_pu rfl) rfl ?_
      refine S_guarded rfl rfl hg13 ?_
      refine S_v (RunsAt_pu rfl) rfl ?_
      refine S_split (s := 27) rfl (fun hg15 => ?_) (fun hg15 => ?_)
      · replace h := Go.L.ite_p (of_decide_eq_true hg15) h
        refine S_unwanted rfl rfl hg15 rfl ?_
        refine S_unwanted rfl rfl hg15 rfl ?_
        refine S_unwanted rfl rfl hg15 rfl ?_
        refine S_guarded rfl rfl hg13 ?_
        refine S_v (r_pickT rfl hg15 rfl) rfl ?_
        refine S_v (r_pickT rfl hg13 rfl) rfl ?_
        refine S_pu 1 rfl ?_
        refine S_seqnil ?_
        refine W_ret ?_
        refine At_seq_ret ?_
        obtain rfl := Option.some.inj h
        refine At_body rfl rfl ?_
        exact ⟨hL12.ext, rfl⟩
      · replace h := Go.L.ite_n (of_decide_eq_false hg15) h
        refine S_guarded rfl rfl hg15 ?_
        refine S_v (RunsAt_pu rfl) rfl ?_
        refine S_guarded rfl rfl hg15 ?_
        refine S_v (r_len rfl Try.underlying22 h0_0) rfl ?_
        refine S_guarded rfl rfl hg15 ?_
        refine S_v (RunsAt_pu rfl) rfl ?_
        refine S_guarded rfl rfl hg13 ?_
        refine S_v (r_pickF rfl hg15 rfl) rfl ?_
        refine S_v (r_pickT rfl hg13 rfl) rfl ?_
        refine S_pu 1 rfl ?_
        refine S_seqnil ?_
        refine W_ret ?_
        refine At_seq_ret ?_
        obtain rfl := Option.some.inj h
        refine At_body rfl rfl ?_
        exact ⟨hL12.ext, rfl⟩
    · replace h := Go.L.ite_f hg13 h
      refine S_unwanted rfl rfl hg13 rfl ?_
      refine S_unwanted rfl rfl hg13 rfl ?_
      refine S_unwanted rfl rfl hg13 rfl ?_
      refine S_unwanted rfl rfl hg13 rfl ?_
      refine S_unwanted2 rfl rfl rfl ?_
      refine S_unwanted2 rfl rfl rfl ?_
      refine S_unwanted2 rfl rfl rfl ?_
      refine S_unwanted rfl rfl hg13 rfl ?_
      refine S_v (r_pickF rfl hg13 rfl) rfl ?_
      refine S_pu 1 rfl ?_
      refine S_seqnil ?_
      refine W_ret ?_
      refine At_seq_ret ?_
      obtain rfl := Option.some.inj h
      refine At_body rfl rfl ?_
      exact ⟨hL12.ext, rfl⟩
  · replace h := Go.L.ite_f hg9 h
    refine S_guarded rfl rfl hg9 ?_
    refine S_v (r_field rfl Try.underlying25 rfl zr3 (by decide)) rfl ?_
    refine S_guarded rfl rfl hg9 ?_
    refine S_v (r_loadB1 0 rfl Try.underlying3 rfl hL8 rfl rfl) rfl ?_
    refine S_guarded rfl rfl hg9 ?_
    refine S_v (RunsAt_pu rfl) rfl ?_
    refine S_v (r_pickF rfl hg9 rfl) rfl ?_
    refine S_pu 1 rfl ?_
    refine S_split (s := 17) rfl (fun hg20 => ?_) (fun hg20 => ?_)
    · replace h := Go.L.ite_n (not_dec_t hg20) h
      refine S_unwanted rfl rfl hg20 rfl ?_
      refine S_unwanted rfl rfl hg20 rfl ?_
      refine S_unwanted rfl rfl hg20 rfl ?_
      refine S_v (r_pickT rfl hg20 rfl) rfl ?_
      refine S_seqnil ?_
      refine W_true rfl ?_
      refine W_seqr ?_
      obtain ⟨x22, hb22, h⟩ := Go.L.bind_some h
      refine S_callL rfl rfl hL8 (law4_finds_ok _ _ (gz_le hH hL8) hb22) ?_
      rintro _ w23 rfl hx23 hL23 hle23
      replace hv2_0 := hv2_0.mono (gz_mono hH hle23)
      replace hv2_1 := hv2_1.mono (gz_mono hH hle23)
      replace hv2_2 := hv2_2.mono (gz_mono hH hle23)
      refine S_pu 1 rfl ?_
      refine S_split (s := 23) rfl (fun hg24 => ?_) (fun hg24 => ?_)
      · replace h := Go.L.ite_t hg24 h
        refine S_guarded rfl rfl hg24 ?_
        refine S_v (r_field rfl Try.underlying25 rfl zr3 (by decide)) rfl ?_
        refine S_guarded rfl rfl hg24 ?_
        refine S_v (r_loadB1 0 rfl Try.underlying3 rfl hL23 rfl rfl) rfl ?_
        refine S_guarded rfl rfl hg24 ?_
        refine S_v (RunsAt_pu rfl) rfl ?_
        refine S_guarded rfl rfl hg24 ?_
        refine S_v (RunsAt_pu rfl) rfl ?_
        refine S_split (s := 27) rfl (fun hg26 => ?_) (fun hg26 => ?_)
        · replace h := Go.L.ite_p (of_decide_eq_true hg26) h
          refine S_unwanted rfl rfl hg26 rfl ?_
          refine S_unwanted rfl rfl hg26 rfl ?_
          refine S_unwanted rfl rfl hg26 rfl ?_
          refine S_guarded rfl rfl hg24 ?_
          refine S_v (r_pickT rfl hg26 rfl) rfl ?_
          refine S_v (r_pickT rfl hg24 rfl) rfl ?_
          refine S_pu 1 rfl ?_
          refine S_seqnil ?_
          refine W_ret ?_
          refine At_seq_ret ?_
          obtain rfl := Option.some.inj h
          refine At_body rfl rfl ?_
          exact ⟨hL23.ext, rfl⟩
        · replace h := Go.L.ite_n (of_decide_eq_false hg26) h
          refine S_guarded rfl rfl hg26 ?_
          refine S_v (RunsAt_pu rfl) rfl ?_
          refine S_guarded rfl rfl hg26 ?_
          refine S_v (r_len rfl Try.underlying22 h0_0) rfl ?_
          refine S_guarded rfl rfl hg26 ?_
          refine S_v (RunsAt_pu rfl) rfl ?_
          refine S_guarded rfl rfl hg24 ?_
          refine S_v (r_pickF rfl hg26 rfl) rfl ?_
          refine S_v (r_pickT rfl hg24 rfl) rfl ?_
          refine S_pu 1 rfl ?_
          refine S_seqnil ?_
          refine W_ret ?_
          refine At_seq_ret ?_
          obtain rfl := Option.some.inj h
          refine At_body rfl rfl ?_
          exact ⟨hL23.ext, rfl⟩
      · replace h := Go.L.ite_f hg24 h
        refine S_unwanted rfl rfl hg24 rfl ?_
        refine S_unwanted rfl rfl hg24 rfl ?_
        refine S_unwanted rfl rfl hg24 rfl ?_
        refine S_unwanted rfl rfl hg24 rfl ?_
        refine S_unwanted2 rfl rfl rfl ?_
        refine S_unwanted2 rfl rfl rfl ?_
        refine S_unwanted2 rfl rfl rfl ?_
        refine S_unwanted rfl rfl hg24 rfl ?_
        refine S_v (r_pickF rfl hg24 rfl) rfl ?_
        refine S_pu 1 rfl ?_
        refine S_seqnil ?_
        refine W_ret ?_
        refine At_seq_ret ?_
        obtain rfl := Option.some.inj h
        refine At_body rfl rfl ?_
        exact ⟨hL23.ext, rfl⟩
    · replace h := Go.L.ite_p (not_dec_f hg20) h
      refine S_guarded rfl rfl hg20 ?_
      refine S_v (RunsAt_pu rfl) rfl ?_
      refine S_guarded rfl rfl hg20 ?_
      refine S_v (r_len rfl Try.underlying22 h0_0) rfl ?_
      refine S_guarded rfl rfl hg20 ?_
      refine S_v (RunsAt_pu rfl) rfl ?_
      refine S_v (r_pickF rfl hg20 rfl) rfl ?_
      refine S_seqnil ?_
      refine W_if rfl (fun hc31 => ?_) (fun hc31 => ?_)
      · replace h := Go.L.ite_p hc31 h
        refine W_seqr ?_
        obtain ⟨x33, hb33, h⟩ := Go.L.bind_some h
        refine S_callL rfl rfl hL8 (law4_finds_ok _ _ (gz_le hH hL8) hb33) ?_
        rintro _ w34 rfl hx34 hL34 hle34
        replace hv2_0 := hv2_0.mono (gz_mono hH hle34)
        replace hv2_1 := hv2_1.mono (gz_mono hH hle34)
        replace hv2_2 := hv2_2.mono (gz_mono hH hle34)
        refine S_pu 1 rfl ?_
        refine S_split (s := 23) rfl (fun hg35 => ?_) (fun hg35 => ?_)
        · replace h := Go.L.ite_t hg35 h
          refine S_guarded rfl rfl hg35 ?_
          refine S_v (r_field rfl Try.underlying25 rfl zr3 (by decide)) rfl ?_
          refine S_guarded rfl rfl hg35 ?_
          refine S_v (r_loadB1 0 rfl Try.underlying3 rfl hL34 rfl rfl) rfl ?_
          refine S_guarded rfl rfl hg35 ?_
          refine S_v (RunsAt_pu rfl) rfl ?_
          refine S_guarded rfl rfl hg35 ?_
          refine S_v (RunsAt_pu rfl) rfl ?_
          refine S_split (s := 27) rfl (fun hg37 => ?_) (fun hg37 => ?_)
          · replace h := Go.L.ite_p (of_decide_eq_true hg37) h
            refine S_unwanted rfl rfl hg37 rfl ?_
            refine S_unwanted rfl rfl hg37 rfl ?_
            refine S_unwanted rfl rfl hg37 rfl ?_
            refine S_guarded rfl rfl hg35 ?_
            refine S_v (r_pickT rfl hg37 rfl) rfl ?_
            refine S_v (r_pickT rfl hg35 rfl) rfl ?_
            refine S_pu 1 rfl ?_
            refine S_seqnil ?_
            refine W_ret ?_
            refine At_seq_ret ?_
            obtain rfl := Option.some.inj h
            refine At_body rfl rfl ?_
            exact ⟨hL34.ext, rfl⟩
          · replace h := Go.L.ite_n (of_decide_eq_false hg37) h
            refine S_guarded rfl rfl hg37 ?_
            refine S_v (RunsAt_pu rfl) rfl ?_
            refine S_guarded rfl rfl hg37 ?_
            refine S_v (r_len rfl Try.underlying22 h0_0) rfl ?_
            refine S_guarded rfl rfl hg37 ?_
            refine S_v (RunsAt_pu rfl) rfl ?_
            refine S_guarded rfl rfl hg35 ?_
            refine S_v (r_pickF rfl hg37 rfl) rfl ?_
            refine S_v (r_pickT rfl hg35 rfl) rfl ?_
            refine S_pu 1 rfl ?_
            refine S_seqnil ?_
            refine W_ret ?_
            refine At_seq_ret ?_
            obtain rfl := Option.some.inj h
            refine At_body rfl rfl ?_
            exact ⟨hL34.ext, rfl⟩
        · replace h := Go.L.ite_f hg35 h
          refine S_unwanted rfl rfl hg35 rfl ?_
          refine S_unwanted rfl rfl hg35 rfl ?_
          refine S_unwanted rfl rfl hg35 rfl ?_
          refine S_unwanted rfl rfl hg35 rfl ?_
          refine S_unwanted2 rfl rfl rfl ?_
          refine S_unwanted2 rfl rfl rfl ?_
          refine S_unwanted2 rfl rfl rfl ?_
          refine S_unwanted rfl rfl hg35 rfl ?_
          refine S_v (r_pickF rfl hg35 rfl) rfl ?_
          refine S_pu 1 rfl ?_
          refine S_seqnil ?_
          refine W_ret ?_
          refine At_seq_ret ?_
          obtain rfl := Option.some.inj h
          refine At_body rfl rfl ?_
          exact ⟨hL34.ext, rfl⟩
      · replace h := Go.L.ite_n hc31 h
        refine W_skip ?_
        refine At_seq ?_
        refine W_seqr ?_
        refine S_v (r_loadBN 1 rfl Try.underlying50 rfl zr50 hL8 rfl) rfl ?_
        obtain ⟨x42, hb42, h⟩ := Go.L.bind_some h
        refine S_callL rfl rfl hL8 (fmindex_Index_Bytes_ok _ _ (gz_le hH hL8) hv2_0 hv2_1 hv2_2 hb42) ?_
        rintro u43_0 w43 ⟨_, rfl, hR43_0⟩ hx43 hL43 hle43
        have hv43_0 := hR43_0.vecG hH hL8 hx43
        replace hv2_0 := hv2_0.mono (gz_mono hH hle43)
        replace hv2_1 := hv2_1.mono (gz_mono hH hle43)
        replace hv2_2 := hv2_2.mono (gz_mono hH hle43)
        refine S_pu 1 rfl ?_
        obtain ⟨x44, hb44, h⟩ := Go.L.bind_some h
        refine S_callL rfl rfl hL43 (ref4_Form_ok _ _ (gz_le hH hL43) (h0_0.mono (gz_left hH)) hb44) ?_
        rintro u45_0 w45 ⟨_, rfl, hR45_0⟩ hx45 hL45 hle45
        have hv45_0 := hR45_0.vecG hH hL43 hx45
        replace hv2_0 := hv2_0.mono (gz_mono hH hle45)
        replace hv2_1 := hv2_1.mono (gz_mono hH hle45)
        replace hv2_2 := hv2_2.mono (gz_mono hH hle45)
        replace hv43_0 := hv43_0.mono (gz_mono hH hle45)
        obtain ⟨x46, hb46, h⟩ := Go.L.bind_some h
        refine S_callL rfl rfl hL45 (ref3_SameBytes_ok _ _ (gz_le hH hL45) hv43_0 hv45_0 hb46) ?_
        rintro _ w47 rfl hx47 hL47 hle47
        replace hv2_0 := hv2_0.mono (gz_mono hH hle47)
        replace hv2_1 := hv2_1.mono (gz_mono hH hle47)
        replace hv2_2 := hv2_2.mono (gz_mono hH hle47)
        replace hv43_0 := hv43_0.mono (gz_mono hH hle47)
        replace hv45_0 := hv45_0.mono (gz_mono hH hle47)
        refine S_pu 1 rfl ?_
        refine S_seqnil ?_
        refine W_ret ?_
        obtain rfl := Option.some.inj h
        refine At_body rfl rfl ?_
        exact ⟨hL47.ext, rfl⟩

noncomputable def law4_FmindexOpenMatchesSpec (a0 : List UInt8) : Option (Bool) :=
  Option.bind (fmindex_Open a0) (fun x1 => Option.bind (law4_finds) (fun x7 => if !x7 then Option.bind (law4_finds) (fun x11 => if x11 then if x1.2.1 = (0 : Int) then some (true) else Option.bind (fmindex_Index_Length (x1.1.1, x1.1.2.1, x1.1.2.2)) (fun x18 => some (decide (x18 = (0 : Int)))) else some (false)) else if (40 : Int) < (a0.length : Int) then Option.bind (law4_finds) (fun x24 => if x24 then if x1.2.1 = (0 : Int) then some (true) else Option.bind (fmindex_Index_Length (x1.1.1, x1.1.2.1, x1.1.2.2)) (fun x31 => some (decide (x31 = (0 : Int)))) else some (false)) else Option.bind (ref4_TextOf a0) (fun x35 => if !x35.2 then Option.bind (ref3_At (16 : Int) (-1 : Int)) (fun x41 => if x1.2.1 = x41.1 ∧ x1.2.2 = x41.2 then Option.bind (fmindex_Index_Length (x1.1.1, x1.1.2.1, x1.1.2.2)) (fun x45 => some (decide (x45 = (0 : Int)))) else some (false)) else Option.bind (fmindex_Index_Extract (x1.1.1, x1.1.2.1, x1.1.2.2) (0 : Int) (x35.1.length : Int)) (fun x53 => if x1.2.1 = (0 : Int) then if x53.2.1 = (0 : Int) then Option.bind (fmindex_Index_Length (x1.1.1, x1.1.2.1, x1.1.2.2)) (fun x61 => if x61 = (x35.1.length : Int) then Option.bind (ref3_SameBytes x53.1 x35.1) (fun x65 => if x65 then Option.bind (fmindex_Index_Bytes (x1.1.1, x1.1.2.1, x1.1.2.2)) (fun x69 => Option.bind (ref3_SameBytes x69 a0) (fun x71 => some (x71))) else some (false)) else some (false)) else some (false) else some (false)))))

set_option maxRecDepth 10000 in
theorem law4_FmindexOpenMatchesSpec_ok (w : World) (H : PH) (hH : Le H (hp w)) {a0 : List UInt8} {v0_0 : Value} (h0_0 : Vec .byte H v0_0 (a0)) {r : Bool} (h : law4_FmindexOpenMatchesSpec a0 = some r) :
    Ok Try.prog 11 [v0_0] w (fun v w' => Ext w w' ∧ v = .bool r) := by
  refine Ok_enter (n := 80) [(0, v0_0)] Try.func11 rfl rfl rfl rfl rfl ?_
  have hL := Lcl.start w
  refine W_seqr ?_
  refine S_pu 1 rfl ?_
  refine S_seqnil ?_
  refine W_seqr ?_
  refine S_pu 1 rfl ?_
  obtain ⟨x1, hb1, h⟩ := Go.L.bind_some h
  refine S_callL rfl rfl hL (fmindex_Open_ok _ _ (gz_le hH hL) (h0_0.mono (gz_left hH)) hb1) ?_
  rintro _ w2 ⟨u2_0, u2_1, u2_2, rfl, hR2_0, hR2_1, hR2_2⟩ hx2 hL2 hle2
  have hv2_0 := hR2_0.mono (gz_nw hH hL hx2)
  have hv2_1 := hR2_1.mono (gz_nw hH hL hx2)
  have hv2_2 := hR2_2.mono (gz_nw hH hL hx2)
  refine S_pu 3 rfl ?_
  refine S_alloc zr50 rfl rfl hL2 ?_
  intro w3 b3 hL3 hle3 _
  replace hv2_0 := hv2_0.mono (gz_mono hH hle3)
  replace hv2_1 := hv2_1.mono (gz_mono hH hle3)
  replace hv2_2 := hv2_2.mono (gz_mono hH hle3)
  refine S_alloc zr25 rfl rfl hL3 ?_
  intro w4 b4 hL4 hle4 _
  replace hv2_0 := hv2_0.mono (gz_mono hH hle4)
  replace hv2_1 := hv2_1.mono (gz_mono hH hle4)
  replace hv2_2 := hv2_2.mono (gz_mono hH hle4)
  refine S_storeBN 1 rfl rfl rfl zr50 hL4 rfl rfl (onc hv2_0.one (onc hv2_1.one (onc hv2_2.one on0))) ?_
  intro w5 hL5 hle5
  replace hv2_0 := hv2_0.mono (gz_mono hH hle5)
  replace hv2_1 := hv2_1.mono (gz_mono hH hle5)
  replace hv2_2 := hv2_2.mono (gz_mono hH hle5)
  refine S_storeBN 0 rfl rfl rfl zr25 hL5 rfl rfl (onc rfl (onc rfl on0)) ?_
  intro w6 hL6 hle6
  replace hv2_0 := hv2_0.mono (gz_mono hH hle6)
  replace hv2_1 := hv2_1.mono (gz_mono hH hle6)
  replace hv2_2 := hv2_2.mono (gz_mono hH hle6)
  refine S_seqnil ?_
  refine W_seq ?_
  refine W_seqr ?_
  obtain ⟨x7, hb7, h⟩ := Go.L.bind_some h
  refine S_callL rfl rfl hL6 (law4_finds_ok _ _ (gz_le hH hL6) hb7) ?_
  rintro _ w8 rfl hx8 hL8 hle8
  replace hv2_0 := hv2_0.mono (gz_mono hH hle8)
  replace hv2_1 := hv2_1.mono (gz_mono hH hle8)
  replace hv2_2 := hv2_2.mono (gz_mono hH hle8)
  refine S_pu 2 rfl ?_
  refine S_split (s := 16) rfl (fun hg9 => ?_) (fun hg9 => ?_)
  · replace h := Go.L.ite_t hg9 h
    refine S_unwanted rfl rfl hg9 rfl ?_
    refine S_unwanted rfl rfl hg9 rfl ?_
    refine S_unwanted rfl rfl hg9 rfl ?_
    refine S_v (r_pickT rfl hg9 rfl) rfl ?_
    refine S_seqnil ?_
    refine W_true rfl ?_
    refine W_seqr ?_
    obtain ⟨x11, hb11, h⟩ := Go.L.bind_some h
    refine S_callL rfl rfl hL8 (law4_finds_ok _ _ (gz_le hH hL8) hb11) ?_
    rintro _ w12 rfl hx12 hL12 hle12
    replace hv2_0 := hv2_0.mono (gz_mono hH hle12)
    replace hv2_1 := hv2_1.mono (gz_mono hH hle12)
    replace hv2_2 := hv2_2.mono (gz_mono hH hle12)
    refine S_pu 1 rfl ?_
    refine S_split (s := 22) rfl (fun hg13 => ?_) (fun hg13 => ?_)
    · replace h := Go.L.ite_t hg13 h
      refine S_guarded rfl rfl hg13 ?_
      refine S_v (r_field rfl Try.underlying25 rfl zr3 (by decide)) rfl ?_
      refine S_guarded rfl rfl hg13 ?_
      refine S_v (r_loadB1 0 rfl Try.underlying3 rfl hL12 rfl rfl) rfl ?_
      refine S_guarded rfl rfl hg13 ?_
      refine S_v (RunsAt_pu rfl) rfl ?_
      refine S_guarded rfl rfl hg13 ?_
      refine S_v (RunsAt_pu rfl) rfl ?_
      refine S_split (s := 26) rfl (fun hg15 => ?_) (fun hg15 => ?_)
      · replace h := Go.L.ite_p (of_decide_eq_true hg15) h
        refine S_unwanted rfl rfl hg15 rfl ?_
        refine S_unwanted rfl rfl hg15 rfl ?_
        refine S_unwanted rfl rfl hg15 rfl ?_
        refine S_guarded rfl rfl hg13 ?_
        refine S_v (r_pickT rfl hg15 rfl) rfl ?_
        refine S_v (r_pickT rfl hg13 rfl) rfl ?_
        refine S_pu 1 rfl ?_
        refine S_seqnil ?_
        refine W_ret ?_
        refine At_seq_ret ?_
        obtain rfl := Option.some.inj h
        refine At_body rfl rfl ?_
        exact ⟨hL12.ext, rfl⟩
      · replace h := Go.L.ite_n (of_decide_eq_false hg15) h
        refine S_guarded rfl rfl hg15 ?_
        refine S_v (r_loadBN 1 rfl Try.underlying50 rfl zr50 hL12 rfl) rfl ?_
        refine S_guarded rfl rfl hg15 ?_
        obtain ⟨x18, hb18, h⟩ := Go.L.bind_some h
        refine S_callL rfl rfl hL12 (fmindex_Index_Length_ok _ _ (gz_le hH hL12) hv2_0 hv2_1 hv2_2 hb18) ?_
        rintro _ w19 rfl hx19 hL19 hle19
        replace hv2_0 := hv2_0.mono (gz_mono hH hle19)
        replace hv2_1 := hv2_1.mono (gz_mono hH hle19)
        replace hv2_2 := hv2_2.mono (gz_mono hH hle19)
        refine S_guarded rfl rfl hg15 ?_
        refine S_v (RunsAt_pu rfl) rfl ?_
        refine S_guarded rfl rfl hg13 ?_
        refine S_v (r_pickF rfl hg15 rfl) rfl ?_
        refine S_v (r_pickT rfl hg13 rfl) rfl ?_
        refine S_pu 1 rfl ?_
        refine S_seqnil ?_
        refine W_ret ?_
        refine At_seq_ret ?_
        obtain rfl := Option.some.inj h
        refine At_body rfl rfl ?_
        exact ⟨hL19.ext, rfl⟩
    · replace h := Go.L.ite_f hg13 h
      refine S_unwanted rfl rfl hg13 rfl ?_
      refine S_unwanted rfl rfl hg13 rfl ?_
      refine S_unwanted rfl rfl hg13 rfl ?_
      refine S_unwanted rfl rfl hg13 rfl ?_
      refine S_unwanted2 rfl rfl rfl ?_
      refine S_unwanted2 rfl rfl rfl ?_
      refine S_unwanted2 rfl rfl rfl ?_
      refine S_unwanted rfl rfl hg13 rfl ?_
      refine S_v (r_pickF rfl hg13 rfl) rfl ?_
      refine S_pu 1 rfl ?_
      refine S_seqnil ?_
      refine W_ret ?_
      refine At_seq_ret ?_
      obtain rfl := Option.some.inj h
      refine At_body rfl rfl ?_
      exact ⟨hL12.ext, rfl⟩
  · replace h := Go.L.ite_f hg9 h
    refine S_guarded rfl rfl hg9 ?_
    refine S_v (RunsAt_pu rfl) rfl ?_
    refine S_guarded rfl rfl hg9 ?_
    refine S_v (r_len rfl Try.underlying22 h0_0) rfl ?_
    refine S_guarded rfl rfl hg9 ?_
    refine S_v (RunsAt_pu rfl) rfl ?_
    refine S_v (r_pickF rfl hg9 rfl) rfl ?_
    refine S_seqnil ?_
    refine W_if rfl (fun hc22 => ?_) (fun hc22 => ?_)
    · replace h := Go.L.ite_p hc22 h
      refine W_seqr ?_
      obtain ⟨x24, hb24, h⟩ := Go.L.bind_some h
      refine S_callL rfl rfl hL8 (law4_finds_ok _ _ (gz_le hH hL8) hb24) ?_
      rintro _ w25 rfl hx25 hL25 hle25
      replace hv2_0 := hv2_0.mono (gz_mono hH hle25)
      replace hv2_1 := hv2_1.mono (gz_mono hH hle25)
      replace hv2_2 := hv2_2.mono (gz_mono hH hle25)
      refine S_pu 1 rfl ?_
      refine S_split (s := 22) rfl (fun hg26 => ?_) (fun hg26 => ?_)
      · replace h := Go.L.ite_t hg26 h
        refine S_guarded rfl rfl hg26 ?_
        refine S_v (r_field rfl Try.underlying25 rfl zr3 (by decide)) rfl ?_
        refine S_guarded rfl rfl hg26 ?_
        refine S_v (r_loadB1 0 rfl Try.underlying3 rfl hL25 rfl rfl) rfl ?_
        refine S_guarded rfl rfl hg26 ?_
        refine S_v (RunsAt_pu rfl) rfl ?_
        refine S_guarded rfl rfl hg26 ?_
        refine S_v (RunsAt_pu rfl) rfl ?_
        refine S_split (s := 26) rfl (fun hg28 => ?_) (fun hg28 => ?_)
        · replace h := Go.L.ite_p (of_decide_eq_true hg28) h
          refine S_unwanted rfl rfl hg28 rfl ?_
          refine S_unwanted rfl rfl hg28 rfl ?_
          refine S_unwanted rfl rfl hg28 rfl ?_
          refine S_guarded rfl rfl hg26 ?_
          refine S_v (r_pickT rfl hg28 rfl) rfl ?_
          refine S_v (r_pickT rfl hg26 rfl) rfl ?_
          refine S_pu 1 rfl ?_
          refine S_seqnil ?_
          refine W_ret ?_
          refine At_seq_ret ?_
          obtain rfl := Option.some.inj h
          refine At_body rfl rfl ?_
          exact ⟨hL25.ext, rfl⟩
        · replace h := Go.L.ite_n (of_decide_eq_false hg28) h
          refine S_guarded rfl rfl hg28 ?_
          refine S_v (r_loadBN 1 rfl Try.underlying50 rfl zr50 hL25 rfl) rfl ?_
          refine S_guarded rfl rfl hg28 ?_
          obtain ⟨x31, hb31, h⟩ := Go.L.bind_some h
          refine S_callL rfl rfl hL25 (fmindex_Index_Length_ok _ _ (gz_le hH hL25) hv2_0 hv2_1 hv2_2 hb31) ?_
          rintro _ w32 rfl hx32 hL32 hle32
          replace hv2_0 := hv2_0.mono (gz_mono hH hle32)
          replace hv2_1 := hv2_1.mono (gz_mono hH hle32)
          replace hv2_2 := hv2_2.mono (gz_mono hH hle32)
          refine S_guarded rfl rfl hg28 ?_
          refine S_v (RunsAt_pu rfl) rfl ?_
          refine S_guarded rfl rfl hg26 ?_
          refine S_v (r_pickF rfl hg28 rfl) rfl ?_
          refine S_v (r_pickT rfl hg26 rfl) rfl ?_
          refine S_pu 1 rfl ?_
          refine S_seqnil ?_
          refine W_ret ?_
          refine At_seq_ret ?_
          obtain rfl := Option.some.inj h
          refine At_body rfl rfl ?_
          exact ⟨hL32.ext, rfl⟩
      · replace h := Go.L.ite_f hg26 h
        refine S_unwanted rfl rfl hg26 rfl ?_
        refine S_unwanted rfl rfl hg26 rfl ?_
        refine S_unwanted rfl rfl hg26 rfl ?_
        refine S_unwanted rfl rfl hg26 rfl ?_
        refine S_unwanted2 rfl rfl rfl ?_
        refine S_unwanted2 rfl rfl rfl ?_
        refine S_unwanted2 rfl rfl rfl ?_
        refine S_unwanted rfl rfl hg26 rfl ?_
        refine S_v (r_pickF rfl hg26 rfl) rfl ?_
        refine S_pu 1 rfl ?_
        refine S_seqnil ?_
        refine W_ret ?_
        refine At_seq_ret ?_
        obtain rfl := Option.some.inj h
        refine At_body rfl rfl ?_
        exact ⟨hL25.ext, rfl⟩
    · replace h := Go.L.ite_n hc22 h
      refine W_skip ?_
      refine At_seq ?_
      refine W_seqr ?_
      refine S_pu 1 rfl ?_
      obtain ⟨x35, hb35, h⟩ := Go.L.bind_some h
      refine S_callL rfl rfl hL8 (ref4_TextOf_ok _ _ (gz_le hH hL8) (h0_0.mono (gz_left hH)) hb35) ?_
      rintro _ w36 ⟨u36_0, rfl, hR36_0⟩ hx36 hL36 hle36
      have hv36_0 := hR36_0.vecG hH hL8 hx36
      replace hv2_0 := hv2_0.mono (gz_mono hH hle36)
      replace hv2_1 := hv2_1.mono (gz_mono hH hle36)
      replace hv2_2 := hv2_2.mono (gz_mono hH hle36)
      refine S_pu 5 rfl ?_
      refine S_seqnil ?_
      refine W_seq ?_
      refine W_seqr ?_
      refine S_pu 2 rfl ?_
      refine S_seqnil ?_
      refine W_cond rfl (fun hc37 => ?_) (fun hc37 => ?_)
      · replace h := Go.L.ite_t hc37 h
        refine W_seqd (.q 0 (.q 1 (.q 2 (.q 3 (.q 4 (.q 5 (.q 6 (.q 7 (.q 8 (.tail 9)))))))))) mixed (by kernel_rfl) (fun w39 hx39 => ?_)
        have hL40 := hL36.call hx39
        have hle40 := fz_ext hL36 hx39
        replace hv2_0 := hv2_0.mono (gz_mono hH hle40)
        replace hv2_1 := hv2_1.mono (gz_mono hH hle40)
        replace hv2_2 := hv2_2.mono (gz_mono hH hle40)
        refine D_v (r_loadBN 0 rfl Try.underlying25 rfl zr25 hL40 rfl) rfl rfl ?_
        obtain ⟨x41, hb41, h⟩ := Go.L.bind_some h
        refine D_call rfl rfl rfl (fun w42 hx42 => ref3_At_ok _ _ (Le.refl _) hb41) ?_
        refine D_v (r_eqA rfl rfl eqg25 (eq25 _ _ _ _ )) rfl rfl ?_
        refine D_pu 1 rfl ?_
        refine D_split (s := 42) rfl (fun hg43 => ?_) (fun hg43 => ?_)
        · replace h := Go.L.ite_p (of_decide_eq_true hg43) h
          refine D_vg (r_loadBN 1 rfl Try.underlying50 rfl zr50 hL40 rfl) rfl rfl rfl rfl hg43 rfl ?_
          obtain ⟨x45, hb45, h⟩ := Go.L.bind_some h
          refine D_callg rfl rfl rfl rfl hg43 rfl rfl (fun w46 hx46 => fmindex_Index_Length_ok _ _ (Le.refl _) ((hv2_0.mono (gz_le hH hL40)).mono hx46.le) ((hv2_1.mono (gz_le hH hL40)).mono hx46.le) ((hv2_2.mono (gz_le hH hL40)).mono hx46.le) hb45) ?_
          refine D_vg (RunsAt_pu rfl) rfl rfl rfl rfl hg43 rfl ?_
          refine D_v (r_pickT rfl hg43 rfl) rfl rfl ?_
          refine D_pu 1 rfl ?_
          refine D_tail (fun w47 hx47 => ?_)
          have hL48 := hL40.call hx47
          have hle48 := fz_ext hL40 hx47
          replace hv2_0 := hv2_0.mono (gz_mono hH hle48)
          replace hv2_1 := hv2_1.mono (gz_mono hH hle48)
          replace hv2_2 := hv2_2.mono (gz_mono hH hle48)
          refine S_seqnil ?_
          refine W_ret ?_
          refine At_seq_ret ?_
          obtain rfl := Option.some.inj h
          refine At_body rfl rfl ?_
          exact ⟨hL48.ext, rfl⟩
        · replace h := Go.L.ite_n (of_decide_eq_false hg43) h
          refine D_no rfl rfl rfl rfl hg43 rfl ?_
          refine D_no rfl rfl rfl rfl hg43 rfl ?_
          refine D_no rfl rfl rfl rfl hg43 rfl ?_
          refine D_v (r_pickF rfl hg43 rfl) rfl rfl ?_
          refine D_pu 1 rfl ?_
          refine D_tail (fun w50 hx50 => ?_)
          have hL51 := hL40.call hx50
          have hle51 := fz_ext hL40 hx50
          replace hv2_0 := hv2_0.mono (gz_mono hH hle51)
          replace hv2_1 := hv2_1.mono (gz_mono hH hle51)
          replace hv2_2 := hv2_2.mono (gz_mono hH hle51)
          refine S_seqnil ?_
          refine W_ret ?_
          refine At_seq_ret ?_
          obtain rfl := Option.some.inj h
          refine At_body rfl rfl ?_
          exact ⟨hL51.ext, rfl⟩
      · replace h := Go.L.ite_f hc37 h
        refine W_skip ?_
        refine At_seq ?_
        refine W_seqr ?_
        refine S_v (r_loadBN 1 rfl Try.underlying50 rfl zr50 hL36 rfl) rfl ?_
        refine S_pu 1 rfl ?_
        refine S_v (r_len rfl Try.underlying22 hv36_0) rfl ?_
        obtain ⟨x53, hb53, h⟩ := Go.L.bind_some h
        refine S_callL rfl rfl hL36 (fmindex_Index_Extract_ok _ _ (gz_le hH hL36) hv2_0 hv2_1 hv2_2 hb53) ?_
        rintro _ w54 ⟨u54_0, rfl, hR54_0⟩ hx54 hL54 hle54
        have hv54_0 := hR54_0.vecG hH hL36 hx54
        replace hv2_0 := hv2_0.mono (gz_mono hH hle54)
        replace hv2_1 := hv2_1.mono (gz_mono hH hle54)
        replace hv2_2 := hv2_2.mono (gz_mono hH hle54)
        replace hv36_0 := hv36_0.mono (gz_mono hH hle54)
        refine S_pu 3 rfl ?_
        refine S_alloc zr25 rfl rfl hL54 ?_
        intro w55 b55 hL55 hle55 _
        replace hv2_0 := hv2_0.mono (gz_mono hH hle55)
        replace hv2_1 := hv2_1.mono (gz_mono hH hle55)
        replace hv2_2 := hv2_2.mono (gz_mono hH hle55)
        replace hv36_0 := hv36_0.mono (gz_mono hH hle55)
        replace hv54_0 := hv54_0.mono (gz_mono hH hle55)
        refine S_pu 1 rfl ?_
        refine S_storeBN 0 rfl rfl rfl zr25 hL55 rfl rfl (onc rfl (onc rfl on0)) ?_
        intro w56 hL56 hle56
        replace hv2_0 := hv2_0.mono (gz_mono hH hle56)
        replace hv2_1 := hv2_1.mono (gz_mono hH hle56)
        replace hv2_2 := hv2_2.mono (gz_mono hH hle56)
        replace hv36_0 := hv36_0.mono (gz_mono hH hle56)
        replace hv54_0 := hv54_0.mono (gz_mono hH hle56)
        refine S_seqnil ?_
        refine W_seqr ?_
        refine S_v (r_field rfl Try.underlying25 rfl zr3 (by decide)) rfl ?_
        refine S_v (r_loadB1 1 rfl Try.underlying3 rfl hL56 rfl rfl) rfl ?_
        refine S_pu 2 rfl ?_
        refine S_split (s := 57) rfl (fun hg57 => ?_) (fun hg57 => ?_)
        · replace h := Go.L.ite_p (of_decide_eq_true hg57) h
          refine S_guarded rfl rfl hg57 ?_
          refine S_v (r_field rfl Try.underlying25 rfl zr3 (by decide)) rfl ?_
          refine S_guarded rfl rfl hg57 ?_
          refine S_v (r_loadB1 0 rfl Try.underlying3 rfl hL56 rfl rfl) rfl ?_
          refine S_guarded rfl rfl hg57 ?_
          refine S_v (RunsAt_pu rfl) rfl ?_
          refine S_v (r_pickT rfl hg57 rfl) rfl ?_
          refine S_pu 1 rfl ?_
          refine S_split (s := 62) rfl (fun hg59 => ?_) (fun hg59 => ?_)
          · replace h := Go.L.ite_p (of_decide_eq_true hg59) h
            refine S_guarded rfl rfl hg59 ?_
            refine S_v (r_loadBN 2 rfl Try.underlying50 rfl zr50 hL56 rfl) rfl ?_
            refine S_guarded rfl rfl hg59 ?_
            obtain ⟨x61, hb61, h⟩ := Go.L.bind_some h
            refine S_callL rfl rfl hL56 (fmindex_Index_Length_ok _ _ (gz_le hH hL56) hv2_0 hv2_1 hv2_2 hb61) ?_
            rintro _ w62 rfl hx62 hL62 hle62
            replace hv2_0 := hv2_0.mono (gz_mono hH hle62)
            replace hv2_1 := hv2_1.mono (gz_mono hH hle62)
            replace hv2_2 := hv2_2.mono (gz_mono hH hle62)
            replace hv36_0 := hv36_0.mono (gz_mono hH hle62)
            replace hv54_0 := hv54_0.mono (gz_mono hH hle62)
            refine S_guarded rfl rfl hg59 ?_
            refine S_v (RunsAt_pu rfl) rfl ?_
            refine S_guarded rfl rfl hg59 ?_
            refine S_v (r_len rfl Try.underlying22 hv36_0) rfl ?_
            refine S_guarded rfl rfl hg59 ?_
            refine S_v (RunsAt_pu rfl) rfl ?_
            refine S_v (r_pickT rfl hg59 rfl) rfl ?_
            refine S_pu 1 rfl ?_
            refine S_split (s := 69) rfl (fun hg63 => ?_) (fun hg63 => ?_)
            · replace h := Go.L.ite_p (of_decide_eq_true hg63) h
              refine S_guarded rfl rfl hg63 ?_
              refine S_v (RunsAt_pu rfl) rfl ?_
              refine S_guarded rfl rfl hg63 ?_
              refine S_v (RunsAt_pu rfl) rfl ?_
              refine S_guarded rfl rfl hg63 ?_
              obtain ⟨x65, hb65, h⟩ := Go.L.bind_some h
              refine S_callL rfl rfl hL62 (ref3_SameBytes_ok _ _ (gz_le hH hL62) hv54_0 hv36_0 hb65) ?_
              rintro _ w66 rfl hx66 hL66 hle66
              replace hv2_0 := hv2_0.mono (gz_mono hH hle66)
              replace hv2_1 := hv2_1.mono (gz_mono hH hle66)
              replace hv2_2 := hv2_2.mono (gz_mono hH hle66)
              replace hv36_0 := hv36_0.mono (gz_mono hH hle66)
              replace hv54_0 := hv54_0.mono (gz_mono hH hle66)
              refine S_v (r_pickT rfl hg63 rfl) rfl ?_
              refine S_pu 1 rfl ?_
              refine S_split (s := 74) rfl (fun hg67 => ?_) (fun hg67 => ?_)
              · replace h := Go.L.ite_t hg67 h
                refine S_guarded rfl rfl hg67 ?_
                refine S_v (r_loadBN 2 rfl Try.underlying50 rfl zr50 hL66 rfl) rfl ?_
                refine S_guarded rfl rfl hg67 ?_
                obtain ⟨x69, hb69, h⟩ := Go.L.bind_some h
                refine S_callL rfl rfl hL66 (fmindex_Index_Bytes_ok _ _ (gz_le hH hL66) hv2_0 hv2_1 hv2_2 hb69) ?_
                rintro u70_0 w70 ⟨_, rfl, hR70_0⟩ hx70 hL70 hle70
                have hv70_0 := hR70_0.vecG hH hL66 hx70
                replace hv2_0 := hv2_0.mono (gz_mono hH hle70)
                replace hv2_1 := hv2_1.mono (gz_mono hH hle70)
                replace hv2_2 := hv2_2.mono (gz_mono hH hle70)
                replace hv36_0 := hv36_0.mono (gz_mono hH hle70)
                replace hv54_0 := hv54_0.mono (gz_mono hH hle70)
                refine S_guarded rfl rfl hg67 ?_
                refine S_v (RunsAt_pu rfl) rfl ?_
                refine S_guarded rfl rfl hg67 ?_
                obtain ⟨x71, hb71, h⟩ := Go.L.bind_some h
                refine S_callL rfl rfl hL70 (ref3_SameBytes_ok _ _ (gz_le hH hL70) hv70_0 (h0_0.mono (gz_left hH)) hb71) ?_
                rintro _ w72 rfl hx72 hL72 hle72
                replace hv2_0 := hv2_0.mono (gz_mono hH hle72)
                replace hv2_1 := hv2_1.mono (gz_mono hH hle72)
                replace hv2_2 := hv2_2.mono (gz_mono hH hle72)
                replace hv36_0 := hv36_0.mono (gz_mono hH hle72)
                replace hv54_0 := hv54_0.mono (gz_mono hH hle72)
                replace hv70_0 := hv70_0.mono (gz_mono hH hle72)
                refine S_v (r_pickT rfl hg67 rfl) rfl ?_
                refine S_pu 1 rfl ?_
                refine S_seqnil ?_
                refine W_ret ?_
                obtain rfl := Option.some.inj h
                refine At_body rfl rfl ?_
                exact ⟨hL72.ext, rfl⟩
              · replace h := Go.L.ite_f hg67 h
                refine S_unwanted rfl rfl hg67 rfl ?_
                refine S_unwanted rfl rfl hg67 rfl ?_
                refine S_unwanted rfl rfl hg67 rfl ?_
                refine S_unwanted rfl rfl hg67 rfl ?_
                refine S_v (r_pickF rfl hg67 rfl) rfl ?_
                refine S_pu 1 rfl ?_
                refine S_seqnil ?_
                refine W_ret ?_
                obtain rfl := Option.some.inj h
                refine At_body rfl rfl ?_
                exact ⟨hL66.ext, rfl⟩
            · replace h := Go.L.ite_n (of_decide_eq_false hg63) h
              refine S_unwanted rfl rfl hg63 rfl ?_
              refine S_unwanted rfl rfl hg63 rfl ?_
              refine S_unwanted rfl rfl hg63 rfl ?_
              refine S_v (r_pickF rfl hg63 rfl) rfl ?_
              refine S_pu 1 rfl ?_
              refine S_unwanted rfl rfl rfl rfl ?_
              refine S_unwanted rfl rfl rfl rfl ?_
              refine S_unwanted rfl rfl rfl rfl ?_
              refine S_unwanted rfl rfl rfl rfl ?_
              refine S_v (r_pickF rfl rfl rfl) rfl ?_
              refine S_pu 1 rfl ?_
              refine S_seqnil ?_
              refine W_ret ?_
              obtain rfl := Option.some.inj h
              refine At_body rfl rfl ?_
              exact ⟨hL62.ext, rfl⟩
          · replace h := Go.L.ite_n (of_decide_eq_false hg59) h
            refine S_unwanted rfl rfl hg59 rfl ?_
            refine S_unwanted rfl rfl hg59 rfl ?_
            refine S_unwanted rfl rfl hg59 rfl ?_
            refine S_unwanted rfl rfl hg59 rfl ?_
            refine S_unwanted rfl rfl hg59 rfl ?_
            refine S_v (r_pickF rfl hg59 rfl) rfl ?_
            refine S_pu 1 rfl ?_
            refine S_unwanted rfl rfl rfl rfl ?_
            refine S_unwanted rfl rfl rfl rfl ?_
            refine S_unwanted rfl rfl rfl rfl ?_
            refine S_v (r_pickF rfl rfl rfl) rfl ?_
            refine S_pu 1 rfl ?_
            refine S_unwanted rfl rfl rfl rfl ?_
            refine S_unwanted rfl rfl rfl rfl ?_
            refine S_unwanted rfl rfl rfl rfl ?_
            refine S_unwanted rfl rfl rfl rfl ?_
            refine S_v (r_pickF rfl rfl rfl) rfl ?_
            refine S_pu 1 rfl ?_
            refine S_seqnil ?_
            refine W_ret ?_
            obtain rfl := Option.some.inj h
            refine At_body rfl rfl ?_
            exact ⟨hL56.ext, rfl⟩
        · replace h := Go.L.ite_n (of_decide_eq_false hg57) h
          refine S_unwanted rfl rfl hg57 rfl ?_
          refine S_unwanted rfl rfl hg57 rfl ?_
          refine S_unwanted rfl rfl hg57 rfl ?_
          refine S_v (r_pickF rfl hg57 rfl) rfl ?_
          refine S_pu 1 rfl ?_
          refine S_unwanted rfl rfl rfl rfl ?_
          refine S_unwanted rfl rfl rfl rfl ?_
          refine S_unwanted rfl rfl rfl rfl ?_
          refine S_unwanted rfl rfl rfl rfl ?_
          refine S_unwanted rfl rfl rfl rfl ?_
          refine S_v (r_pickF rfl rfl rfl) rfl ?_
          refine S_pu 1 rfl ?_
          refine S_unwanted rfl rfl rfl rfl ?_
          refine S_unwanted rfl rfl rfl rfl ?_
          refine S_unwanted rfl rfl rfl rfl ?_
          refine S_v (r_pickF rfl rfl rfl) rfl ?_
          refine S_pu 1 rfl ?_
          refine S_unwanted rfl rfl rfl rfl ?_
          refine S_unwanted rfl rfl rfl rfl ?_
          refine S_unwanted rfl rfl rfl rfl ?_
          refine S_unwanted rfl rfl rfl rfl ?_
          refine S_v (r_pickF rfl rfl rfl) rfl ?_
          refine S_pu 1 rfl ?_
          refine S_seqnil ?_
          refine W_ret ?_
          obtain rfl := Option.some.inj h
          refine At_body rfl rfl ?_
          exact ⟨hL56.ext, rfl⟩

noncomputable def law4_FmindexReopens_k1 (a1 : List UInt8) (x1 : (((List Int)) × (List Int) × (List Int)) × (Int × Int)) (x31 : (((List Int)) × (List Int) × (List Int)) × (Int × Int)) (s54_60 : Bool) : Option (Bool) :=
  if s54_60 then some (false) else Option.bind (fmindex_Index_Locate (x1.1.1, x1.1.2.1, x1.1.2.2) a1) (fun x89 => Option.bind (fmindex_Index_Locate (x31.1.1, x31.1.2.1, x31.1.2.2) a1) (fun x93 => if x89.2.1 = x93.2.1 ∧ x89.2.2 = x93.2.2 then Option.bind (ref3_Ints x89.1 x93.1) (fun x99 => some (x99)) else some (false)))
noncomputable def law4_FmindexReopens (a0 : List UInt8) (a1 : List UInt8) : Option (Bool) :=
  Option.bind (fmindex_Build a0) (fun x1 => Option.bind (law4_finds) (fun x7 => if !x7 then Option.bind (law4_finds) (fun x11 => if x11 then Option.bind (fmindex_Index_Length (x1.1.1, x1.1.2.1, x1.1.2.2)) (fun x15 => some (decide (x15 = (0 : Int)))) else some (false)) else if x1.2.1 = (0 : Int) then Option.bind (fmindex_Index_Bytes (x1.1.1, x1.1.2.1, x1.1.2.2)) (fun x29 => Option.bind (fmindex_Open x29) (fun x31 => if x31.2.1 = (0 : Int) then Option.bind (fmindex_Index_Length (x31.1.1, x31.1.2.1, x31.1.2.2)) (fun x68 => if x68 = (a0.length : Int) then Option.bind (fmindex_Index_Bytes (x1.1.1, x1.1.2.1, x1.1.2.2)) (fun x73 => Option.bind (fmindex_Index_Bytes (x31.1.1, x31.1.2.1, x31.1.2.2)) (fun x75 => Option.bind (ref3_SameBytes x73 x75) (fun x77 => (law4_FmindexReopens_k1 a1 x1 x31) (!x77)))) else (law4_FmindexReopens_k1 a1 x1 x31) true) else (law4_FmindexReopens_k1 a1 x1 x31) true)) else Option.bind (law4_finds) (fun x21 => if x21 then Option.bind (fmindex_Index_Length (x1.1.1, x1.1.2.1, x1.1.2.2)) (fun x25 => some (decide (x25 = (0 : Int)))) else some (false))))

set_option maxRecDepth 10000 in
theorem law4_FmindexReopens_ok (w : World) (H : PH) (hH : Le H (hp w)) {a0 : List UInt8} {a1 : List UInt8} {v0_0 : Value} {v1_0 : Value} (h0_0 : Vec .byte H v0_0 (a0)) (h1_0 : Vec .byte H v1_0 (a1)) {r : Bool} (h : law4_FmindexReopens a0 a1 = some r) :
    Ok Try.prog 12 [v0_0, v1_0] w (fun v w' => Ext w w' ∧ v = .bool r) := by
  refine Ok_enter (n := 75) [(0, v0_0), (1, v1_0)] Try.func12 rfl rfl rfl rfl rfl ?_
  have hL := Lcl.start w
  refine W_seqr ?_
  refine S_pu 1 rfl ?_
  refine S_seqnil ?_
  refine W_seqr ?_
  refine S_pu 1 rfl ?_
  obtain ⟨x1, hb1, h⟩ := Go.L.bind_some h
  refine S_callL rfl rfl hL (fmindex_Build_ok _ _ (gz_le hH hL) (h0_0.mono (gz_left hH)) hb1) ?_
  rintro _ w2 ⟨u2_0, u2_1, u2_2, rfl, hR2_0, hR2_1, hR2_2⟩ hx2 hL2 hle2
  have hv2_0 := hR2_0.mono (gz_nw hH hL hx2)
  have hv2_1 := hR2_1.mono (gz_nw hH hL hx2)
  have hv2_2 := hR2_2.mono (gz_nw hH hL hx2)
  refine S_pu 3 rfl ?_
  refine S_alloc zr50 rfl rfl hL2 ?_
  intro w3 b3 hL3 hle3 _
  replace hv2_0 := hv2_0.mono (gz_mono hH hle3)
  replace hv2_1 := hv2_1.mono (gz_mono hH hle3)
  replace hv2_2 := hv2_2.mono (gz_mono hH hle3)
  refine S_alloc zr25 rfl rfl hL3 ?_
  intro w4 b4 hL4 hle4 _
  replace hv2_0 := hv2_0.mono (gz_mono hH hle4)
  replace hv2_1 := hv2_1.mono (gz_mono hH hle4)
  replace hv2_2 := hv2_2.mono (gz_mono hH hle4)
  refine S_storeBN 1 rfl rfl rfl zr50 hL4 rfl rfl (onc hv2_0.one (onc hv2_1.one (onc hv2_2.one on0))) ?_
  intro w5 hL5 hle5
  replace hv2_0 := hv2_0.mono (gz_mono hH hle5)
  replace hv2_1 := hv2_1.mono (gz_mono hH hle5)
  replace hv2_2 := hv2_2.mono (gz_mono hH hle5)
  refine S_storeBN 0 rfl rfl rfl zr25 hL5 rfl rfl (onc rfl (onc rfl on0)) ?_
  intro w6 hL6 hle6
  replace hv2_0 := hv2_0.mono (gz_mono hH hle6)
  replace hv2_1 := hv2_1.mono (gz_mono hH hle6)
  replace hv2_2 := hv2_2.mono (gz_mono hH hle6)
  refine S_seqnil ?_
  refine W_seq ?_
  refine W_seqr ?_
  obtain ⟨x7, hb7, h⟩ := Go.L.bind_some h
  refine S_callL rfl rfl hL6 (law4_finds_ok _ _ (gz_le hH hL6) hb7) ?_
  rintro _ w8 rfl hx8 hL8 hle8
  replace hv2_0 := hv2_0.mono (gz_mono hH hle8)
  replace hv2_1 := hv2_1.mono (gz_mono hH hle8)
  replace hv2_2 := hv2_2.mono (gz_mono hH hle8)
  refine S_pu 2 rfl ?_
  refine S_split (s := 20) rfl (fun hg9 => ?_) (fun hg9 => ?_)
  · replace h := Go.L.ite_t hg9 h
    refine S_unwanted rfl rfl hg9 rfl ?_
    refine S_unwanted rfl rfl hg9 rfl ?_
    refine S_unwanted rfl rfl hg9 rfl ?_
    refine S_v (r_pickT rfl hg9 rfl) rfl ?_
    refine S_seqnil ?_
    refine W_true rfl ?_
    refine W_seqr ?_
    obtain ⟨x11, hb11, h⟩ := Go.L.bind_some h
    refine S_callL rfl rfl hL8 (law4_finds_ok _ _ (gz_le hH hL8) hb11) ?_
    rintro _ w12 rfl hx12 hL12 hle12
    replace hv2_0 := hv2_0.mono (gz_mono hH hle12)
    replace hv2_1 := hv2_1.mono (gz_mono hH hle12)
    replace hv2_2 := hv2_2.mono (gz_mono hH hle12)
    refine S_pu 1 rfl ?_
    refine S_split (s := 26) rfl (fun hg13 => ?_) (fun hg13 => ?_)
    · replace h := Go.L.ite_t hg13 h
      refine S_guarded rfl rfl hg13 ?_
      refine S_v (r_loadBN 1 rfl Try.underlying50 rfl zr50 hL12 rfl) rfl ?_
      refine S_guarded rfl rfl hg13 ?_
      obtain ⟨x15, hb15, h⟩ := Go.L.bind_some h
      refine S_callL rfl rfl hL12 (fmindex_Index_Length_ok _ _ (gz_le hH hL12) hv2_0 hv2_1 hv2_2 hb15) ?_
      rintro _ w16 rfl hx16 hL16 hle16
      replace hv2_0 := hv2_0.mono (gz_mono hH hle16)
      replace hv2_1 := hv2_1.mono (gz_mono hH hle16)
      replace hv2_2 := hv2_2.mono (gz_mono hH hle16)
      refine S_guarded rfl rfl hg13 ?_
      refine S_v (RunsAt_pu rfl) rfl ?_
      refine S_v (r_pickT rfl hg13 rfl) rfl ?_
      refine S_pu 1 rfl ?_
      refine S_seqnil ?_
      refine W_ret ?_
      refine At_seq_ret ?_
      obtain rfl := Option.some.inj h
      refine At_body rfl rfl ?_
      exact ⟨hL16.ext, rfl⟩
    · replace h := Go.L.ite_f hg13 h
      refine S_unwanted rfl rfl hg13 rfl ?_
      refine S_unwanted rfl rfl hg13 rfl ?_
      refine S_unwanted rfl rfl hg13 rfl ?_
      refine S_v (r_pickF rfl hg13 rfl) rfl ?_
      refine S_pu 1 rfl ?_
      refine S_seqnil ?_
      refine W_ret ?_
      refine At_seq_ret ?_
      obtain rfl := Option.some.inj h
      refine At_body rfl rfl ?_
      exact ⟨hL12.ext, rfl⟩
  · replace h := Go.L.ite_f hg9 h
    refine S_guarded rfl rfl hg9 ?_
    refine S_v (r_field rfl Try.underlying25 rfl zr3 (by decide)) rfl ?_
    refine S_guarded rfl rfl hg9 ?_
    refine S_v (r_loadB1 0 rfl Try.underlying3 rfl hL8 rfl rfl) rfl ?_
    refine S_guarded rfl rfl hg9 ?_
    refine S_v (RunsAt_pu rfl) rfl ?_
    refine S_v (r_pickF rfl hg9 rfl) rfl ?_
    refine S_seqnil ?_
    refine W_ifn rfl (fun hc19 => ?_) (fun hc19 => ?_)
    · replace h := Go.L.ite_n hc19 h
      refine W_seqr ?_
      obtain ⟨x21, hb21, h⟩ := Go.L.bind_some h
      refine S_callL rfl rfl hL8 (law4_finds_ok _ _ (gz_le hH hL8) hb21) ?_
      rintro _ w22 rfl hx22 hL22 hle22
      replace hv2_0 := hv2_0.mono (gz_mono hH hle22)
      replace hv2_1 := hv2_1.mono (gz_mono hH hle22)
      replace hv2_2 := hv2_2.mono (gz_mono hH hle22)
      refine S_pu 1 rfl ?_
      refine S_split (s := 26) rfl (fun hg23 => ?_) (fun hg23 => ?_)
      · replace h := Go.L.ite_t hg23 h
        refine S_guarded rfl rfl hg23 ?_
        refine S_v (r_loadBN 1 rfl Try.underlying50 rfl zr50 hL22 rfl) rfl ?_
        refine S_guarded rfl rfl hg23 ?_
        obtain ⟨x25, hb25, h⟩ := Go.L.bind_some h
        refine S_callL rfl rfl hL22 (fmindex_Index_Length_ok _ _ (gz_le hH hL22) hv2_0 hv2_1 hv2_2 hb25) ?_
        rintro _ w26 rfl hx26 hL26 hle26
        replace hv2_0 := hv2_0.mono (gz_mono hH hle26)
        replace hv2_1 := hv2_1.mono (gz_mono hH hle26)
        replace hv2_2 := hv2_2.mono (gz_mono hH hle26)
        refine S_guarded rfl rfl hg23 ?_
        refine S_v (RunsAt_pu rfl) rfl ?_
        refine S_v (r_pickT rfl hg23 rfl) rfl ?_
        refine S_pu 1 rfl ?_
        refine S_seqnil ?_
        refine W_ret ?_
        refine At_seq_ret ?_
        obtain rfl := Option.some.inj h
        refine At_body rfl rfl ?_
        exact ⟨hL26.ext, rfl⟩
      · replace h := Go.L.ite_f hg23 h
        refine S_unwanted rfl rfl hg23 rfl ?_
        refine S_unwanted rfl rfl hg23 rfl ?_
        refine S_unwanted rfl rfl hg23 rfl ?_
        refine S_v (r_pickF rfl hg23 rfl) rfl ?_
        refine S_pu 1 rfl ?_
        refine S_seqnil ?_
        refine W_ret ?_
        refine At_seq_ret ?_
        obtain rfl := Option.some.inj h
        refine At_body rfl rfl ?_
        exact ⟨hL22.ext, rfl⟩
    · replace h := Go.L.ite_p hc19 h
      refine W_skip ?_
      refine At_seq ?_
      refine W_seqr ?_
      refine S_v (r_loadBN 1 rfl Try.underlying50 rfl zr50 hL8 rfl) rfl ?_
      obtain ⟨x29, hb29, h⟩ := Go.L.bind_some h
      refine S_callL rfl rfl hL8 (fmindex_Index_Bytes_ok _ _ (gz_le hH hL8) hv2_0 hv2_1 hv2_2 hb29) ?_
      rintro u30_0 w30 ⟨_, rfl, hR30_0⟩ hx30 hL30 hle30
      have hv30_0 := hR30_0.vecG hH hL8 hx30
      replace hv2_0 := hv2_0.mono (gz_mono hH hle30)
      replace hv2_1 := hv2_1.mono (gz_mono hH hle30)
      replace hv2_2 := hv2_2.mono (gz_mono hH hle30)
      obtain ⟨x31, hb31, h⟩ := Go.L.bind_some h
      refine S_callL rfl rfl hL30 (fmindex_Open_ok _ _ (gz_le hH hL30) hv30_0 hb31) ?_
      rintro _ w32 ⟨u32_0, u32_1, u32_2, rfl, hR32_0, hR32_1, hR32_2⟩ hx32 hL32 hle32
      have hv32_0 := hR32_0.mono (gz_nw hH hL30 hx32)
      have hv32_1 := hR32_1.mono (gz_nw hH hL30 hx32)
      have hv32_2 := hR32_2.mono (gz_nw hH hL30 hx32)
      replace hv2_0 := hv2_0.mono (gz_mono hH hle32)
      replace hv2_1 := hv2_1.mono (gz_mono hH hle32)
      replace hv2_2 := hv2_2.mono (gz_mono hH hle32)
      replace hv30_0 := hv30_0.mono (gz_mono hH hle32)
      refine S_pu 3 rfl ?_
      refine S_alloc zr50 rfl rfl hL32 ?_
      intro w33 b33 hL33 hle33 _
      replace hv2_0 := hv2_0.mono (gz_mono hH hle33)
      replace hv2_1 := hv2_1.mono (gz_mono hH hle33)
      replace hv2_2 := hv2_2.mono (gz_mono hH hle33)
      replace hv30_0 := hv30_0.mono (gz_mono hH hle33)
      replace hv32_0 := hv32_0.mono (gz_mono hH hle33)
      replace hv32_1 := hv32_1.mono (gz_mono hH hle33)
      replace hv32_2 := hv32_2.mono (gz_mono hH hle33)
      refine S_alloc zr25 rfl rfl hL33 ?_
      intro w34 b34 hL34 hle34 _
      replace hv2_0 := hv2_0.mono (gz_mono hH hle34)
      replace hv2_1 := hv2_1.mono (gz_mono hH hle34)
      replace hv2_2 := hv2_2.mono (gz_mono hH hle34)
      replace hv30_0 := hv30_0.mono (gz_mono hH hle34)
      replace hv32_0 := hv32_0.mono (gz_mono hH hle34)
      replace hv32_1 := hv32_1.mono (gz_mono hH hle34)
      replace hv32_2 := hv32_2.mono (gz_mono hH hle34)
      refine S_storeBN 1 rfl rfl rfl zr50 hL34 rfl rfl (onc hv32_0.one (onc hv32_1.one (onc hv32_2.one on0))) ?_
      intro w35 hL35 hle35
      replace hv2_0 := hv2_0.mono (gz_mono hH hle35)
      replace hv2_1 := hv2_1.mono (gz_mono hH hle35)
      replace hv2_2 := hv2_2.mono (gz_mono hH hle35)
      replace hv30_0 := hv30_0.mono (gz_mono hH hle35)
      replace hv32_0 := hv32_0.mono (gz_mono hH hle35)
      replace hv32_1 := hv32_1.mono (gz_mono hH hle35)
      replace hv32_2 := hv32_2.mono (gz_mono hH hle35)
      refine S_storeBN 0 rfl rfl rfl zr25 hL35 rfl rfl (onc rfl (onc rfl on0)) ?_
      intro w36 hL36 hle36
      replace hv2_0 := hv2_0.mono (gz_mono hH hle36)
      replace hv2_1 := hv2_1.mono (gz_mono hH hle36)
      replace hv2_2 := hv2_2.mono (gz_mono hH hle36)
      replace hv30_0 := hv30_0.mono (gz_mono hH hle36)
      replace hv32_0 := hv32_0.mono (gz_mono hH hle36)
      replace hv32_1 := hv32_1.mono (gz_mono hH hle36)
      replace hv32_2 := hv32_2.mono (gz_mono hH hle36)
      refine S_seqnil ?_
      refine W_seq ?_
      refine W_cut (σ := Bool) (fun (s54_60 : Bool) => [(1, v1_0), (5, .pointer (some ⟨b3, 0, none⟩)), (7, .pointer (some ⟨b33, 0, none⟩)), (54, .bool s54_60)]) (fun (s54_60 : Bool) wr => Lcl w [.box b34 [.int .i64 x31.2.1, .int .i64 x31.2.2] 25, .box b33 [u32_0, u32_1, u32_2] 50, .box b4 [.int .i64 x1.2.1, .int .i64 x1.2.2] 25, .box b3 [u2_0, u2_1, u2_2] 50] wr ∧ Vec (.int .i64) (gz H w wr [.box b34 [.int .i64 x31.2.1, .int .i64 x31.2.2] 25, .box b33 [u32_0, u32_1, u32_2] 50, .box b4 [.int .i64 x1.2.1, .int .i64 x1.2.2] 25, .box b3 [u2_0, u2_1, u2_2] 50]) (u32_0) (x31.1.1) ∧ Vec (.int .i64) (gz H w wr [.box b34 [.int .i64 x31.2.1, .int .i64 x31.2.2] 25, .box b33 [u32_0, u32_1, u32_2] 50, .box b4 [.int .i64 x1.2.1, .int .i64 x1.2.2] 25, .box b3 [u2_0, u2_1, u2_2] 50]) (u32_1) (x31.1.2.1) ∧ Vec (.int .i64) (gz H w wr [.box b34 [.int .i64 x31.2.1, .int .i64 x31.2.2] 25, .box b33 [u32_0, u32_1, u32_2] 50, .box b4 [.int .i64 x1.2.1, .int .i64 x1.2.2] 25, .box b3 [u2_0, u2_1, u2_2] 50]) (u32_2) (x31.1.2.2) ∧ Vec (.int .i64) (gz H w wr [.box b34 [.int .i64 x31.2.1, .int .i64 x31.2.2] 25, .box b33 [u32_0, u32_1, u32_2] 50, .box b4 [.int .i64 x1.2.1, .int .i64 x1.2.2] 25, .box b3 [u2_0, u2_1, u2_2] 50]) (u2_0) (x1.1.1) ∧ Vec (.int .i64) (gz H w wr [.box b34 [.int .i64 x31.2.1, .int .i64 x31.2.2] 25, .box b33 [u32_0, u32_1, u32_2] 50, .box b4 [.int .i64 x1.2.1, .int .i64 x1.2.2] 25, .box b3 [u2_0, u2_1, u2_2] 50]) (u2_1) (x1.1.2.1) ∧ Vec (.int .i64) (gz H w wr [.box b34 [.int .i64 x31.2.1, .int .i64 x31.2.2] 25, .box b33 [u32_0, u32_1, u32_2] 50, .box b4 [.int .i64 x1.2.1, .int .i64 x1.2.2] 25, .box b3 [u2_0, u2_1, u2_2] 50]) (u2_2) (x1.1.2.2) ∧ (law4_FmindexReopens_k1 a1 x1 x31) s54_60 = some r) ?_ ?_
      · refine W_naive mixed rfl (fun w63 hx63 => ?_)
        have hL64 := hL36.call hx63
        have hle64 := fz_ext hL36 hx63
        replace hv2_0 := hv2_0.mono (gz_mono hH hle64)
        replace hv2_1 := hv2_1.mono (gz_mono hH hle64)
        replace hv2_2 := hv2_2.mono (gz_mono hH hle64)
        replace hv32_0 := hv32_0.mono (gz_mono hH hle64)
        replace hv32_1 := hv32_1.mono (gz_mono hH hle64)
        replace hv32_2 := hv32_2.mono (gz_mono hH hle64)
        refine N1 (i := 0) (by kernel_rfl) rfl ?_
        refine S_v (r_field rfl Try.underlying25 rfl zr3 (by decide)) rfl ?_
        refine N_nil ?_
        refine N1 (i := 1) (by kernel_rfl) rfl ?_
        refine S_v (r_loadB1 0 rfl Try.underlying3 rfl hL64 rfl rfl) rfl ?_
        refine N_nil ?_
        refine N_hoist 2 (np_cut (np_seq np_body)) (by kernel_rfl) rfl (fun _ => RunsAt_pu rfl) rfl ?_
        refine N_hoist 3 (np_cut (np_seq np_body)) (by kernel_rfl) rfl (fun _ => RunsAt_pu rfl) rfl ?_
        refine N_split (s := 40) rfl (fun hg65 => ?_) (fun hg65 => ?_)
        · replace h := Go.L.ite_n (not_dec_t hg65) h
          refine N_no 4 (np_cut (np_seq np_body)) (by kernel_rfl) rfl rfl rfl rfl hg65 rfl ?_
          refine N_no 5 (np_cut (np_seq np_body)) (by kernel_rfl) rfl rfl rfl rfl hg65 rfl ?_
          refine N_no 6 (np_cut (np_seq np_body)) (by kernel_rfl) rfl rfl rfl rfl hg65 rfl ?_
          refine N_no 7 (np_cut (np_seq np_body)) (by kernel_rfl) rfl rfl rfl rfl hg65 rfl ?_
          refine N_no 8 (np_cut (np_seq np_body)) (by kernel_rfl) rfl rfl rfl rfl hg65 rfl ?_
          refine N_hoist 9 (np_cut (np_seq np_body)) (by kernel_rfl) rfl (fun _ => r_pickT rfl hg65 rfl) rfl ?_
          refine N_hoist 10 (np_cut (np_seq np_body)) (by kernel_rfl) rfl (fun _ => RunsAt_pu rfl) rfl ?_
          refine N_no 11 (np_cut (np_seq np_body)) (by kernel_rfl) rfl rfl rfl rfl rfl rfl ?_
          refine N_no 12 (np_cut (np_seq np_body)) (by kernel_rfl) rfl rfl rfl rfl rfl rfl ?_
          refine N_no 13 (np_cut (np_seq np_body)) (by kernel_rfl) rfl rfl rfl rfl rfl rfl ?_
          refine N_no 14 (np_cut (np_seq np_body)) (by kernel_rfl) rfl rfl rfl rfl rfl rfl ?_
          refine N_no 15 (np_cut (np_seq np_body)) (by kernel_rfl) rfl rfl rfl rfl rfl rfl ?_
          refine N_no 16 (np_cut (np_seq np_body)) (by kernel_rfl) rfl rfl rfl rfl rfl rfl ?_
          refine N_hoist 17 (np_cut (np_seq np_body)) (by kernel_rfl) rfl (fun _ => r_pickT rfl rfl rfl) rfl ?_
          refine N_end (by kernel_rfl) ?_
          refine At_cut true (.cons rfl (.cons rfl (.cons rfl (.cons rfl (Sub.nil _))))) ⟨hL64, hv32_0, hv32_1, hv32_2, hv2_0, hv2_1, hv2_2, h⟩
        · replace h := Go.L.ite_p (not_dec_f hg65) h
          refine N_hoistg 6 (np_cut (np_seq np_body)) (by kernel_rfl) rfl rfl rfl rfl hg65 (fun _ => RunsAt_pu rfl) rfl ?_
          refine N_hoistg 7 (np_cut (np_seq np_body)) (by kernel_rfl) rfl rfl rfl rfl hg65 (fun _ => r_len rfl Try.underlying22 h0_0) rfl ?_
          refine N1 (i := 4) (by kernel_rfl) rfl ?_
          refine S_guarded rfl rfl hg65 ?_
          refine S_v (r_loadBN 1 rfl Try.underlying50 rfl zr50 hL64 rfl) rfl ?_
          refine N_nil ?_
          refine N1 (i := 5) (by kernel_rfl) rfl ?_
          refine S_guarded rfl rfl hg65 ?_
          obtain ⟨x68, hb68, h⟩ := Go.L.bind_some h
          refine S_callL rfl rfl hL64 (fmindex_Index_Length_ok _ _ (gz_le hH hL64) hv32_0 hv32_1 hv32_2 hb68) ?_
          rintro _ w69 rfl hx69 hL69 hle69
          replace hv2_0 := hv2_0.mono (gz_mono hH hle69)
          replace hv2_1 := hv2_1.mono (gz_mono hH hle69)
          replace hv2_2 := hv2_2.mono (gz_mono hH hle69)
          replace hv32_0 := hv32_0.mono (gz_mono hH hle69)
          replace hv32_1 := hv32_1.mono (gz_mono hH hle69)
          replace hv32_2 := hv32_2.mono (gz_mono hH hle69)
          refine N_nil ?_
          refine N_hoistg 8 (np_cut (np_seq np_body)) (by kernel_rfl) rfl rfl rfl rfl hg65 (fun _ => RunsAt_pu rfl) rfl ?_
          refine N_hoist 9 (np_cut (np_seq np_body)) (by kernel_rfl) rfl (fun _ => r_pickF rfl hg65 rfl) rfl ?_
          refine N_hoist 10 (np_cut (np_seq np_body)) (by kernel_rfl) rfl (fun _ => RunsAt_pu rfl) rfl ?_
          refine N_split (s := 47) rfl (fun hg70 => ?_) (fun hg70 => ?_)
          · replace h := Go.L.ite_n (not_dec_t hg70) h
            refine N_no 11 (np_cut (np_seq np_body)) (by kernel_rfl) rfl rfl rfl rfl hg70 rfl ?_
            refine N_no 12 (np_cut (np_seq np_body)) (by kernel_rfl) rfl rfl rfl rfl hg70 rfl ?_
            refine N_no 13 (np_cut (np_seq np_body)) (by kernel_rfl) rfl rfl rfl rfl hg70 rfl ?_
            refine N_no 14 (np_cut (np_seq np_body)) (by kernel_rfl) rfl rfl rfl rfl hg70 rfl ?_
            refine N_no 15 (np_cut (np_seq np_body)) (by kernel_rfl) rfl rfl rfl rfl hg70 rfl ?_
            refine N_no 16 (np_cut (np_seq np_body)) (by kernel_rfl) rfl rfl rfl rfl hg70 rfl ?_
            refine N_hoist 17 (np_cut (np_seq np_body)) (by kernel_rfl) rfl (fun _ => r_pickT rfl hg70 rfl) rfl ?_
            refine N_end (by kernel_rfl) ?_
            refine At_cut true (.cons rfl (.cons rfl (.cons rfl (.cons rfl (Sub.nil _))))) ⟨hL69, hv32_0, hv32_1, hv32_2, hv2_0, hv2_1, hv2_2, h⟩
          · replace h := Go.L.ite_p (not_dec_f hg70) h
            refine N2 (i := 11) (j := 13) (by kernel_rfl) rfl rfl ?_ ?_
            · refine S_guarded rfl rfl hg70 ?_
              refine S_v (r_loadBN 3 rfl Try.underlying50 rfl zr50 hL69 rfl) rfl ?_
              refine N_nil ?_
              refine N2 (i := 12) (j := 13) (by kernel_rfl) rfl rfl ?_ ?_
              · refine S_guarded rfl rfl hg70 ?_
                obtain ⟨x73, hb73, h⟩ := Go.L.bind_some h
                refine S_callL rfl rfl hL69 (fmindex_Index_Bytes_ok _ _ (gz_le hH hL69) hv2_0 hv2_1 hv2_2 hb73) ?_
                rintro u74_0 w74 ⟨_, rfl, hR74_0⟩ hx74 hL74 hle74
                have hv74_0 := hR74_0.vecG hH hL69 hx74
                replace hv2_0 := hv2_0.mono (gz_mono hH hle74)
                replace hv2_1 := hv2_1.mono (gz_mono hH hle74)
                replace hv2_2 := hv2_2.mono (gz_mono hH hle74)
                replace hv32_0 := hv32_0.mono (gz_mono hH hle74)
                replace hv32_1 := hv32_1.mono (gz_mono hH hle74)
                replace hv32_2 := hv32_2.mono (gz_mono hH hle74)
                refine N_nil ?_
                refine N1 (i := 13) (by kernel_rfl) rfl ?_
                refine S_guarded rfl rfl hg70 ?_
                refine S_v (r_loadBN 1 rfl Try.underlying50 rfl zr50 hL74 rfl) rfl ?_
                refine N_nil ?_
                refine N1 (i := 14) (by kernel_rfl) rfl ?_
                refine S_guarded rfl rfl hg70 ?_
                obtain ⟨x75, hb75, h⟩ := Go.L.bind_some h
                refine S_callL rfl rfl hL74 (fmindex_Index_Bytes_ok _ _ (gz_le hH hL74) hv32_0 hv32_1 hv32_2 hb75) ?_
                rintro u76_0 w76 ⟨_, rfl, hR76_0⟩ hx76 hL76 hle76
                have hv76_0 := hR76_0.vecG hH hL74 hx76
                replace hv2_0 := hv2_0.mono (gz_mono hH hle76)
                replace hv2_1 := hv2_1.mono (gz_mono hH hle76)
                replace hv2_2 := hv2_2.mono (gz_mono hH hle76)
                replace hv32_0 := hv32_0.mono (gz_mono hH hle76)
                replace hv32_1 := hv32_1.mono (gz_mono hH hle76)
                replace hv32_2 := hv32_2.mono (gz_mono hH hle76)
                replace hv74_0 := hv74_0.mono (gz_mono hH hle76)
                refine N_nil ?_
                refine N1 (i := 15) (by kernel_rfl) rfl ?_
                refine S_guarded rfl rfl hg70 ?_
                obtain ⟨x77, hb77, h⟩ := Go.L.bind_some h
                refine S_callL rfl rfl hL76 (ref3_SameBytes_ok _ _ (gz_le hH hL76) hv74_0 hv76_0 hb77) ?_
                rintro _ w78 rfl hx78 hL78 hle78
                replace hv2_0 := hv2_0.mono (gz_mono hH hle78)
                replace hv2_1 := hv2_1.mono (gz_mono hH hle78)
                replace hv2_2 := hv2_2.mono (gz_mono hH hle78)
                replace hv32_0 := hv32_0.mono (gz_mono hH hle78)
                replace hv32_1 := hv32_1.mono (gz_mono hH hle78)
                replace hv32_2 := hv32_2.mono (gz_mono hH hle78)
                replace hv74_0 := hv74_0.mono (gz_mono hH hle78)
                replace hv76_0 := hv76_0.mono (gz_mono hH hle78)
                refine N_nil ?_
                refine N_hoistg 16 (np_cut (np_seq np_body)) (by kernel_rfl) rfl rfl rfl rfl hg70 (fun _ => RunsAt_pu rfl) rfl ?_
                refine N_hoist 17 (np_cut (np_seq np_body)) (by kernel_rfl) rfl (fun _ => r_pickF rfl hg70 rfl) rfl ?_
                refine N_end (by kernel_rfl) ?_
                refine At_cut (!x77) (.cons rfl (.cons rfl (.cons rfl (.cons rfl (Sub.nil _))))) ⟨hL78, hv32_0, hv32_1, hv32_2, hv2_0, hv2_1, hv2_2, h⟩
              · obtain ⟨x73, hb73, h⟩ := Go.L.bind_some h
                obtain ⟨x75, hb75, h⟩ := Go.L.bind_some h
                obtain ⟨x77, hb77, h⟩ := Go.L.bind_some h
                refine S_guarded rfl rfl hg70 ?_
                refine S_v (r_loadBN 1 rfl Try.underlying50 rfl zr50 hL69 rfl) rfl ?_
                refine N_nil ?_
                refine N1 (i := 12) (by kernel_rfl) rfl ?_
                refine S_guarded rfl rfl hg70 ?_
                refine S_callL rfl rfl hL69 (fmindex_Index_Bytes_ok _ _ (gz_le hH hL69) hv2_0 hv2_1 hv2_2 hb73) ?_
                rintro u79_0 w79 ⟨_, rfl, hR79_0⟩ hx79 hL79 hle79
                have hv79_0 := hR79_0.vecG hH hL69 hx79
                replace hv2_0 := hv2_0.mono (gz_mono hH hle79)
                replace hv2_1 := hv2_1.mono (gz_mono hH hle79)
                replace hv2_2 := hv2_2.mono (gz_mono hH hle79)
                replace hv32_0 := hv32_0.mono (gz_mono hH hle79)
                replace hv32_1 := hv32_1.mono (gz_mono hH hle79)
                replace hv32_2 := hv32_2.mono (gz_mono hH hle79)
                refine N_nil ?_
                refine N1 (i := 14) (by kernel_rfl) rfl ?_
                refine S_guarded rfl rfl hg70 ?_
                refine S_callL rfl rfl hL79 (fmindex_Index_Bytes_ok _ _ (gz_le hH hL79) hv32_0 hv32_1 hv32_2 hb75) ?_
                rintro u80_0 w80 ⟨_, rfl, hR80_0⟩ hx80 hL80 hle80
                have hv80_0 := hR80_0.vecG hH hL79 hx80
                replace hv2_0 := hv2_0.mono (gz_mono hH hle80)
                replace hv2_1 := hv2_1.mono (gz_mono hH hle80)
                replace hv2_2 := hv2_2.mono (gz_mono hH hle80)
                replace hv32_0 := hv32_0.mono (gz_mono hH hle80)
                replace hv32_1 := hv32_1.mono (gz_mono hH hle80)
                replace hv32_2 := hv32_2.mono (gz_mono hH hle80)
                replace hv79_0 := hv79_0.mono (gz_mono hH hle80)
                refine N_nil ?_
                refine N1 (i := 15) (by kernel_rfl) rfl ?_
                refine S_guarded rfl rfl hg70 ?_
                refine S_callL rfl rfl hL80 (ref3_SameBytes_ok _ _ (gz_le hH hL80) hv79_0 hv80_0 hb77) ?_
                rintro _ w81 rfl hx81 hL81 hle81
                replace hv2_0 := hv2_0.mono (gz_mono hH hle81)
                replace hv2_1 := hv2_1.mono (gz_mono hH hle81)
                replace hv2_2 := hv2_2.mono (gz_mono hH hle81)
                replace hv32_0 := hv32_0.mono (gz_mono hH hle81)
                replace hv32_1 := hv32_1.mono (gz_mono hH hle81)
                replace hv32_2 := hv32_2.mono (gz_mono hH hle81)
                replace hv79_0 := hv79_0.mono (gz_mono hH hle81)
                replace hv80_0 := hv80_0.mono (gz_mono hH hle81)
                refine N_nil ?_
                refine N_hoistg 16 (np_cut (np_seq np_body)) (by kernel_rfl) rfl rfl rfl rfl hg70 (fun _ => RunsAt_pu rfl) rfl ?_
                refine N_hoist 17 (np_cut (np_seq np_body)) (by kernel_rfl) rfl (fun _ => r_pickF rfl hg70 rfl) rfl ?_
                refine N_end (by kernel_rfl) ?_
                refine At_cut (!x77) (.cons rfl (.cons rfl (.cons rfl (.cons rfl (Sub.nil _))))) ⟨hL81, hv32_0, hv32_1, hv32_2, hv2_0, hv2_1, hv2_2, h⟩
            · obtain ⟨x73, hb73, h⟩ := Go.L.bind_some h
              obtain ⟨x75, hb75, h⟩ := Go.L.bind_some h
              obtain ⟨x77, hb77, h⟩ := Go.L.bind_some h
              refine S_guarded rfl rfl hg70 ?_
              refine S_v (r_loadBN 1 rfl Try.underlying50 rfl zr50 hL69 rfl) rfl ?_
              refine N_nil ?_
              refine N1 (i := 11) (by kernel_rfl) rfl ?_
              refine S_guarded rfl rfl hg70 ?_
              refine S_v (r_loadBN 3 rfl Try.underlying50 rfl zr50 hL69 rfl) rfl ?_
              refine N_nil ?_
              refine N1 (i := 12) (by kernel_rfl) rfl ?_
              refine S_guarded rfl rfl hg70 ?_
              refine S_callL rfl rfl hL69 (fmindex_Index_Bytes_ok _ _ (gz_le hH hL69) hv2_0 hv2_1 hv2_2 hb73) ?_
              rintro u82_0 w82 ⟨_, rfl, hR82_0⟩ hx82 hL82 hle82
              have hv82_0 := hR82_0.vecG hH hL69 hx82
              replace hv2_0 := hv2_0.mono (gz_mono hH hle82)
              replace hv2_1 := hv2_1.mono (gz_mono hH hle82)
              replace hv2_2 := hv2_2.mono (gz_mono hH hle82)
              replace hv32_0 := hv32_0.mono (gz_mono hH hle82)
              replace hv32_1 := hv32_1.mono (gz_mono hH hle82)
              replace hv32_2 := hv32_2.mono (gz_mono hH hle82)
              refine N_nil ?_
              refine N1 (i := 14) (by kernel_rfl) rfl ?_
              refine S_guarded rfl rfl hg70 ?_
              refine S_callL rfl rfl hL82 (fmindex_Index_Bytes_ok _ _ (gz_le hH hL82) hv32_0 hv32_1 hv32_2 hb75) ?_
              rintro u83_0 w83 ⟨_, rfl, hR83_0⟩ hx83 hL83 hle83
              have hv83_0 := hR83_0.vecG hH hL82 hx83
              replace hv2_0 := hv2_0.mono (gz_mono hH hle83)
              replace hv2_1 := hv2_1.mono (gz_mono hH hle83)
              replace hv2_2 := hv2_2.mono (gz_mono hH hle83)
              replace hv32_0 := hv32_0.mono (gz_mono hH hle83)
              replace hv32_1 := hv32_1.mono (gz_mono hH hle83)
              replace hv32_2 := hv32_2.mono (gz_mono hH hle83)
              replace hv82_0 := hv82_0.mono (gz_mono hH hle83)
              refine N_nil ?_
              refine N1 (i := 15) (by kernel_rfl) rfl ?_
              refine S_guarded rfl rfl hg70 ?_
              refine S_callL rfl rfl hL83 (ref3_SameBytes_ok _ _ (gz_le hH hL83) hv82_0 hv83_0 hb77) ?_
              rintro _ w84 rfl hx84 hL84 hle84
              replace hv2_0 := hv2_0.mono (gz_mono hH hle84)
              replace hv2_1 := hv2_1.mono (gz_mono hH hle84)
              replace hv2_2 := hv2_2.mono (gz_mono hH hle84)
              replace hv32_0 := hv32_0.mono (gz_mono hH hle84)
              replace hv32_1 := hv32_1.mono (gz_mono hH hle84)
              replace hv32_2 := hv32_2.mono (gz_mono hH hle84)
              replace hv82_0 := hv82_0.mono (gz_mono hH hle84)
              replace hv83_0 := hv83_0.mono (gz_mono hH hle84)
              refine N_nil ?_
              refine N_hoistg 16 (np_cut (np_seq np_body)) (by kernel_rfl) rfl rfl rfl rfl hg70 (fun _ => RunsAt_pu rfl) rfl ?_
              refine N_hoist 17 (np_cut (np_seq np_body)) (by kernel_rfl) rfl (fun _ => r_pickF rfl hg70 rfl) rfl ?_
              refine N_end (by kernel_rfl) ?_
              refine At_cut (!x77) (.cons rfl (.cons rfl (.cons rfl (.cons rfl (Sub.nil _))))) ⟨hL84, hv32_0, hv32_1, hv32_2, hv2_0, hv2_1, hv2_2, h⟩
      · rintro s54_60 wr61 ⟨hL61, hf61_0, hf61_1, hf61_2, hf61_3, hf61_4, hf61_5, h⟩
        refine W_cond rfl (fun hc86 => ?_) (fun hc86 => ?_)
        · replace h := Go.L.ite_t hc86 h
          refine W_seqr ?_
          refine S_pu 1 rfl ?_
          refine S_seqnil ?_
          refine W_ret ?_
          refine At_seq_ret ?_
          obtain rfl := Option.some.inj h
          refine At_body rfl rfl ?_
          exact ⟨hL61.ext, rfl⟩
        · replace h := Go.L.ite_f hc86 h
          refine W_skip ?_
          refine At_seq ?_
          refine W_seqr ?_
          refine S_v (r_loadBN 3 rfl Try.underlying50 rfl zr50 hL61 rfl) rfl ?_
          refine S_pu 1 rfl ?_
          obtain ⟨x89, hb89, h⟩ := Go.L.bind_some h
          refine S_callL rfl rfl hL61 (fmindex_Index_Locate_ok _ _ (gz_le hH hL61) hf61_3 hf61_4 hf61_5 (h1_0.mono (gz_left hH)) hb89) ?_
          rintro _ w90 ⟨u90_0, rfl, hR90_0⟩ hx90 hL90 hle90
          have hv90_0 := hR90_0.vecG hH hL61 hx90
          replace hf61_0 := hf61_0.mono (gz_mono hH hle90)
          replace hf61_1 := hf61_1.mono (gz_mono hH hle90)
          replace hf61_2 := hf61_2.mono (gz_mono hH hle90)
          replace hf61_3 := hf61_3.mono (gz_mono hH hle90)
          replace hf61_4 := hf61_4.mono (gz_mono hH hle90)
          replace hf61_5 := hf61_5.mono (gz_mono hH hle90)
          refine S_pu 3 rfl ?_
          refine S_alloc zr25 rfl rfl hL90 ?_
          intro w91 b91 hL91 hle91 _
          replace hf61_0 := hf61_0.mono (gz_mono hH hle91)
          replace hf61_1 := hf61_1.mono (gz_mono hH hle91)
          replace hf61_2 := hf61_2.mono (gz_mono hH hle91)
          replace hf61_3 := hf61_3.mono (gz_mono hH hle91)
          replace hf61_4 := hf61_4.mono (gz_mono hH hle91)
          replace hf61_5 := hf61_5.mono (gz_mono hH hle91)
          replace hv90_0 := hv90_0.mono (gz_mono hH hle91)
          refine S_pu 1 rfl ?_
          refine S_storeBN 0 rfl rfl rfl zr25 hL91 rfl rfl (onc rfl (onc rfl on0)) ?_
          intro w92 hL92 hle92
          replace hf61_0 := hf61_0.mono (gz_mono hH hle92)
          replace hf61_1 := hf61_1.mono (gz_mono hH hle92)
          replace hf61_2 := hf61_2.mono (gz_mono hH hle92)
          replace hf61_3 := hf61_3.mono (gz_mono hH hle92)
          replace hf61_4 := hf61_4.mono (gz_mono hH hle92)
          replace hf61_5 := hf61_5.mono (gz_mono hH hle92)
          replace hv90_0 := hv90_0.mono (gz_mono hH hle92)
          refine S_seqnil ?_
          refine W_seqr ?_
          refine S_v (r_loadBN 2 rfl Try.underlying50 rfl zr50 hL92 rfl) rfl ?_
          refine S_pu 1 rfl ?_
          obtain ⟨x93, hb93, h⟩ := Go.L.bind_some h
          refine S_callL rfl rfl hL92 (fmindex_Index_Locate_ok _ _ (gz_le hH hL92) hf61_0 hf61_1 hf61_2 (h1_0.mono (gz_left hH)) hb93) ?_
          rintro _ w94 ⟨u94_0, rfl, hR94_0⟩ hx94 hL94 hle94
          have hv94_0 := hR94_0.vecG hH hL92 hx94
          replace hf61_0 := hf61_0.mono (gz_mono hH hle94)
          replace hf61_1 := hf61_1.mono (gz_mono hH hle94)
          replace hf61_2 := hf61_2.mono (gz_mono hH hle94)
          replace hf61_3 := hf61_3.mono (gz_mono hH hle94)
          replace hf61_4 := hf61_4.mono (gz_mono hH hle94)
          replace hf61_5 := hf61_5.mono (gz_mono hH hle94)
          replace hv90_0 := hv90_0.mono (gz_mono hH hle94)
          refine S_pu 3 rfl ?_
          refine S_alloc zr25 rfl rfl hL94 ?_
          intro w95 b95 hL95 hle95 _
          replace hf61_0 := hf61_0.mono (gz_mono hH hle95)
          replace hf61_1 := hf61_1.mono (gz_mono hH hle95)
          replace hf61_2 := hf61_2.mono (gz_mono hH hle95)
          replace hf61_3 := hf61_3.mono (gz_mono hH hle95)
          replace hf61_4 := hf61_4.mono (gz_mono hH hle95)
          replace hf61_5 := hf61_5.mono (gz_mono hH hle95)
          replace hv90_0 := hv90_0.mono (gz_mono hH hle95)
          replace hv94_0 := hv94_0.mono (gz_mono hH hle95)
          refine S_pu 1 rfl ?_
          refine S_storeBN 0 rfl rfl rfl zr25 hL95 rfl rfl (onc rfl (onc rfl on0)) ?_
          intro w96 hL96 hle96
          replace hf61_0 := hf61_0.mono (gz_mono hH hle96)
          replace hf61_1 := hf61_1.mono (gz_mono hH hle96)
          replace hf61_2 := hf61_2.mono (gz_mono hH hle96)
          replace hf61_3 := hf61_3.mono (gz_mono hH hle96)
          replace hf61_4 := hf61_4.mono (gz_mono hH hle96)
          replace hf61_5 := hf61_5.mono (gz_mono hH hle96)
          replace hv90_0 := hv90_0.mono (gz_mono hH hle96)
          replace hv94_0 := hv94_0.mono (gz_mono hH hle96)
          refine S_seqnil ?_
          refine W_seqr ?_
          refine S_v (r_loadBN 1 rfl Try.underlying25 rfl zr25 hL96 rfl) rfl ?_
          refine S_v (r_loadBN 0 rfl Try.underlying25 rfl zr25 hL96 rfl) rfl ?_
          refine S_v (r_eqA rfl rfl eqg25 (eq25 _ _ _ _ )) rfl ?_
          refine S_pu 1 rfl ?_
          refine S_split (s := 70) rfl (fun hg97 => ?_) (fun hg97 => ?_)
          · replace h := Go.L.ite_p (of_decide_eq_true hg97) h
            refine S_guarded rfl rfl hg97 ?_
            refine S_v (RunsAt_pu rfl) rfl ?_
            refine S_guarded rfl rfl hg97 ?_
            refine S_v (RunsAt_pu rfl) rfl ?_
            refine S_guarded rfl rfl hg97 ?_
            obtain ⟨x99, hb99, h⟩ := Go.L.bind_some h
            refine S_callL rfl rfl hL96 (ref3_Ints_ok _ _ (gz_le hH hL96) hv90_0 hv94_0 hb99) ?_
            rintro _ w100 rfl hx100 hL100 hle100
            replace hf61_0 := hf61_0.mono (gz_mono hH hle100)
            replace hf61_1 := hf61_1.mono (gz_mono hH hle100)
            replace hf61_2 := hf61_2.mono (gz_mono hH hle100)
            replace hf61_3 := hf61_3.mono (gz_mono hH hle100)
            replace hf61_4 := hf61_4.mono (gz_mono hH hle100)
            replace hf61_5 := hf61_5.mono (gz_mono hH hle100)
            replace hv90_0 := hv90_0.mono (gz_mono hH hle100)
            replace hv94_0 := hv94_0.mono (gz_mono hH hle100)
            refine S_v (r_pickT rfl hg97 rfl) rfl ?_
            refine S_pu 1 rfl ?_
            refine S_seqnil ?_
            refine W_ret ?_
            obtain rfl := Option.some.inj h
            refine At_body rfl rfl ?_
            exact ⟨hL100.ext, rfl⟩
          · replace h := Go.L.ite_n (of_decide_eq_false hg97) h
            refine S_unwanted rfl rfl hg97 rfl ?_
            refine S_unwanted rfl rfl hg97 rfl ?_
            refine S_unwanted rfl rfl hg97 rfl ?_
            refine S_v (r_pickF rfl hg97 rfl) rfl ?_
            refine S_pu 1 rfl ?_
            refine S_seqnil ?_
            refine W_ret ?_
            obtain rfl := Option.some.inj h
            refine At_body rfl rfl ?_
            exact ⟨hL96.ext, rfl⟩

noncomputable def law4_FmindexAgreesWithOrder (a0 : List UInt8) (a1 : List UInt8) : Option (Bool) :=
  Option.bind (fmindex_Build a0) (fun x1 => Option.bind (suffix_Find a0 a1) (fun x7 => Option.bind (law4_finds) (fun x11 => if !x11 then Option.bind (law4_finds) (fun x15 => if x15 then Option.bind (law4_sorts) (fun x19 => if x19 then Option.bind (fmindex_Index_Length (x1.1.1, x1.1.2.1, x1.1.2.2)) (fun x23 => some (decide (x23 ≤ (2048 : Int)))) else some (false)) else some (false)) else Option.bind (law4_sorts) (fun x28 => if !x28 then Option.bind (law4_finds) (fun x32 => if x32 then Option.bind (law4_sorts) (fun x36 => if x36 then Option.bind (fmindex_Index_Length (x1.1.1, x1.1.2.1, x1.1.2.2)) (fun x40 => some (decide (x40 ≤ (2048 : Int)))) else some (false)) else some (false)) else if x1.2.1 = (0 : Int) then if x7.2.2.1 = (0 : Int) then Option.bind (fmindex_Index_Count (x1.1.1, x1.1.2.1, x1.1.2.2) a1) (fun x75 => Option.bind (law4_patternFault a1) (fun x81 => if x75.2.1 = x81.1 ∧ x75.2.2 = x81.2 then if x75.2.1 = (0 : Int) then Go.L.chk (Go.L.I64 (x7.2.1 - x7.1)) (some (decide (x75.1 = (x7.2.1 - x7.1)))) else some (true) else some (false))) else Option.bind (law4_finds) (fun x62 => if x62 then Option.bind (law4_sorts) (fun x66 => if x66 then Option.bind (fmindex_Index_Length (x1.1.1, x1.1.2.1, x1.1.2.2)) (fun x70 => some (decide (x70 ≤ (2048 : Int)))) else some (false)) else some (false)) else Option.bind (law4_finds) (fun x47 => if x47 then Option.bind (law4_sorts) (fun x51 => if x51 then Option.bind (fmindex_Index_Length (x1.1.1, x1.1.2.1, x1.1.2.2)) (fun x55 => some (decide (x55 ≤ (2048 : Int)))) else some (false)) else some (false))))))

set_option maxRecDepth 10000 in
theorem law4_FmindexAgreesWithOrder_ok (w : World) (H : PH) (hH : Le H (hp w)) {a0 : List UInt8} {a1 : List UInt8} {v0_0 : Value} {v1_0 : Value} (h0_0 : Vec .byte H v0_0 (a0)) (h1_0 : Vec .byte H v1_0 (a1)) {r : Bool} (h : law4_FmindexAgreesWithOrder a0 a1 = some r) :
    Ok Try.prog 13 [v0_0, v1_0] w (fun v w' => Ext w w' ∧ v = .bool r) := by
  refine Ok_enter (n := 71) [(0, v0_0), (1, v1_0)] Try.func13 rfl rfl rfl rfl rfl ?_
  have hL := Lcl.start w
  refine W_seqr ?_
  refine S_pu 1 rfl ?_
  refine S_seqnil ?_
  refine W_seqr ?_
  refine S_pu 1 rfl ?_
  obtain ⟨x1, hb1, h⟩ := Go.L.bind_some h
  refine S_callL rfl rfl hL (fmindex_Build_ok _ _ (gz_le hH hL) (h0_0.mono (gz_left hH)) hb1) ?_
  rintro _ w2 ⟨u2_0, u2_1, u2_2, rfl, hR2_0, hR2_1, hR2_2⟩ hx2 hL2 hle2
  have hv2_0 := hR2_0.mono (gz_nw hH hL hx2)
  have hv2_1 := hR2_1.mono (gz_nw hH hL hx2)
  have hv2_2 := hR2_2.mono (gz_nw hH hL hx2)
  refine S_pu 3 rfl ?_
  refine S_alloc zr50 rfl rfl hL2 ?_
  intro w3 b3 hL3 hle3 _
  replace hv2_0 := hv2_0.mono (gz_mono hH hle3)
  replace hv2_1 := hv2_1.mono (gz_mono hH hle3)
  replace hv2_2 := hv2_2.mono (gz_mono hH hle3)
  refine S_alloc zr25 rfl rfl hL3 ?_
  intro w4 b4 hL4 hle4 _
  replace hv2_0 := hv2_0.mono (gz_mono hH hle4)
  replace hv2_1 := hv2_1.mono (gz_mono hH hle4)
  replace hv2_2 := hv2_2.mono (gz_mono hH hle4)
  refine S_storeBN 1 rfl rfl rfl zr50 hL4 rfl rfl (onc hv2_0.one (onc hv2_1.one (onc hv2_2.one on0))) ?_
  intro w5 hL5 hle5
  replace hv2_0 := hv2_0.mono (gz_mono hH hle5)
  replace hv2_1 := hv2_1.mono (gz_mono hH hle5)
  replace hv2_2 := hv2_2.mono (gz_mono hH hle5)
  refine S_storeBN 0 rfl rfl rfl zr25 hL5 rfl rfl (onc rfl (onc rfl on0)) ?_
  intro w6 hL6 hle6
  replace hv2_0 := hv2_0.mono (gz_mono hH hle6)
  replace hv2_1 := hv2_1.mono (gz_mono hH hle6)
  replace hv2_2 := hv2_2.mono (gz_mono hH hle6)
  refine S_seqnil ?_
  refine W_seqr ?_
  refine S_pu 2 rfl ?_
  obtain ⟨x7, hb7, h⟩ := Go.L.bind_some h
  refine S_callL rfl rfl hL6 (suffix_Find_ok _ _ (gz_le hH hL6) (h0_0.mono (gz_left hH)) (h1_0.mono (gz_left hH)) hb7) ?_
  rintro _ w8 rfl hx8 hL8 hle8
  replace hv2_0 := hv2_0.mono (gz_mono hH hle8)
  replace hv2_1 := hv2_1.mono (gz_mono hH hle8)
  replace hv2_2 := hv2_2.mono (gz_mono hH hle8)
  refine S_pu 4 rfl ?_
  refine S_alloc zr25 rfl rfl hL8 ?_
  intro w9 b9 hL9 hle9 _
  replace hv2_0 := hv2_0.mono (gz_mono hH hle9)
  replace hv2_1 := hv2_1.mono (gz_mono hH hle9)
  replace hv2_2 := hv2_2.mono (gz_mono hH hle9)
  refine S_pu 2 rfl ?_
  refine S_storeBN 0 rfl rfl rfl zr25 hL9 rfl rfl (onc rfl (onc rfl on0)) ?_
  intro w10 hL10 hle10
  replace hv2_0 := hv2_0.mono (gz_mono hH hle10)
  replace hv2_1 := hv2_1.mono (gz_mono hH hle10)
  replace hv2_2 := hv2_2.mono (gz_mono hH hle10)
  refine S_seqnil ?_
  refine W_seq ?_
  refine W_seqr ?_
  obtain ⟨x11, hb11, h⟩ := Go.L.bind_some h
  refine S_callL rfl rfl hL10 (law4_finds_ok _ _ (gz_le hH hL10) hb11) ?_
  rintro _ w12 rfl hx12 hL12 hle12
  replace hv2_0 := hv2_0.mono (gz_mono hH hle12)
  replace hv2_1 := hv2_1.mono (gz_mono hH hle12)
  replace hv2_2 := hv2_2.mono (gz_mono hH hle12)
  refine S_pu 2 rfl ?_
  refine S_split (s := 26) rfl (fun hg13 => ?_) (fun hg13 => ?_)
  · replace h := Go.L.ite_t hg13 h
    refine S_unwanted rfl rfl hg13 rfl ?_
    refine S_unwanted rfl rfl hg13 rfl ?_
    refine S_v (r_pickT rfl hg13 rfl) rfl ?_
    refine S_pu 1 rfl ?_
    refine S_unwanted rfl rfl rfl rfl ?_
    refine S_unwanted rfl rfl rfl rfl ?_
    refine S_unwanted rfl rfl rfl rfl ?_
    refine S_v (r_pickT rfl rfl rfl) rfl ?_
    refine S_pu 1 rfl ?_
    refine S_unwanted rfl rfl rfl rfl ?_
    refine S_unwanted rfl rfl rfl rfl ?_
    refine S_unwanted rfl rfl rfl rfl ?_
    refine S_v (r_pickT rfl rfl rfl) rfl ?_
    refine S_seqnil ?_
    refine W_true rfl ?_
    refine W_seqr ?_
    obtain ⟨x15, hb15, h⟩ := Go.L.bind_some h
    refine S_callL rfl rfl hL12 (law4_finds_ok _ _ (gz_le hH hL12) hb15) ?_
    rintro _ w16 rfl hx16 hL16 hle16
    replace hv2_0 := hv2_0.mono (gz_mono hH hle16)
    replace hv2_1 := hv2_1.mono (gz_mono hH hle16)
    replace hv2_2 := hv2_2.mono (gz_mono hH hle16)
    refine S_pu 1 rfl ?_
    refine S_split (s := 41) rfl (fun hg17 => ?_) (fun hg17 => ?_)
    · replace h := Go.L.ite_t hg17 h
      refine S_guarded rfl rfl hg17 ?_
      obtain ⟨x19, hb19, h⟩ := Go.L.bind_some h
      refine S_callL rfl rfl hL16 (law4_sorts_ok _ _ (gz_le hH hL16) hb19) ?_
      rintro _ w20 rfl hx20 hL20 hle20
      replace hv2_0 := hv2_0.mono (gz_mono hH hle20)
      replace hv2_1 := hv2_1.mono (gz_mono hH hle20)
      replace hv2_2 := hv2_2.mono (gz_mono hH hle20)
      refine S_v (r_pickT rfl hg17 rfl) rfl ?_
      refine S_pu 1 rfl ?_
      refine S_split (s := 44) rfl (fun hg21 => ?_) (fun hg21 => ?_)
      · replace h := Go.L.ite_t hg21 h
        refine S_guarded rfl rfl hg21 ?_
        refine S_v (r_loadBN 2 rfl Try.underlying50 rfl zr50 hL20 rfl) rfl ?_
        refine S_guarded rfl rfl hg21 ?_
        obtain ⟨x23, hb23, h⟩ := Go.L.bind_some h
        refine S_callL rfl rfl hL20 (fmindex_Index_Length_ok _ _ (gz_le hH hL20) hv2_0 hv2_1 hv2_2 hb23) ?_
        rintro _ w24 rfl hx24 hL24 hle24
        replace hv2_0 := hv2_0.mono (gz_mono hH hle24)
        replace hv2_1 := hv2_1.mono (gz_mono hH hle24)
        replace hv2_2 := hv2_2.mono (gz_mono hH hle24)
        refine S_guarded rfl rfl hg21 ?_
        refine S_v (RunsAt_pu rfl) rfl ?_
        refine S_v (r_pickT rfl hg21 rfl) rfl ?_
        refine S_pu 1 rfl ?_
        refine S_seqnil ?_
        refine W_ret ?_
        refine At_seq_ret ?_
        obtain rfl := Option.some.inj h
        refine At_body rfl rfl ?_
        exact ⟨hL24.ext, rfl⟩
      · replace h := Go.L.ite_f hg21 h
        refine S_unwanted rfl rfl hg21 rfl ?_
        refine S_unwanted rfl rfl hg21 rfl ?_
        refine S_unwanted rfl rfl hg21 rfl ?_
        refine S_v (r_pickF rfl hg21 rfl) rfl ?_
        refine S_pu 1 rfl ?_
        refine S_seqnil ?_
        refine W_ret ?_
        refine At_seq_ret ?_
        obtain rfl := Option.some.inj h
        refine At_body rfl rfl ?_
        exact ⟨hL20.ext, rfl⟩
    · replace h := Go.L.ite_f hg17 h
      refine S_unwanted rfl rfl hg17 rfl ?_
      refine S_v (r_pickF rfl hg17 rfl) rfl ?_
      refine S_pu 1 rfl ?_
      refine S_unwanted rfl rfl rfl rfl ?_
      refine S_unwanted rfl rfl rfl rfl ?_
      refine S_unwanted rfl rfl rfl rfl ?_
      refine S_v (r_pickF rfl rfl rfl) rfl ?_
      refine S_pu 1 rfl ?_
      refine S_seqnil ?_
      refine W_ret ?_
      refine At_seq_ret ?_
      obtain rfl := Option.some.inj h
      refine At_body rfl rfl ?_
      exact ⟨hL16.ext, rfl⟩
  · replace h := Go.L.ite_f hg13 h
    refine S_guarded rfl rfl hg13 ?_
    obtain ⟨x28, hb28, h⟩ := Go.L.bind_some h
    refine S_callL rfl rfl hL12 (law4_sorts_ok _ _ (gz_le hH hL12) hb28) ?_
    rintro _ w29 rfl hx29 hL29 hle29
    replace hv2_0 := hv2_0.mono (gz_mono hH hle29)
    replace hv2_1 := hv2_1.mono (gz_mono hH hle29)
    replace hv2_2 := hv2_2.mono (gz_mono hH hle29)
    refine S_guarded rfl rfl hg13 ?_
    refine S_v (RunsAt_pu rfl) rfl ?_
    refine S_v (r_pickF rfl hg13 rfl) rfl ?_
    refine S_pu 1 rfl ?_
    refine S_split (s := 30) rfl (fun hg30 => ?_) (fun hg30 => ?_)
    · replace h := Go.L.ite_t hg30 h
      refine S_unwanted rfl rfl hg30 rfl ?_
      refine S_unwanted rfl rfl hg30 rfl ?_
      refine S_unwanted rfl rfl hg30 rfl ?_
      refine S_v (r_pickT rfl hg30 rfl) rfl ?_
      refine S_pu 1 rfl ?_
      refine S_unwanted rfl rfl rfl rfl ?_
      refine S_unwanted rfl rfl rfl rfl ?_
      refine S_unwanted rfl rfl rfl rfl ?_
      refine S_v (r_pickT rfl rfl rfl) rfl ?_
      refine S_seqnil ?_
      refine W_true rfl ?_
      refine W_seqr ?_
      obtain ⟨x32, hb32, h⟩ := Go.L.bind_some h
      refine S_callL rfl rfl hL29 (law4_finds_ok _ _ (gz_le hH hL29) hb32) ?_
      rintro _ w33 rfl hx33 hL33 hle33
      replace hv2_0 := hv2_0.mono (gz_mono hH hle33)
      replace hv2_1 := hv2_1.mono (gz_mono hH hle33)
      replace hv2_2 := hv2_2.mono (gz_mono hH hle33)
      refine S_pu 1 rfl ?_
      refine S_split (s := 41) rfl (fun hg34 => ?_) (fun hg34 => ?_)
      · replace h := Go.L.ite_t hg34 h
        refine S_guarded rfl rfl hg34 ?_
        obtain ⟨x36, hb36, h⟩ := Go.L.bind_some h
        refine S_callL rfl rfl hL33 (law4_sorts_ok _ _ (gz_le hH hL33) hb36) ?_
        rintro _ w37 rfl hx37 hL37 hle37
        replace hv2_0 := hv2_0.mono (gz_mono hH hle37)
        replace hv2_1 := hv2_1.mono (gz_mono hH hle37)
        replace hv2_2 := hv2_2.mono (gz_mono hH hle37)
        refine S_v (r_pickT rfl hg34 rfl) rfl ?_
        refine S_pu 1 rfl ?_
        refine S_split (s := 44) rfl (fun hg38 => ?_) (fun hg38 => ?_)
        · replace h := Go.L.ite_t hg38 h
          refine S_guarded rfl rfl hg38 ?_
          refine S_v (r_loadBN 2 rfl Try.underlying50 rfl zr50 hL37 rfl) rfl ?_
          refine S_guarded rfl rfl hg38 ?_
          obtain ⟨x40, hb40, h⟩ := Go.L.bind_some h
          refine S_callL rfl rfl hL37 (fmindex_Index_Length_ok _ _ (gz_le hH hL37) hv2_0 hv2_1 hv2_2 hb40) ?_
          rintro _ w41 rfl hx41 hL41 hle41
          replace hv2_0 := hv2_0.mono (gz_mono hH hle41)
          replace hv2_1 := hv2_1.mono (gz_mono hH hle41)
          replace hv2_2 := hv2_2.mono (gz_mono hH hle41)
          refine S_guarded rfl rfl hg38 ?_
          refine S_v (RunsAt_pu rfl) rfl ?_
          refine S_v (r_pickT rfl hg38 rfl) rfl ?_
          refine S_pu 1 rfl ?_
          refine S_seqnil ?_
          refine W_ret ?_
          refine At_seq_ret ?_
          obtain rfl := Option.some.inj h
          refine At_body rfl rfl ?_
          exact ⟨hL41.ext, rfl⟩
        · replace h := Go.L.ite_f hg38 h
          refine S_unwanted rfl rfl hg38 rfl ?_
          refine S_unwanted rfl rfl hg38 rfl ?_
          refine S_unwanted rfl rfl hg38 rfl ?_
          refine S_v (r_pickF rfl hg38 rfl) rfl ?_
          refine S_pu 1 rfl ?_
          refine S_seqnil ?_
          refine W_ret ?_
          refine At_seq_ret ?_
          obtain rfl := Option.some.inj h
          refine At_body rfl rfl ?_
          exact ⟨hL37.ext, rfl⟩
      · replace h := Go.L.ite_f hg34 h
        refine S_unwanted rfl rfl hg34 rfl ?_
        refine S_v (r_pickF rfl hg34 rfl) rfl ?_
        refine S_pu 1 rfl ?_
        refine S_unwanted rfl rfl rfl rfl ?_
        refine S_unwanted rfl rfl rfl rfl ?_
        refine S_unwanted rfl rfl rfl rfl ?_
        refine S_v (r_pickF rfl rfl rfl) rfl ?_
        refine S_pu 1 rfl ?_
        refine S_seqnil ?_
        refine W_ret ?_
        refine At_seq_ret ?_
        obtain rfl := Option.some.inj h
        refine At_body rfl rfl ?_
        exact ⟨hL33.ext, rfl⟩
    · replace h := Go.L.ite_f hg30 h
      refine S_guarded rfl rfl hg30 ?_
      refine S_v (r_field rfl Try.underlying25 rfl zr3 (by decide)) rfl ?_
      refine S_guarded rfl rfl hg30 ?_
      refine S_v (r_loadB1 1 rfl Try.underlying3 rfl hL29 rfl rfl) rfl ?_
      refine S_guarded rfl rfl hg30 ?_
      refine S_v (RunsAt_pu rfl) rfl ?_
      refine S_v (r_pickF rfl hg30 rfl) rfl ?_
      refine S_pu 1 rfl ?_
      refine S_split (s := 35) rfl (fun hg45 => ?_) (fun hg45 => ?_)
      · replace h := Go.L.ite_n (not_dec_t hg45) h
        refine S_unwanted rfl rfl hg45 rfl ?_
        refine S_unwanted rfl rfl hg45 rfl ?_
        refine S_unwanted rfl rfl hg45 rfl ?_
        refine S_v (r_pickT rfl hg45 rfl) rfl ?_
        refine S_seqnil ?_
        refine W_true rfl ?_
        refine W_seqr ?_
        obtain ⟨x47, hb47, h⟩ := Go.L.bind_some h
        refine S_callL rfl rfl hL29 (law4_finds_ok _ _ (gz_le hH hL29) hb47) ?_
        rintro _ w48 rfl hx48 hL48 hle48
        replace hv2_0 := hv2_0.mono (gz_mono hH hle48)
        replace hv2_1 := hv2_1.mono (gz_mono hH hle48)
        replace hv2_2 := hv2_2.mono (gz_mono hH hle48)
        refine S_pu 1 rfl ?_
        refine S_split (s := 41) rfl (fun hg49 => ?_) (fun hg49 => ?_)
        · replace h := Go.L.ite_t hg49 h
          refine S_guarded rfl rfl hg49 ?_
          obtain ⟨x51, hb51, h⟩ := Go.L.bind_some h
          refine S_callL rfl rfl hL48 (law4_sorts_ok _ _ (gz_le hH hL48) hb51) ?_
          rintro _ w52 rfl hx52 hL52 hle52
          replace hv2_0 := hv2_0.mono (gz_mono hH hle52)
          replace hv2_1 := hv2_1.mono (gz_mono hH hle52)
          replace hv2_2 := hv2_2.mono (gz_mono hH hle52)
          refine S_v (r_pickT rfl hg49 rfl) rfl ?_
          refine S_pu 1 rfl ?_
          refine S_split (s := 44) rfl (fun hg53 => ?_) (fun hg53 => ?_)
          · replace h := Go.L.ite_t hg53 h
            refine S_guarded rfl rfl hg53 ?_
            refine S_v (r_loadBN 2 rfl Try.underlying50 rfl zr50 hL52 rfl) rfl ?_
            refine S_guarded rfl rfl hg53 ?_
            obtain ⟨x55, hb55, h⟩ := Go.L.bind_some h
            refine S_callL rfl rfl hL52 (fmindex_Index_Length_ok _ _ (gz_le hH hL52) hv2_0 hv2_1 hv2_2 hb55) ?_
            rintro _ w56 rfl hx56 hL56 hle56
            replace hv2_0 := hv2_0.mono (gz_mono hH hle56)
            replace hv2_1 := hv2_1.mono (gz_mono hH hle56)
            replace hv2_2 := hv2_2.mono (gz_mono hH hle56)
            refine S_guarded rfl rfl hg53 ?_
            refine S_v (RunsAt_pu rfl) rfl ?_
            refine S_v (r_pickT rfl hg53 rfl) rfl ?_
            refine S_pu 1 rfl ?_
            refine S_seqnil ?_
            refine W_ret ?_
            refine At_seq_ret ?_
            obtain rfl := Option.some.inj h
            refine At_body rfl rfl ?_
            exact ⟨hL56.ext, rfl⟩
          · replace h := Go.L.ite_f hg53 h
            refine S_unwanted rfl rfl hg53 rfl ?_
            refine S_unwanted rfl rfl hg53 rfl ?_
            refine S_unwanted rfl rfl hg53 rfl ?_
            refine S_v (r_pickF rfl hg53 rfl) rfl ?_
            refine S_pu 1 rfl ?_
            refine S_seqnil ?_
            refine W_ret ?_
            refine At_seq_ret ?_
            obtain rfl := Option.some.inj h
            refine At_body rfl rfl ?_
            exact ⟨hL52.ext, rfl⟩
        · replace h := Go.L.ite_f hg49 h
          refine S_unwanted rfl rfl hg49 rfl ?_
          refine S_v (r_pickF rfl hg49 rfl) rfl ?_
          refine S_pu 1 rfl ?_
          refine S_unwanted rfl rfl rfl rfl ?_
          refine S_unwanted rfl rfl rfl rfl ?_
          refine S_unwanted rfl rfl rfl rfl ?_
          refine S_v (r_pickF rfl rfl rfl) rfl ?_
          refine S_pu 1 rfl ?_
          refine S_seqnil ?_
          refine W_ret ?_
          refine At_seq_ret ?_
          obtain rfl := Option.some.inj h
          refine At_body rfl rfl ?_
          exact ⟨hL48.ext, rfl⟩
      · replace h := Go.L.ite_p (not_dec_f hg45) h
        refine S_guarded rfl rfl hg45 ?_
        refine S_v (r_field rfl Try.underlying25 rfl zr3 (by decide)) rfl ?_
        refine S_guarded rfl rfl hg45 ?_
        refine S_v (r_loadB1 0 rfl Try.underlying3 rfl hL29 rfl rfl) rfl ?_
        refine S_guarded rfl rfl hg45 ?_
        refine S_v (RunsAt_pu rfl) rfl ?_
        refine S_v (r_pickF rfl hg45 rfl) rfl ?_
        refine S_seqnil ?_
        refine W_ifn rfl (fun hc60 => ?_) (fun hc60 => ?_)
        · replace h := Go.L.ite_n hc60 h
          refine W_seqr ?_
          obtain ⟨x62, hb62, h⟩ := Go.L.bind_some h
          refine S_callL rfl rfl hL29 (law4_finds_ok _ _ (gz_le hH hL29) hb62) ?_
          rintro _ w63 rfl hx63 hL63 hle63
          replace hv2_0 := hv2_0.mono (gz_mono hH hle63)
          replace hv2_1 := hv2_1.mono (gz_mono hH hle63)
          replace hv2_2 := hv2_2.mono (gz_mono hH hle63)
          refine S_pu 1 rfl ?_
          refine S_split (s := 41) rfl (fun hg64 => ?_) (fun hg64 => ?_)
          · replace h := Go.L.ite_t hg64 h
            refine S_guarded rfl rfl hg64 ?_
            obtain ⟨x66, hb66, h⟩ := Go.L.bind_some h
            refine S_callL rfl rfl hL63 (law4_sorts_ok _ _ (gz_le hH hL63) hb66) ?_
            rintro _ w67 rfl hx67 hL67 hle67
            replace hv2_0 := hv2_0.mono (gz_mono hH hle67)
            replace hv2_1 := hv2_1.mono (gz_mono hH hle67)
            replace hv2_2 := hv2_2.mono (gz_mono hH hle67)
            refine S_v (r_pickT rfl hg64 rfl) rfl ?_
            refine S_pu 1 rfl ?_
            refine S_split (s := 44) rfl (fun hg68 => ?_) (fun hg68 => ?_)
            · replace h := Go.L.ite_t hg68 h
              refine S_guarded rfl rfl hg68 ?_
              refine S_v (r_loadBN 2 rfl Try.underlying50 rfl zr50 hL67 rfl) rfl ?_
              refine S_guarded rfl rfl hg68 ?_
              obtain ⟨x70, hb70, h⟩ := Go.L.bind_some h
              refine S_callL rfl rfl hL67 (fmindex_Index_Length_ok _ _ (gz_le hH hL67) hv2_0 hv2_1 hv2_2 hb70) ?_
              rintro _ w71 rfl hx71 hL71 hle71
              replace hv2_0 := hv2_0.mono (gz_mono hH hle71)
              replace hv2_1 := hv2_1.mono (gz_mono hH hle71)
              replace hv2_2 := hv2_2.mono (gz_mono hH hle71)
              refine S_guarded rfl rfl hg68 ?_
              refine S_v (RunsAt_pu rfl) rfl ?_
              refine S_v (r_pickT rfl hg68 rfl) rfl ?_
              refine S_pu 1 rfl ?_
              refine S_seqnil ?_
              refine W_ret ?_
              refine At_seq_ret ?_
              obtain rfl := Option.some.inj h
              refine At_body rfl rfl ?_
              exact ⟨hL71.ext, rfl⟩
            · replace h := Go.L.ite_f hg68 h
              refine S_unwanted rfl rfl hg68 rfl ?_
              refine S_unwanted rfl rfl hg68 rfl ?_
              refine S_unwanted rfl rfl hg68 rfl ?_
              refine S_v (r_pickF rfl hg68 rfl) rfl ?_
              refine S_pu 1 rfl ?_
              refine S_seqnil ?_
              refine W_ret ?_
              refine At_seq_ret ?_
              obtain rfl := Option.some.inj h
              refine At_body rfl rfl ?_
              exact ⟨hL67.ext, rfl⟩
          · replace h := Go.L.ite_f hg64 h
            refine S_unwanted rfl rfl hg64 rfl ?_
            refine S_v (r_pickF rfl hg64 rfl) rfl ?_
            refine S_pu 1 rfl ?_
            refine S_unwanted rfl rfl rfl rfl ?_
            refine S_unwanted rfl rfl rfl rfl ?_
            refine S_unwanted rfl rfl rfl rfl ?_
            refine S_v (r_pickF rfl rfl rfl) rfl ?_
            refine S_pu 1 rfl ?_
            refine S_seqnil ?_
            refine W_ret ?_
            refine At_seq_ret ?_
            obtain rfl := Option.some.inj h
            refine At_body rfl rfl ?_
            exact ⟨hL63.ext, rfl⟩
        · replace h := Go.L.ite_p hc60 h
          refine W_skip ?_
          refine At_seq ?_
          refine W_seqr ?_
          refine S_v (r_loadBN 2 rfl Try.underlying50 rfl zr50 hL29 rfl) rfl ?_
          refine S_pu 1 rfl ?_
          obtain ⟨x75, hb75, h⟩ := Go.L.bind_some h
          refine S_callL rfl rfl hL29 (fmindex_Index_Count_ok _ _ (gz_le hH hL29) hv2_0 hv2_1 hv2_2 (h1_0.mono (gz_left hH)) hb75) ?_
          rintro _ w76 rfl hx76 hL76 hle76
          replace hv2_0 := hv2_0.mono (gz_mono hH hle76)
          replace hv2_1 := hv2_1.mono (gz_mono hH hle76)
          replace hv2_2 := hv2_2.mono (gz_mono hH hle76)
          refine S_pu 3 rfl ?_
          refine S_alloc zr25 rfl rfl hL76 ?_
          intro w77 b77 hL77 hle77 _
          replace hv2_0 := hv2_0.mono (gz_mono hH hle77)
          replace hv2_1 := hv2_1.mono (gz_mono hH hle77)
          replace hv2_2 := hv2_2.mono (gz_mono hH hle77)
          refine S_pu 1 rfl ?_
          refine S_storeBN 0 rfl rfl rfl zr25 hL77 rfl rfl (onc rfl (onc rfl on0)) ?_
          intro w78 hL78 hle78
          replace hv2_0 := hv2_0.mono (gz_mono hH hle78)
          replace hv2_1 := hv2_1.mono (gz_mono hH hle78)
          replace hv2_2 := hv2_2.mono (gz_mono hH hle78)
          refine S_seqnil ?_
          refine W_seqd (.q 0 (.q 1 (.q 2 (.q 3 (.q 4 (.q 5 (.q 6 (.q 7 (.q 8 (.q 9 (.q 10 (.q 11 (.q 12 (.q 13 (.q 14 (.q 15 (.q 16 (.tail 17)))))))))))))))))) mixed (by kernel_rfl) (fun w79 hx79 => ?_)
          have hL80 := hL78.call hx79
          have hle80 := fz_ext hL78 hx79
          replace hv2_0 := hv2_0.mono (gz_mono hH hle80)
          replace hv2_1 := hv2_1.mono (gz_mono hH hle80)
          replace hv2_2 := hv2_2.mono (gz_mono hH hle80)
          refine D_v (r_loadBN 0 rfl Try.underlying25 rfl zr25 hL80 rfl) rfl rfl ?_
          refine D_pu 1 rfl ?_
          obtain ⟨x81, hb81, h⟩ := Go.L.bind_some h
          refine D_call rfl rfl rfl (fun w82 hx82 => law4_patternFault_ok _ _ (Le.refl _) ((h1_0.mono (hH.trans hL80.arg)).mono hx82.le) hb81) ?_
          refine D_v (r_eqA rfl rfl eqg25 (eq25 _ _ _ _ )) rfl rfl ?_
          refine D_pu 1 rfl ?_
          refine D_split (s := 59) rfl (fun hg83 => ?_) (fun hg83 => ?_)
          · replace h := Go.L.ite_p (of_decide_eq_true hg83) h
            refine D_vg (r_field rfl Try.underlying25 rfl zr3 (by decide)) rfl rfl rfl rfl hg83 rfl ?_
            refine D_vg (r_loadB1 0 rfl Try.underlying3 rfl hL80 rfl rfl) rfl rfl rfl rfl hg83 rfl ?_
            refine D_vg (RunsAt_pu rfl) rfl rfl rfl rfl hg83 rfl ?_
            refine D_vg (RunsAt_pu rfl) rfl rfl rfl rfl hg83 rfl ?_
            refine D_split (s := 63) rfl (fun hg85 => ?_) (fun hg85 => ?_)
            · replace h := Go.L.ite_n (not_dec_t hg85) h
              refine D_no rfl rfl rfl rfl hg85 rfl ?_
              refine D_no rfl rfl rfl rfl hg85 rfl ?_
              refine D_no rfl rfl rfl rfl hg85 rfl ?_
              refine D_no rfl rfl rfl rfl hg85 rfl ?_
              refine D_no rfl rfl rfl rfl hg85 rfl ?_
              refine D_vg (r_pickT rfl hg85 rfl) rfl rfl rfl rfl hg83 rfl ?_
              refine D_v (r_pickT rfl hg83 rfl) rfl rfl ?_
              refine D_pu 1 rfl ?_
              refine D_tail (fun w87 hx87 => ?_)
              have hL88 := hL80.call hx87
              have hle88 := fz_ext hL80 hx87
              replace hv2_0 := hv2_0.mono (gz_mono hH hle88)
              replace hv2_1 := hv2_1.mono (gz_mono hH hle88)
              replace hv2_2 := hv2_2.mono (gz_mono hH hle88)
              refine S_seqnil ?_
              refine W_ret ?_
              obtain rfl := Option.some.inj h
              refine At_body rfl rfl ?_
              exact ⟨hL88.ext, rfl⟩
            · replace h := Go.L.ite_p (not_dec_f hg85) h
              refine D_vg (RunsAt_pu rfl) rfl rfl rfl rfl hg85 rfl ?_
              refine D_vg (RunsAt_pu rfl) rfl rfl rfl rfl hg85 rfl ?_
              refine D_vg (RunsAt_pu rfl) rfl rfl rfl rfl hg85 rfl ?_
              obtain ⟨hk90, h⟩ := Go.L.chk_some h
              refine D_vg (r_ar64 rfl rfl rfl hk90) rfl rfl rfl rfl hg85 rfl ?_
              refine D_vg (RunsAt_pu rfl) rfl rfl rfl rfl hg85 rfl ?_
              refine D_vg (r_pickF rfl hg85 rfl) rfl rfl rfl rfl hg83 rfl ?_
              refine D_v (r_pickT rfl hg83 rfl) rfl rfl ?_
              refine D_pu 1 rfl ?_
              refine D_tail (fun w91 hx91 => ?_)
              have hL92 := hL80.call hx91
              have hle92 := fz_ext hL80 hx91
              replace hv2_0 := hv2_0.mono (gz_mono hH hle92)
              replace hv2_1 := hv2_1.mono (gz_mono hH hle92)
              replace hv2_2 := hv2_2.mono (gz_mono hH hle92)
              refine S_seqnil ?_
              refine W_ret ?_
              obtain rfl := Option.some.inj h
              refine At_body rfl rfl ?_
              exact ⟨hL92.ext, rfl⟩
          · replace h := Go.L.ite_n (of_decide_eq_false hg83) h
            refine D_no rfl rfl rfl rfl hg83 rfl ?_
            refine D_no rfl rfl rfl rfl hg83 rfl ?_
            refine D_no rfl rfl rfl rfl hg83 rfl ?_
            refine D_no rfl rfl rfl rfl hg83 rfl ?_
            refine D_no2 rfl rfl rfl rfl rfl ?_
            refine D_no2 rfl rfl rfl rfl rfl ?_
            refine D_no2 rfl rfl rfl rfl rfl ?_
            refine D_no2 rfl rfl rfl rfl rfl ?_
            refine D_no2 rfl rfl rfl rfl rfl ?_
            refine D_no rfl rfl rfl rfl hg83 rfl ?_
            refine D_v (r_pickF rfl hg83 rfl) rfl rfl ?_
            refine D_pu 1 rfl ?_
            refine D_tail (fun w94 hx94 => ?_)
            have hL95 := hL80.call hx94
            have hle95 := fz_ext hL80 hx94
            replace hv2_0 := hv2_0.mono (gz_mono hH hle95)
            replace hv2_1 := hv2_1.mono (gz_mono hH hle95)
            replace hv2_2 := hv2_2.mono (gz_mono hH hle95)
            refine S_seqnil ?_
            refine W_ret ?_
            obtain rfl := Option.some.inj h
            refine At_body rfl rfl ?_
            exact ⟨hL95.ext, rfl⟩
end Go.Proofs.Ytmifkdfaaaaicaa
