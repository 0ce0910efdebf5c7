/- Generated walks: laws on suffixes. -/
import Derived.Test.YtmifkdfaaaaicaaP2
import Derived.KernelRfl
namespace Go.Proofs.Ytmifkdfaaaaicaa
open Go Go.E Go.RowKit
noncomputable def law4_sorts : Option (Bool) :=
  Option.bind (law4_abab) (fun x1 => Option.bind (suffix_Array x1) (fun x3 => Option.bind (law4_abab) (fun x7 => Option.bind (suffix_Common x7) (fun x9 => Option.bind (law4_abab) (fun x13 => Go.L.chk ([(98 : UInt8)] ≠ []) (Option.bind (suffix_Find x13 ([(98 : UInt8)])) (fun x18 => Go.L.chk ([(120 : UInt8), (97 : UInt8), (98 : UInt8), (99 : UInt8), (121 : UInt8), (97 : UInt8), (98 : UInt8), (99 : UInt8)] ≠ []) (Option.bind (suffix_Repeated ([(120 : UInt8), (97 : UInt8), (98 : UInt8), (99 : UInt8), (121 : UInt8), (97 : UInt8), (98 : UInt8), (99 : UInt8)])) (fun x25 => if x3.2.1 = (0 : Int) then if x9.2.1 = (0 : Int) then if x18.2.2.1 = (0 : Int) then if x25.2.2.1 = (0 : Int) then Option.bind (ref3_Ints x3.1 ([(2 : Int), (0 : Int), (3 : Int), (1 : Int)])) (fun x38 => if x38 then Option.bind (ref3_Ints x9.1 ([(0 : Int), (2 : Int), (0 : Int), (1 : Int)])) (fun x43 => some ((bif (bif (bif (bif x43 then decide (x18.1 = (2 : Int)) else false) then decide (x18.2.1 = (4 : Int)) else false) then decide (x25.1 = (1 : Int)) else false) then decide (x25.2.1 = (3 : Int)) else false))) else some (false)) else some (false) else some (false) else some (false) else some (false))))))))))

set_option maxRecDepth 10000 in
theorem law4_sorts_ok (w : World) (H : PH) (hH : Le H (hp w))    {r : Bool} (h : law4_sorts = some r) :
    Ok Try.prog 17 [] w (fun v w' => Ext w w' ∧ v = .bool r) := by
  refine Ok_enter (n := 80) [] Try.func17 rfl rfl rfl rfl rfl ?_
  have hL := Lcl.start w
  refine W_seqr ?_
  refine S_pu 1 rfl ?_
  refine S_seqnil ?_
  refine W_seqr ?_
  obtain ⟨x1, hb1, h⟩ := Go.L.bind_some h
  refine S_callL rfl rfl hL (law4_abab_ok _ _ (gz_le hH hL) hb1) ?_
  rintro u2_0 w2 ⟨_, rfl, hR2_0⟩ hx2 hL2 hle2
  have hv2_0 := hR2_0.mono (gz_nw hH hL hx2)
  obtain ⟨x3, hb3, h⟩ := Go.L.bind_some h
  refine S_callL rfl rfl hL2 (suffix_Array_ok _ _ (gz_le hH hL2) hv2_0 hb3) ?_
  rintro _ w4 ⟨u4_0, rfl, hR4_0⟩ hx4 hL4 hle4
  have hv4_0 := hR4_0.vecG hH hL2 hx4
  replace hv2_0 := hv2_0.mono (gz_mono hH hle4)
  refine S_pu 3 rfl ?_
  refine S_alloc zr25 rfl rfl hL4 ?_
  intro w5 b5 hL5 hle5 _
  replace hv2_0 := hv2_0.mono (gz_mono hH hle5)
  replace hv4_0 := hv4_0.mono (gz_mono hH hle5)
  refine S_pu 1 rfl ?_
  refine S_storeBN 0 rfl rfl rfl zr25 hL5 rfl rfl (onc rfl (onc rfl on0)) ?_
  intro w6 hL6 hle6
  replace hv2_0 := hv2_0.mono (gz_mono hH hle6)
  replace hv4_0 := hv4_0.mono (gz_mono hH hle6)
  refine S_seqnil ?_
  refine W_seqr ?_
  obtain ⟨x7, hb7, h⟩ := Go.L.bind_some h
  refine S_callL rfl rfl hL6 (law4_abab_ok _ _ (gz_le hH hL6) hb7) ?_
  rintro u8_0 w8 ⟨_, rfl, hR8_0⟩ hx8 hL8 hle8
  have hv8_0 := hR8_0.mono (gz_nw hH hL6 hx8)
  replace hv4_0 := hv4_0.mono (gz_mono hH hle8)
  obtain ⟨x9, hb9, h⟩ := Go.L.bind_some h
  refine S_callL rfl rfl hL8 (suffix_Common_ok _ _ (gz_le hH hL8) hv8_0 hb9) ?_
  rintro _ w10 ⟨u10_0, rfl, hR10_0⟩ hx10 hL10 hle10
  have hv10_0 := hR10_0.vecG hH hL8 hx10
  replace hv4_0 := hv4_0.mono (gz_mono hH hle10)
  replace hv8_0 := hv8_0.mono (gz_mono hH hle10)
  refine S_pu 3 rfl ?_
  refine S_alloc zr25 rfl rfl hL10 ?_
  intro w11 b11 hL11 hle11 _
  replace hv4_0 := hv4_0.mono (gz_mono hH hle11)
  replace hv8_0 := hv8_0.mono (gz_mono hH hle11)
  replace hv10_0 := hv10_0.mono (gz_mono hH hle11)
  refine S_pu 1 rfl ?_
  refine S_storeBN 0 rfl rfl rfl zr25 hL11 rfl rfl (onc rfl (onc rfl on0)) ?_
  intro w12 hL12 hle12
  replace hv4_0 := hv4_0.mono (gz_mono hH hle12)
  replace hv8_0 := hv8_0.mono (gz_mono hH hle12)
  replace hv10_0 := hv10_0.mono (gz_mono hH hle12)
  refine S_seqnil ?_
  refine W_seqr ?_
  obtain ⟨x13, hb13, h⟩ := Go.L.bind_some h
  refine S_callL rfl rfl hL12 (law4_abab_ok _ _ (gz_le hH hL12) hb13) ?_
  rintro u14_0 w14 ⟨_, rfl, hR14_0⟩ hx14 hL14 hle14
  have hv14_0 := hR14_0.mono (gz_nw hH hL12 hx14)
  replace hv4_0 := hv4_0.mono (gz_mono hH hle14)
  replace hv10_0 := hv10_0.mono (gz_mono hH hle14)
  refine S_litO (r := .byte) (l := [(98 : UInt8)]) rfl (fun _ => bsl22_1 _ _) rfl (show 1 ≤ 9223372036854775807 by decide) hH hL14 (.c1 rfl .nil) ?_
  intro v15 w15 xs15 hL15 hle15 he15
  replace hv4_0 := hv4_0.mono (gz_mono hH hle15)
  replace hv10_0 := hv10_0.mono (gz_mono hH hle15)
  replace hv14_0 := hv14_0.mono (gz_mono hH hle15)
  obtain ⟨hk17, h⟩ := Go.L.chk_some h
  refine S_cvB 0 rfl Try.underlying22 Try.underlying5 rfl hH hL15 rfl he15 hk17 ?_
  intro w16 hL16 hle16 hv16
  replace hv4_0 := hv4_0.mono (gz_mono hH hle16)
  replace hv10_0 := hv10_0.mono (gz_mono hH hle16)
  replace hv14_0 := hv14_0.mono (gz_mono hH hle16)
  obtain ⟨x18, hb18, h⟩ := Go.L.bind_some h
  refine S_callL rfl rfl hL16 (suffix_Find_ok _ _ (gz_le hH hL16) hv14_0 hv16 hb18) ?_
  rintro _ w19 rfl hx19 hL19 hle19
  replace hv4_0 := hv4_0.mono (gz_mono hH hle19)
  replace hv10_0 := hv10_0.mono (gz_mono hH hle19)
  replace hv14_0 := hv14_0.mono (gz_mono hH hle19)
  replace hv16 := hv16.mono (gz_mono hH hle19)
  refine S_pu 4 rfl ?_
  refine S_alloc zr25 rfl rfl hL19 ?_
  intro w20 b20 hL20 hle20 _
  replace hv4_0 := hv4_0.mono (gz_mono hH hle20)
  replace hv10_0 := hv10_0.mono (gz_mono hH hle20)
  replace hv14_0 := hv14_0.mono (gz_mono hH hle20)
  replace hv16 := hv16.mono (gz_mono hH hle20)
  refine S_pu 2 rfl ?_
  refine S_storeBN 0 rfl rfl rfl zr25 hL20 rfl rfl (onc rfl (onc rfl on0)) ?_
  intro w21 hL21 hle21
  replace hv4_0 := hv4_0.mono (gz_mono hH hle21)
  replace hv10_0 := hv10_0.mono (gz_mono hH hle21)
  replace hv14_0 := hv14_0.mono (gz_mono hH hle21)
  replace hv16 := hv16.mono (gz_mono hH hle21)
  refine S_seqnil ?_
  refine W_seqr ?_
  refine S_litO (r := .byte) (l := [(120 : UInt8), (97 : UInt8), (98 : UInt8), (99 : UInt8), (121 : UInt8), (97 : UInt8), (98 : UInt8), (99 : UInt8)]) rfl (fun _ => bsl22_8 _ _ _ _ _ _ _ _ _) rfl (show 8 ≤ 9223372036854775807 by decide) hH hL21 (.c1 rfl (.c1 rfl (.c1 rfl (.c1 rfl (.c1 rfl (.c1 rfl (.c1 rfl (.c1 rfl .nil)))))))) ?_
  intro v22 w22 xs22 hL22 hle22 he22
  replace hv4_0 := hv4_0.mono (gz_mono hH hle22)
  replace hv10_0 := hv10_0.mono (gz_mono hH hle22)
  obtain ⟨hk24, h⟩ := Go.L.chk_some h
  refine S_cvB 0 rfl Try.underlying22 Try.underlying5 rfl hH hL22 rfl he22 hk24 ?_
  intro w23 hL23 hle23 hv23
  replace hv4_0 := hv4_0.mono (gz_mono hH hle23)
  replace hv10_0 := hv10_0.mono (gz_mono hH hle23)
  obtain ⟨x25, hb25, h⟩ := Go.L.bind_some h
  refine S_callL rfl rfl hL23 (suffix_Repeated_ok _ _ (gz_le hH hL23) hv23 hb25) ?_
  rintro _ w26 rfl hx26 hL26 hle26
  replace hv4_0 := hv4_0.mono (gz_mono hH hle26)
  replace hv10_0 := hv10_0.mono (gz_mono hH hle26)
  replace hv23 := hv23.mono (gz_mono hH hle26)
  refine S_pu 4 rfl ?_
  refine S_alloc zr25 rfl rfl hL26 ?_
  intro w27 b27 hL27 hle27 _
  replace hv4_0 := hv4_0.mono (gz_mono hH hle27)
  replace hv10_0 := hv10_0.mono (gz_mono hH hle27)
  replace hv23 := hv23.mono (gz_mono hH hle27)
  refine S_pu 2 rfl ?_
  refine S_storeBN 0 rfl rfl rfl zr25 hL27 rfl rfl (onc rfl (onc rfl on0)) ?_
  intro w28 hL28 hle28
  replace hv4_0 := hv4_0.mono (gz_mono hH hle28)
  replace hv10_0 := hv10_0.mono (gz_mono hH hle28)
  replace hv23 := hv23.mono (gz_mono hH hle28)
  refine S_seqnil ?_
  refine W_seqr ?_
  refine S_v (r_field rfl Try.underlying25 rfl zr3 (by decide)) rfl ?_
  refine S_v (r_loadB1 3 rfl Try.underlying3 rfl hL28 rfl rfl) rfl ?_
  refine S_pu 2 rfl ?_
  refine S_split (s := 39) rfl (fun hg29 => ?_) (fun hg29 => ?_)
  · replace h := Go.L.ite_p (of_decide_eq_true hg29) h
    refine S_guarded rfl rfl hg29 ?_
    refine S_v (r_field rfl Try.underlying25 rfl zr3 (by decide)) rfl ?_
    refine S_guarded rfl rfl hg29 ?_
    refine S_v (r_loadB1 2 rfl Try.underlying3 rfl hL28 rfl rfl) rfl ?_
    refine S_guarded rfl rfl hg29 ?_
    refine S_v (RunsAt_pu rfl) rfl ?_
    refine S_v (r_pickT rfl hg29 rfl) rfl ?_
    refine S_pu 1 rfl ?_
    refine S_split (s := 44) rfl (fun hg31 => ?_) (fun hg31 => ?_)
    · replace h := Go.L.ite_p (of_decide_eq_true hg31) h
      refine S_guarded rfl rfl hg31 ?_
      refine S_v (r_field rfl Try.underlying25 rfl zr3 (by decide)) rfl ?_
      refine S_guarded rfl rfl hg31 ?_
      refine S_v (r_loadB1 1 rfl Try.underlying3 rfl hL28 rfl rfl) rfl ?_
      refine S_guarded rfl rfl hg31 ?_
      refine S_v (RunsAt_pu rfl) rfl ?_
      refine S_v (r_pickT rfl hg31 rfl) rfl ?_
      refine S_pu 1 rfl ?_
      refine S_split (s := 49) rfl (fun hg33 => ?_) (fun hg33 => ?_)
      · replace h := Go.L.ite_p (of_decide_eq_true hg33) h
        refine S_guarded rfl rfl hg33 ?_
        refine S_v (r_field rfl Try.underlying25 rfl zr3 (by decide)) rfl ?_
        refine S_guarded rfl rfl hg33 ?_
        refine S_v (r_loadB1 0 rfl Try.underlying3 rfl hL28 rfl rfl) rfl ?_
        refine S_guarded rfl rfl hg33 ?_
        refine S_v (RunsAt_pu rfl) rfl ?_
        refine S_v (r_pickT rfl hg33 rfl) rfl ?_
        refine S_pu 1 rfl ?_
        refine S_split (s := 54) rfl (fun hg35 => ?_) (fun hg35 => ?_)
        · replace h := Go.L.ite_p (of_decide_eq_true hg35) h
          refine S_guarded rfl rfl hg35 ?_
          refine S_v (RunsAt_pu rfl) rfl ?_
          refine S_guarded rfl rfl hg35 ?_
          refine S_litE (r := (.int .i64)) (l := [(2 : Int), (0 : Int), (3 : Int), (1 : Int)]) rfl (fun _ => bsl23_4 _ _ _ _ _) rfl (show 4 ≤ 9223372036854775807 by decide) hH hL28 (.c1 rfl (.c1 rfl (.c1 rfl (.c1 rfl .nil)))) ?_
          intro v37 w37 hx37 hL37 hle37 hv37
          replace hv4_0 := hv4_0.mono (gz_mono hH hle37)
          replace hv10_0 := hv10_0.mono (gz_mono hH hle37)
          refine S_guarded rfl rfl hg35 ?_
          obtain ⟨x38, hb38, h⟩ := Go.L.bind_some h
          refine S_callL rfl rfl hL37 (ref3_Ints_ok _ _ (gz_le hH hL37) hv4_0 hv37 hb38) ?_
          rintro _ w39 rfl hx39 hL39 hle39
          replace hv4_0 := hv4_0.mono (gz_mono hH hle39)
          replace hv10_0 := hv10_0.mono (gz_mono hH hle39)
          replace hv37 := hv37.mono (gz_mono hH hle39)
          refine S_v (r_pickT rfl hg35 rfl) rfl ?_
          refine S_pu 1 rfl ?_
          refine S_split (s := 59) rfl (fun hg40 => ?_) (fun hg40 => ?_)
          · replace h := Go.L.ite_t hg40 h
            refine S_guarded rfl rfl hg40 ?_
            refine S_v (RunsAt_pu rfl) rfl ?_
            refine S_guarded rfl rfl hg40 ?_
            refine S_litE (r := (.int .i64)) (l := [(0 : Int), (2 : Int), (0 : Int), (1 : Int)]) rfl (fun _ => bsl23_4 _ _ _ _ _) rfl (show 4 ≤ 9223372036854775807 by decide) hH hL39 (.c1 rfl (.c1 rfl (.c1 rfl (.c1 rfl .nil)))) ?_
            intro v42 w42 hx42 hL42 hle42 hv42
            replace hv4_0 := hv4_0.mono (gz_mono hH hle42)
            replace hv10_0 := hv10_0.mono (gz_mono hH hle42)
            replace hv37 := hv37.mono (gz_mono hH hle42)
            refine S_guarded rfl rfl hg40 ?_
            obtain ⟨x43, hb43, h⟩ := Go.L.bind_some h
            refine S_callL rfl rfl hL42 (ref3_Ints_ok _ _ (gz_le hH hL42) hv10_0 hv42 hb43) ?_
            rintro _ w44 rfl hx44 hL44 hle44
            replace hv4_0 := hv4_0.mono (gz_mono hH hle44)
            replace hv10_0 := hv10_0.mono (gz_mono hH hle44)
            replace hv37 := hv37.mono (gz_mono hH hle44)
            replace hv42 := hv42.mono (gz_mono hH hle44)
            refine S_v (r_pickT rfl hg40 rfl) rfl ?_
            refine S_pu 1 rfl ?_
            refine S_pickT 2 28 rfl rfl rfl rfl rfl rfl rfl ?_
            refine S_pu 1 rfl ?_
            refine S_pickT 2 32 rfl rfl rfl rfl rfl rfl rfl ?_
            refine S_pu 1 rfl ?_
            refine S_pickT 2 36 rfl rfl rfl rfl rfl rfl rfl ?_
            refine S_pu 1 rfl ?_
            refine S_pickT 2 40 rfl rfl rfl rfl rfl rfl rfl ?_
            refine S_pu 1 rfl ?_
            refine S_seqnil ?_
            refine W_ret ?_
            obtain rfl := Option.some.inj h
            refine At_body rfl rfl ?_
            exact ⟨hL44.ext, rfl⟩
          · replace h := Go.L.ite_f hg40 h
            refine S_unwanted rfl rfl hg40 rfl ?_
            refine S_unwanted rfl rfl hg40 rfl ?_
            refine S_unwanted rfl rfl hg40 rfl ?_
            refine S_v (r_pickF rfl hg40 rfl) rfl ?_
            refine S_pu 1 rfl ?_
            refine S_unwanted rfl rfl rfl rfl ?_
            refine S_unwanted rfl rfl rfl rfl ?_
            refine S_v (r_pickF rfl rfl rfl) rfl ?_
            refine S_pu 1 rfl ?_
            refine S_unwanted rfl rfl rfl rfl ?_
            refine S_unwanted rfl rfl rfl rfl ?_
            refine S_v (r_pickF rfl rfl rfl) rfl ?_
            refine S_pu 1 rfl ?_
            refine S_unwanted rfl rfl rfl rfl ?_
            refine S_unwanted rfl rfl rfl rfl ?_
            refine S_v (r_pickF rfl rfl rfl) rfl ?_
            refine S_pu 1 rfl ?_
            refine S_unwanted rfl rfl rfl rfl ?_
            refine S_unwanted rfl rfl rfl rfl ?_
            refine S_v (r_pickF rfl rfl rfl) rfl ?_
            refine S_pu 1 rfl ?_
            refine S_seqnil ?_
            refine W_ret ?_
            obtain rfl := Option.some.inj h
            refine At_body rfl rfl ?_
            exact ⟨hL39.ext, rfl⟩
        · replace h := Go.L.ite_n (of_decide_eq_false hg35) h
          refine S_unwanted rfl rfl hg35 rfl ?_
          refine S_unwanted rfl rfl hg35 rfl ?_
          refine S_unwanted rfl rfl hg35 rfl ?_
          refine S_v (r_pickF rfl hg35 rfl) rfl ?_
          refine S_pu 1 rfl ?_
          refine S_unwanted rfl rfl rfl rfl ?_
          refine S_unwanted rfl rfl rfl rfl ?_
          refine S_unwanted rfl rfl rfl rfl ?_
          refine S_v (r_pickF rfl rfl rfl) rfl ?_
          refine S_pu 1 rfl ?_
          refine S_unwanted rfl rfl rfl rfl ?_
          refine S_unwanted rfl rfl rfl rfl ?_
          refine S_v (r_pickF rfl rfl rfl) rfl ?_
          refine S_pu 1 rfl ?_
          refine S_unwanted rfl rfl rfl rfl ?_
          refine S_unwanted rfl rfl rfl rfl ?_
          refine S_v (r_pickF rfl rfl rfl) rfl ?_
          refine S_pu 1 rfl ?_
          refine S_unwanted rfl rfl rfl rfl ?_
          refine S_unwanted rfl rfl rfl rfl ?_
          refine S_v (r_pickF rfl rfl rfl) rfl ?_
          refine S_pu 1 rfl ?_
          refine S_unwanted rfl rfl rfl rfl ?_
          refine S_unwanted rfl rfl rfl rfl ?_
          refine S_v (r_pickF rfl rfl rfl) rfl ?_
          refine S_pu 1 rfl ?_
          refine S_seqnil ?_
          refine W_ret ?_
          obtain rfl := Option.some.inj h
          refine At_body rfl rfl ?_
          exact ⟨hL28.ext, rfl⟩
      · replace h := Go.L.ite_n (of_decide_eq_false hg33) h
        refine S_unwanted rfl rfl hg33 rfl ?_
        refine S_unwanted rfl rfl hg33 rfl ?_
        refine S_unwanted rfl rfl hg33 rfl ?_
        refine S_v (r_pickF rfl hg33 rfl) rfl ?_
        refine S_pu 1 rfl ?_
        refine S_unwanted rfl rfl rfl rfl ?_
        refine S_unwanted rfl rfl rfl rfl ?_
        refine S_unwanted rfl rfl rfl rfl ?_
        refine S_v (r_pickF rfl rfl rfl) rfl ?_
        refine S_pu 1 rfl ?_
        refine S_unwanted rfl rfl rfl rfl ?_
        refine S_unwanted rfl rfl rfl rfl ?_
        refine S_unwanted rfl rfl rfl rfl ?_
        refine S_v (r_pickF rfl rfl rfl) rfl ?_
        refine S_pu 1 rfl ?_
        refine S_unwanted rfl rfl rfl rfl ?_
        refine S_unwanted rfl rfl rfl rfl ?_
        refine S_v (r_pickF rfl rfl rfl) rfl ?_
        refine S_pu 1 rfl ?_
        refine S_unwanted rfl rfl rfl rfl ?_
        refine S_unwanted rfl rfl rfl rfl ?_
        refine S_v (r_pickF rfl rfl rfl) rfl ?_
        refine S_pu 1 rfl ?_
        refine S_unwanted rfl rfl rfl rfl ?_
        refine S_unwanted rfl rfl rfl rfl ?_
        refine S_v (r_pickF rfl rfl rfl) rfl ?_
        refine S_pu 1 rfl ?_
        refine S_unwanted rfl rfl rfl rfl ?_
        refine S_unwanted rfl rfl rfl rfl ?_
        refine S_v (r_pickF rfl rfl rfl) rfl ?_
        refine S_pu 1 rfl ?_
        refine S_seqnil ?_
        refine W_ret ?_
        obtain rfl := Option.some.inj h
        refine At_body rfl rfl ?_
        exact ⟨hL28.ext, rfl⟩
    · replace h := Go.L.ite_n (of_decide_eq_false hg31) h
      refine S_unwanted rfl rfl hg31 rfl ?_
      refine S_unwanted rfl rfl hg31 rfl ?_
      refine S_unwanted rfl rfl hg31 rfl ?_
      refine S_v (r_pickF rfl hg31 rfl) rfl ?_
      refine S_pu 1 rfl ?_
      refine S_unwanted rfl rfl rfl rfl ?_
      refine S_unwanted rfl rfl rfl rfl ?_
      refine S_unwanted rfl rfl rfl rfl ?_
      refine S_v (r_pickF rfl rfl rfl) rfl ?_
      refine S_pu 1 rfl ?_
      refine S_unwanted rfl rfl rfl rfl ?_
      refine S_unwanted rfl rfl rfl rfl ?_
      refine S_unwanted rfl rfl rfl rfl ?_
      refine S_v (r_pickF rfl rfl rfl) rfl ?_
      refine S_pu 1 rfl ?_
      refine S_unwanted rfl rfl rfl rfl ?_
      refine S_unwanted rfl rfl rfl rfl ?_
      refine S_unwanted rfl rfl rfl rfl ?_
      refine S_v (r_pickF rfl rfl rfl) rfl ?_
      refine S_pu 1 rfl ?_
      refine S_unwanted rfl rfl rfl rfl ?_
      refine S_unwanted rfl rfl rfl rfl ?_
      refine S_v (r_pickF rfl rfl rfl) rfl ?_
      refine S_pu 1 rfl ?_
      refine S_unwanted rfl rfl rfl rfl ?_
      refine S_unwanted rfl rfl rfl rfl ?_
      refine S_v (r_pickF rfl rfl rfl) rfl ?_
      refine S_pu 1 rfl ?_
      refine S_unwanted rfl rfl rfl rfl ?_
      refine S_unwanted rfl rfl rfl rfl ?_
      refine S_v (r_pickF rfl rfl rfl) rfl ?_
      refine S_pu 1 rfl ?_
      refine S_unwanted rfl rfl rfl rfl ?_
      refine S_unwanted rfl rfl rfl rfl ?_
      refine S_v (r_pickF rfl rfl rfl) rfl ?_
      refine S_pu 1 rfl ?_
      refine S_seqnil ?_
      refine W_ret ?_
      obtain rfl := Option.some.inj h
      refine At_body rfl rfl ?_
      exact ⟨hL28.ext, rfl⟩
  · replace h := Go.L.ite_n (of_decide_eq_false hg29) h
    refine S_unwanted rfl rfl hg29 rfl ?_
    refine S_unwanted rfl rfl hg29 rfl ?_
    refine S_unwanted rfl rfl hg29 rfl ?_
    refine S_v (r_pickF rfl hg29 rfl) rfl ?_
    refine S_pu 1 rfl ?_
    refine S_unwanted rfl rfl rfl rfl ?_
    refine S_unwanted rfl rfl rfl rfl ?_
    refine S_unwanted rfl rfl rfl rfl ?_
    refine S_v (r_pickF rfl rfl rfl) rfl ?_
    refine S_pu 1 rfl ?_
    refine S_unwanted rfl rfl rfl rfl ?_
    refine S_unwanted rfl rfl rfl rfl ?_
    refine S_unwanted rfl rfl rfl rfl ?_
    refine S_v (r_pickF rfl rfl rfl) rfl ?_
    refine S_pu 1 rfl ?_
    refine S_unwanted rfl rfl rfl rfl ?_
    refine S_unwanted rfl rfl rfl rfl ?_
    refine S_unwanted rfl rfl rfl rfl ?_
    refine S_v (r_pickF rfl rfl rfl) rfl ?_
    refine S_pu 1 rfl ?_
    refine S_unwanted rfl rfl rfl rfl ?_
    refine S_unwanted rfl rfl rfl rfl ?_
    refine S_unwanted rfl rfl rfl rfl ?_
    refine S_v (r_pickF rfl rfl rfl) rfl ?_
    refine S_pu 1 rfl ?_
    refine S_unwanted rfl rfl rfl rfl ?_
    refine S_unwanted rfl rfl rfl rfl ?_
    refine S_v (r_pickF rfl rfl rfl) rfl ?_
    refine S_pu 1 rfl ?_
    refine S_unwanted rfl rfl rfl rfl ?_
    refine S_unwanted rfl rfl rfl rfl ?_
    refine S_v (r_pickF rfl rfl rfl) rfl ?_
    refine S_pu 1 rfl ?_
    refine S_unwanted rfl rfl rfl rfl ?_
    refine S_unwanted rfl rfl rfl rfl ?_
    refine S_v (r_pickF rfl rfl rfl) rfl ?_
    refine S_pu 1 rfl ?_
    refine S_unwanted rfl rfl rfl rfl ?_
    refine S_unwanted rfl rfl rfl rfl ?_
    refine S_v (r_pickF rfl rfl rfl) rfl ?_
    refine S_pu 1 rfl ?_
    refine S_seqnil ?_
    refine W_ret ?_
    obtain rfl := Option.some.inj h
    refine At_body rfl rfl ?_
    exact ⟨hL28.ext, rfl⟩

noncomputable def law4_SuffixArrayMatchesSpec_k1 (x5 : (List Int) × (Int × Int)) : Option (Bool) :=
  if (x5.1.length : Int) = (0 : Int) then some (true) else Go.L.chk (0 ≤ (0 : Int) ∧ (0 : Int) < (x5.1.length : Int)) (some (decide (x5.1.getD ((0 : Int).toNat) default = (0 : Int))))
noncomputable def law4_SuffixArrayMatchesSpec_bl2 (a0 : List UInt8) (x5 : (List Int) × (Int × Int)) (x81 : (List Int)) : Int → Option ((Int) ⊕ (Bool)) := fun s9_137 =>
  if s9_137 < (x5.1.length : Int) then Go.L.chk (0 ≤ s9_137 ∧ s9_137 < (x5.1.length : Int)) (Go.L.chk (Go.L.I64 (s9_137 - (1 : Int))) (Go.L.chk (0 ≤ (s9_137 - (1 : Int)) ∧ (s9_137 - (1 : Int)) < (x81.length : Int)) (Go.L.chk (0 ≤ s9_137 ∧ s9_137 < (x81.length : Int)) (Option.bind (ref4_Shared a0 (x81.getD ((s9_137 - (1 : Int)).toNat) default) (x81.getD s9_137.toNat default)) (fun x151 => if x5.1.getD s9_137.toNat default = x151 then Go.L.chk (Go.L.I64 (s9_137 + (1 : Int))) (some (Sum.inl (s9_137 + (1 : Int)))) else Option.map Sum.inr (some (false))))))) else Option.map Sum.inr ((law4_SuffixArrayMatchesSpec_k1 x5))
noncomputable def law4_SuffixArrayMatchesSpec_l2 (a0 : List UInt8) (x5 : (List Int) × (Int × Int)) (x81 : (List Int)) (s : Int) : Option (Bool) := Go.L.run (law4_SuffixArrayMatchesSpec_bl2 a0 x5 x81) s
noncomputable def law4_SuffixArrayMatchesSpec (a0 : List UInt8) : Option (Bool) :=
  Option.bind (suffix_Array a0) (fun x1 => Option.bind (suffix_Common a0) (fun x5 => Option.bind (law4_textFault a0) (fun x9 => Option.bind (law4_sorts) (fun x13 => if !x13 then Option.bind (law4_sorts) (fun x17 => if x17 then if x1.2.1 = x9.1 ∧ x1.2.2 = x9.2 then if x5.2.1 = x9.1 ∧ x5.2.2 = x9.2 then Go.L.chk (Go.L.I64 ((x1.1.length : Int) + (x5.1.length : Int))) (some (decide (((x1.1.length : Int) + (x5.1.length : Int)) = (0 : Int)))) else some (false) else some (false) else some (false)) else if x1.2.1 = x9.1 ∧ x1.2.2 = x9.2 then if x5.2.1 = x9.1 ∧ x5.2.2 = x9.2 then if x9.1 = (0 : Int) then (if (150 : Int) < (a0.length : Int) then (if (x1.1.length : Int) = (a0.length : Int) then some (decide ((x5.1.length : Int) = (a0.length : Int))) else some (false)) else Option.bind (ref4_Order a0) (fun x81 => Option.bind (ref3_Ints x1.1 x81) (fun x83 => if !x83 then some (false) else if (x5.1.length : Int) = (a0.length : Int) then (law4_SuffixArrayMatchesSpec_l2 a0 x5 x81) (1 : Int) else some (false)))) else Option.bind (law4_sorts) (fun x62 => if x62 then if x1.2.1 = x9.1 ∧ x1.2.2 = x9.2 then if x5.2.1 = x9.1 ∧ x5.2.2 = x9.2 then Go.L.chk (Go.L.I64 ((x1.1.length : Int) + (x5.1.length : Int))) (some (decide (((x1.1.length : Int) + (x5.1.length : Int)) = (0 : Int)))) else some (false) else some (false) else some (false)) else Option.bind (law4_sorts) (fun x47 => if x47 then if x1.2.1 = x9.1 ∧ x1.2.2 = x9.2 then if x5.2.1 = x9.1 ∧ x5.2.2 = x9.2 then Go.L.chk (Go.L.I64 ((x1.1.length : Int) + (x5.1.length : Int))) (some (decide (((x1.1.length : Int) + (x5.1.length : Int)) = (0 : Int)))) else some (false) else some (false) else some (false)) else Option.bind (law4_sorts) (fun x32 => if x32 then if x1.2.1 = x9.1 ∧ x1.2.2 = x9.2 then if x5.2.1 = x9.1 ∧ x5.2.2 = x9.2 then Go.L.chk (Go.L.I64 ((x1.1.length : Int) + (x5.1.length : Int))) (some (decide (((x1.1.length : Int) + (x5.1.length : Int)) = (0 : Int)))) else some (false) else some (false) else some (false))))))

set_option maxRecDepth 10000 in
theorem law4_SuffixArrayMatchesSpec_ok (w : World) (H : PH) (hH : Le H (hp w)) {a0 : List UInt8} {v0_0 : Value} (h0_0 : Vec .byte H v0_0 (a0)) {r : Bool} (h : law4_SuffixArrayMatchesSpec a0 = some r) :
    Ok Try.prog 3 [v0_0] w (fun v w' => Ext w w' ∧ v = .bool r) := by
  refine Ok_enter (n := 117) [(0, v0_0)] Try.func3 rfl rfl rfl rfl rfl ?_
  have hL := Lcl.start w
  refine W_seqr ?_
  refine S_pu 1 rfl ?_
  refine S_seqnil ?_
  refine W_seqr ?_
  refine S_pu 1 rfl ?_
  obtain ⟨x1, hb1, h⟩ := Go.L.bind_some h
  refine S_callL rfl rfl hL (suffix_Array_ok _ _ (gz_le hH hL) (h0_0.mono (gz_left hH)) hb1) ?_
  rintro _ w2 ⟨u2_0, rfl, hR2_0⟩ hx2 hL2 hle2
  have hv2_0 := hR2_0.vecG hH hL hx2
  refine S_pu 3 rfl ?_
  refine S_alloc zr25 rfl rfl hL2 ?_
  intro w3 b3 hL3 hle3 _
  replace hv2_0 := hv2_0.mono (gz_mono hH hle3)
  refine S_pu 1 rfl ?_
  refine S_storeBN 0 rfl rfl rfl zr25 hL3 rfl rfl (onc rfl (onc rfl on0)) ?_
  intro w4 hL4 hle4
  replace hv2_0 := hv2_0.mono (gz_mono hH hle4)
  refine S_seqnil ?_
  refine W_seqr ?_
  refine S_pu 1 rfl ?_
  obtain ⟨x5, hb5, h⟩ := Go.L.bind_some h
  refine S_callL rfl rfl hL4 (suffix_Common_ok _ _ (gz_le hH hL4) (h0_0.mono (gz_left hH)) hb5) ?_
  rintro _ w6 ⟨u6_0, rfl, hR6_0⟩ hx6 hL6 hle6
  have hv6_0 := hR6_0.vecG hH hL4 hx6
  replace hv2_0 := hv2_0.mono (gz_mono hH hle6)
  refine S_pu 3 rfl ?_
  refine S_alloc zr25 rfl rfl hL6 ?_
  intro w7 b7 hL7 hle7 _
  replace hv2_0 := hv2_0.mono (gz_mono hH hle7)
  replace hv6_0 := hv6_0.mono (gz_mono hH hle7)
  refine S_pu 1 rfl ?_
  refine S_storeBN 0 rfl rfl rfl zr25 hL7 rfl rfl (onc rfl (onc rfl on0)) ?_
  intro w8 hL8 hle8
  replace hv2_0 := hv2_0.mono (gz_mono hH hle8)
  replace hv6_0 := hv6_0.mono (gz_mono hH hle8)
  refine S_seqnil ?_
  refine W_seqr ?_
  refine S_pu 1 rfl ?_
  obtain ⟨x9, hb9, h⟩ := Go.L.bind_some h
  refine S_callL rfl rfl hL8 (law4_textFault_ok _ _ (gz_le hH hL8) (h0_0.mono (gz_left hH)) hb9) ?_
  rintro _ w10 rfl hx10 hL10 hle10
  replace hv2_0 := hv2_0.mono (gz_mono hH hle10)
  replace hv6_0 := hv6_0.mono (gz_mono hH hle10)
  refine S_alloc zr25 rfl rfl hL10 ?_
  intro w11 b11 hL11 hle11 _
  replace hv2_0 := hv2_0.mono (gz_mono hH hle11)
  replace hv6_0 := hv6_0.mono (gz_mono hH hle11)
  refine S_storeBN 0 rfl rfl rfl zr25 hL11 rfl rfl (onc rfl (onc rfl on0)) ?_
  intro w12 hL12 hle12
  replace hv2_0 := hv2_0.mono (gz_mono hH hle12)
  replace hv6_0 := hv6_0.mono (gz_mono hH hle12)
  refine S_seqnil ?_
  refine W_seq ?_
  refine W_seqr ?_
  obtain ⟨x13, hb13, h⟩ := Go.L.bind_some h
  refine S_callL rfl rfl hL12 (law4_sorts_ok _ _ (gz_le hH hL12) hb13) ?_
  rintro _ w14 rfl hx14 hL14 hle14
  replace hv2_0 := hv2_0.mono (gz_mono hH hle14)
  replace hv6_0 := hv6_0.mono (gz_mono hH hle14)
  refine S_pu 2 rfl ?_
  refine S_split (s := 24) rfl (fun hg15 => ?_) (fun hg15 => ?_)
  · replace h := Go.L.ite_t hg15 h
    refine S_unwanted rfl rfl hg15 rfl ?_
    refine S_unwanted rfl rfl hg15 rfl ?_
    refine S_unwanted rfl rfl hg15 rfl ?_
    refine S_v (r_pickT rfl hg15 rfl) rfl ?_
    refine S_pu 1 rfl ?_
    refine S_unwanted rfl rfl rfl rfl ?_
    refine S_unwanted rfl rfl rfl rfl ?_
    refine S_unwanted rfl rfl rfl rfl ?_
    refine S_v (r_pickT rfl rfl rfl) rfl ?_
    refine S_pu 1 rfl ?_
    refine S_unwanted rfl rfl rfl rfl ?_
    refine S_unwanted rfl rfl rfl rfl ?_
    refine S_unwanted rfl rfl rfl rfl ?_
    refine S_v (r_pickT rfl rfl rfl) rfl ?_
    refine S_seqnil ?_
    refine W_true rfl ?_
    refine W_seqr ?_
    obtain ⟨x17, hb17, h⟩ := Go.L.bind_some h
    refine S_callL rfl rfl hL14 (law4_sorts_ok _ _ (gz_le hH hL14) hb17) ?_
    rintro _ w18 rfl hx18 hL18 hle18
    replace hv2_0 := hv2_0.mono (gz_mono hH hle18)
    replace hv6_0 := hv6_0.mono (gz_mono hH hle18)
    refine S_pu 1 rfl ?_
    refine S_split (s := 40) rfl (fun hg19 => ?_) (fun hg19 => ?_)
    · replace h := Go.L.ite_t hg19 h
      refine S_guarded rfl rfl hg19 ?_
      refine S_v (r_loadBN 2 rfl Try.underlying25 rfl zr25 hL18 rfl) rfl ?_
      refine S_guarded rfl rfl hg19 ?_
      refine S_v (r_loadBN 0 rfl Try.underlying25 rfl zr25 hL18 rfl) rfl ?_
      refine S_guarded rfl rfl hg19 ?_
      refine S_v (r_eqA rfl rfl eqg25 (eq25 _ _ _ _ )) rfl ?_
      refine S_v (r_pickT rfl hg19 rfl) rfl ?_
      refine S_pu 1 rfl ?_
      refine S_split (s := 45) rfl (fun hg21 => ?_) (fun hg21 => ?_)
      · replace h := Go.L.ite_p (of_decide_eq_true hg21) h
        refine S_guarded rfl rfl hg21 ?_
        refine S_v (r_loadBN 1 rfl Try.underlying25 rfl zr25 hL18 rfl) rfl ?_
        refine S_guarded rfl rfl hg21 ?_
        refine S_v (r_loadBN 0 rfl Try.underlying25 rfl zr25 hL18 rfl) rfl ?_
        refine S_guarded rfl rfl hg21 ?_
        refine S_v (r_eqA rfl rfl eqg25 (eq25 _ _ _ _ )) rfl ?_
        refine S_v (r_pickT rfl hg21 rfl) rfl ?_
        refine S_pu 1 rfl ?_
        refine S_split (s := 50) rfl (fun hg23 => ?_) (fun hg23 => ?_)
        · replace h := Go.L.ite_p (of_decide_eq_true hg23) h
          refine S_guarded rfl rfl hg23 ?_
          refine S_v (RunsAt_pu rfl) rfl ?_
          refine S_guarded rfl rfl hg23 ?_
          refine S_v (r_len rfl Try.underlying23 hv2_0) rfl ?_
          refine S_guarded rfl rfl hg23 ?_
          refine S_v (RunsAt_pu rfl) rfl ?_
          refine S_guarded rfl rfl hg23 ?_
          refine S_v (r_len rfl Try.underlying23 hv6_0) rfl ?_
          refine S_guarded rfl rfl hg23 ?_
          obtain ⟨hk25, h⟩ := Go.L.chk_some h
          refine S_v (r_ar64 rfl rfl rfl hk25) rfl ?_
          refine S_guarded rfl rfl hg23 ?_
          refine S_v (RunsAt_pu rfl) rfl ?_
          refine S_v (r_pickT rfl hg23 rfl) rfl ?_
          refine S_pu 1 rfl ?_
          refine S_seqnil ?_
          refine W_ret ?_
          refine At_seq_ret ?_
          obtain rfl := Option.some.inj h
          refine At_body rfl rfl ?_
          exact ⟨hL18.ext, rfl⟩
        · replace h := Go.L.ite_n (of_decide_eq_false hg23) h
          refine S_unwanted rfl rfl hg23 rfl ?_
          refine S_unwanted rfl rfl hg23 rfl ?_
          refine S_unwanted rfl rfl hg23 rfl ?_
          refine S_unwanted rfl rfl hg23 rfl ?_
          refine S_unwanted rfl rfl hg23 rfl ?_
          refine S_unwanted rfl rfl hg23 rfl ?_
          refine S_v (r_pickF rfl hg23 rfl) rfl ?_
          refine S_pu 1 rfl ?_
          refine S_seqnil ?_
          refine W_ret ?_
          refine At_seq_ret ?_
          obtain rfl := Option.some.inj h
          refine At_body rfl rfl ?_
          exact ⟨hL18.ext, rfl⟩
      · replace h := Go.L.ite_n (of_decide_eq_false hg21) h
        refine S_unwanted rfl rfl hg21 rfl ?_
        refine S_unwanted rfl rfl hg21 rfl ?_
        refine S_unwanted rfl rfl hg21 rfl ?_
        refine S_v (r_pickF rfl hg21 rfl) rfl ?_
        refine S_pu 1 rfl ?_
        refine S_unwanted rfl rfl rfl rfl ?_
        refine S_unwanted rfl rfl rfl rfl ?_
        refine S_unwanted rfl rfl rfl rfl ?_
        refine S_unwanted rfl rfl rfl rfl ?_
        refine S_unwanted rfl rfl rfl rfl ?_
        refine S_unwanted rfl rfl rfl rfl ?_
        refine S_v (r_pickF rfl rfl rfl) rfl ?_
        refine S_pu 1 rfl ?_
        refine S_seqnil ?_
        refine W_ret ?_
        refine At_seq_ret ?_
        obtain rfl := Option.some.inj h
        refine At_body rfl rfl ?_
        exact ⟨hL18.ext, rfl⟩
    · replace h := Go.L.ite_f hg19 h
      refine S_unwanted rfl rfl hg19 rfl ?_
      refine S_unwanted rfl rfl hg19 rfl ?_
      refine S_unwanted rfl rfl hg19 rfl ?_
      refine S_v (r_pickF rfl hg19 rfl) rfl ?_
      refine S_pu 1 rfl ?_
      refine S_unwanted rfl rfl rfl rfl ?_
      refine S_unwanted rfl rfl rfl rfl ?_
      refine S_unwanted rfl rfl rfl rfl ?_
      refine S_v (r_pickF rfl rfl rfl) rfl ?_
      refine S_pu 1 rfl ?_
      refine S_unwanted rfl rfl rfl rfl ?_
      refine S_unwanted rfl rfl rfl rfl ?_
      refine S_unwanted rfl rfl rfl rfl ?_
      refine S_unwanted rfl rfl rfl rfl ?_
      refine S_unwanted rfl rfl rfl rfl ?_
      refine S_unwanted rfl rfl rfl rfl ?_
      refine S_v (r_pickF rfl rfl rfl) rfl ?_
      refine S_pu 1 rfl ?_
      refine S_seqnil ?_
      refine W_ret ?_
      refine At_seq_ret ?_
      obtain rfl := Option.some.inj h
      refine At_body rfl rfl ?_
      exact ⟨hL18.ext, rfl⟩
  · replace h := Go.L.ite_f hg15 h
    refine S_guarded rfl rfl hg15 ?_
    refine S_v (r_loadBN 2 rfl Try.underlying25 rfl zr25 hL14 rfl) rfl ?_
    refine S_guarded rfl rfl hg15 ?_
    refine S_v (r_loadBN 0 rfl Try.underlying25 rfl zr25 hL14 rfl) rfl ?_
    refine S_guarded rfl rfl hg15 ?_
    refine S_v (r_neA rfl rfl eqg25 (eq25 _ _ _ _ )) rfl ?_
    refine S_v (r_pickF rfl hg15 rfl) rfl ?_
    refine S_pu 1 rfl ?_
    refine S_split (s := 29) rfl (fun hg30 => ?_) (fun hg30 => ?_)
    · replace h := Go.L.ite_n (not_dec_t hg30) h
      refine S_unwanted rfl rfl hg30 rfl ?_
      refine S_unwanted rfl rfl hg30 rfl ?_
      refine S_unwanted rfl rfl hg30 rfl ?_
      refine S_v (r_pickT rfl hg30 rfl) rfl ?_
      refine S_pu 1 rfl ?_
      refine S_unwanted rfl rfl rfl rfl ?_
      refine S_unwanted rfl rfl rfl rfl ?_
      refine S_unwanted rfl rfl rfl rfl ?_
      refine S_v (r_pickT rfl rfl rfl) rfl ?_
      refine S_seqnil ?_
      refine W_true rfl ?_
      refine W_seqr ?_
      obtain ⟨x32, hb32, h⟩ := Go.L.bind_some h
      refine S_callL rfl rfl hL14 (law4_sorts_ok _ _ (gz_le hH hL14) hb32) ?_
      rintro _ w33 rfl hx33 hL33 hle33
      replace hv2_0 := hv2_0.mono (gz_mono hH hle33)
      replace hv6_0 := hv6_0.mono (gz_mono hH hle33)
      refine S_pu 1 rfl ?_
      refine S_split (s := 40) rfl (fun hg34 => ?_) (fun hg34 => ?_)
      · replace h := Go.L.ite_t hg34 h
        refine S_guarded rfl rfl hg34 ?_
        refine S_v (r_loadBN 2 rfl Try.underlying25 rfl zr25 hL33 rfl) rfl ?_
        refine S_guarded rfl rfl hg34 ?_
        refine S_v (r_loadBN 0 rfl Try.underlying25 rfl zr25 hL33 rfl) rfl ?_
        refine S_guarded rfl rfl hg34 ?_
        refine S_v (r_eqA rfl rfl eqg25 (eq25 _ _ _ _ )) rfl ?_
        refine S_v (r_pickT rfl hg34 rfl) rfl ?_
        refine S_pu 1 rfl ?_
        refine S_split (s := 45) rfl (fun hg36 => ?_) (fun hg36 => ?_)
        · replace h := Go.L.ite_p (of_decide_eq_true hg36) h
          refine S_guarded rfl rfl hg36 ?_
          refine S_v (r_loadBN 1 rfl Try.underlying25 rfl zr25 hL33 rfl) rfl ?_
          refine S_guarded rfl rfl hg36 ?_
          refine S_v (r_loadBN 0 rfl Try.underlying25 rfl zr25 hL33 rfl) rfl ?_
          refine S_guarded rfl rfl hg36 ?_
          refine S_v (r_eqA rfl rfl eqg25 (eq25 _ _ _ _ )) rfl ?_
          refine S_v (r_pickT rfl hg36 rfl) rfl ?_
          refine S_pu 1 rfl ?_
          refine S_split (s := 50) rfl (fun hg38 => ?_) (fun hg38 => ?_)
          · replace h := Go.L.ite_p (of_decide_eq_true hg38) h
            refine S_guarded rfl rfl hg38 ?_
            refine S_v (RunsAt_pu rfl) rfl ?_
            refine S_guarded rfl rfl hg38 ?_
            refine S_v (r_len rfl Try.underlying23 hv2_0) rfl ?_
            refine S_guarded rfl rfl hg38 ?_
            refine S_v (RunsAt_pu rfl) rfl ?_
            refine S_guarded rfl rfl hg38 ?_
            refine S_v (r_len rfl Try.underlying23 hv6_0) rfl ?_
            refine S_guarded rfl rfl hg38 ?_
            obtain ⟨hk40, h⟩ := Go.L.chk_some h
            refine S_v (r_ar64 rfl rfl rfl hk40) rfl ?_
            refine S_guarded rfl rfl hg38 ?_
            refine S_v (RunsAt_pu rfl) rfl ?_
            refine S_v (r_pickT rfl hg38 rfl) rfl ?_
            refine S_pu 1 rfl ?_
            refine S_seqnil ?_
            refine W_ret ?_
            refine At_seq_ret ?_
            obtain rfl := Option.some.inj h
            refine At_body rfl rfl ?_
            exact ⟨hL33.ext, rfl⟩
          · replace h := Go.L.ite_n (of_decide_eq_false hg38) h
            refine S_unwanted rfl rfl hg38 rfl ?_
            refine S_unwanted rfl rfl hg38 rfl ?_
            refine S_unwanted rfl rfl hg38 rfl ?_
            refine S_unwanted rfl rfl hg38 rfl ?_
            refine S_unwanted rfl rfl hg38 rfl ?_
            refine S_unwanted rfl rfl hg38 rfl ?_
            refine S_v (r_pickF rfl hg38 rfl) rfl ?_
            refine S_pu 1 rfl ?_
            refine S_seqnil ?_
            refine W_ret ?_
            refine At_seq_ret ?_
            obtain rfl := Option.some.inj h
            refine At_body rfl rfl ?_
            exact ⟨hL33.ext, rfl⟩
        · replace h := Go.L.ite_n (of_decide_eq_false hg36) h
          refine S_unwanted rfl rfl hg36 rfl ?_
          refine S_unwanted rfl rfl hg36 rfl ?_
          refine S_unwanted rfl rfl hg36 rfl ?_
          refine S_v (r_pickF rfl hg36 rfl) rfl ?_
          refine S_pu 1 rfl ?_
          refine S_unwanted rfl rfl rfl rfl ?_
          refine S_unwanted rfl rfl rfl rfl ?_
          refine S_unwanted rfl rfl rfl rfl ?_
          refine S_unwanted rfl rfl rfl rfl ?_
          refine S_unwanted rfl rfl rfl rfl ?_
          refine S_unwanted rfl rfl rfl rfl ?_
          refine S_v (r_pickF rfl rfl rfl) rfl ?_
          refine S_pu 1 rfl ?_
          refine S_seqnil ?_
          refine W_ret ?_
          refine At_seq_ret ?_
          obtain rfl := Option.some.inj h
          refine At_body rfl rfl ?_
          exact ⟨hL33.ext, rfl⟩
      · replace h := Go.L.ite_f hg34 h
        refine S_unwanted rfl rfl hg34 rfl ?_
        refine S_unwanted rfl rfl hg34 rfl ?_
        refine S_unwanted rfl rfl hg34 rfl ?_
        refine S_v (r_pickF rfl hg34 rfl) rfl ?_
        refine S_pu 1 rfl ?_
        refine S_unwanted rfl rfl rfl rfl ?_
        refine S_unwanted rfl rfl rfl rfl ?_
        refine S_unwanted rfl rfl rfl rfl ?_
        refine S_v (r_pickF rfl rfl rfl) rfl ?_
        refine S_pu 1 rfl ?_
        refine S_unwanted rfl rfl rfl rfl ?_
        refine S_unwanted rfl rfl rfl rfl ?_
        refine S_unwanted rfl rfl rfl rfl ?_
        refine S_unwanted rfl rfl rfl rfl ?_
        refine S_unwanted rfl rfl rfl rfl ?_
        refine S_unwanted rfl rfl rfl rfl ?_
        refine S_v (r_pickF rfl rfl rfl) rfl ?_
        refine S_pu 1 rfl ?_
        refine S_seqnil ?_
        refine W_ret ?_
        refine At_seq_ret ?_
        obtain rfl := Option.some.inj h
        refine At_body rfl rfl ?_
        exact ⟨hL33.ext, rfl⟩
    · replace h := Go.L.ite_p (not_dec_f hg30) h
      refine S_guarded rfl rfl hg30 ?_
      refine S_v (r_loadBN 1 rfl Try.underlying25 rfl zr25 hL14 rfl) rfl ?_
      refine S_guarded rfl rfl hg30 ?_
      refine S_v (r_loadBN 0 rfl Try.underlying25 rfl zr25 hL14 rfl) rfl ?_
      refine S_guarded rfl rfl hg30 ?_
      refine S_v (r_neA rfl rfl eqg25 (eq25 _ _ _ _ )) rfl ?_
      refine S_v (r_pickF rfl hg30 rfl) rfl ?_
      refine S_pu 1 rfl ?_
      refine S_split (s := 34) rfl (fun hg45 => ?_) (fun hg45 => ?_)
      · replace h := Go.L.ite_n (not_dec_t hg45) h
        refine S_unwanted rfl rfl hg45 rfl ?_
        refine S_unwanted rfl rfl hg45 rfl ?_
        refine S_unwanted rfl rfl hg45 rfl ?_
        refine S_v (r_pickT rfl hg45 rfl) rfl ?_
        refine S_seqnil ?_
        refine W_true rfl ?_
        refine W_seqr ?_
        obtain ⟨x47, hb47, h⟩ := Go.L.bind_some h
        refine S_callL rfl rfl hL14 (law4_sorts_ok _ _ (gz_le hH hL14) hb47) ?_
        rintro _ w48 rfl hx48 hL48 hle48
        replace hv2_0 := hv2_0.mono (gz_mono hH hle48)
        replace hv6_0 := hv6_0.mono (gz_mono hH hle48)
        refine S_pu 1 rfl ?_
        refine S_split (s := 40) rfl (fun hg49 => ?_) (fun hg49 => ?_)
        · replace h := Go.L.ite_t hg49 h
          refine S_guarded rfl rfl hg49 ?_
          refine S_v (r_loadBN 2 rfl Try.underlying25 rfl zr25 hL48 rfl) rfl ?_
          refine S_guarded rfl rfl hg49 ?_
          refine S_v (r_loadBN 0 rfl Try.underlying25 rfl zr25 hL48 rfl) rfl ?_
          refine S_guarded rfl rfl hg49 ?_
          refine S_v (r_eqA rfl rfl eqg25 (eq25 _ _ _ _ )) rfl ?_
          refine S_v (r_pickT rfl hg49 rfl) rfl ?_
          refine S_pu 1 rfl ?_
          refine S_split (s := 45) rfl (fun hg51 => ?_) (fun hg51 => ?_)
          · replace h := Go.L.ite_p (of_decide_eq_true hg51) h
            refine S_guarded rfl rfl hg51 ?_
            refine S_v (r_loadBN 1 rfl Try.underlying25 rfl zr25 hL48 rfl) rfl ?_
            refine S_guarded rfl rfl hg51 ?_
            refine S_v (r_loadBN 0 rfl Try.underlying25 rfl zr25 hL48 rfl) rfl ?_
            refine S_guarded rfl rfl hg51 ?_
            refine S_v (r_eqA rfl rfl eqg25 (eq25 _ _ _ _ )) rfl ?_
            refine S_v (r_pickT rfl hg51 rfl) rfl ?_
            refine S_pu 1 rfl ?_
            refine S_split (s := 50) rfl (fun hg53 => ?_) (fun hg53 => ?_)
            · replace h := Go.L.ite_p (of_decide_eq_true hg53) h
              refine S_guarded rfl rfl hg53 ?_
              refine S_v (RunsAt_pu rfl) rfl ?_
              refine S_guarded rfl rfl hg53 ?_
              refine S_v (r_len rfl Try.underlying23 hv2_0) rfl ?_
              refine S_guarded rfl rfl hg53 ?_
              refine S_v (RunsAt_pu rfl) rfl ?_
              refine S_guarded rfl rfl hg53 ?_
              refine S_v (r_len rfl Try.underlying23 hv6_0) rfl ?_
              refine S_guarded rfl rfl hg53 ?_
              obtain ⟨hk55, h⟩ := Go.L.chk_some h
              refine S_v (r_ar64 rfl rfl rfl hk55) rfl ?_
              refine S_guarded rfl rfl hg53 ?_
              refine S_v (RunsAt_pu rfl) rfl ?_
              refine S_v (r_pickT rfl hg53 rfl) rfl ?_
              refine S_pu 1 rfl ?_
              refine S_seqnil ?_
              refine W_ret ?_
              refine At_seq_ret ?_
              obtain rfl := Option.some.inj h
              refine At_body rfl rfl ?_
              exact ⟨hL48.ext, rfl⟩
            · replace h := Go.L.ite_n (of_decide_eq_false hg53) h
              refine S_unwanted rfl rfl hg53 rfl ?_
              refine S_unwanted rfl rfl hg53 rfl ?_
              refine S_unwanted rfl rfl hg53 rfl ?_
              refine S_unwanted rfl rfl hg53 rfl ?_
              refine S_unwanted rfl rfl hg53 rfl ?_
              refine S_unwanted rfl rfl hg53 rfl ?_
              refine S_v (r_pickF rfl hg53 rfl) rfl ?_
              refine S_pu 1 rfl ?_
              refine S_seqnil ?_
              refine W_ret ?_
              refine At_seq_ret ?_
              obtain rfl := Option.some.inj h
              refine At_body rfl rfl ?_
              exact ⟨hL48.ext, rfl⟩
          · replace h := Go.L.ite_n (of_decide_eq_false hg51) h
            refine S_unwanted rfl rfl hg51 rfl ?_
            refine S_unwanted rfl rfl hg51 rfl ?_
            refine S_unwanted rfl rfl hg51 rfl ?_
            refine S_v (r_pickF rfl hg51 rfl) rfl ?_
            refine S_pu 1 rfl ?_
            refine S_unwanted rfl rfl rfl rfl ?_
            refine S_unwanted rfl rfl rfl rfl ?_
            refine S_unwanted rfl rfl rfl rfl ?_
            refine S_unwanted rfl rfl rfl rfl ?_
            refine S_unwanted rfl rfl rfl rfl ?_
            refine S_unwanted rfl rfl rfl rfl ?_
            refine S_v (r_pickF rfl rfl rfl) rfl ?_
            refine S_pu 1 rfl ?_
            refine S_seqnil ?_
            refine W_ret ?_
            refine At_seq_ret ?_
            obtain rfl := Option.some.inj h
            refine At_body rfl rfl ?_
            exact ⟨hL48.ext, rfl⟩
        · replace h := Go.L.ite_f hg49 h
          refine S_unwanted rfl rfl hg49 rfl ?_
          refine S_unwanted rfl rfl hg49 rfl ?_
          refine S_unwanted rfl rfl hg49 rfl ?_
          refine S_v (r_pickF rfl hg49 rfl) rfl ?_
          refine S_pu 1 rfl ?_
          refine S_unwanted rfl rfl rfl rfl ?_
          refine S_unwanted rfl rfl rfl rfl ?_
          refine S_unwanted rfl rfl rfl rfl ?_
          refine S_v (r_pickF rfl rfl rfl) rfl ?_
          refine S_pu 1 rfl ?_
          refine S_unwanted rfl rfl rfl rfl ?_
          refine S_unwanted rfl rfl rfl rfl ?_
          refine S_unwanted rfl rfl rfl rfl ?_
          refine S_unwanted rfl rfl rfl rfl ?_
          refine S_unwanted rfl rfl rfl rfl ?_
          refine S_unwanted rfl rfl rfl rfl ?_
          refine S_v (r_pickF rfl rfl rfl) rfl ?_
          refine S_pu 1 rfl ?_
          refine S_seqnil ?_
          refine W_ret ?_
          refine At_seq_ret ?_
          obtain rfl := Option.some.inj h
          refine At_body rfl rfl ?_
          exact ⟨hL48.ext, rfl⟩
      · replace h := Go.L.ite_p (not_dec_f hg45) h
        refine S_guarded rfl rfl hg45 ?_
        refine S_v (r_field rfl Try.underlying25 rfl zr3 (by decide)) rfl ?_
        refine S_guarded rfl rfl hg45 ?_
        refine S_v (r_loadB1 0 rfl Try.underlying3 rfl hL14 rfl rfl) rfl ?_
        refine S_guarded rfl rfl hg45 ?_
        refine S_v (RunsAt_pu rfl) rfl ?_
        refine S_v (r_pickF rfl hg45 rfl) rfl ?_
        refine S_seqnil ?_
        refine W_ifn rfl (fun hc60 => ?_) (fun hc60 => ?_)
        · replace h := Go.L.ite_n hc60 h
          refine W_seqr ?_
          obtain ⟨x62, hb62, h⟩ := Go.L.bind_some h
          refine S_callL rfl rfl hL14 (law4_sorts_ok _ _ (gz_le hH hL14) hb62) ?_
          rintro _ w63 rfl hx63 hL63 hle63
          replace hv2_0 := hv2_0.mono (gz_mono hH hle63)
          replace hv6_0 := hv6_0.mono (gz_mono hH hle63)
          refine S_pu 1 rfl ?_
          refine S_split (s := 40) rfl (fun hg64 => ?_) (fun hg64 => ?_)
          · replace h := Go.L.ite_t hg64 h
            refine S_guarded rfl rfl hg64 ?_
            refine S_v (r_loadBN 2 rfl Try.underlying25 rfl zr25 hL63 rfl) rfl ?_
            refine S_guarded rfl rfl hg64 ?_
            refine S_v (r_loadBN 0 rfl Try.underlying25 rfl zr25 hL63 rfl) rfl ?_
            refine S_guarded rfl rfl hg64 ?_
            refine S_v (r_eqA rfl rfl eqg25 (eq25 _ _ _ _ )) rfl ?_
            refine S_v (r_pickT rfl hg64 rfl) rfl ?_
            refine S_pu 1 rfl ?_
            refine S_split (s := 45) rfl (fun hg66 => ?_) (fun hg66 => ?_)
            · replace h := Go.L.ite_p (of_decide_eq_true hg66) h
              refine S_guarded rfl rfl hg66 ?_
              refine S_v (r_loadBN 1 rfl Try.underlying25 rfl zr25 hL63 rfl) rfl ?_
              refine S_guarded rfl rfl hg66 ?_
              refine S_v (r_loadBN 0 rfl Try.underlying25 rfl zr25 hL63 rfl) rfl ?_
              refine S_guarded rfl rfl hg66 ?_
              refine S_v (r_eqA rfl rfl eqg25 (eq25 _ _ _ _ )) rfl ?_
              refine S_v (r_pickT rfl hg66 rfl) rfl ?_
              refine S_pu 1 rfl ?_
              refine S_split (s := 50) rfl (fun hg68 => ?_) (fun hg68 => ?_)
              · replace h := Go.L.ite_p (of_decide_eq_true hg68) h
                refine S_guarded rfl rfl hg68 ?_
                refine S_v (RunsAt_pu rfl) rfl ?_
                refine S_guarded rfl rfl hg68 ?_
                refine S_v (r_len rfl Try.underlying23 hv2_0) rfl ?_
                refine S_guarded rfl rfl hg68 ?_
                refine S_v (RunsAt_pu rfl) rfl ?_
                refine S_guarded rfl rfl hg68 ?_
                refine S_v (r_len rfl Try.underlying23 hv6_0) rfl ?_
                refine S_guarded rfl rfl hg68 ?_
                obtain ⟨hk70, h⟩ := Go.L.chk_some h
                refine S_v (r_ar64 rfl rfl rfl hk70) rfl ?_
                refine S_guarded rfl rfl hg68 ?_
                refine S_v (RunsAt_pu rfl) rfl ?_
                refine S_v (r_pickT rfl hg68 rfl) rfl ?_
                refine S_pu 1 rfl ?_
                refine S_seqnil ?_
                refine W_ret ?_
                refine At_seq_ret ?_
                obtain rfl := Option.some.inj h
                refine At_body rfl rfl ?_
                exact ⟨hL63.ext, rfl⟩
              · replace h := Go.L.ite_n (of_decide_eq_false hg68) h
                refine S_unwanted rfl rfl hg68 rfl ?_
                refine S_unwanted rfl rfl hg68 rfl ?_
                refine S_unwanted rfl rfl hg68 rfl ?_
                refine S_unwanted rfl rfl hg68 rfl ?_
                refine S_unwanted rfl rfl hg68 rfl ?_
                refine S_unwanted rfl rfl hg68 rfl ?_
                refine S_v (r_pickF rfl hg68 rfl) rfl ?_
                refine S_pu 1 rfl ?_
                refine S_seqnil ?_
                refine W_ret ?_
                refine At_seq_ret ?_
                obtain rfl := Option.some.inj h
                refine At_body rfl rfl ?_
                exact ⟨hL63.ext, rfl⟩
            · replace h := Go.L.ite_n (of_decide_eq_false hg66) h
              refine S_unwanted rfl rfl hg66 rfl ?_
              refine S_unwanted rfl rfl hg66 rfl ?_
              refine S_unwanted rfl rfl hg66 rfl ?_
              refine S_v (r_pickF rfl hg66 rfl) rfl ?_
              refine S_pu 1 rfl ?_
              refine S_unwanted rfl rfl rfl rfl ?_
              refine S_unwanted rfl rfl rfl rfl ?_
              refine S_unwanted rfl rfl rfl rfl ?_
              refine S_unwanted rfl rfl rfl rfl ?_
              refine S_unwanted rfl rfl rfl rfl ?_
              refine S_unwanted rfl rfl rfl rfl ?_
              refine S_v (r_pickF rfl rfl rfl) rfl ?_
              refine S_pu 1 rfl ?_
              refine S_seqnil ?_
              refine W_ret ?_
              refine At_seq_ret ?_
              obtain rfl := Option.some.inj h
              refine At_body rfl rfl ?_
              exact ⟨hL63.ext, rfl⟩
          · replace h := Go.L.ite_f hg64 h
            refine S_unwanted rfl rfl hg64 rfl ?_
            refine S_unwanted rfl rfl hg64 rfl ?_
            refine S_unwanted rfl rfl hg64 rfl ?_
            refine S_v (r_pickF rfl hg64 rfl) rfl ?_
            refine S_pu 1 rfl ?_
            refine S_unwanted rfl rfl rfl rfl ?_
            refine S_unwanted rfl rfl rfl rfl ?_
            refine S_unwanted rfl rfl rfl rfl ?_
            refine S_v (r_pickF rfl rfl rfl) rfl ?_
            refine S_pu 1 rfl ?_
            refine S_unwanted rfl rfl rfl rfl ?_
            refine S_unwanted rfl rfl rfl rfl ?_
            refine S_unwanted rfl rfl rfl rfl ?_
            refine S_unwanted rfl rfl rfl rfl ?_
            refine S_unwanted rfl rfl rfl rfl ?_
            refine S_unwanted rfl rfl rfl rfl ?_
            refine S_v (r_pickF rfl rfl rfl) rfl ?_
            refine S_pu 1 rfl ?_
            refine S_seqnil ?_
            refine W_ret ?_
            refine At_seq_ret ?_
            obtain rfl := Option.some.inj h
            refine At_body rfl rfl ?_
            exact ⟨hL63.ext, rfl⟩
        · replace h := Go.L.ite_p hc60 h
          refine W_skip ?_
          refine At_seq ?_
          refine W_seq ?_
          refine W_seqr ?_
          refine S_pu 1 rfl ?_
          refine S_v (r_len rfl Try.underlying22 h0_0) rfl ?_
          refine S_pu 1 rfl ?_
          refine S_seqnil ?_
          refine W_if rfl (fun hc75 => ?_) (fun hc75 => ?_)
          · replace h := Go.L.ite_p hc75 h
            refine W_seqr ?_
            refine S_pu 1 rfl ?_
            refine S_v (r_len rfl Try.underlying23 hv2_0) rfl ?_
            refine S_pu 1 rfl ?_
            refine S_v (r_len rfl Try.underlying22 h0_0) rfl ?_
            refine S_pu 2 rfl ?_
            refine S_split (s := 66) rfl (fun hg77 => ?_) (fun hg77 => ?_)
            · replace h := Go.L.ite_p (of_decide_eq_true hg77) h
              refine S_guarded rfl rfl hg77 ?_
              refine S_v (RunsAt_pu rfl) rfl ?_
              refine S_guarded rfl rfl hg77 ?_
              refine S_v (r_len rfl Try.underlying23 hv6_0) rfl ?_
              refine S_guarded rfl rfl hg77 ?_
              refine S_v (RunsAt_pu rfl) rfl ?_
              refine S_guarded rfl rfl hg77 ?_
              refine S_v (r_len rfl Try.underlying22 h0_0) rfl ?_
              refine S_guarded rfl rfl hg77 ?_
              refine S_v (RunsAt_pu rfl) rfl ?_
              refine S_v (r_pickT rfl hg77 rfl) rfl ?_
              refine S_pu 1 rfl ?_
              refine S_seqnil ?_
              refine W_ret ?_
              refine At_seq_ret ?_
              obtain rfl := Option.some.inj h
              refine At_body rfl rfl ?_
              exact ⟨hL14.ext, rfl⟩
            · replace h := Go.L.ite_n (of_decide_eq_false hg77) h
              refine S_unwanted rfl rfl hg77 rfl ?_
              refine S_unwanted rfl rfl hg77 rfl ?_
              refine S_unwanted rfl rfl hg77 rfl ?_
              refine S_unwanted rfl rfl hg77 rfl ?_
              refine S_unwanted rfl rfl hg77 rfl ?_
              refine S_v (r_pickF rfl hg77 rfl) rfl ?_
              refine S_pu 1 rfl ?_
              refine S_seqnil ?_
              refine W_ret ?_
              refine At_seq_ret ?_
              obtain rfl := Option.some.inj h
              refine At_body rfl rfl ?_
              exact ⟨hL14.ext, rfl⟩
          · replace h := Go.L.ite_n hc75 h
            refine W_skip ?_
            refine At_seq ?_
            refine W_seqr ?_
            refine S_pu 1 rfl ?_
            obtain ⟨x81, hb81, h⟩ := Go.L.bind_some h
            refine S_callL rfl rfl hL14 (ref4_Order_ok _ _ (gz_le hH hL14) (h0_0.mono (gz_left hH)) hb81) ?_
            rintro u82_0 w82 ⟨_, rfl, hR82_0⟩ hx82 hL82 hle82
            have hv82_0 := hR82_0.vecG hH hL14 hx82
            replace hv2_0 := hv2_0.mono (gz_mono hH hle82)
            replace hv6_0 := hv6_0.mono (gz_mono hH hle82)
            refine S_pu 1 rfl ?_
            refine S_seqnil ?_
            refine W_seq ?_
            refine W_seqr ?_
            refine S_pu 2 rfl ?_
            obtain ⟨x83, hb83, h⟩ := Go.L.bind_some h
            refine S_callL rfl rfl hL82 (ref3_Ints_ok _ _ (gz_le hH hL82) hv2_0 hv82_0 hb83) ?_
            rintro _ w84 rfl hx84 hL84 hle84
            replace hv2_0 := hv2_0.mono (gz_mono hH hle84)
            replace hv6_0 := hv6_0.mono (gz_mono hH hle84)
            replace hv82_0 := hv82_0.mono (gz_mono hH hle84)
            refine S_pu 2 rfl ?_
            refine S_split (s := 79) rfl (fun hg85 => ?_) (fun hg85 => ?_)
            · replace h := Go.L.ite_t hg85 h
              refine S_unwanted rfl rfl hg85 rfl ?_
              refine S_unwanted rfl rfl hg85 rfl ?_
              refine S_unwanted rfl rfl hg85 rfl ?_
              refine S_unwanted rfl rfl hg85 rfl ?_
              refine S_unwanted rfl rfl hg85 rfl ?_
              refine S_v (r_pickT rfl hg85 rfl) rfl ?_
              refine S_seqnil ?_
              refine W_true rfl ?_
              refine W_seqr ?_
              refine S_pu 1 rfl ?_
              refine S_seqnil ?_
              refine W_ret ?_
              refine At_seq_ret ?_
              obtain rfl := Option.some.inj h
              refine At_body rfl rfl ?_
              exact ⟨hL84.ext, rfl⟩
            · replace h := Go.L.ite_f hg85 h
              refine S_guarded rfl rfl hg85 ?_
              refine S_v (RunsAt_pu rfl) rfl ?_
              refine S_guarded rfl rfl hg85 ?_
              refine S_v (r_len rfl Try.underlying23 hv6_0) rfl ?_
              refine S_guarded rfl rfl hg85 ?_
              refine S_v (RunsAt_pu rfl) rfl ?_
              refine S_guarded rfl rfl hg85 ?_
              refine S_v (r_len rfl Try.underlying22 h0_0) rfl ?_
              refine S_guarded rfl rfl hg85 ?_
              refine S_v (RunsAt_pu rfl) rfl ?_
              refine S_v (r_pickF rfl hg85 rfl) rfl ?_
              refine S_seqnil ?_
              refine W_ifn rfl (fun hc88 => ?_) (fun hc88 => ?_)
              · replace h := Go.L.ite_n hc88 h
                refine W_seqr ?_
                refine S_pu 1 rfl ?_
                refine S_seqnil ?_
                refine W_ret ?_
                refine At_seq_ret ?_
                obtain rfl := Option.some.inj h
                refine At_body rfl rfl ?_
                exact ⟨hL84.ext, rfl⟩
              · replace h := Go.L.ite_p hc88 h
                refine W_skip ?_
                refine At_seq ?_
                refine W_cut (σ := Unit) (fun (_ : Unit) => [(5, u6_0)]) (fun (_ : Unit) wr => Lcl w [.box b11 [.int .i64 x9.1, .int .i64 x9.2] 25, .box b7 [.int .i64 x5.2.1, .int .i64 x5.2.2] 25, .box b3 [.int .i64 x1.2.1, .int .i64 x1.2.2] 25] wr ∧ Vec (.int .i64) (gz H w wr [.box b11 [.int .i64 x9.1, .int .i64 x9.2] 25, .box b7 [.int .i64 x5.2.1, .int .i64 x5.2.2] 25, .box b3 [.int .i64 x1.2.1, .int .i64 x1.2.2] 25]) (u6_0) (x5.1) ∧ (law4_SuffixArrayMatchesSpec_k1 x5) = some r) ?_ ?_
                · refine W_seqr ?_
                  refine S_pu 1 rfl ?_
                  refine S_seqnil ?_
                  refine W_block ?_
                  obtain ⟨n138, h⟩ := Go.L.run_some h
                  refine W_loop (σ := Int × Nat) (fun (⟨s9_137, n⟩ : Int × Nat) => [(0, v0_0), (5, u6_0), (8, u82_0), (9, .int .i64 s9_137)]) (fun (⟨s9_137, n⟩ : Int × Nat) wr => Lcl w [.box b11 [.int .i64 x9.1, .int .i64 x9.2] 25, .box b7 [.int .i64 x5.2.1, .int .i64 x5.2.2] 25, .box b3 [.int .i64 x1.2.1, .int .i64 x1.2.2] 25] wr ∧ Vec (.int .i64) (gz H w wr [.box b11 [.int .i64 x9.1, .int .i64 x9.2] 25, .box b7 [.int .i64 x5.2.1, .int .i64 x5.2.2] 25, .box b3 [.int .i64 x1.2.1, .int .i64 x1.2.2] 25]) (u6_0) (x5.1) ∧ Vec (.int .i64) (gz H w wr [.box b11 [.int .i64 x9.1, .int .i64 x9.2] 25, .box b7 [.int .i64 x5.2.1, .int .i64 x5.2.2] 25, .box b3 [.int .i64 x1.2.1, .int .i64 x1.2.2] 25]) (u82_0) (x81) ∧ Go.L.itr (law4_SuffixArrayMatchesSpec_bl2 a0 x5 x81) n s9_137 = some r) (fun (⟨s9_137, n⟩ : Int × Nat) => n) ((1 : Int), n138) (.cons rfl (.cons rfl (.cons rfl (.cons rfl (Sub.nil _))))) ⟨hL84, hv6_0, hv82_0, h⟩ ?_
                  rintro ⟨s9_137, nn138⟩ wr138 ⟨hL138, hf138_0, hf138_1, h⟩
                  obtain ⟨n138, e138, rfl, h, hm138⟩ := Go.L.itr_some h
                  refine W_seq ?_
                  refine W_seqr ?_
                  refine S_pu 2 rfl ?_
                  refine S_v (r_len rfl Try.underlying23 hf138_0) rfl ?_
                  refine S_pu 1 rfl ?_
                  refine S_seqnil ?_
                  refine W_if rfl (fun hc140 => ?_) (fun hc140 => ?_)
                  · replace h := Go.L.ite_p hc140 h
                    refine W_skip ?_
                    refine At_seq ?_
                    refine W_seq ?_
                    refine W_block ?_
                    refine W_seqd (.q 0 (.q 1 (.q 2 (.q 3 (.q 4 (.q 5 (.q 6 (.q 7 (.q 8 (.q 9 (.q 10 (.q 11 (.q 12 (.q 13 (.q 14 (.q 15 (.tail 16))))))))))))))))) mixed (by kernel_rfl) (fun w142 hx142 => ?_)
                    have hL143 := hL138.call hx142
                    have hle143 := fz_ext hL138 hx142
                    replace hf138_0 := hf138_0.mono (gz_mono hH hle143)
                    replace hf138_1 := hf138_1.mono (gz_mono hH hle143)
                    refine D_pu 2 rfl ?_
                    obtain ⟨hk145, h⟩ := Go.L.chk_some h
                    refine D_index rfl rfl rfl Try.underlying23 zr3 hf138_0 s9_137.toNat (Int.toNat_of_nonneg hk145.1).symm (idx_lt hk145) rfl ?_
                    rintro p144 _ rfl hp144
                    refine D_v (r_load1 rfl Try.underlying3 rfl hp144 (gz_le hH hL143)) rfl rfl ?_
                    refine D_pu 3 rfl ?_
                    obtain ⟨hk146, h⟩ := Go.L.chk_some h
                    refine D_v (r_ar64 rfl rfl rfl hk146) rfl rfl ?_
                    obtain ⟨hk148, h⟩ := Go.L.chk_some h
                    refine D_index rfl rfl rfl Try.underlying23 zr3 hf138_1 ((s9_137 - (1 : Int)).toNat) (Int.toNat_of_nonneg hk148.1).symm (idx_lt hk148) rfl ?_
                    rintro p147 _ rfl hp147
                    refine D_v (r_load1 rfl Try.underlying3 rfl hp147 (gz_le hH hL143)) rfl rfl ?_
                    refine D_pu 2 rfl ?_
                    obtain ⟨hk150, h⟩ := Go.L.chk_some h
                    refine D_index rfl rfl rfl Try.underlying23 zr3 hf138_1 s9_137.toNat (Int.toNat_of_nonneg hk150.1).symm (idx_lt hk150) rfl ?_
                    rintro p149 _ rfl hp149
                    refine D_v (r_load1 rfl Try.underlying3 rfl hp149 (gz_le hH hL143)) rfl rfl ?_
                    obtain ⟨x151, hb151, h⟩ := Go.L.bind_some h
                    refine D_call rfl rfl rfl (fun w152 hx152 => ref4_Shared_ok _ _ (Le.refl _) ((h0_0.mono (hH.trans hL143.arg)).mono hx152.le) hb151) ?_
                    refine D_pu 1 rfl ?_
                    refine D_tail (fun w153 hx153 => ?_)
                    have hL154 := hL143.call hx153
                    have hle154 := fz_ext hL143 hx153
                    replace hf138_0 := hf138_0.mono (gz_mono hH hle154)
                    replace hf138_1 := hf138_1.mono (gz_mono hH hle154)
                    replace hp144 := hp144.mono (gz_mono hH hle154)
                    replace hp147 := hp147.mono (gz_mono hH hle154)
                    replace hp149 := hp149.mono (gz_mono hH hle154)
                    refine S_seqnil ?_
                    refine W_ifn rfl (fun hc155 => ?_) (fun hc155 => ?_)
                    · replace h := Go.L.ite_n hc155 h
                      refine W_seqr ?_
                      refine S_pu 1 rfl ?_
                      refine S_seqnil ?_
                      refine W_ret ?_
                      refine At_block_ret ?_
                      refine At_seq_ret ?_
                      refine At_loop_ret ?_
                      replace h := Go.L.Nxt.out h hm138
                      refine At_block_ret ?_
                      refine At_cut_ret ?_
                      obtain rfl := Option.some.inj h
                      refine At_body rfl rfl ?_
                      exact ⟨hL154.ext, rfl⟩
                    · replace h := Go.L.ite_p hc155 h
                      refine W_skip ?_
                      refine At_block ?_
                      refine At_seq ?_
                      refine W_region ?_
                      refine S_pu 1 rfl ?_
                      obtain ⟨hk158, h⟩ := Go.L.chk_some h
                      refine S_v (r_ar64 rfl rfl rfl hk158) rfl ?_
                      refine S_pu 1 rfl ?_
                      refine S_nil ?_
                      have h := Go.L.Nxt.again h hm138
                      refine At_round ((s9_137 + (1 : Int)), n138) (.cons rfl (.cons rfl (.cons rfl (.cons rfl (Sub.nil _))))) ⟨hL154, hf138_0, hf138_1, h⟩ (Nat.lt_succ_self _)
                  · replace h := Go.L.ite_n hc140 h
                    refine W_exit ?_
                    refine At_seq_exit ?_
                    refine At_loop_exit ?_
                    replace h := Go.L.Nxt.out h hm138
                    refine At_exit ?_
                    refine At_cut () (.cons rfl (Sub.nil _)) ⟨hL138, hf138_0, h⟩
                · rintro _ wr114 ⟨hL114, hf114_0, h⟩
                  refine W_seqr ?_
                  refine S_pu 1 rfl ?_
                  refine S_v (r_len rfl Try.underlying23 hf114_0) rfl ?_
                  refine S_pu 2 rfl ?_
                  refine S_split (s := 111) rfl (fun hg161 => ?_) (fun hg161 => ?_)
                  · replace h := Go.L.ite_p (of_decide_eq_true hg161) h
                    refine S_unwanted rfl rfl hg161 rfl ?_
                    refine S_unwanted rfl rfl hg161 rfl ?_
                    refine S_unwanted rfl rfl hg161 rfl ?_
                    refine S_unwanted rfl rfl hg161 rfl ?_
                    refine S_v (r_pickT rfl hg161 rfl) rfl ?_
                    refine S_pu 1 rfl ?_
                    refine S_seqnil ?_
                    refine W_ret ?_
                    obtain rfl := Option.some.inj h
                    refine At_body rfl rfl ?_
                    exact ⟨hL114.ext, rfl⟩
                  · replace h := Go.L.ite_n (of_decide_eq_false hg161) h
                    refine S_guarded rfl rfl hg161 ?_
                    refine S_v (RunsAt_pu rfl) rfl ?_
                    refine S_guarded rfl rfl hg161 ?_
                    obtain ⟨hk165, h⟩ := Go.L.chk_some h
                    refine S_index rfl rfl Try.underlying23 zr3 hf114_0 ((0 : Int).toNat) (Int.toNat_of_nonneg hk165.1).symm (idx_lt hk165) rfl ?_
                    rintro p164 _ rfl hp164
                    refine S_guarded rfl rfl hg161 ?_
                    refine S_v (r_load1 rfl Try.underlying3 rfl hp164 (gz_le hH hL114)) rfl ?_
                    refine S_guarded rfl rfl hg161 ?_
                    refine S_v (RunsAt_pu rfl) rfl ?_
                    refine S_v (r_pickF rfl hg161 rfl) rfl ?_
                    refine S_pu 1 rfl ?_
                    refine S_seqnil ?_
                    refine W_ret ?_
                    obtain rfl := Option.some.inj h
                    refine At_body rfl rfl ?_
                    exact ⟨hL114.ext, rfl⟩

noncomputable def law4_SuffixArrayIsSorted_k1 (l107 : List Bool) : Option (Bool) :=
  some (true)
noncomputable def law4_SuffixArrayIsSorted_bl2 (a0 : List UInt8) (x1 : (List Int) × (Int × Int)) (x5 : (List Int) × (Int × Int)) : (List Bool) × Int → Option (((List Bool) × Int) ⊕ (Bool)) := fun ⟨l169, s8_170⟩ =>
  if s8_170 < (x1.1.length : Int) then Go.L.chk (0 ≤ s8_170 ∧ s8_170 < (x1.1.length : Int)) (Go.L.chk (Go.L.I64 ((a0.length : Int) - (1 : Int))) (Option.bind (ref3_In (x1.1.getD s8_170.toNat default) (0 : Int) ((a0.length : Int) - (1 : Int))) (fun x178 => if !x178 then Option.map Sum.inr (some (false)) else Go.L.chk (0 ≤ s8_170 ∧ s8_170 < (x1.1.length : Int)) (Go.L.chk (0 ≤ x1.1.getD s8_170.toNat default ∧ x1.1.getD s8_170.toNat default < (l169.length : Int)) (if l169.getD ((x1.1.getD s8_170.toNat default).toNat) default then Option.map Sum.inr (some (false)) else Go.L.chk (0 ≤ s8_170 ∧ s8_170 < (x1.1.length : Int)) (Go.L.chk (0 ≤ x1.1.getD s8_170.toNat default ∧ x1.1.getD s8_170.toNat default < (l169.length : Int)) (if (0 : Int) < s8_170 then Go.L.chk (Go.L.I64 (s8_170 - (1 : Int))) (Go.L.chk (0 ≤ (s8_170 - (1 : Int)) ∧ (s8_170 - (1 : Int)) < (x1.1.length : Int)) (Go.L.chk (0 ≤ s8_170 ∧ s8_170 < (x1.1.length : Int)) (Option.bind (ref4_Less a0 (x1.1.getD ((s8_170 - (1 : Int)).toNat) default) (x1.1.getD s8_170.toNat default)) (fun x204 => if !x204 then Option.map Sum.inr (some (false)) else Go.L.chk (0 ≤ s8_170 ∧ s8_170 < (x5.1.length : Int)) (Go.L.chk (Go.L.I64 (s8_170 - (1 : Int))) (Go.L.chk (0 ≤ (s8_170 - (1 : Int)) ∧ (s8_170 - (1 : Int)) < (x1.1.length : Int)) (Go.L.chk (0 ≤ s8_170 ∧ s8_170 < (x1.1.length : Int)) (Option.bind (ref4_Shared a0 (x1.1.getD ((s8_170 - (1 : Int)).toNat) default) (x1.1.getD s8_170.toNat default)) (fun x218 => if x5.1.getD s8_170.toNat default = x218 then Go.L.chk (Go.L.I64 (s8_170 + (1 : Int))) (some (Sum.inl ((l169.set ((x1.1.getD s8_170.toNat default).toNat) true), (s8_170 + (1 : Int))))) else Option.map Sum.inr (some (false))))))))))) else Go.L.chk (Go.L.I64 (s8_170 + (1 : Int))) (some (Sum.inl ((l169.set ((x1.1.getD s8_170.toNat default).toNat) true), (s8_170 + (1 : Int)))))))))))) else Option.map Sum.inr (law4_SuffixArrayIsSorted_k1 l169)
noncomputable def law4_SuffixArrayIsSorted_l2 (a0 : List UInt8) (x1 : (List Int) × (Int × Int)) (x5 : (List Int) × (Int × Int)) (s : (List Bool) × Int) : Option (Bool) := Go.L.run (law4_SuffixArrayIsSorted_bl2 a0 x1 x5) s
noncomputable def law4_SuffixArrayIsSorted (a0 : List UInt8) : Option (Bool) :=
  Option.bind (suffix_Array a0) (fun x1 => Option.bind (suffix_Common a0) (fun x5 => Option.bind (law4_sorts) (fun x9 => if !x9 then Option.bind (law4_sorts) (fun x13 => if x13 then Go.L.chk (Go.L.I64 ((x1.1.length : Int) + (x5.1.length : Int))) (some (decide (((x1.1.length : Int) + (x5.1.length : Int)) = (0 : Int)))) else some (false)) else if x1.2.1 = (0 : Int) then if x5.2.1 = (0 : Int) then (if (x1.1.length : Int) = (a0.length : Int) then if (x5.1.length : Int) = (a0.length : Int) then Go.L.chk (0 ≤ (a0.length : Int) ∧ ((1 : Nat) : Int) * (a0.length : Int) ≤ 281474976710656 ∧ (a0.length : Int) ≤ 9223372036854775807) ((law4_SuffixArrayIsSorted_l2 a0 x1 x5) ((List.replicate (a0.length : Int).toNat (false : Bool)), (0 : Int))) else some (false) else some (false)) else Option.bind (law4_sorts) (fun x31 => if x31 then Go.L.chk (Go.L.I64 ((x1.1.length : Int) + (x5.1.length : Int))) (some (decide (((x1.1.length : Int) + (x5.1.length : Int)) = (0 : Int)))) else some (false)) else Option.bind (law4_sorts) (fun x22 => if x22 then Go.L.chk (Go.L.I64 ((x1.1.length : Int) + (x5.1.length : Int))) (some (decide (((x1.1.length : Int) + (x5.1.length : Int)) = (0 : Int)))) else some (false)))))

set_option maxRecDepth 10000 in
theorem law4_SuffixArrayIsSorted_ok (w : World) (H : PH) (hH : Le H (hp w)) {a0 : List UInt8} {v0_0 : Value} (h0_0 : Vec .byte H v0_0 (a0)) {r : Bool} (h : law4_SuffixArrayIsSorted a0 = some r) :
    Ok Try.prog 4 [v0_0] w (fun v w' => Ext w w' ∧ v = .bool r) := by
  refine Ok_enter (n := 119) [(0, v0_0)] Try.func4 rfl rfl rfl rfl rfl ?_
  have hL := Lcl.start w
  refine W_seqr ?_
  refine S_pu 1 rfl ?_
  refine S_seqnil ?_
  refine W_seqr ?_
  refine S_pu 1 rfl ?_
  obtain ⟨x1, hb1, h⟩ := Go.L.bind_some h
  refine S_callL rfl rfl hL (suffix_Array_ok _ _ (gz_le hH hL) (h0_0.mono (gz_left hH)) hb1) ?_
  rintro _ w2 ⟨u2_0, rfl, hR2_0⟩ hx2 hL2 hle2
  have hv2_0 := hR2_0.vecG hH hL hx2
  refine S_pu 3 rfl ?_
  refine S_alloc zr25 rfl rfl hL2 ?_
  intro w3 b3 hL3 hle3 _
  replace hv2_0 := hv2_0.mono (gz_mono hH hle3)
  refine S_pu 1 rfl ?_
  refine S_storeBN 0 rfl rfl rfl zr25 hL3 rfl rfl (onc rfl (onc rfl on0)) ?_
  intro w4 hL4 hle4
  replace hv2_0 := hv2_0.mono (gz_mono hH hle4)
  refine S_seqnil ?_
  refine W_seqr ?_
  refine S_pu 1 rfl ?_
  obtain ⟨x5, hb5, h⟩ := Go.L.bind_some h
  refine S_callL rfl rfl hL4 (suffix_Common_ok _ _ (gz_le hH hL4) (h0_0.mono (gz_left hH)) hb5) ?_
  rintro _ w6 ⟨u6_0, rfl, hR6_0⟩ hx6 hL6 hle6
  have hv6_0 := hR6_0.vecG hH hL4 hx6
  replace hv2_0 := hv2_0.mono (gz_mono hH hle6)
  refine S_pu 3 rfl ?_
  refine S_alloc zr25 rfl rfl hL6 ?_
  intro w7 b7 hL7 hle7 _
  replace hv2_0 := hv2_0.mono (gz_mono hH hle7)
  replace hv6_0 := hv6_0.mono (gz_mono hH hle7)
  refine S_pu 1 rfl ?_
  refine S_storeBN 0 rfl rfl rfl zr25 hL7 rfl rfl (onc rfl (onc rfl on0)) ?_
  intro w8 hL8 hle8
  replace hv2_0 := hv2_0.mono (gz_mono hH hle8)
  replace hv6_0 := hv6_0.mono (gz_mono hH hle8)
  refine S_seqnil ?_
  refine W_seq ?_
  refine W_seqr ?_
  obtain ⟨x9, hb9, h⟩ := Go.L.bind_some h
  refine S_callL rfl rfl hL8 (law4_sorts_ok _ _ (gz_le hH hL8) hb9) ?_
  rintro _ w10 rfl hx10 hL10 hle10
  replace hv2_0 := hv2_0.mono (gz_mono hH hle10)
  replace hv6_0 := hv6_0.mono (gz_mono hH hle10)
  refine S_pu 2 rfl ?_
  refine S_split (s := 21) rfl (fun hg11 => ?_) (fun hg11 => ?_)
  · replace h := Go.L.ite_t hg11 h
    refine S_unwanted rfl rfl hg11 rfl ?_
    refine S_unwanted rfl rfl hg11 rfl ?_
    refine S_unwanted rfl rfl hg11 rfl ?_
    refine S_v (r_pickT rfl hg11 rfl) rfl ?_
    refine S_pu 1 rfl ?_
    refine S_unwanted rfl rfl rfl rfl ?_
    refine S_unwanted rfl rfl rfl rfl ?_
    refine S_unwanted rfl rfl rfl rfl ?_
    refine S_v (r_pickT rfl rfl rfl) rfl ?_
    refine S_seqnil ?_
    refine W_true rfl ?_
    refine W_seqr ?_
    obtain ⟨x13, hb13, h⟩ := Go.L.bind_some h
    refine S_callL rfl rfl hL10 (law4_sorts_ok _ _ (gz_le hH hL10) hb13) ?_
    rintro _ w14 rfl hx14 hL14 hle14
    replace hv2_0 := hv2_0.mono (gz_mono hH hle14)
    replace hv6_0 := hv6_0.mono (gz_mono hH hle14)
    refine S_pu 1 rfl ?_
    refine S_split (s := 32) rfl (fun hg15 => ?_) (fun hg15 => ?_)
    · replace h := Go.L.ite_t hg15 h
      refine S_guarded rfl rfl hg15 ?_
      refine S_v (RunsAt_pu rfl) rfl ?_
      refine S_guarded rfl rfl hg15 ?_
      refine S_v (r_len rfl Try.underlying23 hv2_0) rfl ?_
      refine S_guarded rfl rfl hg15 ?_
      refine S_v (RunsAt_pu rfl) rfl ?_
      refine S_guarded rfl rfl hg15 ?_
      refine S_v (r_len rfl Try.underlying23 hv6_0) rfl ?_
      refine S_guarded rfl rfl hg15 ?_
      obtain ⟨hk17, h⟩ := Go.L.chk_some h
      refine S_v (r_ar64 rfl rfl rfl hk17) rfl ?_
      refine S_guarded rfl rfl hg15 ?_
      refine S_v (RunsAt_pu rfl) rfl ?_
      refine S_v (r_pickT rfl hg15 rfl) rfl ?_
      refine S_pu 1 rfl ?_
      refine S_seqnil ?_
      refine W_ret ?_
      refine At_seq_ret ?_
      obtain rfl := Option.some.inj h
      refine At_body rfl rfl ?_
      exact ⟨hL14.ext, rfl⟩
    · replace h := Go.L.ite_f hg15 h
      refine S_unwanted rfl rfl hg15 rfl ?_
      refine S_unwanted rfl rfl hg15 rfl ?_
      refine S_unwanted rfl rfl hg15 rfl ?_
      refine S_unwanted rfl rfl hg15 rfl ?_
      refine S_unwanted rfl rfl hg15 rfl ?_
      refine S_unwanted rfl rfl hg15 rfl ?_
      refine S_v (r_pickF rfl hg15 rfl) rfl ?_
      refine S_pu 1 rfl ?_
      refine S_seqnil ?_
      refine W_ret ?_
      refine At_seq_ret ?_
      obtain rfl := Option.some.inj h
      refine At_body rfl rfl ?_
      exact ⟨hL14.ext, rfl⟩
  · replace h := Go.L.ite_f hg11 h
    refine S_guarded rfl rfl hg11 ?_
    refine S_v (r_field rfl Try.underlying25 rfl zr3 (by decide)) rfl ?_
    refine S_guarded rfl rfl hg11 ?_
    refine S_v (r_loadB1 1 rfl Try.underlying3 rfl hL10 rfl rfl) rfl ?_
    refine S_guarded rfl rfl hg11 ?_
    refine S_v (RunsAt_pu rfl) rfl ?_
    refine S_v (r_pickF rfl hg11 rfl) rfl ?_
    refine S_pu 1 rfl ?_
    refine S_split (s := 26) rfl (fun hg20 => ?_) (fun hg20 => ?_)
    · replace h := Go.L.ite_n (not_dec_t hg20) h
      refine S_unwanted rfl rfl hg20 rfl ?_
      refine S_unwanted rfl rfl hg20 rfl ?_
      refine S_unwanted rfl rfl hg20 rfl ?_
      refine S_v (r_pickT rfl hg20 rfl) rfl ?_
      refine S_seqnil ?_
      refine W_true rfl ?_
      refine W_seqr ?_
      obtain ⟨x22, hb22, h⟩ := Go.L.bind_some h
      refine S_callL rfl rfl hL10 (law4_sorts_ok _ _ (gz_le hH hL10) hb22) ?_
      rintro _ w23 rfl hx23 hL23 hle23
      replace hv2_0 := hv2_0.mono (gz_mono hH hle23)
      replace hv6_0 := hv6_0.mono (gz_mono hH hle23)
      refine S_pu 1 rfl ?_
      refine S_split (s := 32) rfl (fun hg24 => ?_) (fun hg24 => ?_)
      · replace h := Go.L.ite_t hg24 h
        refine S_guarded rfl rfl hg24 ?_
        refine S_v (RunsAt_pu rfl) rfl ?_
        refine S_guarded rfl rfl hg24 ?_
        refine S_v (r_len rfl Try.underlying23 hv2_0) rfl ?_
        refine S_guarded rfl rfl hg24 ?_
        refine S_v (RunsAt_pu rfl) rfl ?_
        refine S_guarded rfl rfl hg24 ?_
        refine S_v (r_len rfl Try.underlying23 hv6_0) rfl ?_
        refine S_guarded rfl rfl hg24 ?_
        obtain ⟨hk26, h⟩ := Go.L.chk_some h
        refine S_v (r_ar64 rfl rfl rfl hk26) rfl ?_
        refine S_guarded rfl rfl hg24 ?_
        refine S_v (RunsAt_pu rfl) rfl ?_
        refine S_v (r_pickT rfl hg24 rfl) rfl ?_
        refine S_pu 1 rfl ?_
        refine S_seqnil ?_
        refine W_ret ?_
        refine At_seq_ret ?_
        obtain rfl := Option.some.inj h
        refine At_body rfl rfl ?_
        exact ⟨hL23.ext, rfl⟩
      · replace h := Go.L.ite_f hg24 h
        refine S_unwanted rfl rfl hg24 rfl ?_
        refine S_unwanted rfl rfl hg24 rfl ?_
        refine S_unwanted rfl rfl hg24 rfl ?_
        refine S_unwanted rfl rfl hg24 rfl ?_
        refine S_unwanted rfl rfl hg24 rfl ?_
        refine S_unwanted rfl rfl hg24 rfl ?_
        refine S_v (r_pickF rfl hg24 rfl) rfl ?_
        refine S_pu 1 rfl ?_
        refine S_seqnil ?_
        refine W_ret ?_
        refine At_seq_ret ?_
        obtain rfl := Option.some.inj h
        refine At_body rfl rfl ?_
        exact ⟨hL23.ext, rfl⟩
    · replace h := Go.L.ite_p (not_dec_f hg20) h
      refine S_guarded rfl rfl hg20 ?_
      refine S_v (r_field rfl Try.underlying25 rfl zr3 (by decide)) rfl ?_
      refine S_guarded rfl rfl hg20 ?_
      refine S_v (r_loadB1 0 rfl Try.underlying3 rfl hL10 rfl rfl) rfl ?_
      refine S_guarded rfl rfl hg20 ?_
      refine S_v (RunsAt_pu rfl) rfl ?_
      refine S_v (r_pickF rfl hg20 rfl) rfl ?_
      refine S_seqnil ?_
      refine W_ifn rfl (fun hc29 => ?_) (fun hc29 => ?_)
      · replace h := Go.L.ite_n hc29 h
        refine W_seqr ?_
        obtain ⟨x31, hb31, h⟩ := Go.L.bind_some h
        refine S_callL rfl rfl hL10 (law4_sorts_ok _ _ (gz_le hH hL10) hb31) ?_
        rintro _ w32 rfl hx32 hL32 hle32
        replace hv2_0 := hv2_0.mono (gz_mono hH hle32)
        replace hv6_0 := hv6_0.mono (gz_mono hH hle32)
        refine S_pu 1 rfl ?_
        refine S_split (s := 32) rfl (fun hg33 => ?_) (fun hg33 => ?_)
        · replace h := Go.L.ite_t hg33 h
          refine S_guarded rfl rfl hg33 ?_
          refine S_v (RunsAt_pu rfl) rfl ?_
          refine S_guarded rfl rfl hg33 ?_
          refine S_v (r_len rfl Try.underlying23 hv2_0) rfl ?_
          refine S_guarded rfl rfl hg33 ?_
          refine S_v (RunsAt_pu rfl) rfl ?_
          refine S_guarded rfl rfl hg33 ?_
          refine S_v (r_len rfl Try.underlying23 hv6_0) rfl ?_
          refine S_guarded rfl rfl hg33 ?_
          obtain ⟨hk35, h⟩ := Go.L.chk_some h
          refine S_v (r_ar64 rfl rfl rfl hk35) rfl ?_
          refine S_guarded rfl rfl hg33 ?_
          refine S_v (RunsAt_pu rfl) rfl ?_
          refine S_v (r_pickT rfl hg33 rfl) rfl ?_
          refine S_pu 1 rfl ?_
          refine S_seqnil ?_
          refine W_ret ?_
          refine At_seq_ret ?_
          obtain rfl := Option.some.inj h
          refine At_body rfl rfl ?_
          exact ⟨hL32.ext, rfl⟩
        · replace h := Go.L.ite_f hg33 h
          refine S_unwanted rfl rfl hg33 rfl ?_
          refine S_unwanted rfl rfl hg33 rfl ?_
          refine S_unwanted rfl rfl hg33 rfl ?_
          refine S_unwanted rfl rfl hg33 rfl ?_
          refine S_unwanted rfl rfl hg33 rfl ?_
          refine S_unwanted rfl rfl hg33 rfl ?_
          refine S_v (r_pickF rfl hg33 rfl) rfl ?_
          refine S_pu 1 rfl ?_
          refine S_seqnil ?_
          refine W_ret ?_
          refine At_seq_ret ?_
          obtain rfl := Option.some.inj h
          refine At_body rfl rfl ?_
          exact ⟨hL32.ext, rfl⟩
      · replace h := Go.L.ite_p hc29 h
        refine W_skip ?_
        refine At_seq ?_
        refine W_seq ?_
        refine W_seqr ?_
        refine S_pu 1 rfl ?_
        refine S_v (r_len rfl Try.underlying23 hv2_0) rfl ?_
        refine S_pu 1 rfl ?_
        refine S_v (r_len rfl Try.underlying22 h0_0) rfl ?_
        refine S_pu 2 rfl ?_
        refine S_split (s := 45) rfl (fun hg38 => ?_) (fun hg38 => ?_)
        · replace h := Go.L.ite_n (not_dec_t hg38) h
          refine S_unwanted rfl rfl hg38 rfl ?_
          refine S_unwanted rfl rfl hg38 rfl ?_
          refine S_unwanted rfl rfl hg38 rfl ?_
          refine S_unwanted rfl rfl hg38 rfl ?_
          refine S_unwanted rfl rfl hg38 rfl ?_
          refine S_v (r_pickT rfl hg38 rfl) rfl ?_
          refine S_seqnil ?_
          refine W_true rfl ?_
          refine W_seqr ?_
          refine S_pu 1 rfl ?_
          refine S_seqnil ?_
          refine W_ret ?_
          refine At_seq_ret ?_
          obtain rfl := Option.some.inj h
          refine At_body rfl rfl ?_
          exact ⟨hL10.ext, rfl⟩
        · replace h := Go.L.ite_p (not_dec_f hg38) h
          refine S_guarded rfl rfl hg38 ?_
          refine S_v (RunsAt_pu rfl) rfl ?_
          refine S_guarded rfl rfl hg38 ?_
          refine S_v (r_len rfl Try.underlying23 hv6_0) rfl ?_
          refine S_guarded rfl rfl hg38 ?_
          refine S_v (RunsAt_pu rfl) rfl ?_
          refine S_guarded rfl rfl hg38 ?_
          refine S_v (r_len rfl Try.underlying22 h0_0) rfl ?_
          refine S_guarded rfl rfl hg38 ?_
          refine S_v (RunsAt_pu rfl) rfl ?_
          refine S_v (r_pickF rfl hg38 rfl) rfl ?_
          refine S_seqnil ?_
          refine W_ifn rfl (fun hc41 => ?_) (fun hc41 => ?_)
          · replace h := Go.L.ite_n hc41 h
            refine W_seqr ?_
            refine S_pu 1 rfl ?_
            refine S_seqnil ?_
            refine W_ret ?_
            refine At_seq_ret ?_
            obtain rfl := Option.some.inj h
            refine At_body rfl rfl ?_
            exact ⟨hL10.ext, rfl⟩
          · replace h := Go.L.ite_p hc41 h
            refine W_skip ?_
            refine At_seq ?_
            refine W_seqr ?_
            refine S_pu 1 rfl ?_
            refine S_v (r_len rfl Try.underlying22 h0_0) rfl ?_
            obtain ⟨hk45, h⟩ := Go.L.chk_some h
            refine S_makeE (r := .bool) (z := (false : Bool)) rfl rfl rfl Try.underlying34 zr4 rfl (fun _ => rfl) rfl hH hL10 hk45 ?_
            intro v44 w44 xs44 hL44 hle44 he44
            replace hv2_0 := hv2_0.mono (gz_mono hH hle44)
            replace hv6_0 := hv6_0.mono (gz_mono hH hle44)
            refine S_pu 1 rfl ?_
            refine S_seqnil ?_
            refine W_cut (σ := (List Bool) × (List Value)) (fun (⟨l107, xsl107⟩ : (List Bool) × (List Value)) => []) (fun (⟨l107, xsl107⟩ : (List Bool) × (List Value)) wr => Lcl w [.row (v44) 4 1 (l107).length (xsl107), .box b7 [.int .i64 x5.2.1, .int .i64 x5.2.2] 25, .box b3 [.int .i64 x1.2.1, .int .i64 x1.2.2] 25] wr ∧ Elems .bool (gz H w wr [.row (v44) 4 1 (l107).length (xsl107), .box b7 [.int .i64 x5.2.1, .int .i64 x5.2.2] 25, .box b3 [.int .i64 x1.2.1, .int .i64 x1.2.2] 25]) (l107) (xsl107) ∧ law4_SuffixArrayIsSorted_k1 l107 = some r) ?_ ?_
            · refine W_seqr ?_
              refine S_pu 1 rfl ?_
              refine S_seqnil ?_
              refine W_block ?_
              obtain ⟨n171, h⟩ := Go.L.run_some h
              refine W_loop (σ := (List Bool) × Int × (List Value) × Nat) (fun (⟨l169, s8_170, xsl169, n⟩ : (List Bool) × Int × (List Value) × Nat) => [(0, v0_0), (3, u2_0), (5, u6_0), (7, v44), (8, .int .i64 s8_170)]) (fun (⟨l169, s8_170, xsl169, n⟩ : (List Bool) × Int × (List Value) × Nat) wr => Lcl w [.row (v44) 4 1 (l169).length (xsl169), .box b7 [.int .i64 x5.2.1, .int .i64 x5.2.2] 25, .box b3 [.int .i64 x1.2.1, .int .i64 x1.2.2] 25] wr ∧ Vec (.int .i64) (gz H w wr [.row (v44) 4 1 (l169).length (xsl169), .box b7 [.int .i64 x5.2.1, .int .i64 x5.2.2] 25, .box b3 [.int .i64 x1.2.1, .int .i64 x1.2.2] 25]) (u2_0) (x1.1) ∧ Vec (.int .i64) (gz H w wr [.row (v44) 4 1 (l169).length (xsl169), .box b7 [.int .i64 x5.2.1, .int .i64 x5.2.2] 25, .box b3 [.int .i64 x1.2.1, .int .i64 x1.2.2] 25]) (u6_0) (x5.1) ∧ Elems .bool (gz H w wr [.row (v44) 4 1 (l169).length (xsl169), .box b7 [.int .i64 x5.2.1, .int .i64 x5.2.2] 25, .box b3 [.int .i64 x1.2.1, .int .i64 x1.2.2] 25]) (l169) (xsl169) ∧ Go.L.itr (law4_SuffixArrayIsSorted_bl2 a0 x1 x5) n (l169, s8_170) = some r) (fun (⟨l169, s8_170, xsl169, n⟩ : (List Bool) × Int × (List Value) × Nat) => n) ((List.replicate (a0.length : Int).toNat (false : Bool)), (0 : Int), xs44, n171) (.cons rfl (.cons rfl (.cons rfl (.cons rfl (.cons rfl (Sub.nil _)))))) ⟨hL44, hv2_0, hv6_0, he44, h⟩ ?_
              rintro ⟨l169, s8_170, xsl169, nn171⟩ wr171 ⟨hL171, hf171_0, hf171_1, hel169, h⟩
              obtain ⟨n171, e171, rfl, h, hm171⟩ := Go.L.itr_some h
              refine W_seq ?_
              refine W_seqr ?_
              refine S_pu 2 rfl ?_
              refine S_v (r_len rfl Try.underlying23 hf171_0) rfl ?_
              refine S_pu 1 rfl ?_
              refine S_seqnil ?_
              refine W_if rfl (fun hc173 => ?_) (fun hc173 => ?_)
              · replace h := Go.L.ite_p hc173 h
                refine W_skip ?_
                refine At_seq ?_
                refine W_seq ?_
                refine W_block ?_
                refine W_seq ?_
                refine W_seqr ?_
                refine S_pu 2 rfl ?_
                obtain ⟨hk176, h⟩ := Go.L.chk_some h
                refine S_index rfl rfl Try.underlying23 zr3 hf171_0 s8_170.toNat (Int.toNat_of_nonneg hk176.1).symm (idx_lt hk176) rfl ?_
                rintro p175 _ rfl hp175
                refine S_v (r_load1 rfl Try.underlying3 rfl hp175 (gz_le hH hL171)) rfl ?_
                refine S_pu 1 rfl ?_
                refine S_v (r_len rfl Try.underlying22 h0_0) rfl ?_
                obtain ⟨hk177, h⟩ := Go.L.chk_some h
                refine S_v (r_ar64 rfl rfl rfl hk177) rfl ?_
                obtain ⟨x178, hb178, h⟩ := Go.L.bind_some h
                refine S_callL rfl rfl hL171 (ref3_In_ok _ _ (gz_le hH hL171) hb178) ?_
                rintro _ w179 rfl hx179 hL179 hle179
                replace hf171_0 := hf171_0.mono (gz_mono hH hle179)
                replace hf171_1 := hf171_1.mono (gz_mono hH hle179)
                replace hel169 := hel169.mono (gz_mono hH hle179)
                replace hp175 := hp175.mono (gz_mono hH hle179)
                refine S_pu 2 rfl ?_
                refine S_split (s := 70) rfl (fun hg180 => ?_) (fun hg180 => ?_)
                · replace h := Go.L.ite_t hg180 h
                  refine S_unwanted rfl rfl hg180 rfl ?_
                  refine S_unwanted rfl rfl hg180 rfl ?_
                  refine S_unwanted rfl rfl hg180 rfl ?_
                  refine S_unwanted rfl rfl hg180 rfl ?_
                  refine S_unwanted rfl rfl hg180 rfl ?_
                  refine S_unwanted rfl rfl hg180 rfl ?_
                  refine S_unwanted rfl rfl hg180 rfl ?_
                  refine S_v (r_pickT rfl hg180 rfl) rfl ?_
                  refine S_seqnil ?_
                  refine W_true rfl ?_
                  refine W_seqr ?_
                  refine S_pu 1 rfl ?_
                  refine S_seqnil ?_
                  refine W_ret ?_
                  refine At_seq_ret ?_
                  refine At_block_ret ?_
                  refine At_seq_ret ?_
                  refine At_loop_ret ?_
                  replace h := Go.L.Nxt.out h hm171
                  refine At_block_ret ?_
                  refine At_cut_ret ?_
                  obtain rfl := Option.some.inj h
                  refine At_body rfl rfl ?_
                  exact ⟨hL179.ext, rfl⟩
                · replace h := Go.L.ite_f hg180 h
                  refine S_guarded rfl rfl hg180 ?_
                  refine S_v (RunsAt_pu rfl) rfl ?_
                  refine S_guarded rfl rfl hg180 ?_
                  refine S_v (RunsAt_pu rfl) rfl ?_
                  refine S_guarded rfl rfl hg180 ?_
                  refine S_v (RunsAt_pu rfl) rfl ?_
                  refine S_guarded rfl rfl hg180 ?_
                  obtain ⟨hk184, h⟩ := Go.L.chk_some h
                  refine S_index rfl rfl Try.underlying23 zr3 hf171_0 s8_170.toNat (Int.toNat_of_nonneg hk184.1).symm (idx_lt hk184) rfl ?_
                  rintro p183 _ rfl hp183
                  refine S_guarded rfl rfl hg180 ?_
                  refine S_v (r_load1 rfl Try.underlying3 rfl hp183 (gz_le hH hL179)) rfl ?_
                  refine S_guarded rfl rfl hg180 ?_
                  obtain ⟨hk186, h⟩ := Go.L.chk_some h
                  refine S_index rfl rfl Try.underlying34 zr4 (hL179.vecN hH (i := 0) rfl hel169) ((x1.1.getD s8_170.toNat default).toNat) (Int.toNat_of_nonneg hk186.1).symm (idx_lt hk186) rfl ?_
                  rintro p185 _ rfl hp185
                  refine S_guarded rfl rfl hg180 ?_
                  refine S_v (r_load1 rfl Try.underlying4 rfl hp185 (Le.refl _)) rfl ?_
                  refine S_v (r_pickF rfl hg180 rfl) rfl ?_
                  refine S_seqnil ?_
                  refine W_cond rfl (fun hc187 => ?_) (fun hc187 => ?_)
                  · replace h := Go.L.ite_t hc187 h
                    refine W_seqr ?_
                    refine S_pu 1 rfl ?_
                    refine S_seqnil ?_
                    refine W_ret ?_
                    refine At_seq_ret ?_
                    refine At_block_ret ?_
                    refine At_seq_ret ?_
                    refine At_loop_ret ?_
                    replace h := Go.L.Nxt.out h hm171
                    refine At_block_ret ?_
                    refine At_cut_ret ?_
                    obtain rfl := Option.some.inj h
                    refine At_body rfl rfl ?_
                    exact ⟨hL179.ext, rfl⟩
                  · replace h := Go.L.ite_f hc187 h
                    refine W_skip ?_
                    refine At_seq ?_
                    refine W_seqr ?_
                    refine S_pu 3 rfl ?_
                    obtain ⟨hk191, h⟩ := Go.L.chk_some h
                    refine S_index rfl rfl Try.underlying23 zr3 hf171_0 s8_170.toNat (Int.toNat_of_nonneg hk191.1).symm (idx_lt hk191) rfl ?_
                    rintro p190 _ rfl hp190
                    refine S_v (r_load1 rfl Try.underlying3 rfl hp190 (gz_le hH hL179)) rfl ?_
                    obtain ⟨hk193, h⟩ := Go.L.chk_some h
                    refine S_indexR 0 rfl rfl Try.underlying34 zr4 hL179 rfl ((x1.1.getD s8_170.toNat default).toNat) (Int.toNat_of_nonneg hk193.1).symm (idx_lt hk193) rfl ?_
                    intro p192 hp192
                    refine S_storeE (z := true) (j := (x1.1.getD s8_170.toNat default).toNat) 0 rfl rfl rfl zr4 hH hL179 rfl hel169 hp192 rfl (idx_lt hk193) rfl ?_
                    intro w194 xs194 hL194 hle194 he194
                    replace hf171_0 := hf171_0.mono (gz_mono hH hle194)
                    replace hf171_1 := hf171_1.mono (gz_mono hH hle194)
                    replace hp190 := hp190.mono (gz_mono hH hle194)
                    refine S_seqnil ?_
                    refine W_seqd (.q 0 (.q 1 (.q 2 (.q 3 (.q 4 (.q 5 (.q 6 (.q 7 (.q 8 (.q 9 (.q 10 (.q 11 (.q 12 (.q 13 (.q 14 (.q 15 (.q 16 (.q 17 (.q 18 (.q 19 (.q 20 (.q 21 (.q 22 (.q 23 (.q 24 (.q 25 (.q 26 (.q 27 (.q 28 (.q 29 (.q 30 (.q 31 (.q 32 (.q 33 (.tail 34))))))))))))))))))))))))))))))))))) mixed (by kernel_rfl) (fun w195 hx195 => ?_)
                    have hL196 := hL194.call hx195
                    have hle196 := fz_ext hL194 hx195
                    replace hf171_0 := hf171_0.mono (gz_mono hH hle196)
                    replace hf171_1 := hf171_1.mono (gz_mono hH hle196)
                    replace he194 := he194.mono (gz_mono hH hle196)
                    refine D_pu 3 rfl ?_
                    refine D_split (s := 87) rfl (fun hg197 => ?_) (fun hg197 => ?_)
                    · replace h := Go.L.ite_p (of_decide_eq_true hg197) h
                      refine D_vg (RunsAt_pu rfl) rfl rfl rfl rfl hg197 rfl ?_
                      refine D_vg (RunsAt_pu rfl) rfl rfl rfl rfl hg197 rfl ?_
                      refine D_vg (RunsAt_pu rfl) rfl rfl rfl rfl hg197 rfl ?_
                      obtain ⟨hk199, h⟩ := Go.L.chk_some h
                      refine D_vg (r_ar64 rfl rfl rfl hk199) rfl rfl rfl rfl hg197 rfl ?_
                      obtain ⟨hk201, h⟩ := Go.L.chk_some h
                      refine D_indexg rfl rfl rfl rfl hg197 rfl rfl Try.underlying23 zr3 hf171_0 ((s8_170 - (1 : Int)).toNat) (Int.toNat_of_nonneg hk201.1).symm (idx_lt hk201) rfl ?_
                      rintro p200 _ rfl hp200
                      refine D_vg (r_load1 rfl Try.underlying3 rfl hp200 (gz_le hH hL196)) rfl rfl rfl rfl hg197 rfl ?_
                      refine D_vg (RunsAt_pu rfl) rfl rfl rfl rfl hg197 rfl ?_
                      refine D_vg (RunsAt_pu rfl) rfl rfl rfl rfl hg197 rfl ?_
                      obtain ⟨hk203, h⟩ := Go.L.chk_some h
                      refine D_indexg rfl rfl rfl rfl hg197 rfl rfl Try.underlying23 zr3 hf171_0 s8_170.toNat (Int.toNat_of_nonneg hk203.1).symm (idx_lt hk203) rfl ?_
                      rintro p202 _ rfl hp202
                      refine D_vg (r_load1 rfl Try.underlying3 rfl hp202 (gz_le hH hL196)) rfl rfl rfl rfl hg197 rfl ?_
                      obtain ⟨x204, hb204, h⟩ := Go.L.bind_some h
                      refine D_callg rfl rfl rfl rfl hg197 rfl rfl (fun w205 hx205 => ref4_Less_ok _ _ (Le.refl _) ((h0_0.mono (hH.trans hL196.arg)).mono hx205.le) hb204) ?_
                      refine D_vg (RunsAt_pu rfl) rfl rfl rfl rfl hg197 rfl ?_
                      refine D_vg (RunsAt_pu rfl) rfl rfl rfl rfl hg197 rfl ?_
                      refine D_split (s := 100) rfl (fun hg206 => ?_) (fun hg206 => ?_)
                      · replace h := Go.L.ite_t hg206 h
                        refine D_no rfl rfl rfl rfl hg206 rfl ?_
                        refine D_no rfl rfl rfl rfl hg206 rfl ?_
                        refine D_no rfl rfl rfl rfl hg206 rfl ?_
                        refine D_no rfl rfl rfl rfl hg206 rfl ?_
                        refine D_no rfl rfl rfl rfl hg206 rfl ?_
                        refine D_no rfl rfl rfl rfl hg206 rfl ?_
                        refine D_no rfl rfl rfl rfl hg206 rfl ?_
                        refine D_no rfl rfl rfl rfl hg206 rfl ?_
                        refine D_no rfl rfl rfl rfl hg206 rfl ?_
                        refine D_no rfl rfl rfl rfl hg206 rfl ?_
                        refine D_no rfl rfl rfl rfl hg206 rfl ?_
                        refine D_no rfl rfl rfl rfl hg206 rfl ?_
                        refine D_no rfl rfl rfl rfl hg206 rfl ?_
                        refine D_no rfl rfl rfl rfl hg206 rfl ?_
                        refine D_no rfl rfl rfl rfl hg206 rfl ?_
                        refine D_no rfl rfl rfl rfl hg206 rfl ?_
                        refine D_vg (r_pickT rfl hg206 rfl) rfl rfl rfl rfl hg197 rfl ?_
                        refine D_v (r_pickT rfl hg197 rfl) rfl rfl ?_
                        refine D_tail (fun w208 hx208 => ?_)
                        have hL209 := hL196.call hx208
                        have hle209 := fz_ext hL196 hx208
                        replace hf171_0 := hf171_0.mono (gz_mono hH hle209)
                        replace hf171_1 := hf171_1.mono (gz_mono hH hle209)
                        replace he194 := he194.mono (gz_mono hH hle209)
                        replace hp200 := hp200.mono (gz_mono hH hle209)
                        replace hp202 := hp202.mono (gz_mono hH hle209)
                        refine S_seqnil ?_
                        refine W_true rfl ?_
                        refine W_seqr ?_
                        refine S_pu 1 rfl ?_
                        refine S_seqnil ?_
                        refine W_ret ?_
                        refine At_block_ret ?_
                        refine At_seq_ret ?_
                        refine At_loop_ret ?_
                        replace h := Go.L.Nxt.out h hm171
                        refine At_block_ret ?_
                        refine At_cut_ret ?_
                        obtain rfl := Option.some.inj h
                        refine At_body rfl rfl ?_
                        exact ⟨hL209.ext, rfl⟩
                      · replace h := Go.L.ite_f hg206 h
                        refine D_vg (RunsAt_pu rfl) rfl rfl rfl rfl hg206 rfl ?_
                        refine D_vg (RunsAt_pu rfl) rfl rfl rfl rfl hg206 rfl ?_
                        obtain ⟨hk212, h⟩ := Go.L.chk_some h
                        refine D_indexg rfl rfl rfl rfl hg206 rfl rfl Try.underlying23 zr3 hf171_1 s8_170.toNat (Int.toNat_of_nonneg hk212.1).symm (idx_lt hk212) rfl ?_
                        rintro p211 _ rfl hp211
                        refine D_vg (r_load1 rfl Try.underlying3 rfl hp211 (gz_le hH hL196)) rfl rfl rfl rfl hg206 rfl ?_
                        refine D_vg (RunsAt_pu rfl) rfl rfl rfl rfl hg206 rfl ?_
                        refine D_vg (RunsAt_pu rfl) rfl rfl rfl rfl hg206 rfl ?_
                        refine D_vg (RunsAt_pu rfl) rfl rfl rfl rfl hg206 rfl ?_
                        obtain ⟨hk213, h⟩ := Go.L.chk_some h
                        refine D_vg (r_ar64 rfl rfl rfl hk213) rfl rfl rfl rfl hg206 rfl ?_
                        obtain ⟨hk215, h⟩ := Go.L.chk_some h
                        refine D_indexg rfl rfl rfl rfl hg206 rfl rfl Try.underlying23 zr3 hf171_0 ((s8_170 - (1 : Int)).toNat) (Int.toNat_of_nonneg hk215.1).symm (idx_lt hk215) rfl ?_
                        rintro p214 _ rfl hp214
                        refine D_vg (r_load1 rfl Try.underlying3 rfl hp214 (gz_le hH hL196)) rfl rfl rfl rfl hg206 rfl ?_
                        refine D_vg (RunsAt_pu rfl) rfl rfl rfl rfl hg206 rfl ?_
                        refine D_vg (RunsAt_pu rfl) rfl rfl rfl rfl hg206 rfl ?_
                        obtain ⟨hk217, h⟩ := Go.L.chk_some h
                        refine D_indexg rfl rfl rfl rfl hg206 rfl rfl Try.underlying23 zr3 hf171_0 s8_170.toNat (Int.toNat_of_nonneg hk217.1).symm (idx_lt hk217) rfl ?_
                        rintro p216 _ rfl hp216
                        refine D_vg (r_load1 rfl Try.underlying3 rfl hp216 (gz_le hH hL196)) rfl rfl rfl rfl hg206 rfl ?_
                        obtain ⟨x218, hb218, h⟩ := Go.L.bind_some h
                        refine D_callg rfl rfl rfl rfl hg206 rfl rfl (fun w219 hx219 => ref4_Shared_ok _ _ (Le.refl _) ((h0_0.mono (hH.trans hL196.arg)).mono hx219.le) hb218) ?_
                        refine D_vg (RunsAt_pu rfl) rfl rfl rfl rfl hg206 rfl ?_
                        refine D_vg (r_pickF rfl hg206 rfl) rfl rfl rfl rfl hg197 rfl ?_
                        refine D_v (r_pickT rfl hg197 rfl) rfl rfl ?_
                        refine D_tail (fun w220 hx220 => ?_)
                        have hL221 := hL196.call hx220
                        have hle221 := fz_ext hL196 hx220
                        replace hf171_0 := hf171_0.mono (gz_mono hH hle221)
                        replace hf171_1 := hf171_1.mono (gz_mono hH hle221)
                        replace he194 := he194.mono (gz_mono hH hle221)
                        replace hp200 := hp200.mono (gz_mono hH hle221)
                        replace hp202 := hp202.mono (gz_mono hH hle221)
                        replace hp211 := hp211.mono (gz_mono hH hle221)
                        replace hp214 := hp214.mono (gz_mono hH hle221)
                        replace hp216 := hp216.mono (gz_mono hH hle221)
                        refine S_seqnil ?_
                        refine W_ifn rfl (fun hc222 => ?_) (fun hc222 => ?_)
                        · replace h := Go.L.ite_n hc222 h
                          refine W_seqr ?_
                          refine S_pu 1 rfl ?_
                          refine S_seqnil ?_
                          refine W_ret ?_
                          refine At_block_ret ?_
                          refine At_seq_ret ?_
                          refine At_loop_ret ?_
                          replace h := Go.L.Nxt.out h hm171
                          refine At_block_ret ?_
                          refine At_cut_ret ?_
                          obtain rfl := Option.some.inj h
                          refine At_body rfl rfl ?_
                          exact ⟨hL221.ext, rfl⟩
                        · replace h := Go.L.ite_p hc222 h
                          refine W_skip ?_
                          refine At_block ?_
                          refine At_seq ?_
                          refine W_region ?_
                          refine S_pu 1 rfl ?_
                          obtain ⟨hk225, h⟩ := Go.L.chk_some h
                          refine S_v (r_ar64 rfl rfl rfl hk225) rfl ?_
                          refine S_pu 1 rfl ?_
                          refine S_nil ?_
                          have h := Go.L.Nxt.again h hm171
                          refine At_round ((l169.set ((x1.1.getD s8_170.toNat default).toNat) true), (s8_170 + (1 : Int)), xs194, n171) (.cons rfl (.cons rfl (.cons rfl (.cons rfl (.cons rfl (Sub.nil _)))))) ⟨hL221, hf171_0, hf171_1, he194, h⟩ (Nat.lt_succ_self _)
                    · replace h := Go.L.ite_n (of_decide_eq_false hg197) h
                      refine D_no rfl rfl rfl rfl hg197 rfl ?_
                      refine D_no rfl rfl rfl rfl hg197 rfl ?_
                      refine D_no rfl rfl rfl rfl hg197 rfl ?_
                      refine D_no rfl rfl rfl rfl hg197 rfl ?_
                      refine D_no rfl rfl rfl rfl hg197 rfl ?_
                      refine D_no rfl rfl rfl rfl hg197 rfl ?_
                      refine D_no rfl rfl rfl rfl hg197 rfl ?_
                      refine D_no rfl rfl rfl rfl hg197 rfl ?_
                      refine D_no rfl rfl rfl rfl hg197 rfl ?_
                      refine D_no rfl rfl rfl rfl hg197 rfl ?_
                      refine D_no rfl rfl rfl rfl hg197 rfl ?_
                      refine D_no rfl rfl rfl rfl hg197 rfl ?_
                      refine D_no rfl rfl rfl rfl hg197 rfl ?_
                      refine D_no2 rfl rfl rfl rfl rfl ?_
                      refine D_no2 rfl rfl rfl rfl rfl ?_
                      refine D_no2 rfl rfl rfl rfl rfl ?_
                      refine D_no2 rfl rfl rfl rfl rfl ?_
                      refine D_no2 rfl rfl rfl rfl rfl ?_
                      refine D_no2 rfl rfl rfl rfl rfl ?_
                      refine D_no2 rfl rfl rfl rfl rfl ?_
                      refine D_no2 rfl rfl rfl rfl rfl ?_
                      refine D_no2 rfl rfl rfl rfl rfl ?_
                      refine D_no2 rfl rfl rfl rfl rfl ?_
                      refine D_no2 rfl rfl rfl rfl rfl ?_
                      refine D_no2 rfl rfl rfl rfl rfl ?_
                      refine D_no2 rfl rfl rfl rfl rfl ?_
                      refine D_no2 rfl rfl rfl rfl rfl ?_
                      refine D_no2 rfl rfl rfl rfl rfl ?_
                      refine D_no2 rfl rfl rfl rfl rfl ?_
                      refine D_no rfl rfl rfl rfl hg197 rfl ?_
                      refine D_v (r_pickF rfl hg197 rfl) rfl rfl ?_
                      refine D_tail (fun w227 hx227 => ?_)
                      have hL228 := hL196.call hx227
                      have hle228 := fz_ext hL196 hx227
                      replace hf171_0 := hf171_0.mono (gz_mono hH hle228)
                      replace hf171_1 := hf171_1.mono (gz_mono hH hle228)
                      replace he194 := he194.mono (gz_mono hH hle228)
                      refine S_seqnil ?_
                      refine W_false rfl ?_
                      refine W_skip ?_
                      refine At_block ?_
                      refine At_seq ?_
                      refine W_region ?_
                      refine S_pu 1 rfl ?_
                      obtain ⟨hk229, h⟩ := Go.L.chk_some h
                      refine S_v (r_ar64 rfl rfl rfl hk229) rfl ?_
                      refine S_pu 1 rfl ?_
                      refine S_nil ?_
                      have h := Go.L.Nxt.again h hm171
                      refine At_round ((l169.set ((x1.1.getD s8_170.toNat default).toNat) true), (s8_170 + (1 : Int)), xs194, n171) (.cons rfl (.cons rfl (.cons rfl (.cons rfl (.cons rfl (Sub.nil _)))))) ⟨hL228, hf171_0, hf171_1, he194, h⟩ (Nat.lt_succ_self _)
              · replace h := Go.L.ite_n hc173 h
                refine W_exit ?_
                refine At_seq_exit ?_
                refine At_loop_exit ?_
                replace h := Go.L.Nxt.out h hm171
                refine At_exit ?_
                refine At_cut (l169, xsl169) (Sub.nil _) ⟨hL171, hel169, h⟩
            · rintro ⟨l107, xsl107⟩ wr108 ⟨hL108, hel107, h⟩
              refine W_seqr ?_
              refine S_pu 1 rfl ?_
              refine S_seqnil ?_
              refine W_ret ?_
              obtain rfl := Option.some.inj h
              refine At_body rfl rfl ?_
              exact ⟨hL108.ext, rfl⟩

noncomputable def law4_SuffixFindMatchesSpec_k1 (a0 : List UInt8) (a1 : List UInt8) (x1 : Int × Int × (Int × Int)) (c19 : Int) (c20 : Int) : Option (Bool) :=
  Option.bind (law4_sorts) (fun x33 => if !x33 then Option.bind (law4_sorts) (fun x37 => if x37 then some (decide (((x1.2.2.1 = c19 ∧ x1.2.2.2 = c20) ∧ (x1.1 = (0 : Int))) ∧ (x1.2.1 = (0 : Int)))) else some (false)) else if x1.2.2.1 = c19 ∧ x1.2.2.2 = c20 then if c19 = (0 : Int) then Option.bind (ref4_Range a0 a1) (fun x59 => some (decide ((x1.1 = x59.1) ∧ (x1.2.1 = x59.2)))) else Option.bind (law4_sorts) (fun x53 => if x53 then some (decide (((x1.2.2.1 = c19 ∧ x1.2.2.2 = c20) ∧ (x1.1 = (0 : Int))) ∧ (x1.2.1 = (0 : Int)))) else some (false)) else Option.bind (law4_sorts) (fun x45 => if x45 then some (decide (((x1.2.2.1 = c19 ∧ x1.2.2.2 = c20) ∧ (x1.1 = (0 : Int))) ∧ (x1.2.1 = (0 : Int)))) else some (false)))
noncomputable def law4_SuffixFindMatchesSpec (a0 : List UInt8) (a1 : List UInt8) : Option (Bool) :=
  Option.bind (suffix_Find a0 a1) (fun x1 => Option.bind (law4_textFault a0) (fun x5 => if x5.1 = (0 : Int) then if (2048 : Int) < (a1.length : Int) then Option.bind (ref3_At (3 : Int) (-2 : Int)) (fun x27 => (law4_SuffixFindMatchesSpec_k1 a0 a1 x1) x27.1 x27.2) else (law4_SuffixFindMatchesSpec_k1 a0 a1 x1) x5.1 x5.2 else (law4_SuffixFindMatchesSpec_k1 a0 a1 x1) x5.1 x5.2))

set_option maxRecDepth 10000 in
theorem law4_SuffixFindMatchesSpec_ok (w : World) (H : PH) (hH : Le H (hp w)) {a0 : List UInt8} {a1 : List UInt8} {v0_0 : Value} {v1_0 : Value} (h0_0 : Vec .byte H v0_0 (a0)) (h1_0 : Vec .byte H v1_0 (a1)) {r : Bool} (h : law4_SuffixFindMatchesSpec a0 a1 = some r) :
    Ok Try.prog 5 [v0_0, v1_0] w (fun v w' => Ext w w' ∧ v = .bool r) := by
  refine Ok_enter (n := 69) [(0, v0_0), (1, v1_0)] Try.func5 rfl rfl rfl rfl rfl ?_
  have hL := Lcl.start w
  refine W_seqr ?_
  refine S_pu 1 rfl ?_
  refine S_seqnil ?_
  refine W_seqr ?_
  refine S_pu 2 rfl ?_
  obtain ⟨x1, hb1, h⟩ := Go.L.bind_some h
  refine S_callL rfl rfl hL (suffix_Find_ok _ _ (gz_le hH hL) (h0_0.mono (gz_left hH)) (h1_0.mono (gz_left hH)) hb1) ?_
  rintro _ w2 rfl hx2 hL2 hle2
  refine S_pu 4 rfl ?_
  refine S_alloc zr25 rfl rfl hL2 ?_
  intro w3 b3 hL3 hle3 _
  refine S_pu 2 rfl ?_
  refine S_storeBN 0 rfl rfl rfl zr25 hL3 rfl rfl (onc rfl (onc rfl on0)) ?_
  intro w4 hL4 hle4
  refine S_seqnil ?_
  refine W_seqr ?_
  refine S_pu 1 rfl ?_
  obtain ⟨x5, hb5, h⟩ := Go.L.bind_some h
  refine S_callL rfl rfl hL4 (law4_textFault_ok _ _ (gz_le hH hL4) (h0_0.mono (gz_left hH)) hb5) ?_
  rintro _ w6 rfl hx6 hL6 hle6
  refine S_alloc zr25 rfl rfl hL6 ?_
  intro w7 b7 hL7 hle7 _
  refine S_storeBN 0 rfl rfl rfl zr25 hL7 rfl rfl (onc rfl (onc rfl on0)) ?_
  intro w8 hL8 hle8
  refine S_seqnil ?_
  refine W_cut (σ := Int × Int) (fun (⟨c19, c20⟩ : Int × Int) => [(0, v0_0), (1, v1_0), (5, .int .i64 x1.1), (6, .int .i64 x1.2.1), (7, .pointer (some ⟨b3, 0, none⟩)), (8, .pointer (some ⟨b7, 0, none⟩))]) (fun (⟨c19, c20⟩ : Int × Int) wr => Lcl w [.box b7 [.int .i64 c19, .int .i64 c20] 25, .box b3 [.int .i64 x1.2.2.1, .int .i64 x1.2.2.2] 25] wr ∧ (law4_SuffixFindMatchesSpec_k1 a0 a1 x1) c19 c20 = some r) ?_ ?_
  · refine W_seqr ?_
    refine S_v (r_field rfl Try.underlying25 rfl zr3 (by decide)) rfl ?_
    refine S_v (r_loadB1 0 rfl Try.underlying3 rfl hL8 rfl rfl) rfl ?_
    refine S_pu 2 rfl ?_
    refine S_split (s := 23) rfl (fun hg23 => ?_) (fun hg23 => ?_)
    · replace h := Go.L.ite_p (of_decide_eq_true hg23) h
      refine S_guarded rfl rfl hg23 ?_
      refine S_v (RunsAt_pu rfl) rfl ?_
      refine S_guarded rfl rfl hg23 ?_
      refine S_v (r_len rfl Try.underlying22 h1_0) rfl ?_
      refine S_guarded rfl rfl hg23 ?_
      refine S_v (RunsAt_pu rfl) rfl ?_
      refine S_v (r_pickT rfl hg23 rfl) rfl ?_
      refine S_seqnil ?_
      refine W_if rfl (fun hc25 => ?_) (fun hc25 => ?_)
      · replace h := Go.L.ite_p hc25 h
        refine W_region ?_
        obtain ⟨x27, hb27, h⟩ := Go.L.bind_some h
        refine S_callL rfl rfl hL8 (ref3_At_ok _ _ (gz_le hH hL8) hb27) ?_
        rintro _ w28 rfl hx28 hL28 hle28
        refine S_storeBN 0 rfl rfl rfl zr25 hL28 rfl rfl (onc rfl (onc rfl on0)) ?_
        intro w29 hL29 hle29
        refine S_nil ?_
        refine At_cut (x27.1, x27.2) (.cons rfl (.cons rfl (.cons rfl (.cons rfl (.cons rfl (.cons rfl (Sub.nil _))))))) ⟨hL29, h⟩
      · replace h := Go.L.ite_n hc25 h
        refine W_skip ?_
        refine At_cut (x5.1, x5.2) (.cons rfl (.cons rfl (.cons rfl (.cons rfl (.cons rfl (.cons rfl (Sub.nil _))))))) ⟨hL8, h⟩
    · replace h := Go.L.ite_n (of_decide_eq_false hg23) h
      refine S_unwanted rfl rfl hg23 rfl ?_
      refine S_unwanted rfl rfl hg23 rfl ?_
      refine S_unwanted rfl rfl hg23 rfl ?_
      refine S_v (r_pickF rfl hg23 rfl) rfl ?_
      refine S_seqnil ?_
      refine W_false rfl ?_
      refine W_skip ?_
      refine At_cut (x5.1, x5.2) (.cons rfl (.cons rfl (.cons rfl (.cons rfl (.cons rfl (.cons rfl (Sub.nil _))))))) ⟨hL8, h⟩
  · rintro ⟨c19, c20⟩ wr21 ⟨hL21, h⟩
    refine W_seq ?_
    refine W_seqr ?_
    obtain ⟨x33, hb33, h⟩ := Go.L.bind_some h
    refine S_callL rfl rfl hL21 (law4_sorts_ok _ _ (gz_le hH hL21) hb33) ?_
    rintro _ w34 rfl hx34 hL34 hle34
    refine S_pu 2 rfl ?_
    refine S_split (s := 31) rfl (fun hg35 => ?_) (fun hg35 => ?_)
    · replace h := Go.L.ite_t hg35 h
      refine S_unwanted rfl rfl hg35 rfl ?_
      refine S_unwanted rfl rfl hg35 rfl ?_
      refine S_unwanted rfl rfl hg35 rfl ?_
      refine S_v (r_pickT rfl hg35 rfl) rfl ?_
      refine S_pu 1 rfl ?_
      refine S_unwanted rfl rfl rfl rfl ?_
      refine S_unwanted rfl rfl rfl rfl ?_
      refine S_unwanted rfl rfl rfl rfl ?_
      refine S_v (r_pickT rfl rfl rfl) rfl ?_
      refine S_seqnil ?_
      refine W_true rfl ?_
      refine W_seqr ?_
      obtain ⟨x37, hb37, h⟩ := Go.L.bind_some h
      refine S_callL rfl rfl hL34 (law4_sorts_ok _ _ (gz_le hH hL34) hb37) ?_
      rintro _ w38 rfl hx38 hL38 hle38
      refine S_pu 1 rfl ?_
      refine S_split (s := 42) rfl (fun hg39 => ?_) (fun hg39 => ?_)
      · replace h := Go.L.ite_t hg39 h
        refine S_guarded rfl rfl hg39 ?_
        refine S_v (r_loadBN 1 rfl Try.underlying25 rfl zr25 hL38 rfl) rfl ?_
        refine S_guarded rfl rfl hg39 ?_
        refine S_v (r_loadBN 0 rfl Try.underlying25 rfl zr25 hL38 rfl) rfl ?_
        refine S_guarded rfl rfl hg39 ?_
        refine S_v (r_eqA rfl rfl eqg25 (eq25 _ _ _ _ )) rfl ?_
        refine S_v (r_pickT rfl hg39 rfl) rfl ?_
        refine S_pu 1 rfl ?_
        refine S_and 2 6 rfl rfl rfl rfl rfl rfl ?_
        refine S_pu 1 rfl ?_
        refine S_and 2 10 rfl rfl rfl rfl rfl rfl ?_
        refine S_pu 1 rfl ?_
        refine S_seqnil ?_
        refine W_ret ?_
        refine At_seq_ret ?_
        obtain rfl := Option.some.inj h
        refine At_body rfl rfl ?_
        exact ⟨hL38.ext, rfl⟩
      · replace h := Go.L.ite_f hg39 h
        refine S_unwanted rfl rfl hg39 rfl ?_
        refine S_unwanted rfl rfl hg39 rfl ?_
        refine S_unwanted rfl rfl hg39 rfl ?_
        refine S_v (r_pickF rfl hg39 rfl) rfl ?_
        refine S_pu 1 rfl ?_
        refine S_unwanted rfl rfl rfl rfl ?_
        refine S_unwanted rfl rfl rfl rfl ?_
        refine S_v (r_pickF rfl rfl rfl) rfl ?_
        refine S_pu 1 rfl ?_
        refine S_unwanted rfl rfl rfl rfl ?_
        refine S_unwanted rfl rfl rfl rfl ?_
        refine S_v (r_pickF rfl rfl rfl) rfl ?_
        refine S_pu 1 rfl ?_
        refine S_seqnil ?_
        refine W_ret ?_
        refine At_seq_ret ?_
        obtain rfl := Option.some.inj h
        refine At_body rfl rfl ?_
        exact ⟨hL38.ext, rfl⟩
    · replace h := Go.L.ite_f hg35 h
      refine S_guarded rfl rfl hg35 ?_
      refine S_v (r_loadBN 1 rfl Try.underlying25 rfl zr25 hL34 rfl) rfl ?_
      refine S_guarded rfl rfl hg35 ?_
      refine S_v (r_loadBN 0 rfl Try.underlying25 rfl zr25 hL34 rfl) rfl ?_
      refine S_guarded rfl rfl hg35 ?_
      refine S_v (r_neA rfl rfl eqg25 (eq25 _ _ _ _ )) rfl ?_
      refine S_v (r_pickF rfl hg35 rfl) rfl ?_
      refine S_pu 1 rfl ?_
      refine S_split (s := 36) rfl (fun hg43 => ?_) (fun hg43 => ?_)
      · replace h := Go.L.ite_n (not_dec_t hg43) h
        refine S_unwanted rfl rfl hg43 rfl ?_
        refine S_unwanted rfl rfl hg43 rfl ?_
        refine S_unwanted rfl rfl hg43 rfl ?_
        refine S_v (r_pickT rfl hg43 rfl) rfl ?_
        refine S_seqnil ?_
        refine W_true rfl ?_
        refine W_seqr ?_
        obtain ⟨x45, hb45, h⟩ := Go.L.bind_some h
        refine S_callL rfl rfl hL34 (law4_sorts_ok _ _ (gz_le hH hL34) hb45) ?_
        rintro _ w46 rfl hx46 hL46 hle46
        refine S_pu 1 rfl ?_
        refine S_split (s := 42) rfl (fun hg47 => ?_) (fun hg47 => ?_)
        · replace h := Go.L.ite_t hg47 h
          refine S_guarded rfl rfl hg47 ?_
          refine S_v (r_loadBN 1 rfl Try.underlying25 rfl zr25 hL46 rfl) rfl ?_
          refine S_guarded rfl rfl hg47 ?_
          refine S_v (r_loadBN 0 rfl Try.underlying25 rfl zr25 hL46 rfl) rfl ?_
          refine S_guarded rfl rfl hg47 ?_
          refine S_v (r_eqA rfl rfl eqg25 (eq25 _ _ _ _ )) rfl ?_
          refine S_v (r_pickT rfl hg47 rfl) rfl ?_
          refine S_pu 1 rfl ?_
          refine S_and 2 6 rfl rfl rfl rfl rfl rfl ?_
          refine S_pu 1 rfl ?_
          refine S_and 2 10 rfl rfl rfl rfl rfl rfl ?_
          refine S_pu 1 rfl ?_
          refine S_seqnil ?_
          refine W_ret ?_
          refine At_seq_ret ?_
          obtain rfl := Option.some.inj h
          refine At_body rfl rfl ?_
          exact ⟨hL46.ext, rfl⟩
        · replace h := Go.L.ite_f hg47 h
          refine S_unwanted rfl rfl hg47 rfl ?_
          refine S_unwanted rfl rfl hg47 rfl ?_
          refine S_unwanted rfl rfl hg47 rfl ?_
          refine S_v (r_pickF rfl hg47 rfl) rfl ?_
          refine S_pu 1 rfl ?_
          refine S_unwanted rfl rfl rfl rfl ?_
          refine S_unwanted rfl rfl rfl rfl ?_
          refine S_v (r_pickF rfl rfl rfl) rfl ?_
          refine S_pu 1 rfl ?_
          refine S_unwanted rfl rfl rfl rfl ?_
          refine S_unwanted rfl rfl rfl rfl ?_
          refine S_v (r_pickF rfl rfl rfl) rfl ?_
          refine S_pu 1 rfl ?_
          refine S_seqnil ?_
          refine W_ret ?_
          refine At_seq_ret ?_
          obtain rfl := Option.some.inj h
          refine At_body rfl rfl ?_
          exact ⟨hL46.ext, rfl⟩
      · replace h := Go.L.ite_p (not_dec_f hg43) h
        refine S_guarded rfl rfl hg43 ?_
        refine S_v (r_field rfl Try.underlying25 rfl zr3 (by decide)) rfl ?_
        refine S_guarded rfl rfl hg43 ?_
        refine S_v (r_loadB1 0 rfl Try.underlying3 rfl hL34 rfl rfl) rfl ?_
        refine S_guarded rfl rfl hg43 ?_
        refine S_v (RunsAt_pu rfl) rfl ?_
        refine S_v (r_pickF rfl hg43 rfl) rfl ?_
        refine S_seqnil ?_
        refine W_ifn rfl (fun hc51 => ?_) (fun hc51 => ?_)
        · replace h := Go.L.ite_n hc51 h
          refine W_seqr ?_
          obtain ⟨x53, hb53, h⟩ := Go.L.bind_some h
          refine S_callL rfl rfl hL34 (law4_sorts_ok _ _ (gz_le hH hL34) hb53) ?_
          rintro _ w54 rfl hx54 hL54 hle54
          refine S_pu 1 rfl ?_
          refine S_split (s := 42) rfl (fun hg55 => ?_) (fun hg55 => ?_)
          · replace h := Go.L.ite_t hg55 h
            refine S_guarded rfl rfl hg55 ?_
            refine S_v (r_loadBN 1 rfl Try.underlying25 rfl zr25 hL54 rfl) rfl ?_
            refine S_guarded rfl rfl hg55 ?_
            refine S_v (r_loadBN 0 rfl Try.underlying25 rfl zr25 hL54 rfl) rfl ?_
            refine S_guarded rfl rfl hg55 ?_
            refine S_v (r_eqA rfl rfl eqg25 (eq25 _ _ _ _ )) rfl ?_
            refine S_v (r_pickT rfl hg55 rfl) rfl ?_
            refine S_pu 1 rfl ?_
            refine S_and 2 6 rfl rfl rfl rfl rfl rfl ?_
            refine S_pu 1 rfl ?_
            refine S_and 2 10 rfl rfl rfl rfl rfl rfl ?_
            refine S_pu 1 rfl ?_
            refine S_seqnil ?_
            refine W_ret ?_
            refine At_seq_ret ?_
            obtain rfl := Option.some.inj h
            refine At_body rfl rfl ?_
            exact ⟨hL54.ext, rfl⟩
          · replace h := Go.L.ite_f hg55 h
            refine S_unwanted rfl rfl hg55 rfl ?_
            refine S_unwanted rfl rfl hg55 rfl ?_
            refine S_unwanted rfl rfl hg55 rfl ?_
            refine S_v (r_pickF rfl hg55 rfl) rfl ?_
            refine S_pu 1 rfl ?_
            refine S_unwanted rfl rfl rfl rfl ?_
            refine S_unwanted rfl rfl rfl rfl ?_
            refine S_v (r_pickF rfl rfl rfl) rfl ?_
            refine S_pu 1 rfl ?_
            refine S_unwanted rfl rfl rfl rfl ?_
            refine S_unwanted rfl rfl rfl rfl ?_
            refine S_v (r_pickF rfl rfl rfl) rfl ?_
            refine S_pu 1 rfl ?_
            refine S_seqnil ?_
            refine W_ret ?_
            refine At_seq_ret ?_
            obtain rfl := Option.some.inj h
            refine At_body rfl rfl ?_
            exact ⟨hL54.ext, rfl⟩
        · replace h := Go.L.ite_p hc51 h
          refine W_skip ?_
          refine At_seq ?_
          refine W_seqr ?_
          refine S_pu 2 rfl ?_
          obtain ⟨x59, hb59, h⟩ := Go.L.bind_some h
          refine S_callL rfl rfl hL34 (ref4_Range_ok _ _ (gz_le hH hL34) (h0_0.mono (gz_left hH)) (h1_0.mono (gz_left hH)) hb59) ?_
          rintro _ w60 rfl hx60 hL60 hle60
          refine S_pu 5 rfl ?_
          refine S_seqnil ?_
          refine W_seqr ?_
          refine S_pu 4 rfl ?_
          refine S_and 3 3 rfl rfl rfl rfl rfl rfl ?_
          refine S_pu 1 rfl ?_
          refine S_seqnil ?_
          refine W_ret ?_
          obtain rfl := Option.some.inj h
          refine At_body rfl rfl ?_
          exact ⟨hL60.ext, rfl⟩

noncomputable def law4_SuffixFoundAreOccurrences (a0 : List UInt8) (a1 : List UInt8) (a2 : Int) : Option (Bool) :=
  Option.bind (suffix_Array a0) (fun x1 => Option.bind (suffix_Find a0 a1) (fun x5 => Option.bind (law4_sorts) (fun x9 => if !x9 then Option.bind (law4_sorts) (fun x13 => if x13 then if x1.2.1 = (0 : Int) then some (true) else some (decide ((x1.1.length : Int) = (0 : Int))) else some (false)) else if x1.2.1 = (0 : Int) then if x5.2.2.1 = (0 : Int) then Option.bind (ref3_In x5.1 (0 : Int) x5.2.1) (fun x44 => if !x44 then some (false) else Option.bind (ref3_In x5.2.1 x5.1 (x1.1.length : Int)) (fun x49 => if !x49 then some (false) else Go.L.chk (Go.L.I64 ((x1.1.length : Int) - (1 : Int))) (Option.bind (ref3_In a2 (0 : Int) ((x1.1.length : Int) - (1 : Int))) (fun x57 => if !x57 then some (true) else Go.L.chk (Go.L.I64 (x5.2.1 - (1 : Int))) (Option.bind (ref3_In a2 x5.1 (x5.2.1 - (1 : Int))) (fun x65 => Go.L.chk (0 ≤ a2 ∧ a2 < (x1.1.length : Int)) (Option.bind (ref4_Begins a0 (x1.1.getD a2.toNat default) a1) (fun x69 => some ((x65 == x69)))))))))) else Option.bind (law4_sorts) (fun x35 => if x35 then if x1.2.1 = (0 : Int) then some (true) else some (decide ((x1.1.length : Int) = (0 : Int))) else some (false)) else Option.bind (law4_sorts) (fun x24 => if x24 then if x1.2.1 = (0 : Int) then some (true) else some (decide ((x1.1.length : Int) = (0 : Int))) else some (false)))))

set_option maxRecDepth 10000 in
theorem law4_SuffixFoundAreOccurrences_ok (w : World) (H : PH) (hH : Le H (hp w)) {a0 : List UInt8} {a1 : List UInt8} {a2 : Int} {v0_0 : Value} {v1_0 : Value} (h0_0 : Vec .byte H v0_0 (a0)) (h1_0 : Vec .byte H v1_0 (a1)) {r : Bool} (h : law4_SuffixFoundAreOccurrences a0 a1 a2 = some r) :
    Ok Try.prog 6 [v0_0, v1_0, .int .i64 a2] w (fun v w' => Ext w w' ∧ v = .bool r) := by
  refine Ok_enter (n := 80) [(0, v0_0), (1, v1_0), (2, .int .i64 a2)] Try.func6 rfl rfl rfl rfl rfl ?_
  have hL := Lcl.start w
  refine W_seqr ?_
  refine S_pu 1 rfl ?_
  refine S_seqnil ?_
  refine W_seqr ?_
  refine S_pu 1 rfl ?_
  obtain ⟨x1, hb1, h⟩ := Go.L.bind_some h
  refine S_callL rfl rfl hL (suffix_Array_ok _ _ (gz_le hH hL) (h0_0.mono (gz_left hH)) hb1) ?_
  rintro _ w2 ⟨u2_0, rfl, hR2_0⟩ hx2 hL2 hle2
  have hv2_0 := hR2_0.vecG hH hL hx2
  refine S_pu 3 rfl ?_
  refine S_alloc zr25 rfl rfl hL2 ?_
  intro w3 b3 hL3 hle3 _
  replace hv2_0 := hv2_0.mono (gz_mono hH hle3)
  refine S_pu 1 rfl ?_
  refine S_storeBN 0 rfl rfl rfl zr25 hL3 rfl rfl (onc rfl (onc rfl on0)) ?_
  intro w4 hL4 hle4
  replace hv2_0 := hv2_0.mono (gz_mono hH hle4)
  refine S_seqnil ?_
  refine W_seqr ?_
  refine S_pu 2 rfl ?_
  obtain ⟨x5, hb5, h⟩ := Go.L.bind_some h
  refine S_callL rfl rfl hL4 (suffix_Find_ok _ _ (gz_le hH hL4) (h0_0.mono (gz_left hH)) (h1_0.mono (gz_left hH)) hb5) ?_
  rintro _ w6 rfl hx6 hL6 hle6
  replace hv2_0 := hv2_0.mono (gz_mono hH hle6)
  refine S_pu 4 rfl ?_
  refine S_alloc zr25 rfl rfl hL6 ?_
  intro w7 b7 hL7 hle7 _
  replace hv2_0 := hv2_0.mono (gz_mono hH hle7)
  refine S_pu 2 rfl ?_
  refine S_storeBN 0 rfl rfl rfl zr25 hL7 rfl rfl (onc rfl (onc rfl on0)) ?_
  intro w8 hL8 hle8
  replace hv2_0 := hv2_0.mono (gz_mono hH hle8)
  refine S_seqnil ?_
  refine W_seq ?_
  refine W_seqr ?_
  obtain ⟨x9, hb9, h⟩ := Go.L.bind_some h
  refine S_callL rfl rfl hL8 (law4_sorts_ok _ _ (gz_le hH hL8) hb9) ?_
  rintro _ w10 rfl hx10 hL10 hle10
  replace hv2_0 := hv2_0.mono (gz_mono hH hle10)
  refine S_pu 2 rfl ?_
  refine S_split (s := 26) rfl (fun hg11 => ?_) (fun hg11 => ?_)
  · replace h := Go.L.ite_t hg11 h
    refine S_unwanted rfl rfl hg11 rfl ?_
    refine S_unwanted rfl rfl hg11 rfl ?_
    refine S_unwanted rfl rfl hg11 rfl ?_
    refine S_v (r_pickT rfl hg11 rfl) rfl ?_
    refine S_pu 1 rfl ?_
    refine S_unwanted rfl rfl rfl rfl ?_
    refine S_unwanted rfl rfl rfl rfl ?_
    refine S_unwanted rfl rfl rfl rfl ?_
    refine S_v (r_pickT rfl rfl rfl) rfl ?_
    refine S_seqnil ?_
    refine W_true rfl ?_
    refine W_seqr ?_
    obtain ⟨x13, hb13, h⟩ := Go.L.bind_some h
    refine S_callL rfl rfl hL10 (law4_sorts_ok _ _ (gz_le hH hL10) hb13) ?_
    rintro _ w14 rfl hx14 hL14 hle14
    replace hv2_0 := hv2_0.mono (gz_mono hH hle14)
    refine S_pu 1 rfl ?_
    refine S_split (s := 37) rfl (fun hg15 => ?_) (fun hg15 => ?_)
    · replace h := Go.L.ite_t hg15 h
      refine S_guarded rfl rfl hg15 ?_
      refine S_v (r_field rfl Try.underlying25 rfl zr3 (by decide)) rfl ?_
      refine S_guarded rfl rfl hg15 ?_
      refine S_v (r_loadB1 1 rfl Try.underlying3 rfl hL14 rfl rfl) rfl ?_
      refine S_guarded rfl rfl hg15 ?_
      refine S_v (RunsAt_pu rfl) rfl ?_
      refine S_guarded rfl rfl hg15 ?_
      refine S_v (RunsAt_pu rfl) rfl ?_
      refine S_split (s := 41) rfl (fun hg17 => ?_) (fun hg17 => ?_)
      · replace h := Go.L.ite_p (of_decide_eq_true hg17) h
        refine S_unwanted rfl rfl hg17 rfl ?_
        refine S_unwanted rfl rfl hg17 rfl ?_
        refine S_unwanted rfl rfl hg17 rfl ?_
        refine S_guarded rfl rfl hg15 ?_
        refine S_v (r_pickT rfl hg17 rfl) rfl ?_
        refine S_v (r_pickT rfl hg15 rfl) rfl ?_
        refine S_pu 1 rfl ?_
        refine S_seqnil ?_
        refine W_ret ?_
        refine At_seq_ret ?_
        obtain rfl := Option.some.inj h
        refine At_body rfl rfl ?_
        exact ⟨hL14.ext, rfl⟩
      · replace h := Go.L.ite_n (of_decide_eq_false hg17) h
        refine S_guarded rfl rfl hg17 ?_
        refine S_v (RunsAt_pu rfl) rfl ?_
        refine S_guarded rfl rfl hg17 ?_
        refine S_v (r_len rfl Try.underlying23 hv2_0) rfl ?_
        refine S_guarded rfl rfl hg17 ?_
        refine S_v (RunsAt_pu rfl) rfl ?_
        refine S_guarded rfl rfl hg15 ?_
        refine S_v (r_pickF rfl hg17 rfl) rfl ?_
        refine S_v (r_pickT rfl hg15 rfl) rfl ?_
        refine S_pu 1 rfl ?_
        refine S_seqnil ?_
        refine W_ret ?_
        refine At_seq_ret ?_
        obtain rfl := Option.some.inj h
        refine At_body rfl rfl ?_
        exact ⟨hL14.ext, rfl⟩
    · replace h := Go.L.ite_f hg15 h
      refine S_unwanted rfl rfl hg15 rfl ?_
      refine S_unwanted rfl rfl hg15 rfl ?_
      refine S_unwanted rfl rfl hg15 rfl ?_
      refine S_unwanted rfl rfl hg15 rfl ?_
      refine S_unwanted2 rfl rfl rfl ?_
      refine S_unwanted2 rfl rfl rfl ?_
      refine S_unwanted2 rfl rfl rfl ?_
      refine S_unwanted rfl rfl hg15 rfl ?_
      refine S_v (r_pickF rfl hg15 rfl) rfl ?_
      refine S_pu 1 rfl ?_
      refine S_seqnil ?_
      refine W_ret ?_
      refine At_seq_ret ?_
      obtain rfl := Option.some.inj h
      refine At_body rfl rfl ?_
      exact ⟨hL14.ext, rfl⟩
  · replace h := Go.L.ite_f hg11 h
    refine S_guarded rfl rfl hg11 ?_
    refine S_v (r_field rfl Try.underlying25 rfl zr3 (by decide)) rfl ?_
    refine S_guarded rfl rfl hg11 ?_
    refine S_v (r_loadB1 1 rfl Try.underlying3 rfl hL10 rfl rfl) rfl ?_
    refine S_guarded rfl rfl hg11 ?_
    refine S_v (RunsAt_pu rfl) rfl ?_
    refine S_v (r_pickF rfl hg11 rfl) rfl ?_
    refine S_pu 1 rfl ?_
    refine S_split (s := 31) rfl (fun hg22 => ?_) (fun hg22 => ?_)
    · replace h := Go.L.ite_n (not_dec_t hg22) h
      refine S_unwanted rfl rfl hg22 rfl ?_
      refine S_unwanted rfl rfl hg22 rfl ?_
      refine S_unwanted rfl rfl hg22 rfl ?_
      refine S_v (r_pickT rfl hg22 rfl) rfl ?_
      refine S_seqnil ?_
      refine W_true rfl ?_
      refine W_seqr ?_
      obtain ⟨x24, hb24, h⟩ := Go.L.bind_some h
      refine S_callL rfl rfl hL10 (law4_sorts_ok _ _ (gz_le hH hL10) hb24) ?_
      rintro _ w25 rfl hx25 hL25 hle25
      replace hv2_0 := hv2_0.mono (gz_mono hH hle25)
      refine S_pu 1 rfl ?_
      refine S_split (s := 37) rfl (fun hg26 => ?_) (fun hg26 => ?_)
      · replace h := Go.L.ite_t hg26 h
        refine S_guarded rfl rfl hg26 ?_
        refine S_v (r_field rfl Try.underlying25 rfl zr3 (by decide)) rfl ?_
        refine S_guarded rfl rfl hg26 ?_
        refine S_v (r_loadB1 1 rfl Try.underlying3 rfl hL25 rfl rfl) rfl ?_
        refine S_guarded rfl rfl hg26 ?_
        refine S_v (RunsAt_pu rfl) rfl ?_
        refine S_guarded rfl rfl hg26 ?_
        refine S_v (RunsAt_pu rfl) rfl ?_
        refine S_split (s := 41) rfl (fun hg28 => ?_) (fun hg28 => ?_)
        · replace h := Go.L.ite_p (of_decide_eq_true hg28) h
          refine S_unwanted rfl rfl hg28 rfl ?_
          refine S_unwanted rfl rfl hg28 rfl ?_
          refine S_unwanted rfl rfl hg28 rfl ?_
          refine S_guarded rfl rfl hg26 ?_
          refine S_v (r_pickT rfl hg28 rfl) rfl ?_
          refine S_v (r_pickT rfl hg26 rfl) rfl ?_
          refine S_pu 1 rfl ?_
          refine S_seqnil ?_
          refine W_ret ?_
          refine At_seq_ret ?_
          obtain rfl := Option.some.inj h
          refine At_body rfl rfl ?_
          exact ⟨hL25.ext, rfl⟩
        · replace h := Go.L.ite_n (of_decide_eq_false hg28) h
          refine S_guarded rfl rfl hg28 ?_
          refine S_v (RunsAt_pu rfl) rfl ?_
          refine S_guarded rfl rfl hg28 ?_
          refine S_v (r_len rfl Try.underlying23 hv2_0) rfl ?_
          refine S_guarded rfl rfl hg28 ?_
          refine S_v (RunsAt_pu rfl) rfl ?_
          refine S_guarded rfl rfl hg26 ?_
          refine S_v (r_pickF rfl hg28 rfl) rfl ?_
          refine S_v (r_pickT rfl hg26 rfl) rfl ?_
          refine S_pu 1 rfl ?_
          refine S_seqnil ?_
          refine W_ret ?_
          refine At_seq_ret ?_
          obtain rfl := Option.some.inj h
          refine At_body rfl rfl ?_
          exact ⟨hL25.ext, rfl⟩
      · replace h := Go.L.ite_f hg26 h
        refine S_unwanted rfl rfl hg26 rfl ?_
        refine S_unwanted rfl rfl hg26 rfl ?_
        refine S_unwanted rfl rfl hg26 rfl ?_
        refine S_unwanted rfl rfl hg26 rfl ?_
        refine S_unwanted2 rfl rfl rfl ?_
        refine S_unwanted2 rfl rfl rfl ?_
        refine S_unwanted2 rfl rfl rfl ?_
        refine S_unwanted rfl rfl hg26 rfl ?_
        refine S_v (r_pickF rfl hg26 rfl) rfl ?_
        refine S_pu 1 rfl ?_
        refine S_seqnil ?_
        refine W_ret ?_
        refine At_seq_ret ?_
        obtain rfl := Option.some.inj h
        refine At_body rfl rfl ?_
        exact ⟨hL25.ext, rfl⟩
    · replace h := Go.L.ite_p (not_dec_f hg22) h
      refine S_guarded rfl rfl hg22 ?_
      refine S_v (r_field rfl Try.underlying25 rfl zr3 (by decide)) rfl ?_
      refine S_guarded rfl rfl hg22 ?_
      refine S_v (r_loadB1 0 rfl Try.underlying3 rfl hL10 rfl rfl) rfl ?_
      refine S_guarded rfl rfl hg22 ?_
      refine S_v (RunsAt_pu rfl) rfl ?_
      refine S_v (r_pickF rfl hg22 rfl) rfl ?_
      refine S_seqnil ?_
      refine W_ifn rfl (fun hc33 => ?_) (fun hc33 => ?_)
      · replace h := Go.L.ite_n hc33 h
        refine W_seqr ?_
        obtain ⟨x35, hb35, h⟩ := Go.L.bind_some h
        refine S_callL rfl rfl hL10 (law4_sorts_ok _ _ (gz_le hH hL10) hb35) ?_
        rintro _ w36 rfl hx36 hL36 hle36
        replace hv2_0 := hv2_0.mono (gz_mono hH hle36)
        refine S_pu 1 rfl ?_
        refine S_split (s := 37) rfl (fun hg37 => ?_) (fun hg37 => ?_)
        · replace h := Go.L.ite_t hg37 h
          refine S_guarded rfl rfl hg37 ?_
          refine S_v (r_field rfl Try.underlying25 rfl zr3 (by decide)) rfl ?_
          refine S_guarded rfl rfl hg37 ?_
          refine S_v (r_loadB1 1 rfl Try.underlying3 rfl hL36 rfl rfl) rfl ?_
          refine S_guarded rfl rfl hg37 ?_
          refine S_v (RunsAt_pu rfl) rfl ?_
          refine S_guarded rfl rfl hg37 ?_
          refine S_v (RunsAt_pu rfl) rfl ?_
          refine S_split (s := 41) rfl (fun hg39 => ?_) (fun hg39 => ?_)
          · replace h := Go.L.ite_p (of_decide_eq_true hg39) h
            refine S_unwanted rfl rfl hg39 rfl ?_
            refine S_unwanted rfl rfl hg39 rfl ?_
            refine S_unwanted rfl rfl hg39 rfl ?_
            refine S_guarded rfl rfl hg37 ?_
            refine S_v (r_pickT rfl hg39 rfl) rfl ?_
            refine S_v (r_pickT rfl hg37 rfl) rfl ?_
            refine S_pu 1 rfl ?_
            refine S_seqnil ?_
            refine W_ret ?_
            refine At_seq_ret ?_
            obtain rfl := Option.some.inj h
            refine At_body rfl rfl ?_
            exact ⟨hL36.ext, rfl⟩
          · replace h := Go.L.ite_n (of_decide_eq_false hg39) h
            refine S_guarded rfl rfl hg39 ?_
            refine S_v (RunsAt_pu rfl) rfl ?_
            refine S_guarded rfl rfl hg39 ?_
            refine S_v (r_len rfl Try.underlying23 hv2_0) rfl ?_
            refine S_guarded rfl rfl hg39 ?_
            refine S_v (RunsAt_pu rfl) rfl ?_
            refine S_guarded rfl rfl hg37 ?_
            refine S_v (r_pickF rfl hg39 rfl) rfl ?_
            refine S_v (r_pickT rfl hg37 rfl) rfl ?_
            refine S_pu 1 rfl ?_
            refine S_seqnil ?_
            refine W_ret ?_
            refine At_seq_ret ?_
            obtain rfl := Option.some.inj h
            refine At_body rfl rfl ?_
            exact ⟨hL36.ext, rfl⟩
        · replace h := Go.L.ite_f hg37 h
          refine S_unwanted rfl rfl hg37 rfl ?_
          refine S_unwanted rfl rfl hg37 rfl ?_
          refine S_unwanted rfl rfl hg37 rfl ?_
          refine S_unwanted rfl rfl hg37 rfl ?_
          refine S_unwanted2 rfl rfl rfl ?_
          refine S_unwanted2 rfl rfl rfl ?_
          refine S_unwanted2 rfl rfl rfl ?_
          refine S_unwanted rfl rfl hg37 rfl ?_
          refine S_v (r_pickF rfl hg37 rfl) rfl ?_
          refine S_pu 1 rfl ?_
          refine S_seqnil ?_
          refine W_ret ?_
          refine At_seq_ret ?_
          obtain rfl := Option.some.inj h
          refine At_body rfl rfl ?_
          exact ⟨hL36.ext, rfl⟩
      · replace h := Go.L.ite_p hc33 h
        refine W_skip ?_
        refine At_seq ?_
        refine W_seq ?_
        refine W_seqr ?_
        refine S_pu 2 rfl ?_
        obtain ⟨x44, hb44, h⟩ := Go.L.bind_some h
        refine S_callL rfl rfl hL10 (ref3_In_ok _ _ (gz_le hH hL10) hb44) ?_
        rintro _ w45 rfl hx45 hL45 hle45
        replace hv2_0 := hv2_0.mono (gz_mono hH hle45)
        refine S_pu 2 rfl ?_
        refine S_split (s := 51) rfl (fun hg46 => ?_) (fun hg46 => ?_)
        · replace h := Go.L.ite_t hg46 h
          refine S_unwanted rfl rfl hg46 rfl ?_
          refine S_unwanted rfl rfl hg46 rfl ?_
          refine S_unwanted rfl rfl hg46 rfl ?_
          refine S_unwanted rfl rfl hg46 rfl ?_
          refine S_unwanted rfl rfl hg46 rfl ?_
          refine S_unwanted rfl rfl hg46 rfl ?_
          refine S_v (r_pickT rfl hg46 rfl) rfl ?_
          refine S_seqnil ?_
          refine W_true rfl ?_
          refine W_seqr ?_
          refine S_pu 1 rfl ?_
          refine S_seqnil ?_
          refine W_ret ?_
          refine At_seq_ret ?_
          obtain rfl := Option.some.inj h
          refine At_body rfl rfl ?_
          exact ⟨hL45.ext, rfl⟩
        · replace h := Go.L.ite_f hg46 h
          refine S_guarded rfl rfl hg46 ?_
          refine S_v (RunsAt_pu rfl) rfl ?_
          refine S_guarded rfl rfl hg46 ?_
          refine S_v (RunsAt_pu rfl) rfl ?_
          refine S_guarded rfl rfl hg46 ?_
          refine S_v (RunsAt_pu rfl) rfl ?_
          refine S_guarded rfl rfl hg46 ?_
          refine S_v (r_len rfl Try.underlying23 hv2_0) rfl ?_
          refine S_guarded rfl rfl hg46 ?_
          obtain ⟨x49, hb49, h⟩ := Go.L.bind_some h
          refine S_callL rfl rfl hL45 (ref3_In_ok _ _ (gz_le hH hL45) hb49) ?_
          rintro _ w50 rfl hx50 hL50 hle50
          replace hv2_0 := hv2_0.mono (gz_mono hH hle50)
          refine S_guarded rfl rfl hg46 ?_
          refine S_v (RunsAt_pu rfl) rfl ?_
          refine S_v (r_pickF rfl hg46 rfl) rfl ?_
          refine S_seqnil ?_
          refine W_cond rfl (fun hc51 => ?_) (fun hc51 => ?_)
          · replace h := Go.L.ite_t hc51 h
            refine W_seqr ?_
            refine S_pu 1 rfl ?_
            refine S_seqnil ?_
            refine W_ret ?_
            refine At_seq_ret ?_
            obtain rfl := Option.some.inj h
            refine At_body rfl rfl ?_
            exact ⟨hL50.ext, rfl⟩
          · replace h := Go.L.ite_f hc51 h
            refine W_skip ?_
            refine At_seq ?_
            refine W_seqd (.q 0 (.q 1 (.q 2 (.q 3 (.q 4 (.q 5 (.q 6 (.q 7 (.q 8 (.q 9 (.q 10 (.q 11 (.q 12 (.q 13 (.q 14 (.q 15 (.q 16 (.q 17 (.q 18 (.q 19 (.q 20 (.q 21 (.tail 22))))))))))))))))))))))) mixed (by kernel_rfl) (fun w54 hx54 => ?_)
            have hL55 := hL50.call hx54
            have hle55 := fz_ext hL50 hx54
            replace hv2_0 := hv2_0.mono (gz_mono hH hle55)
            refine D_pu 2 rfl ?_
            refine D_v (r_len rfl Try.underlying23 hv2_0) rfl rfl ?_
            obtain ⟨hk56, h⟩ := Go.L.chk_some h
            refine D_v (r_ar64 rfl rfl rfl hk56) rfl rfl ?_
            obtain ⟨x57, hb57, h⟩ := Go.L.bind_some h
            refine D_call rfl rfl rfl (fun w58 hx58 => ref3_In_ok _ _ (Le.refl _) hb57) ?_
            refine D_pu 2 rfl ?_
            refine D_split (s := 65) rfl (fun hg59 => ?_) (fun hg59 => ?_)
            · replace h := Go.L.ite_t hg59 h
              refine D_no rfl rfl rfl rfl hg59 rfl ?_
              refine D_no rfl rfl rfl rfl hg59 rfl ?_
              refine D_no rfl rfl rfl rfl hg59 rfl ?_
              refine D_no rfl rfl rfl rfl hg59 rfl ?_
              refine D_no rfl rfl rfl rfl hg59 rfl ?_
              refine D_no rfl rfl rfl rfl hg59 rfl ?_
              refine D_no rfl rfl rfl rfl hg59 rfl ?_
              refine D_no rfl rfl rfl rfl hg59 rfl ?_
              refine D_no rfl rfl rfl rfl hg59 rfl ?_
              refine D_no rfl rfl rfl rfl hg59 rfl ?_
              refine D_no rfl rfl rfl rfl hg59 rfl ?_
              refine D_no rfl rfl rfl rfl hg59 rfl ?_
              refine D_no rfl rfl rfl rfl hg59 rfl ?_
              refine D_v (r_pickT rfl hg59 rfl) rfl rfl ?_
              refine D_pu 1 rfl ?_
              refine D_tail (fun w61 hx61 => ?_)
              have hL62 := hL55.call hx61
              have hle62 := fz_ext hL55 hx61
              replace hv2_0 := hv2_0.mono (gz_mono hH hle62)
              refine S_seqnil ?_
              refine W_ret ?_
              obtain rfl := Option.some.inj h
              refine At_body rfl rfl ?_
              exact ⟨hL62.ext, rfl⟩
            · replace h := Go.L.ite_f hg59 h
              refine D_vg (RunsAt_pu rfl) rfl rfl rfl rfl hg59 rfl ?_
              refine D_vg (RunsAt_pu rfl) rfl rfl rfl rfl hg59 rfl ?_
              refine D_vg (RunsAt_pu rfl) rfl rfl rfl rfl hg59 rfl ?_
              obtain ⟨hk64, h⟩ := Go.L.chk_some h
              refine D_vg (r_ar64 rfl rfl rfl hk64) rfl rfl rfl rfl hg59 rfl ?_
              obtain ⟨x65, hb65, h⟩ := Go.L.bind_some h
              refine D_callg rfl rfl rfl rfl hg59 rfl rfl (fun w66 hx66 => ref3_In_ok _ _ (Le.refl _) hb65) ?_
              refine D_vg (RunsAt_pu rfl) rfl rfl rfl rfl hg59 rfl ?_
              refine D_vg (RunsAt_pu rfl) rfl rfl rfl rfl hg59 rfl ?_
              refine D_vg (RunsAt_pu rfl) rfl rfl rfl rfl hg59 rfl ?_
              obtain ⟨hk68, h⟩ := Go.L.chk_some h
              refine D_indexg rfl rfl rfl rfl hg59 rfl rfl Try.underlying23 zr3 hv2_0 a2.toNat (Int.toNat_of_nonneg hk68.1).symm (idx_lt hk68) rfl ?_
              rintro p67 _ rfl hp67
              refine D_vg (r_load1 rfl Try.underlying3 rfl hp67 (gz_le hH hL55)) rfl rfl rfl rfl hg59 rfl ?_
              refine D_vg (RunsAt_pu rfl) rfl rfl rfl rfl hg59 rfl ?_
              obtain ⟨x69, hb69, h⟩ := Go.L.bind_some h
              refine D_callg rfl rfl rfl rfl hg59 rfl rfl (fun w70 hx70 => ref4_Begins_ok _ _ (Le.refl _) ((h0_0.mono (hH.trans hL55.arg)).mono hx70.le) ((h1_0.mono (hH.trans hL55.arg)).mono hx70.le) hb69) ?_
              refine D_vg (r_beq rfl rfl Try.underlying4) rfl rfl rfl rfl hg59 rfl ?_
              refine D_v (r_pickF rfl hg59 rfl) rfl rfl ?_
              refine D_pu 1 rfl ?_
              refine D_tail (fun w71 hx71 => ?_)
              have hL72 := hL55.call hx71
              have hle72 := fz_ext hL55 hx71
              replace hv2_0 := hv2_0.mono (gz_mono hH hle72)
              replace hp67 := hp67.mono (gz_mono hH hle72)
              refine S_seqnil ?_
              refine W_ret ?_
              obtain rfl := Option.some.inj h
              refine At_body rfl rfl ?_
              exact ⟨hL72.ext, rfl⟩

noncomputable def law4_SuffixRepeatedMatchesSpec (a0 : List UInt8) : Option (Bool) :=
  Option.bind (suffix_Repeated a0) (fun x1 => Option.bind (law4_textFault a0) (fun x5 => Option.bind (law4_sorts) (fun x9 => if !x9 then Option.bind (law4_sorts) (fun x13 => if x13 then some (decide (((x1.2.2.1 = x5.1 ∧ x1.2.2.2 = x5.2) ∧ (x1.1 = (0 : Int))) ∧ (x1.2.1 = (0 : Int)))) else some (false)) else if x1.2.2.1 = x5.1 ∧ x1.2.2.2 = x5.2 then if x5.1 = (0 : Int) then (if (150 : Int) < (a0.length : Int) then some (true) else Option.bind (ref4_Twice a0) (fun x38 => some (decide ((x1.1 = x38.1) ∧ (x1.2.1 = x38.2))))) else Option.bind (law4_sorts) (fun x29 => if x29 then some (decide (((x1.2.2.1 = x5.1 ∧ x1.2.2.2 = x5.2) ∧ (x1.1 = (0 : Int))) ∧ (x1.2.1 = (0 : Int)))) else some (false)) else Option.bind (law4_sorts) (fun x21 => if x21 then some (decide (((x1.2.2.1 = x5.1 ∧ x1.2.2.2 = x5.2) ∧ (x1.1 = (0 : Int))) ∧ (x1.2.1 = (0 : Int)))) else some (false)))))

set_option maxRecDepth 10000 in
theorem law4_SuffixRepeatedMatchesSpec_ok (w : World) (H : PH) (hH : Le H (hp w)) {a0 : List UInt8} {v0_0 : Value} (h0_0 : Vec .byte H v0_0 (a0)) {r : Bool} (h : law4_SuffixRepeatedMatchesSpec a0 = some r) :
    Ok Try.prog 7 [v0_0] w (fun v w' => Ext w w' ∧ v = .bool r) := by
  refine Ok_enter (n := 59) [(0, v0_0)] Try.func7 rfl rfl rfl rfl rfl ?_
  have hL := Lcl.start w
  refine W_seqr ?_
  refine S_pu 1 rfl ?_
  refine S_seqnil ?_
  refine W_seqr ?_
  refine S_pu 1 rfl ?_
  obtain ⟨x1, hb1, h⟩ := Go.L.bind_some h
  refine S_callL rfl rfl hL (suffix_Repeated_ok _ _ (gz_le hH hL) (h0_0.mono (gz_left hH)) hb1) ?_
  rintro _ w2 rfl hx2 hL2 hle2
  refine S_pu 4 rfl ?_
  refine S_alloc zr25 rfl rfl hL2 ?_
  intro w3 b3 hL3 hle3 _
  refine S_pu 2 rfl ?_
  refine S_storeBN 0 rfl rfl rfl zr25 hL3 rfl rfl (onc rfl (onc rfl on0)) ?_
  intro w4 hL4 hle4
  refine S_seqnil ?_
  refine W_seqr ?_
  refine S_pu 1 rfl ?_
  obtain ⟨x5, hb5, h⟩ := Go.L.bind_some h
  refine S_callL rfl rfl hL4 (law4_textFault_ok _ _ (gz_le hH hL4) (h0_0.mono (gz_left hH)) hb5) ?_
  rintro _ w6 rfl hx6 hL6 hle6
  refine S_alloc zr25 rfl rfl hL6 ?_
  intro w7 b7 hL7 hle7 _
  refine S_storeBN 0 rfl rfl rfl zr25 hL7 rfl rfl (onc rfl (onc rfl on0)) ?_
  intro w8 hL8 hle8
  refine S_seqnil ?_
  refine W_seq ?_
  refine W_seqr ?_
  obtain ⟨x9, hb9, h⟩ := Go.L.bind_some h
  refine S_callL rfl rfl hL8 (law4_sorts_ok _ _ (gz_le hH hL8) hb9) ?_
  rintro _ w10 rfl hx10 hL10 hle10
  refine S_pu 2 rfl ?_
  refine S_split (s := 19) rfl (fun hg11 => ?_) (fun hg11 => ?_)
  · replace h := Go.L.ite_t hg11 h
    refine S_unwanted rfl rfl hg11 rfl ?_
    refine S_unwanted rfl rfl hg11 rfl ?_
    refine S_unwanted rfl rfl hg11 rfl ?_
    refine S_v (r_pickT rfl hg11 rfl) rfl ?_
    refine S_pu 1 rfl ?_
    refine S_unwanted rfl rfl rfl rfl ?_
    refine S_unwanted rfl rfl rfl rfl ?_
    refine S_unwanted rfl rfl rfl rfl ?_
    refine S_v (r_pickT rfl rfl rfl) rfl ?_
    refine S_seqnil ?_
    refine W_true rfl ?_
    refine W_seqr ?_
    obtain ⟨x13, hb13, h⟩ := Go.L.bind_some h
    refine S_callL rfl rfl hL10 (law4_sorts_ok _ _ (gz_le hH hL10) hb13) ?_
    rintro _ w14 rfl hx14 hL14 hle14
    refine S_pu 1 rfl ?_
    refine S_split (s := 30) rfl (fun hg15 => ?_) (fun hg15 => ?_)
    · replace h := Go.L.ite_t hg15 h
      refine S_guarded rfl rfl hg15 ?_
      refine S_v (r_loadBN 1 rfl Try.underlying25 rfl zr25 hL14 rfl) rfl ?_
      refine S_guarded rfl rfl hg15 ?_
      refine S_v (r_loadBN 0 rfl Try.underlying25 rfl zr25 hL14 rfl) rfl ?_
      refine S_guarded rfl rfl hg15 ?_
      refine S_v (r_eqA rfl rfl eqg25 (eq25 _ _ _ _ )) rfl ?_
      refine S_v (r_pickT rfl hg15 rfl) rfl ?_
      refine S_pu 1 rfl ?_
      refine S_and 2 6 rfl rfl rfl rfl rfl rfl ?_
      refine S_pu 1 rfl ?_
      refine S_and 2 10 rfl rfl rfl rfl rfl rfl ?_
      refine S_pu 1 rfl ?_
      refine S_seqnil ?_
      refine W_ret ?_
      refine At_seq_ret ?_
      obtain rfl := Option.some.inj h
      refine At_body rfl rfl ?_
      exact ⟨hL14.ext, rfl⟩
    · replace h := Go.L.ite_f hg15 h
      refine S_unwanted rfl rfl hg15 rfl ?_
      refine S_unwanted rfl rfl hg15 rfl ?_
      refine S_unwanted rfl rfl hg15 rfl ?_
      refine S_v (r_pickF rfl hg15 rfl) rfl ?_
      refine S_pu 1 rfl ?_
      refine S_unwanted rfl rfl rfl rfl ?_
      refine S_unwanted rfl rfl rfl rfl ?_
      refine S_v (r_pickF rfl rfl rfl) rfl ?_
      refine S_pu 1 rfl ?_
      refine S_unwanted rfl rfl rfl rfl ?_
      refine S_unwanted rfl rfl rfl rfl ?_
      refine S_v (r_pickF rfl rfl rfl) rfl ?_
      refine S_pu 1 rfl ?_
      refine S_seqnil ?_
      refine W_ret ?_
      refine At_seq_ret ?_
      obtain rfl := Option.some.inj h
      refine At_body rfl rfl ?_
      exact ⟨hL14.ext, rfl⟩
  · replace h := Go.L.ite_f hg11 h
    refine S_guarded rfl rfl hg11 ?_
    refine S_v (r_loadBN 1 rfl Try.underlying25 rfl zr25 hL10 rfl) rfl ?_
    refine S_guarded rfl rfl hg11 ?_
    refine S_v (r_loadBN 0 rfl Try.underlying25 rfl zr25 hL10 rfl) rfl ?_
    refine S_guarded rfl rfl hg11 ?_
    refine S_v (r_neA rfl rfl eqg25 (eq25 _ _ _ _ )) rfl ?_
    refine S_v (r_pickF rfl hg11 rfl) rfl ?_
    refine S_pu 1 rfl ?_
    refine S_split (s := 24) rfl (fun hg19 => ?_) (fun hg19 => ?_)
    · replace h := Go.L.ite_n (not_dec_t hg19) h
      refine S_unwanted rfl rfl hg19 rfl ?_
      refine S_unwanted rfl rfl hg19 rfl ?_
      refine S_unwanted rfl rfl hg19 rfl ?_
      refine S_v (r_pickT rfl hg19 rfl) rfl ?_
      refine S_seqnil ?_
      refine W_true rfl ?_
      refine W_seqr ?_
      obtain ⟨x21, hb21, h⟩ := Go.L.bind_some h
      refine S_callL rfl rfl hL10 (law4_sorts_ok _ _ (gz_le hH hL10) hb21) ?_
      rintro _ w22 rfl hx22 hL22 hle22
      refine S_pu 1 rfl ?_
      refine S_split (s := 30) rfl (fun hg23 => ?_) (fun hg23 => ?_)
      · replace h := Go.L.ite_t hg23 h
        refine S_guarded rfl rfl hg23 ?_
        refine S_v (r_loadBN 1 rfl Try.underlying25 rfl zr25 hL22 rfl) rfl ?_
        refine S_guarded rfl rfl hg23 ?_
        refine S_v (r_loadBN 0 rfl Try.underlying25 rfl zr25 hL22 rfl) rfl ?_
        refine S_guarded rfl rfl hg23 ?_
        refine S_v (r_eqA rfl rfl eqg25 (eq25 _ _ _ _ )) rfl ?_
        refine S_v (r_pickT rfl hg23 rfl) rfl ?_
        refine S_pu 1 rfl ?_
        refine S_and 2 6 rfl rfl rfl rfl rfl rfl ?_
        refine S_pu 1 rfl ?_
        refine S_and 2 10 rfl rfl rfl rfl rfl rfl ?_
        refine S_pu 1 rfl ?_
        refine S_seqnil ?_
        refine W_ret ?_
        refine At_seq_ret ?_
        obtain rfl := Option.some.inj h
        refine At_body rfl rfl ?_
        exact ⟨hL22.ext, rfl⟩
      · replace h := Go.L.ite_f hg23 h
        refine S_unwanted rfl rfl hg23 rfl ?_
        refine S_unwanted rfl rfl hg23 rfl ?_
        refine S_unwanted rfl rfl hg23 rfl ?_
        refine S_v (r_pickF rfl hg23 rfl) rfl ?_
        refine S_pu 1 rfl ?_
        refine S_unwanted rfl rfl rfl rfl ?_
        refine S_unwanted rfl rfl rfl rfl ?_
        refine S_v (r_pickF rfl rfl rfl) rfl ?_
        refine S_pu 1 rfl ?_
        refine S_unwanted rfl rfl rfl rfl ?_
        refine S_unwanted rfl rfl rfl rfl ?_
        refine S_v (r_pickF rfl rfl rfl) rfl ?_
        refine S_pu 1 rfl ?_
        refine S_seqnil ?_
        refine W_ret ?_
        refine At_seq_ret ?_
        obtain rfl := Option.some.inj h
        refine At_body rfl rfl ?_
        exact ⟨hL22.ext, rfl⟩
    · replace h := Go.L.ite_p (not_dec_f hg19) h
      refine S_guarded rfl rfl hg19 ?_
      refine S_v (r_field rfl Try.underlying25 rfl zr3 (by decide)) rfl ?_
      refine S_guarded rfl rfl hg19 ?_
      refine S_v (r_loadB1 0 rfl Try.underlying3 rfl hL10 rfl rfl) rfl ?_
      refine S_guarded rfl rfl hg19 ?_
      refine S_v (RunsAt_pu rfl) rfl ?_
      refine S_v (r_pickF rfl hg19 rfl) rfl ?_
      refine S_seqnil ?_
      refine W_ifn rfl (fun hc27 => ?_) (fun hc27 => ?_)
      · replace h := Go.L.ite_n hc27 h
        refine W_seqr ?_
        obtain ⟨x29, hb29, h⟩ := Go.L.bind_some h
        refine S_callL rfl rfl hL10 (law4_sorts_ok _ _ (gz_le hH hL10) hb29) ?_
        rintro _ w30 rfl hx30 hL30 hle30
        refine S_pu 1 rfl ?_
        refine S_split (s := 30) rfl (fun hg31 => ?_) (fun hg31 => ?_)
        · replace h := Go.L.ite_t hg31 h
          refine S_guarded rfl rfl hg31 ?_
          refine S_v (r_loadBN 1 rfl Try.underlying25 rfl zr25 hL30 rfl) rfl ?_
          refine S_guarded rfl rfl hg31 ?_
          refine S_v (r_loadBN 0 rfl Try.underlying25 rfl zr25 hL30 rfl) rfl ?_
          refine S_guarded rfl rfl hg31 ?_
          refine S_v (r_eqA rfl rfl eqg25 (eq25 _ _ _ _ )) rfl ?_
          refine S_v (r_pickT rfl hg31 rfl) rfl ?_
          refine S_pu 1 rfl ?_
          refine S_and 2 6 rfl rfl rfl rfl rfl rfl ?_
          refine S_pu 1 rfl ?_
          refine S_and 2 10 rfl rfl rfl rfl rfl rfl ?_
          refine S_pu 1 rfl ?_
          refine S_seqnil ?_
          refine W_ret ?_
          refine At_seq_ret ?_
          obtain rfl := Option.some.inj h
          refine At_body rfl rfl ?_
          exact ⟨hL30.ext, rfl⟩
        · replace h := Go.L.ite_f hg31 h
          refine S_unwanted rfl rfl hg31 rfl ?_
          refine S_unwanted rfl rfl hg31 rfl ?_
          refine S_unwanted rfl rfl hg31 rfl ?_
          refine S_v (r_pickF rfl hg31 rfl) rfl ?_
          refine S_pu 1 rfl ?_
          refine S_unwanted rfl rfl rfl rfl ?_
          refine S_unwanted rfl rfl rfl rfl ?_
          refine S_v (r_pickF rfl rfl rfl) rfl ?_
          refine S_pu 1 rfl ?_
          refine S_unwanted rfl rfl rfl rfl ?_
          refine S_unwanted rfl rfl rfl rfl ?_
          refine S_v (r_pickF rfl rfl rfl) rfl ?_
          refine S_pu 1 rfl ?_
          refine S_seqnil ?_
          refine W_ret ?_
          refine At_seq_ret ?_
          obtain rfl := Option.some.inj h
          refine At_body rfl rfl ?_
          exact ⟨hL30.ext, rfl⟩
      · replace h := Go.L.ite_p hc27 h
        refine W_skip ?_
        refine At_seq ?_
        refine W_seq ?_
        refine W_seqr ?_
        refine S_pu 1 rfl ?_
        refine S_v (r_len rfl Try.underlying22 h0_0) rfl ?_
        refine S_pu 1 rfl ?_
        refine S_seqnil ?_
        refine W_if rfl (fun hc35 => ?_) (fun hc35 => ?_)
        · replace h := Go.L.ite_p hc35 h
          refine W_seqr ?_
          refine S_pu 1 rfl ?_
          refine S_seqnil ?_
          refine W_ret ?_
          refine At_seq_ret ?_
          obtain rfl := Option.some.inj h
          refine At_body rfl rfl ?_
          exact ⟨hL10.ext, rfl⟩
        · replace h := Go.L.ite_n hc35 h
          refine W_skip ?_
          refine At_seq ?_
          refine W_seqr ?_
          refine S_pu 1 rfl ?_
          obtain ⟨x38, hb38, h⟩ := Go.L.bind_some h
          refine S_callL rfl rfl hL10 (ref4_Twice_ok _ _ (gz_le hH hL10) (h0_0.mono (gz_left hH)) hb38) ?_
          rintro _ w39 rfl hx39 hL39 hle39
          refine S_pu 5 rfl ?_
          refine S_seqnil ?_
          refine W_seqr ?_
          refine S_pu 4 rfl ?_
          refine S_and 3 3 rfl rfl rfl rfl rfl rfl ?_
          refine S_pu 1 rfl ?_
          refine S_seqnil ?_
          refine W_ret ?_
          obtain rfl := Option.some.inj h
          refine At_body rfl rfl ?_
          exact ⟨hL39.ext, rfl⟩
end Go.Proofs.Ytmifkdfaaaaicaa
