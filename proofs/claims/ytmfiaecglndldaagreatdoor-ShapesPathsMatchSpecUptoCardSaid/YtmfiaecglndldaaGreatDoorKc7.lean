/- Texts of a claim, merged. -/
import Derived.Test.YtmfiaecglndldaaGreatDoorKc6
import Derived.KernelRfl
import Derived.ProofKit
import Derived.OpenShut
import Derived.Carry
import Derived.Deep.Slices
import Derived.Test.YtmfiaecglndldaaGreatDoorRows
import Derived.Lib.LaidU8T
import Derived.LaidMore
import Derived.MakeChecks
import Derived.LaidHandle
set_option linter.unusedVariables false
set_option linter.unusedSimpArgs false
section
namespace Go.Proofs.YtmfiaecglndldaaGreatDoor
open Go Go.E Go.RowKit
set_option maxHeartbeats 1000000
set_option maxRecDepth 10000
open _root_.Go.Proofs.Tryz
noncomputable def law4_shaped : Option (Bool) :=
 Option.bind (shapes_Match ([42, 42, 47, 99] : List UInt8) ([97, 47, 98, 47, 99] : List UInt8)) (fun x1 => Option.bind (shapes_Match ([42, 47, 99] : List UInt8) ([97, 47, 98, 47, 99] : List UInt8)) (fun x5 => Option.bind (law4_record (5 : Int)) (fun x9 => Option.bind (shapes_Paths x9) (fun x11 => Option.bind (law4_number (5 : Int)) (fun x15 => Option.bind (law4_record (5 : Int)) (fun x17 => Option.bind (shapes_Build ([x15, x17])) (fun x20 => Option.bind (shapes_Index_Number (x20.1.1, x20.1.2) ([97] : List UInt8) (1 : Int) (5 : Int)) (fun x26 => Option.bind (shapes_Index_Find (x20.1.1, x20.1.2) ([42, 42] : List UInt8)) (fun x31 => Option.bind (shapes_Index_Text (x20.1.1, x20.1.2) ([97] : List UInt8) ([])) (fun x35 => Option.bind (shapes_Open ([(0 : UInt8), (0 : UInt8)])) (fun x40 => if x1.2.1 = (0 : Int) then if x5.2.1 = (0 : Int) then if x11.2.1 = (0 : Int) then if x20.2.1 = (0 : Int) then if x26.2.1 = (0 : Int) then if x31.2.1 = (0 : Int) then if x35.2.1 = (0 : Int) then if x40.2.1 = (0 : Int) then (if (bif x1.1 then !x5.1 else false) then Option.bind (ref4_Texts x11.1 ([([] : List UInt8), ([97] : List UInt8)])) (fun x74 => if x74 then Option.bind (ref3_Ints x26.1 ([(1 : Int)])) (fun x79 => if x79 then Option.bind (ref3_Ints x31.1 ([(0 : Int), (1 : Int)])) (fun x84 => if x84 then if (x35.1.length : Int) = (0 : Int) then Option.bind (shapes_Index_Items (x40.1.1, x40.1.2)) (fun x90 => if x90 = (0 : Int) then Option.bind (shapes_Check ([97, 47, 47, 98] : List UInt8)) (fun x94 => Option.bind (ref3_At (1 : Int) (2 : Int)) (fun x96 => some (decide (x94.1 = x96.1 ∧ x94.2 = x96.2)))) else some (false)) else some (false) else some (false)) else some (false)) else some (false)) else some (false)) else some (false) else some (false) else some (false) else some (false) else some (false) else some (false) else some (false) else some (false))))))))))))
theorem law4_shaped_ok (w : World) (H : PH) (hH : Le H (hp w))    {r : Bool} (h : law4_shaped = some r) :
  Ok Tryz.prog 14 [] w (fun v w' => Ext w w' ∧ v = .bool r) := by
 refine Ok_enter (n := 130) [] func14 rfl rfl rfl rfl rfl ?_
 have hL := Lcl.start w
 refine W_pz 1 rfl ?_
 refine W_seqr ?_
 obtain ⟨x1, hb1, h⟩ := Go.L.bind_some h
 refine S_callL rfl rfl hL (shapes_Match_ok _ _ (gz_le hH hL) hb1) ?_
 rintro _ w2 rfl hx2 hL2 hle2
 refine S_pu 3 rfl ?_
 refine S_alloc zr23 rfl rfl hL2 ?_
 intro w3 b3 hL3 hle3 _
 refine S_pu 1 rfl ?_
 refine S_storeBN 0 rfl rfl rfl zr23 hL3 rfl rfl (onc rfl (onc rfl on0)) ?_
 intro w4 hL4 hle4
 refine S_seqnil ?_
 refine W_seqr ?_
 obtain ⟨x5, hb5, h⟩ := Go.L.bind_some h
 refine S_callL rfl rfl hL4 (shapes_Match_ok _ _ (gz_le hH hL4) hb5) ?_
 rintro _ w6 rfl hx6 hL6 hle6
 refine S_pu 3 rfl ?_
 refine S_alloc zr23 rfl rfl hL6 ?_
 intro w7 b7 hL7 hle7 _
 refine S_pu 1 rfl ?_
 refine S_storeBN 0 rfl rfl rfl zr23 hL7 rfl rfl (onc rfl (onc rfl on0)) ?_
 intro w8 hL8 hle8
 refine S_seqnil ?_
 refine W_seqr ?_
 obtain ⟨x9, hb9, h⟩ := Go.L.bind_some h
 refine S_callL rfl rfl hL8 (law4_record_ok _ _ (gz_le hH hL8) hb9) ?_
 rintro _ w10 ⟨u10_0, u10_1, u10_2, rfl, hR10_0, hR10_1, hR10_2⟩ hx10 hL10 hle10
 have hv10_0 := hR10_0.vecG hH hL8 hx10
 have hv10_1 := hR10_1.mono (gz_nw hH hL8 hx10)
 have hv10_2 := hR10_2.mono (gz_nw hH hL8 hx10)
 obtain ⟨x11, hb11, h⟩ := Go.L.bind_some h
 refine S_callL rfl rfl hL10 (shapes_Paths_ok (a0 := x9) _ _ (gz_le hH hL10) hv10_0 hv10_1 hv10_2 hb11) ?_
 rintro _ w12 ⟨u12_0, rfl, hR12_0⟩ hx12 hL12 hle12
 have hv12_0 := hR12_0.vecG hH hL10 hx12
 replace hv10_0 := hv10_0.mono (gz_mono hH hle12)
 replace hv10_1 := hv10_1.mono (gz_mono hH hle12)
 replace hv10_2 := hv10_2.mono (gz_mono hH hle12)
 refine S_pu 3 rfl ?_
 refine S_alloc zr23 rfl rfl hL12 ?_
 intro w13 b13 hL13 hle13 _
 replace hv10_0 := hv10_0.mono (gz_mono hH hle13)
 replace hv10_1 := hv10_1.mono (gz_mono hH hle13)
 replace hv10_2 := hv10_2.mono (gz_mono hH hle13)
 replace hv12_0 := hv12_0.mono (gz_mono hH hle13)
 refine S_pu 1 rfl ?_
 refine S_storeBN 0 rfl rfl rfl zr23 hL13 rfl rfl (onc rfl (onc rfl on0)) ?_
 intro w14 hL14 hle14
 replace hv10_0 := hv10_0.mono (gz_mono hH hle14)
 replace hv10_1 := hv10_1.mono (gz_mono hH hle14)
 replace hv10_2 := hv10_2.mono (gz_mono hH hle14)
 replace hv12_0 := hv12_0.mono (gz_mono hH hle14)
 refine S_seqnil ?_
 refine W_seqr ?_
 obtain ⟨x15, hb15, h⟩ := Go.L.bind_some h
 refine S_callL rfl rfl hL14 (law4_number_ok _ _ (gz_le hH hL14) hb15) ?_
 rintro _ w16 ⟨u16_0, u16_1, u16_2, rfl, hR16_0, hR16_1, hR16_2⟩ hx16 hL16 hle16
 have hv16_0 := hR16_0.vecG hH hL14 hx16
 have hv16_1 := hR16_1.vecG hH hL14 hx16
 have hv16_2 := hR16_2.vecG hH hL14 hx16
 replace hv12_0 := hv12_0.mono (gz_mono hH hle16)
 obtain ⟨x17, hb17, h⟩ := Go.L.bind_some h
 refine S_callL rfl rfl hL16 (law4_record_ok _ _ (gz_le hH hL16) hb17) ?_
 rintro _ w18 ⟨u18_0, u18_1, u18_2, rfl, hR18_0, hR18_1, hR18_2⟩ hx18 hL18 hle18
 have hv18_0 := hR18_0.vecG hH hL16 hx18
 have hv18_1 := hR18_1.mono (gz_nw hH hL16 hx18)
 have hv18_2 := hR18_2.mono (gz_nw hH hL16 hx18)
 replace hv12_0 := hv12_0.mono (gz_mono hH hle18)
 replace hv16_0 := hv16_0.mono (gz_mono hH hle18)
 replace hv16_1 := hv16_1.mono (gz_mono hH hle18)
 replace hv16_2 := hv16_2.mono (gz_mono hH hle18)
 refine S_litE (r := .tree) (l := [x15, x17]) rfl (fun _ => bsl36_2 _ _ _ _ _ _ _ _ _ _ _) rfl (show 2 ≤ 9223372036854775807 by decide) hH hL18 (.c5 (Go.E.Rp.tree_close ⟨_, _, rfl, rfl, ⟨_, _, rfl, rfl, ⟨_, _, rfl, ⟨_, rfl, hv16_0⟩, ⟨_, _, rfl, ⟨_, rfl, hv16_1⟩, ⟨_, rfl, hv16_2⟩⟩⟩⟩⟩) (.c5 (Go.E.Rp.tree_close ⟨_, _, rfl, rfl, ⟨_, _, rfl, rfl, ⟨_, _, rfl, ⟨_, rfl, hv18_0⟩, ⟨_, _, rfl, ⟨_, rfl, hv18_1⟩, ⟨_, rfl, hv18_2⟩⟩⟩⟩⟩) .nil)) ?_
 intro v19 w19 hx19 hL19 hle19 hv19
 replace hv12_0 := hv12_0.mono (gz_mono hH hle19)
 replace hv16_0 := hv16_0.mono (gz_mono hH hle19)
 replace hv16_1 := hv16_1.mono (gz_mono hH hle19)
 replace hv16_2 := hv16_2.mono (gz_mono hH hle19)
 replace hv18_0 := hv18_0.mono (gz_mono hH hle19)
 replace hv18_1 := hv18_1.mono (gz_mono hH hle19)
 replace hv18_2 := hv18_2.mono (gz_mono hH hle19)
 obtain ⟨x20, hb20, h⟩ := Go.L.bind_some h
 refine S_callL rfl rfl hL19 (shapes_Build_ok _ _ (gz_le hH hL19) hv19 hb20) ?_
 rintro _ w21 ⟨u21_0, rfl, hR21_0⟩ hx21 hL21 hle21
 have hv21_0 := hR21_0.mono (gz_nw hH hL19 hx21)
 replace hv12_0 := hv12_0.mono (gz_mono hH hle21)
 replace hv16_0 := hv16_0.mono (gz_mono hH hle21)
 replace hv16_1 := hv16_1.mono (gz_mono hH hle21)
 replace hv16_2 := hv16_2.mono (gz_mono hH hle21)
 replace hv18_0 := hv18_0.mono (gz_mono hH hle21)
 replace hv18_1 := hv18_1.mono (gz_mono hH hle21)
 replace hv18_2 := hv18_2.mono (gz_mono hH hle21)
 replace hv19 := hv19.mono (gz_mono hH hle21)
 refine S_pu 3 rfl ?_
 refine S_alloc zr47 rfl rfl hL21 ?_
 intro w22 b22 hL22 hle22 _
 replace hv12_0 := hv12_0.mono (gz_mono hH hle22)
 replace hv16_0 := hv16_0.mono (gz_mono hH hle22)
 replace hv16_1 := hv16_1.mono (gz_mono hH hle22)
 replace hv16_2 := hv16_2.mono (gz_mono hH hle22)
 replace hv18_0 := hv18_0.mono (gz_mono hH hle22)
 replace hv18_1 := hv18_1.mono (gz_mono hH hle22)
 replace hv18_2 := hv18_2.mono (gz_mono hH hle22)
 replace hv19 := hv19.mono (gz_mono hH hle22)
 replace hv21_0 := hv21_0.mono (gz_mono hH hle22)
 refine S_alloc zr23 rfl rfl hL22 ?_
 intro w23 b23 hL23 hle23 _
 replace hv12_0 := hv12_0.mono (gz_mono hH hle23)
 replace hv16_0 := hv16_0.mono (gz_mono hH hle23)
 replace hv16_1 := hv16_1.mono (gz_mono hH hle23)
 replace hv16_2 := hv16_2.mono (gz_mono hH hle23)
 replace hv18_0 := hv18_0.mono (gz_mono hH hle23)
 replace hv18_1 := hv18_1.mono (gz_mono hH hle23)
 replace hv18_2 := hv18_2.mono (gz_mono hH hle23)
 replace hv19 := hv19.mono (gz_mono hH hle23)
 replace hv21_0 := hv21_0.mono (gz_mono hH hle23)
 refine S_storeBN 1 rfl rfl rfl zr47 hL23 rfl rfl (onc rfl (onc hv21_0.one on0)) ?_
 intro w24 hL24 hle24
 replace hv12_0 := hv12_0.mono (gz_mono hH hle24)
 replace hv16_0 := hv16_0.mono (gz_mono hH hle24)
 replace hv16_1 := hv16_1.mono (gz_mono hH hle24)
 replace hv16_2 := hv16_2.mono (gz_mono hH hle24)
 replace hv18_0 := hv18_0.mono (gz_mono hH hle24)
 replace hv18_1 := hv18_1.mono (gz_mono hH hle24)
 replace hv18_2 := hv18_2.mono (gz_mono hH hle24)
 replace hv19 := hv19.mono (gz_mono hH hle24)
 replace hv21_0 := hv21_0.mono (gz_mono hH hle24)
 refine S_storeBN 0 rfl rfl rfl zr23 hL24 rfl rfl (onc rfl (onc rfl on0)) ?_
 intro w25 hL25 hle25
 replace hv12_0 := hv12_0.mono (gz_mono hH hle25)
 replace hv16_0 := hv16_0.mono (gz_mono hH hle25)
 replace hv16_1 := hv16_1.mono (gz_mono hH hle25)
 replace hv16_2 := hv16_2.mono (gz_mono hH hle25)
 replace hv18_0 := hv18_0.mono (gz_mono hH hle25)
 replace hv18_1 := hv18_1.mono (gz_mono hH hle25)
 replace hv18_2 := hv18_2.mono (gz_mono hH hle25)
 replace hv19 := hv19.mono (gz_mono hH hle25)
 replace hv21_0 := hv21_0.mono (gz_mono hH hle25)
 refine S_seqnil ?_
 refine W_seqr ?_
 refine S_v (r_loadBN 1 rfl underlying47 rfl zr47 hL25 rfl) rfl ?_
 obtain ⟨x26, hb26, h⟩ := Go.L.bind_some h
 refine S_callL rfl rfl hL25 (shapes_Index_Number_ok (a0 := (x20.1.1, x20.1.2)) _ _ (gz_le hH hL25) hv21_0 hb26) ?_
 rintro _ w27 ⟨u27_0, rfl, hR27_0⟩ hx27 hL27 hle27
 have hv27_0 := hR27_0.vecG hH hL25 hx27
 replace hv12_0 := hv12_0.mono (gz_mono hH hle27)
 replace hv21_0 := hv21_0.mono (gz_mono hH hle27)
 refine S_pu 3 rfl ?_
 refine S_alloc zr23 rfl rfl hL27 ?_
 intro w28 b28 hL28 hle28 _
 replace hv12_0 := hv12_0.mono (gz_mono hH hle28)
 replace hv21_0 := hv21_0.mono (gz_mono hH hle28)
 replace hv27_0 := hv27_0.mono (gz_mono hH hle28)
 refine S_pu 1 rfl ?_
 refine S_storeBN 0 rfl rfl rfl zr23 hL28 rfl rfl (onc rfl (onc rfl on0)) ?_
 intro w29 hL29 hle29
 replace hv12_0 := hv12_0.mono (gz_mono hH hle29)
 replace hv21_0 := hv21_0.mono (gz_mono hH hle29)
 replace hv27_0 := hv27_0.mono (gz_mono hH hle29)
 refine S_seqnil ?_
 have hG30 := hL29.rG H
 refine W_seqr ?_
 refine S_v (r_loadBN 2 rfl underlying47 rfl zr47 hL29 rfl) rfl ?_
 obtain ⟨x31, hb31, h⟩ := Go.L.bind_some h
 refine S_callL rfl rfl hL29 (shapes_Index_Find_ok (a0 := (x20.1.1, x20.1.2)) _ _ (gz_le hH hL29) (hv21_0.mono hG30) hb31) ?_
 rintro _ w32 ⟨u32_0, rfl, hR32_0⟩ hx32 hL32 hle32
 have hv32_0 := hR32_0.vecG hH hL29 hx32
 replace hG30 := hG30.trans (gz_mono hH hle32)
 refine S_pu 3 rfl ?_
 refine S_alloc zr23 rfl rfl hL32 ?_
 intro w33 b33 hL33 hle33 _
 replace hv32_0 := hv32_0.mono (gz_mono hH hle33)
 replace hG30 := hG30.trans (gz_mono hH hle33)
 refine S_pu 1 rfl ?_
 refine S_storeBN 0 rfl rfl rfl zr23 hL33 rfl rfl (onc rfl (onc rfl on0)) ?_
 intro w34 hL34 hle34
 replace hv32_0 := hv32_0.mono (gz_mono hH hle34)
 replace hG30 := hG30.trans (gz_mono hH hle34)
 refine S_seqnil ?_
 refine W_seqr ?_
 refine S_v (r_loadBN 3 rfl underlying47 rfl zr47 hL34 rfl) rfl ?_
 obtain ⟨x35, hb35, h⟩ := Go.L.bind_some h
 refine S_callL rfl rfl hL34 (shapes_Index_Text_ok (a0 := (x20.1.1, x20.1.2)) _ _ (gz_le hH hL34) (hv21_0.mono hG30) (Vec.nil _ _) hb35) ?_
 rintro _ w36 ⟨u36_0, rfl, hR36_0⟩ hx36 hL36 hle36
 have hv36_0 := hR36_0.vecG hH hL34 hx36
 replace hv32_0 := hv32_0.mono (gz_mono hH hle36)
 replace hG30 := hG30.trans (gz_mono hH hle36)
 refine S_pu 3 rfl ?_
 refine S_alloc zr23 rfl rfl hL36 ?_
 intro w37 b37 hL37 hle37 _
 replace hv32_0 := hv32_0.mono (gz_mono hH hle37)
 replace hv36_0 := hv36_0.mono (gz_mono hH hle37)
 replace hG30 := hG30.trans (gz_mono hH hle37)
 refine S_pu 1 rfl ?_
 refine S_storeBN 0 rfl rfl rfl zr23 hL37 rfl rfl (onc rfl (onc rfl on0)) ?_
 intro w38 hL38 hle38
 replace hv32_0 := hv32_0.mono (gz_mono hH hle38)
 replace hv36_0 := hv36_0.mono (gz_mono hH hle38)
 replace hG30 := hG30.trans (gz_mono hH hle38)
 refine S_seqnil ?_
 refine W_seqr ?_
 refine S_litE (r := .byte) (l := [(0 : UInt8), (0 : UInt8)]) rfl (fun _ => bsl35_2 _ _ _) rfl (show 2 ≤ 9223372036854775807 by decide) hH hL38 (.c1 rfl (.c1 rfl .nil)) ?_
 intro v39 w39 hx39 hL39 hle39 hv39
 replace hv32_0 := hv32_0.mono (gz_mono hH hle39)
 replace hv36_0 := hv36_0.mono (gz_mono hH hle39)
 replace hG30 := hG30.trans (gz_mono hH hle39)
 obtain ⟨x40, hb40, h⟩ := Go.L.bind_some h
 refine S_callL rfl rfl hL39 (shapes_Open_ok _ _ (gz_le hH hL39) hv39 hb40) ?_
 rintro _ w41 ⟨u41_0, rfl, hR41_0⟩ hx41 hL41 hle41
 have hv41_0 := hR41_0.mono (gz_nw hH hL39 hx41)
 replace hv32_0 := hv32_0.mono (gz_mono hH hle41)
 replace hv36_0 := hv36_0.mono (gz_mono hH hle41)
 replace hv39 := hv39.mono (gz_mono hH hle41)
 replace hG30 := hG30.trans (gz_mono hH hle41)
 refine S_pu 3 rfl ?_
 refine S_alloc zr47 rfl rfl hL41 ?_
 intro w42 b42 hL42 hle42 _
 replace hv32_0 := hv32_0.mono (gz_mono hH hle42)
 replace hv36_0 := hv36_0.mono (gz_mono hH hle42)
 replace hv39 := hv39.mono (gz_mono hH hle42)
 replace hv41_0 := hv41_0.mono (gz_mono hH hle42)
 replace hG30 := hG30.trans (gz_mono hH hle42)
 refine S_alloc zr23 rfl rfl hL42 ?_
 intro w43 b43 hL43 hle43 _
 replace hv32_0 := hv32_0.mono (gz_mono hH hle43)
 replace hv36_0 := hv36_0.mono (gz_mono hH hle43)
 replace hv39 := hv39.mono (gz_mono hH hle43)
 replace hv41_0 := hv41_0.mono (gz_mono hH hle43)
 replace hG30 := hG30.trans (gz_mono hH hle43)
 refine S_storeBN 1 rfl rfl rfl zr47 hL43 rfl rfl (onc rfl (onc hv41_0.one on0)) ?_
 intro w44 hL44 hle44
 replace hv32_0 := hv32_0.mono (gz_mono hH hle44)
 replace hv36_0 := hv36_0.mono (gz_mono hH hle44)
 replace hv39 := hv39.mono (gz_mono hH hle44)
 replace hv41_0 := hv41_0.mono (gz_mono hH hle44)
 replace hG30 := hG30.trans (gz_mono hH hle44)
 refine S_storeBN 0 rfl rfl rfl zr23 hL44 rfl rfl (onc rfl (onc rfl on0)) ?_
 intro w45 hL45 hle45
 replace hv32_0 := hv32_0.mono (gz_mono hH hle45)
 replace hv36_0 := hv36_0.mono (gz_mono hH hle45)
 replace hv39 := hv39.mono (gz_mono hH hle45)
 replace hv41_0 := hv41_0.mono (gz_mono hH hle45)
 replace hG30 := hG30.trans (gz_mono hH hle45)
 refine S_seqnil ?_
 refine W_seq ?_
 have hG46 := hL45.rG H
 refine W_seqr ?_
 refine S_v (r_field rfl underlying23 rfl zr3 (by decide)) rfl ?_
 refine S_v (r_loadB1 9 rfl underlying3 rfl hL45 rfl rfl) rfl ?_
 refine S_pu 2 rfl ?_
 refine S_split (s := 60) rfl (fun hg47 => ?_) (fun hg47 => ?_)
 ·replace h := Go.L.ite_n (not_dec_t hg47) h
  iterate 3 refine S_unwanted rfl rfl hg47 rfl ?_
  refine S_v (r_pickT rfl hg47 rfl) rfl ?_
  refine S_pu 1 rfl ?_
  iterate 3 refine S_unwanted rfl rfl rfl rfl ?_
  refine S_v (r_pickT rfl rfl rfl) rfl ?_
  refine S_pu 1 rfl ?_
  iterate 3 refine S_unwanted rfl rfl rfl rfl ?_
  refine S_v (r_pickT rfl rfl rfl) rfl ?_
  refine S_pu 1 rfl ?_
  iterate 3 refine S_unwanted rfl rfl rfl rfl ?_
  refine S_v (r_pickT rfl rfl rfl) rfl ?_
  refine S_pu 1 rfl ?_
  iterate 3 refine S_unwanted rfl rfl rfl rfl ?_
  refine S_v (r_pickT rfl rfl rfl) rfl ?_
  refine S_pu 1 rfl ?_
  iterate 3 refine S_unwanted rfl rfl rfl rfl ?_
  refine S_v (r_pickT rfl rfl rfl) rfl ?_
  refine S_pu 1 rfl ?_
  iterate 3 refine S_unwanted rfl rfl rfl rfl ?_
  refine S_v (r_pickT rfl rfl rfl) rfl ?_
  refine S_seqnil ?_
  refine W_true rfl ?_
  refine W_pz 1 rfl ?_
  refine W_ret ?_
  refine At_seq_ret ?_
  obtain rfl := Option.some.inj h
  refine At_body rfl rfl ?_
  exact ⟨hL45.ext, rfl⟩
 ·replace h := Go.L.ite_p (not_dec_f hg47) h
  refine S_guarded rfl rfl hg47 ?_
  refine S_v (r_field rfl underlying23 rfl zr3 (by decide)) rfl ?_
  refine S_guarded rfl rfl hg47 ?_
  refine S_v (r_loadB1 8 rfl underlying3 rfl hL45 rfl rfl) rfl ?_
  refine S_guarded rfl rfl hg47 ?_
  refine S_v (RunsAt_pu rfl) rfl ?_
  refine S_v (r_pickF rfl hg47 rfl) rfl ?_
  refine S_pu 1 rfl ?_
  refine S_split (s := 65) rfl (fun hg50 => ?_) (fun hg50 => ?_)
  ·replace h := Go.L.ite_n (not_dec_t hg50) h
   iterate 3 refine S_unwanted rfl rfl hg50 rfl ?_
   refine S_v (r_pickT rfl hg50 rfl) rfl ?_
   refine S_pu 1 rfl ?_
   iterate 3 refine S_unwanted rfl rfl rfl rfl ?_
   refine S_v (r_pickT rfl rfl rfl) rfl ?_
   refine S_pu 1 rfl ?_
   iterate 3 refine S_unwanted rfl rfl rfl rfl ?_
   refine S_v (r_pickT rfl rfl rfl) rfl ?_
   refine S_pu 1 rfl ?_
   iterate 3 refine S_unwanted rfl rfl rfl rfl ?_
   refine S_v (r_pickT rfl rfl rfl) rfl ?_
   refine S_pu 1 rfl ?_
   iterate 3 refine S_unwanted rfl rfl rfl rfl ?_
   refine S_v (r_pickT rfl rfl rfl) rfl ?_
   refine S_pu 1 rfl ?_
   iterate 3 refine S_unwanted rfl rfl rfl rfl ?_
   refine S_v (r_pickT rfl rfl rfl) rfl ?_
   refine S_seqnil ?_
   refine W_true rfl ?_
   refine W_pz 1 rfl ?_
   refine W_ret ?_
   refine At_seq_ret ?_
   obtain rfl := Option.some.inj h
   refine At_body rfl rfl ?_
   exact ⟨hL45.ext, rfl⟩
  ·replace h := Go.L.ite_p (not_dec_f hg50) h
   refine S_guarded rfl rfl hg50 ?_
   refine S_v (r_field rfl underlying23 rfl zr3 (by decide)) rfl ?_
   refine S_guarded rfl rfl hg50 ?_
   refine S_v (r_loadB1 7 rfl underlying3 rfl hL45 rfl rfl) rfl ?_
   refine S_guarded rfl rfl hg50 ?_
   refine S_v (RunsAt_pu rfl) rfl ?_
   refine S_v (r_pickF rfl hg50 rfl) rfl ?_
   refine S_pu 1 rfl ?_
   refine S_split (s := 70) rfl (fun hg53 => ?_) (fun hg53 => ?_)
   ·replace h := Go.L.ite_n (not_dec_t hg53) h
    iterate 3 refine S_unwanted rfl rfl hg53 rfl ?_
    refine S_v (r_pickT rfl hg53 rfl) rfl ?_
    refine S_pu 1 rfl ?_
    iterate 3 refine S_unwanted rfl rfl rfl rfl ?_
    refine S_v (r_pickT rfl rfl rfl) rfl ?_
    refine S_pu 1 rfl ?_
    iterate 3 refine S_unwanted rfl rfl rfl rfl ?_
    refine S_v (r_pickT rfl rfl rfl) rfl ?_
    refine S_pu 1 rfl ?_
    iterate 3 refine S_unwanted rfl rfl rfl rfl ?_
    refine S_v (r_pickT rfl rfl rfl) rfl ?_
    refine S_pu 1 rfl ?_
    iterate 3 refine S_unwanted rfl rfl rfl rfl ?_
    refine S_v (r_pickT rfl rfl rfl) rfl ?_
    refine S_seqnil ?_
    refine W_true rfl ?_
    refine W_pz 1 rfl ?_
    refine W_ret ?_
    refine At_seq_ret ?_
    obtain rfl := Option.some.inj h
    refine At_body rfl rfl ?_
    exact ⟨hL45.ext, rfl⟩
   ·replace h := Go.L.ite_p (not_dec_f hg53) h
    refine S_guarded rfl rfl hg53 ?_
    refine S_v (r_field rfl underlying23 rfl zr3 (by decide)) rfl ?_
    refine S_guarded rfl rfl hg53 ?_
    refine S_v (r_loadB1 5 rfl underlying3 rfl hL45 rfl rfl) rfl ?_
    refine S_guarded rfl rfl hg53 ?_
    refine S_v (RunsAt_pu rfl) rfl ?_
    refine S_v (r_pickF rfl hg53 rfl) rfl ?_
    refine S_pu 1 rfl ?_
    refine S_split (s := 75) rfl (fun hg56 => ?_) (fun hg56 => ?_)
    ·replace h := Go.L.ite_n (not_dec_t hg56) h
     iterate 3 refine S_unwanted rfl rfl hg56 rfl ?_
     refine S_v (r_pickT rfl hg56 rfl) rfl ?_
     refine S_pu 1 rfl ?_
     iterate 3 refine S_unwanted rfl rfl rfl rfl ?_
     refine S_v (r_pickT rfl rfl rfl) rfl ?_
     refine S_pu 1 rfl ?_
     iterate 3 refine S_unwanted rfl rfl rfl rfl ?_
     refine S_v (r_pickT rfl rfl rfl) rfl ?_
     refine S_pu 1 rfl ?_
     iterate 3 refine S_unwanted rfl rfl rfl rfl ?_
     refine S_v (r_pickT rfl rfl rfl) rfl ?_
     refine S_seqnil ?_
     refine W_true rfl ?_
     refine W_pz 1 rfl ?_
     refine W_ret ?_
     refine At_seq_ret ?_
     obtain rfl := Option.some.inj h
     refine At_body rfl rfl ?_
     exact ⟨hL45.ext, rfl⟩
    ·replace h := Go.L.ite_p (not_dec_f hg56) h
     refine S_guarded rfl rfl hg56 ?_
     refine S_v (r_field rfl underlying23 rfl zr3 (by decide)) rfl ?_
     refine S_guarded rfl rfl hg56 ?_
     refine S_v (r_loadB1 4 rfl underlying3 rfl hL45 rfl rfl) rfl ?_
     refine S_guarded rfl rfl hg56 ?_
     refine S_v (RunsAt_pu rfl) rfl ?_
     refine S_v (r_pickF rfl hg56 rfl) rfl ?_
     refine S_pu 1 rfl ?_
     refine S_split (s := 80) rfl (fun hg59 => ?_) (fun hg59 => ?_)
     ·replace h := Go.L.ite_n (not_dec_t hg59) h
      iterate 3 refine S_unwanted rfl rfl hg59 rfl ?_
      refine S_v (r_pickT rfl hg59 rfl) rfl ?_
      refine S_pu 1 rfl ?_
      iterate 3 refine S_unwanted rfl rfl rfl rfl ?_
      refine S_v (r_pickT rfl rfl rfl) rfl ?_
      refine S_pu 1 rfl ?_
      iterate 3 refine S_unwanted rfl rfl rfl rfl ?_
      refine S_v (r_pickT rfl rfl rfl) rfl ?_
      refine S_seqnil ?_
      refine W_true rfl ?_
      refine W_pz 1 rfl ?_
      refine W_ret ?_
      refine At_seq_ret ?_
      obtain rfl := Option.some.inj h
      refine At_body rfl rfl ?_
      exact ⟨hL45.ext, rfl⟩
     ·replace h := Go.L.ite_p (not_dec_f hg59) h
      refine S_guarded rfl rfl hg59 ?_
      refine S_v (r_field rfl underlying23 rfl zr3 (by decide)) rfl ?_
      refine S_guarded rfl rfl hg59 ?_
      refine S_v (r_loadB1 3 rfl underlying3 rfl hL45 rfl rfl) rfl ?_
      refine S_guarded rfl rfl hg59 ?_
      refine S_v (RunsAt_pu rfl) rfl ?_
      refine S_v (r_pickF rfl hg59 rfl) rfl ?_
      refine S_pu 1 rfl ?_
      refine S_split (s := 85) rfl (fun hg62 => ?_) (fun hg62 => ?_)
      ·replace h := Go.L.ite_n (not_dec_t hg62) h
       iterate 3 refine S_unwanted rfl rfl hg62 rfl ?_
       refine S_v (r_pickT rfl hg62 rfl) rfl ?_
       refine S_pu 1 rfl ?_
       iterate 3 refine S_unwanted rfl rfl rfl rfl ?_
       refine S_v (r_pickT rfl rfl rfl) rfl ?_
       refine S_seqnil ?_
       refine W_true rfl ?_
       refine W_pz 1 rfl ?_
       refine W_ret ?_
       refine At_seq_ret ?_
       obtain rfl := Option.some.inj h
       refine At_body rfl rfl ?_
       exact ⟨hL45.ext, rfl⟩
      ·replace h := Go.L.ite_p (not_dec_f hg62) h
       refine S_guarded rfl rfl hg62 ?_
       refine S_v (r_field rfl underlying23 rfl zr3 (by decide)) rfl ?_
       refine S_guarded rfl rfl hg62 ?_
       refine S_v (r_loadB1 2 rfl underlying3 rfl hL45 rfl rfl) rfl ?_
       refine S_guarded rfl rfl hg62 ?_
       refine S_v (RunsAt_pu rfl) rfl ?_
       refine S_v (r_pickF rfl hg62 rfl) rfl ?_
       refine S_pu 1 rfl ?_
       refine S_split (s := 90) rfl (fun hg65 => ?_) (fun hg65 => ?_)
       ·replace h := Go.L.ite_n (not_dec_t hg65) h
        iterate 3 refine S_unwanted rfl rfl hg65 rfl ?_
        refine S_v (r_pickT rfl hg65 rfl) rfl ?_
        refine S_seqnil ?_
        refine W_true rfl ?_
        refine W_pz 1 rfl ?_
        refine W_ret ?_
        refine At_seq_ret ?_
        obtain rfl := Option.some.inj h
        refine At_body rfl rfl ?_
        exact ⟨hL45.ext, rfl⟩
       ·replace h := Go.L.ite_p (not_dec_f hg65) h
        refine S_guarded rfl rfl hg65 ?_
        refine S_v (r_field rfl underlying23 rfl zr3 (by decide)) rfl ?_
        refine S_guarded rfl rfl hg65 ?_
        refine S_v (r_loadB1 0 rfl underlying3 rfl hL45 rfl rfl) rfl ?_
        refine S_guarded rfl rfl hg65 ?_
        refine S_v (RunsAt_pu rfl) rfl ?_
        refine S_v (r_pickF rfl hg65 rfl) rfl ?_
        refine S_seqnil ?_
        refine W_ifn rfl (fun hc68 => ?_) (fun hc68 => ?_)
        ·replace h := Go.L.ite_n hc68 h
         refine W_pz 1 rfl ?_
         refine W_ret ?_
         refine At_seq_ret ?_
         obtain rfl := Option.some.inj h
         refine At_body rfl rfl ?_
         exact ⟨hL45.ext, rfl⟩
        ·replace h := Go.L.ite_p hc68 h
         refine W_skip ?_
         refine At_seq ?_
         refine W_p 2 rfl ?_
         refine S_pickT 2 1 rfl rfl rfl rfl rfl rfl rfl ?_
         refine S_pu 1 rfl ?_
         refine S_split (s := 100) rfl (fun hg71 => ?_) (fun hg71 => ?_)
         ·replace h := Go.L.ite_t hg71 h
          refine S_guarded rfl rfl hg71 ?_
          refine S_v (RunsAt_pu rfl) rfl ?_
          refine S_guarded rfl rfl hg71 ?_
          refine S_litE (r := .st) (l := [([] : List UInt8), ([97] : List UInt8)]) rfl (fun _ => bsl30_2 _ rfl _ rfl _) rfl (show 2 ≤ 9223372036854775807 by decide) hH hL45 (.c1 rfl (.c1 rfl .nil)) ?_
          intro v73 w73 hx73 hL73 hle73 hv73
          replace hG46 := hG46.trans (gz_mono hH hle73)
          refine S_guarded rfl rfl hg71 ?_
          obtain ⟨x74, hb74, h⟩ := Go.L.bind_some h
          refine S_callL rfl rfl hL73 (ref4_Texts_ok _ _ (gz_le hH hL73) ((hv12_0.mono hG30).mono hG46) hv73 hb74) ?_
          rintro _ w75 rfl hx75 hL75 hle75
          replace hv73 := hv73.mono (gz_mono hH hle75)
          replace hG46 := hG46.trans (gz_mono hH hle75)
          refine S_v (r_pickT rfl hg71 rfl) rfl ?_
          refine S_pu 1 rfl ?_
          refine S_split (s := 105) rfl (fun hg76 => ?_) (fun hg76 => ?_)
          ·replace h := Go.L.ite_t hg76 h
           refine S_guarded rfl rfl hg76 ?_
           refine S_v (RunsAt_pu rfl) rfl ?_
           refine S_guarded rfl rfl hg76 ?_
           refine S_litE (r := (.int .i64)) (l := [(1 : Int)]) rfl (fun _ => bsl52_1 _ _) rfl (show 1 ≤ 9223372036854775807 by decide) hH hL75 (.c1 rfl .nil) ?_
           intro v78 w78 hx78 hL78 hle78 hv78
           replace hv73 := hv73.mono (gz_mono hH hle78)
           replace hG46 := hG46.trans (gz_mono hH hle78)
           refine S_guarded rfl rfl hg76 ?_
           obtain ⟨x79, hb79, h⟩ := Go.L.bind_some h
           refine S_callL rfl rfl hL78 (ref3_Ints_ok _ _ (gz_le hH hL78) ((hv27_0.mono hG30).mono hG46) hv78 hb79) ?_
           rintro _ w80 rfl hx80 hL80 hle80
           replace hv73 := hv73.mono (gz_mono hH hle80)
           replace hv78 := hv78.mono (gz_mono hH hle80)
           replace hG46 := hG46.trans (gz_mono hH hle80)
           refine S_v (r_pickT rfl hg76 rfl) rfl ?_
           refine S_pu 1 rfl ?_
           refine S_split (s := 110) rfl (fun hg81 => ?_) (fun hg81 => ?_)
           ·replace h := Go.L.ite_t hg81 h
            refine S_guarded rfl rfl hg81 ?_
            refine S_v (RunsAt_pu rfl) rfl ?_
            refine S_guarded rfl rfl hg81 ?_
            refine S_litE (r := (.int .i64)) (l := [(0 : Int), (1 : Int)]) rfl (fun _ => bsl52_2 _ _ _) rfl (show 2 ≤ 9223372036854775807 by decide) hH hL80 (.c1 rfl (.c1 rfl .nil)) ?_
            intro v83 w83 hx83 hL83 hle83 hv83
            replace hv73 := hv73.mono (gz_mono hH hle83)
            replace hv78 := hv78.mono (gz_mono hH hle83)
            replace hG46 := hG46.trans (gz_mono hH hle83)
            refine S_guarded rfl rfl hg81 ?_
            obtain ⟨x84, hb84, h⟩ := Go.L.bind_some h
            refine S_callL rfl rfl hL83 (ref3_Ints_ok _ _ (gz_le hH hL83) (hv32_0.mono hG46) hv83 hb84) ?_
            rintro _ w85 rfl hx85 hL85 hle85
            replace hv73 := hv73.mono (gz_mono hH hle85)
            replace hv78 := hv78.mono (gz_mono hH hle85)
            replace hv83 := hv83.mono (gz_mono hH hle85)
            replace hG46 := hG46.trans (gz_mono hH hle85)
            refine S_v (r_pickT rfl hg81 rfl) rfl ?_
            refine S_pu 1 rfl ?_
            refine S_split (s := 115) rfl (fun hg86 => ?_) (fun hg86 => ?_)
            ·replace h := Go.L.ite_t hg86 h
             refine S_guarded rfl rfl hg86 ?_
             refine S_v (RunsAt_pu rfl) rfl ?_
             refine S_guarded rfl rfl hg86 ?_
             refine S_v (r_len rfl underlying52 (hv36_0.mono hG46)) rfl ?_
             refine S_guarded rfl rfl hg86 ?_
             refine S_v (RunsAt_pu rfl) rfl ?_
             refine S_v (r_pickT rfl hg86 rfl) rfl ?_
             refine S_pu 1 rfl ?_
             refine S_split (s := 120) rfl (fun hg88 => ?_) (fun hg88 => ?_)
             ·replace h := Go.L.ite_p (of_decide_eq_true hg88) h
              refine S_guarded rfl rfl hg88 ?_
              refine S_v (r_loadBN 1 rfl underlying47 rfl zr47 hL85 rfl) rfl ?_
              refine S_guarded rfl rfl hg88 ?_
              obtain ⟨x90, hb90, h⟩ := Go.L.bind_some h
              refine S_callL rfl rfl hL85 (shapes_Index_Items_ok (a0 := (x40.1.1, x40.1.2)) _ _ (gz_le hH hL85) (hv41_0.mono hG46) hb90) ?_
              rintro _ w91 rfl hx91 hL91 hle91
              replace hv73 := hv73.mono (gz_mono hH hle91)
              replace hv78 := hv78.mono (gz_mono hH hle91)
              replace hv83 := hv83.mono (gz_mono hH hle91)
              replace hG46 := hG46.trans (gz_mono hH hle91)
              refine S_guarded rfl rfl hg88 ?_
              refine S_v (RunsAt_pu rfl) rfl ?_
              refine S_v (r_pickT rfl hg88 rfl) rfl ?_
              refine S_pu 1 rfl ?_
              refine S_split (s := 125) rfl (fun hg92 => ?_) (fun hg92 => ?_)
              ·replace h := Go.L.ite_p (of_decide_eq_true hg92) h
               refine S_guarded rfl rfl hg92 ?_
               obtain ⟨x94, hb94, h⟩ := Go.L.bind_some h
               refine S_callL rfl rfl hL91 (shapes_Check_ok _ _ (gz_le hH hL91) hb94) ?_
               rintro _ w95 rfl hx95 hL95 hle95
               replace hv73 := hv73.mono (gz_mono hH hle95)
               replace hv78 := hv78.mono (gz_mono hH hle95)
               replace hv83 := hv83.mono (gz_mono hH hle95)
               replace hG46 := hG46.trans (gz_mono hH hle95)
               refine S_guarded rfl rfl hg92 ?_
               obtain ⟨x96, hb96, h⟩ := Go.L.bind_some h
               refine S_callL rfl rfl hL95 (ref3_At_ok _ _ (gz_le hH hL95) hb96) ?_
               rintro _ w97 rfl hx97 hL97 hle97
               replace hv73 := hv73.mono (gz_mono hH hle97)
               replace hv78 := hv78.mono (gz_mono hH hle97)
               replace hv83 := hv83.mono (gz_mono hH hle97)
               replace hG46 := hG46.trans (gz_mono hH hle97)
               refine S_guarded rfl rfl hg92 ?_
               refine S_v (r_eqA rfl rfl eqg23 (eq23 _ _ _ _ )) rfl ?_
               refine S_v (r_pickT rfl hg92 rfl) rfl ?_
               refine S_pz 1 rfl ?_
               refine W_ret ?_
               obtain rfl := Option.some.inj h
               refine At_body rfl rfl ?_
               exact ⟨hL97.ext, rfl⟩
              ·replace h := Go.L.ite_n (of_decide_eq_false hg92) h
               iterate 3 refine S_unwanted rfl rfl hg92 rfl ?_
               refine S_v (r_pickF rfl hg92 rfl) rfl ?_
               refine S_pz 1 rfl ?_
               refine W_ret ?_
               obtain rfl := Option.some.inj h
               refine At_body rfl rfl ?_
               exact ⟨hL91.ext, rfl⟩
             ·replace h := Go.L.ite_n (of_decide_eq_false hg88) h
              iterate 3 refine S_unwanted rfl rfl hg88 rfl ?_
              refine S_v (r_pickF rfl hg88 rfl) rfl ?_
              refine S_pu 1 rfl ?_
              iterate 3 refine S_unwanted rfl rfl rfl rfl ?_
              refine S_v (r_pickF rfl rfl rfl) rfl ?_
              refine S_pz 1 rfl ?_
              refine W_ret ?_
              obtain rfl := Option.some.inj h
              refine At_body rfl rfl ?_
              exact ⟨hL85.ext, rfl⟩
            ·replace h := Go.L.ite_f hg86 h
             iterate 3 refine S_unwanted rfl rfl hg86 rfl ?_
             refine S_v (r_pickF rfl hg86 rfl) rfl ?_
             refine S_pu 1 rfl ?_
             iterate 3 refine S_unwanted rfl rfl rfl rfl ?_
             refine S_v (r_pickF rfl rfl rfl) rfl ?_
             refine S_pu 1 rfl ?_
             iterate 3 refine S_unwanted rfl rfl rfl rfl ?_
             refine S_v (r_pickF rfl rfl rfl) rfl ?_
             refine S_pz 1 rfl ?_
             refine W_ret ?_
             obtain rfl := Option.some.inj h
             refine At_body rfl rfl ?_
             exact ⟨hL85.ext, rfl⟩
           ·replace h := Go.L.ite_f hg81 h
            iterate 3 refine S_unwanted rfl rfl hg81 rfl ?_
            refine S_v (r_pickF rfl hg81 rfl) rfl ?_
            refine S_pu 1 rfl ?_
            iterate 3 refine S_unwanted rfl rfl rfl rfl ?_
            refine S_v (r_pickF rfl rfl rfl) rfl ?_
            refine S_pu 1 rfl ?_
            iterate 3 refine S_unwanted rfl rfl rfl rfl ?_
            refine S_v (r_pickF rfl rfl rfl) rfl ?_
            refine S_pu 1 rfl ?_
            iterate 3 refine S_unwanted rfl rfl rfl rfl ?_
            refine S_v (r_pickF rfl rfl rfl) rfl ?_
            refine S_pz 1 rfl ?_
            refine W_ret ?_
            obtain rfl := Option.some.inj h
            refine At_body rfl rfl ?_
            exact ⟨hL80.ext, rfl⟩
          ·replace h := Go.L.ite_f hg76 h
           iterate 3 refine S_unwanted rfl rfl hg76 rfl ?_
           refine S_v (r_pickF rfl hg76 rfl) rfl ?_
           refine S_pu 1 rfl ?_
           iterate 3 refine S_unwanted rfl rfl rfl rfl ?_
           refine S_v (r_pickF rfl rfl rfl) rfl ?_
           refine S_pu 1 rfl ?_
           iterate 3 refine S_unwanted rfl rfl rfl rfl ?_
           refine S_v (r_pickF rfl rfl rfl) rfl ?_
           refine S_pu 1 rfl ?_
           iterate 3 refine S_unwanted rfl rfl rfl rfl ?_
           refine S_v (r_pickF rfl rfl rfl) rfl ?_
           refine S_pu 1 rfl ?_
           iterate 3 refine S_unwanted rfl rfl rfl rfl ?_
           refine S_v (r_pickF rfl rfl rfl) rfl ?_
           refine S_pz 1 rfl ?_
           refine W_ret ?_
           obtain rfl := Option.some.inj h
           refine At_body rfl rfl ?_
           exact ⟨hL75.ext, rfl⟩
         ·replace h := Go.L.ite_f hg71 h
          iterate 3 refine S_unwanted rfl rfl hg71 rfl ?_
          refine S_v (r_pickF rfl hg71 rfl) rfl ?_
          refine S_pu 1 rfl ?_
          iterate 3 refine S_unwanted rfl rfl rfl rfl ?_
          refine S_v (r_pickF rfl rfl rfl) rfl ?_
          refine S_pu 1 rfl ?_
          iterate 3 refine S_unwanted rfl rfl rfl rfl ?_
          refine S_v (r_pickF rfl rfl rfl) rfl ?_
          refine S_pu 1 rfl ?_
          iterate 3 refine S_unwanted rfl rfl rfl rfl ?_
          refine S_v (r_pickF rfl rfl rfl) rfl ?_
          refine S_pu 1 rfl ?_
          iterate 3 refine S_unwanted rfl rfl rfl rfl ?_
          refine S_v (r_pickF rfl rfl rfl) rfl ?_
          refine S_pu 1 rfl ?_
          iterate 3 refine S_unwanted rfl rfl rfl rfl ?_
          refine S_v (r_pickF rfl rfl rfl) rfl ?_
          refine S_pz 1 rfl ?_
          refine W_ret ?_
          obtain rfl := Option.some.inj h
          refine At_body rfl rfl ?_
          exact ⟨hL45.ext, rfl⟩
end Go.Proofs.YtmfiaecglndldaaGreatDoor
end
section
namespace Go.Proofs.YtmfiaecglndldaaGreatDoor
open Go Go.E Go.RowKit Go.L
noncomputable instance (a b c d) : Mi (genSplitL a b c d) := ⟨_, apR _⟩
noncomputable instance (a b) : Mi (idxbL a b) := ⟨_, apR _⟩
noncomputable instance (a b) : Mi (joinL a b) := ⟨_, apR _⟩
noncomputable instance (a) : Mi (nameCF a) := ⟨_, apR _⟩
noncomputable instance (a0 : Int) (a1 : Int) : Mi (shapes_fault a0 a1) := by delta shapes_fault; infer_instance
noncomputable instance (a0 : List UInt8) (a1 : List UInt8) : Mi (strings_Split a0 a1) := by delta strings_Split; infer_instance
noncomputable instance (a0 : List UInt8) : Mi (shapes_steps a0) := by delta shapes_steps; infer_instance
noncomputable instance (a0 : List UInt8) : Mi (value_Name a0) := by delta value_Name; infer_instance
noncomputable instance  : Mi (shapes_Check_k1) := by delta shapes_Check_k1; infer_instance
noncomputable instance (x85 : (List (List UInt8))) (s) : Mi (shapes_Check_bl2 x85 s) := by obtain ⟨s3_122, s13_123⟩ := s; delta shapes_Check_bl2; dsimp only; repeat' first | (show Mi _; infer_instance) | refine @iB _ _ _ _ ?_ (fun _ => ?_) | refine @iC _ _ _ _ ?_ | refine @iI _ _ _ _ _ ?_ ?_
noncomputable instance (x85 : (List (List UInt8))) (s : Int × Int) : Mi (shapes_Check_l2 x85 s) := by delta shapes_Check_l2; infer_instance
noncomputable instance (a0 : List UInt8) : Mi (shapes_Check a0) := by delta shapes_Check; infer_instance
noncomputable instance (a0 : List UInt8) : Mi (shapes_isPath_1 a0) := by delta shapes_isPath_1; infer_instance
noncomputable instance  : Mi (idxf_isPath_1_k1) := by delta idxf_isPath_1_k1; infer_instance
noncomputable instance (a0 : List (List UInt8)) (s) : Mi (idxf_isPath_1_bl2 a0 s) := by delta idxf_isPath_1_bl2; infer_instance
noncomputable instance (a0 : List (List UInt8)) (s : Int) : Mi (idxf_isPath_1_l2 a0 s) := by delta idxf_isPath_1_l2; infer_instance
noncomputable instance (a0 : List (List UInt8)) : Mi (idxf_isPath_1 a0) := by delta idxf_isPath_1; infer_instance
noncomputable instance (a0 : List (List UInt8)) : Mi (conf_isPath_1 a0) := by delta conf_isPath_1; infer_instance
noncomputable instance (a0 : List UInt8) : Mi (shapes_isPath a0) := by delta shapes_isPath; infer_instance
noncomputable instance (a0 : List UInt8) (a1 : List UInt8) : Mi (shapes_matches_1 a0 a1) := by delta shapes_matches_1; infer_instance
noncomputable instance (l233 : List (List UInt8)) (s5_234 : Int) : Mi (slices_CompactFunc_string_string_k4 l233 s5_234) := by delta slices_CompactFunc_string_string_k4; infer_instance
noncomputable instance (s5_128 : Int) (s) : Mi (slices_CompactFunc_string_string_bl5 s5_128 s) := by obtain ⟨l263, s5_264, s7_265⟩ := s; delta slices_CompactFunc_string_string_bl5; dsimp only; infer_instance
noncomputable instance (s5_128 : Int) (s : (List (List UInt8)) × Int × Int) : Mi (slices_CompactFunc_string_string_l5 s5_128 s) := by delta slices_CompactFunc_string_string_l5; infer_instance
noncomputable instance (l127 : List (List UInt8)) (s5_186 : Int) : Mi (slices_CompactFunc_string_string_k3 l127 s5_186) := by delta slices_CompactFunc_string_string_k3; infer_instance
noncomputable instance (l65 : List (List UInt8)) : Mi (slices_CompactFunc_string_string_k1 l65) := by delta slices_CompactFunc_string_string_k1; infer_instance
noncomputable instance  (s) : Mi (slices_CompactFunc_string_string_bl2 s) := by obtain ⟨l127, s5_128⟩ := s; delta slices_CompactFunc_string_string_bl2; dsimp only; infer_instance
noncomputable instance (s : (List (List UInt8)) × Int) : Mi (slices_CompactFunc_string_string_l2 s) := by delta slices_CompactFunc_string_string_l2; infer_instance
noncomputable instance (a0 : List (List UInt8)) : Mi (slices_CompactFunc_string_string a0) := by delta slices_CompactFunc_string_string; infer_instance
noncomputable instance  : Mi (shapes_match_body_k2) := by delta shapes_match_body_k2; infer_instance
noncomputable instance (a0 : List (List UInt8)) (a1 : List (List UInt8)) (self : (List (List UInt8)) → (List (List UInt8)) → Option (Bool)) [∀ x0 x1, Mi (self x0 x1)] (s) : Mi (shapes_match_body_bl3 a0 a1 self s) := by delta shapes_match_body_bl3; infer_instance
noncomputable instance (a0 : List (List UInt8)) (a1 : List (List UInt8)) (self : (List (List UInt8)) → (List (List UInt8)) → Option (Bool)) [∀ x0 x1, Mi (self x0 x1)] (s : Int) : Mi (shapes_match_body_l3 a0 a1 self s) := by delta shapes_match_body_l3; infer_instance
noncomputable instance (a0 : List (List UInt8)) (a1 : List (List UInt8)) (self : (List (List UInt8)) → (List (List UInt8)) → Option (Bool)) [∀ x0 x1, Mi (self x0 x1)] : Mi (shapes_match_body_k1 a0 a1 self) := by delta shapes_match_body_k1; infer_instance
noncomputable instance (self : (List (List UInt8)) → (List (List UInt8)) → Option (Bool)) [∀ x0 x1, Mi (self x0 x1)] (a0 : List (List UInt8)) (a1 : List (List UInt8)) : Mi (shapes_match_body self a0 a1) := by delta shapes_match_body; infer_instance
noncomputable instance shapes_match_nMi  : ∀ (n : Nat) (y0) (y1), Mi (shapes_match_n n y0 y1)
 | 0, _, _ => ⟨none, fun _ h => by cases h⟩
 | n + 1, y0, y1 => by
  haveI := shapes_match_nMi n
  show Mi (shapes_match_body (shapes_match_n n) y0 y1)
  infer_instance
noncomputable instance  (y0) (y1) : Mi (shapes_match y0 y1) := by delta shapes_match; infer_instance
noncomputable instance (a0 : List UInt8) (a1 : List UInt8) : Mi (shapes_matches a0 a1) := by delta shapes_matches; infer_instance
noncomputable instance (a0 : List UInt8) (a1 : List UInt8) : Mi (shapes_Match a0 a1) := by delta shapes_Match; infer_instance
noncomputable instance (a0 : Int) : Mi (law4_number a0) := by delta law4_number; infer_instance
noncomputable instance (a0 : Int) : Mi (law4_record a0) := by delta law4_record; infer_instance
noncomputable instance (a0 : Int) (a1 : Int) : Mi (value_fault a0 a1) := by delta value_fault; infer_instance
noncomputable instance  : Mi (slices_Index_int_int_k1) := by delta slices_Index_int_int_k1; infer_instance
noncomputable instance (a0 : List Int) (a1 : Int) (s) : Mi (slices_Index_int_int_bl2 a0 a1 s) := by delta slices_Index_int_int_bl2; infer_instance
noncomputable instance (a0 : List Int) (a1 : Int) (s : Int) : Mi (slices_Index_int_int_l2 a0 a1 s) := by delta slices_Index_int_int_l2; infer_instance
noncomputable instance (a0 : List Int) (a1 : Int) : Mi (slices_Index_int_int a0 a1) := by delta slices_Index_int_int; infer_instance
noncomputable instance (a0 : List Int) (a1 : Int) : Mi (slices_Contains_int_int a0 a1) := by delta slices_Contains_int_int; infer_instance
noncomputable instance (a0 : List Int) (a1 : Go.L.Pv) : Mi (value_checkNode_1 a0 a1) := by delta value_checkNode_1; infer_instance
noncomputable instance (a0 : List UInt8) : Mi (value_checkNode_2 a0) := by delta value_checkNode_2; infer_instance
noncomputable instance  : Mi (idxf_checkNode_2_k1) := by delta idxf_checkNode_2_k1; infer_instance
noncomputable instance (a0 : List (List UInt8)) (s) : Mi (idxf_checkNode_2_bl2 a0 s) := by delta idxf_checkNode_2_bl2; infer_instance
noncomputable instance (a0 : List (List UInt8)) (s : Int) : Mi (idxf_checkNode_2_l2 a0 s) := by delta idxf_checkNode_2_l2; infer_instance
noncomputable instance (a0 : List (List UInt8)) : Mi (idxf_checkNode_2 a0) := by delta idxf_checkNode_2; infer_instance
noncomputable instance (a0 : List (List UInt8)) : Mi (conf_checkNode_2 a0) := by delta conf_checkNode_2; infer_instance
noncomputable instance  : Mi (slices_Index_string_string_k1) := by delta slices_Index_string_string_k1; infer_instance
noncomputable instance (a0 : List (List UInt8)) (a1 : List UInt8) (s) : Mi (slices_Index_string_string_bl2 a0 a1 s) := by delta slices_Index_string_string_bl2; infer_instance
noncomputable instance (a0 : List (List UInt8)) (a1 : List UInt8) (s : Int) : Mi (slices_Index_string_string_l2 a0 a1 s) := by delta slices_Index_string_string_l2; infer_instance
noncomputable instance (a0 : List (List UInt8)) (a1 : List UInt8) : Mi (slices_Index_string_string a0 a1) := by delta slices_Index_string_string; infer_instance
noncomputable instance (a0 : List (List UInt8)) (a1 : List UInt8) : Mi (slices_Contains_string_string a0 a1) := by delta slices_Contains_string_string; infer_instance
noncomputable instance  : Mi (value_checkNode_k2) := by delta value_checkNode_k2; infer_instance
noncomputable instance (c260 : List (List UInt8)) (s) : Mi (value_checkNode_bl3 c260 s) := by delta value_checkNode_bl3; infer_instance
noncomputable instance (c260 : List (List UInt8)) (s : Int) : Mi (value_checkNode_l3 c260 s) := by delta value_checkNode_l3; infer_instance
noncomputable instance (_c257 : Int) (_c258 : Int) (_c259 : List UInt8) (c260 : List (List UInt8)) (c261 : List Go.L.Pv) (s12_262 : Bool) : Mi (value_checkNode_k1 _c257 _c258 _c259 c260 c261 s12_262) := by delta value_checkNode_k1; infer_instance
noncomputable instance (a0 : Go.L.Pv) : Mi (value_checkNode a0) := by delta value_checkNode; repeat' first | (show Mi _; infer_instance) | refine @iB _ _ _ _ ?_ (fun _ => ?_) | refine @iC _ _ _ _ ?_ | refine @iI _ _ _ _ _ ?_ ?_
noncomputable instance (s9_65 : Int) : Mi (value_check_body_k1 s9_65) := by delta value_check_body_k1; infer_instance
noncomputable instance (a0 : Go.L.Pv) (a2 : Int) (self : Go.L.Pv → Int → Int → Option (Int × (Int × Int))) [∀ x0 x1 x2, Mi (self x0 x1 x2)] (s) : Mi (value_check_body_bl2 a0 a2 self s) := by obtain ⟨s9_90, s33_91⟩ := s; delta value_check_body_bl2; dsimp only; infer_instance
noncomputable instance (a0 : Go.L.Pv) (a2 : Int) (self : Go.L.Pv → Int → Int → Option (Int × (Int × Int))) [∀ x0 x1 x2, Mi (self x0 x1 x2)] (s : Int × Int) : Mi (value_check_body_l2 a0 a2 self s) := by delta value_check_body_l2; infer_instance
noncomputable instance (self : Go.L.Pv → Int → Int → Option (Int × (Int × Int))) [∀ x0 x1 x2, Mi (self x0 x1 x2)] (a0 : Go.L.Pv) (a1 : Int) (a2 : Int) : Mi (value_check_body self a0 a1 a2) := by delta value_check_body; infer_instance
noncomputable instance value_check_nMi  : ∀ (n : Nat) (y0) (y1) (y2), Mi (value_check_n n y0 y1 y2)
 | 0, _, _, _ => ⟨none, fun _ h => by cases h⟩
 | n + 1, y0, y1, y2 => by
  haveI := value_check_nMi n
  show Mi (value_check_body (value_check_n n) y0 y1 y2)
  infer_instance
noncomputable instance  (y0) (y1) (y2) : Mi (value_check y0 y1 y2) := by delta value_check; infer_instance
noncomputable instance (l12 : List UInt8) (s3_13 : Int) : Mi (wire_Number_k1 l12 s3_13) := by delta wire_Number_k1; infer_instance
noncomputable instance  (s) : Mi (wire_Number_bl2 s) := by obtain ⟨l23, s3_24⟩ := s; delta wire_Number_bl2; dsimp only; infer_instance
noncomputable instance (s : (List UInt8) × Int) : Mi (wire_Number_l2 s) := by delta wire_Number_l2; infer_instance
noncomputable instance (a0 : Int) : Mi (wire_Number a0) := by delta wire_Number; infer_instance
noncomputable instance (a0 : List UInt8) : Mi (wire_Chunk a0) := by delta wire_Chunk; infer_instance
noncomputable instance (a0 : Go.L.Pv) (s34_107 : Int) (self : Go.L.Pv → Option ((List UInt8))) [∀ x0, Mi (self x0)] (l128 : List UInt8) : Mi (value_encode_body_k3 a0 s34_107 self l128) := by delta value_encode_body_k3; infer_instance
noncomputable instance (l77 : List UInt8) : Mi (value_encode_body_k1 l77) := by delta value_encode_body_k1; infer_instance
noncomputable instance (a0 : Go.L.Pv) (self : Go.L.Pv → Option ((List UInt8))) [∀ x0, Mi (self x0)] (s) : Mi (value_encode_body_bl2 a0 self s) := by obtain ⟨l106, s34_107⟩ := s; delta value_encode_body_bl2; dsimp only; infer_instance
noncomputable instance (a0 : Go.L.Pv) (self : Go.L.Pv → Option ((List UInt8))) [∀ x0, Mi (self x0)] (s : (List UInt8) × Int) : Mi (value_encode_body_l2 a0 self s) := by delta value_encode_body_l2; infer_instance
noncomputable instance (self : Go.L.Pv → Option ((List UInt8))) [∀ x0, Mi (self x0)] (a0 : Go.L.Pv) : Mi (value_encode_body self a0) := by delta value_encode_body; infer_instance
noncomputable instance value_encode_nMi  : ∀ (n : Nat) (y0), Mi (value_encode_n n y0)
 | 0, _ => ⟨none, fun _ h => by cases h⟩
 | n + 1, y0 => by
  haveI := value_encode_nMi n
  show Mi (value_encode_body (value_encode_n n) y0)
  infer_instance
noncomputable instance  (y0) : Mi (value_encode y0) := by delta value_encode; infer_instance
noncomputable instance (a0 : Go.L.Pv) : Mi (value_Encode a0) := by delta value_Encode; infer_instance
noncomputable instance (a0 : Go.L.Pv) : Mi (value_Validate a0) := by delta value_Validate; infer_instance
noncomputable instance (a0 : List (List UInt8)) : Mi (slices_Clone_string_string a0) := by delta slices_Clone_string_string; infer_instance
noncomputable instance {σ : Type} (a0 : Go.L.Pv) (a1 : List (List UInt8)) (s24_45 : Int) (self : Go.L.Pv → (List (List UInt8)) → σ → Option σ) [∀ x0 x1 x2, Mi (self x0 x1 x2)] (s8_62 : List UInt8) (sJ63 : σ) : Mi (shapes_leaves_body_k2 a0 a1 s24_45 self s8_62 sJ63) := by delta shapes_leaves_body_k2; infer_instance
noncomputable instance {σ : Type} (a0 : Go.L.Pv) (a1 : List (List UInt8)) (self : Go.L.Pv → (List (List UInt8)) → σ → Option σ) [∀ x0 x1 x2, Mi (self x0 x1 x2)] (s) : Mi (shapes_leaves_body_bl1 a0 a1 self s) := by obtain ⟨s24_45, sJ46⟩ := s; delta shapes_leaves_body_bl1; dsimp only; infer_instance
noncomputable instance {σ : Type} (a0 : Go.L.Pv) (a1 : List (List UInt8)) (self : Go.L.Pv → (List (List UInt8)) → σ → Option σ) [∀ x0 x1 x2, Mi (self x0 x1 x2)] (s : Int × σ) : Mi (shapes_leaves_body_l1 a0 a1 self s) := by delta shapes_leaves_body_l1; infer_instance
noncomputable instance {σ : Type} (step : σ → ((List UInt8) × Int × Int × (List UInt8)) → Option σ) [∀ x0 x1, Mi (step x0 x1)] (self : Go.L.Pv → (List (List UInt8)) → σ → Option σ) [∀ x0 x1 x2, Mi (self x0 x1 x2)] (a0 : Go.L.Pv) (a1 : List (List UInt8)) (s : σ) : Mi (shapes_leaves_body step self a0 a1 s) := by delta shapes_leaves_body; infer_instance
noncomputable instance shapes_leaves_nMi {σ : Type} (step : σ → ((List UInt8) × Int × Int × (List UInt8)) → Option σ) [∀ x0 x1, Mi (step x0 x1)] : ∀ (n : Nat) (y0) (y1) (y2), Mi (shapes_leaves_n step n y0 y1 y2)
 | 0, _, _, _ => ⟨none, fun _ h => by cases h⟩
 | n + 1, y0, y1, y2 => by
  haveI := shapes_leaves_nMi step n
  show Mi (shapes_leaves_body step (shapes_leaves_n step n) y0 y1 y2)
  infer_instance
noncomputable instance {σ : Type} (step : σ → ((List UInt8) × Int × Int × (List UInt8)) → Option σ) [∀ x0 x1, Mi (step x0 x1)] (y0) (y1) (y2) : Mi (shapes_leaves step y0 y1 y2) := by delta shapes_leaves; infer_instance
noncomputable instance (a0 : (List UInt8) × Int × Int × (List UInt8)) (a1 : List (List UInt8)) : Mi (shapes_Paths_1 a0 a1) := by delta shapes_Paths_1; infer_instance
noncomputable instance (s : List (List UInt8)) (x : Lf) : Mi (pathStep s x) := by delta pathStep; infer_instance
noncomputable def shapes_Paths_is (a0 : Go.L.Pv) : Option ((List (List UInt8)) × (Int × Int)) := 
  Option.bind (value_Validate a0) (fun x3 => if x3.1 = (0 : Int) ∧ x3.2 = (0 : Int) then Option.bind (shapes_leaves pathStep a0 ([] : List (List UInt8)) ([] : List (List UInt8))) (fun x18 => Go.L.chk (x18.length < 4611686018427387904) (Go.L.chk ((isS x18).length ≤ 9223372036854775807) (some ((Lib.compact (isS x18)), ((0 : Int), (0 : Int)))))) else some ([], (x3.1, x3.2)))
theorem shapes_Paths_isE : @shapes_Paths_is = @shapes_Paths := by
  unfold shapes_Paths_is shapes_Paths
  simp only [isS_eq, isI_eq]
noncomputable instance (a0 : Go.L.Pv) : Mi (shapes_Paths_is a0) := by delta shapes_Paths_is; infer_instance
noncomputable instance (a0 : Go.L.Pv) : Mi (shapes_Paths a0) := ⟨(inferInstance : Mi (shapes_Paths_is a0)).c, by rw [← shapes_Paths_isE]; exact (inferInstance : Mi (shapes_Paths_is a0)).h⟩
noncomputable instance (i : Int) (l : List (Lf × List Int)) (x : Lf) : Mi (buildStep i l x) := by delta buildStep; infer_instance
noncomputable instance (a0 : List Int) : Mi (slices_Clone_int_int a0) := by delta slices_Clone_int_int; infer_instance
noncomputable instance (l16 : List UInt8) : Mi (wslice_Number_k1 l16) := by delta wslice_Number_k1; infer_instance
noncomputable instance (a0 : List Int) (s) : Mi (wslice_Number_bl2 a0 s) := by obtain ⟨l30, s13_31⟩ := s; delta wslice_Number_bl2; dsimp only; infer_instance
noncomputable instance (a0 : List Int) (s : (List UInt8) × Int) : Mi (wslice_Number_l2 a0 s) := by delta wslice_Number_l2; infer_instance
noncomputable instance (a0 : List Int) : Mi (wslice_Number a0) := by delta wslice_Number; infer_instance
noncomputable instance (a1 : Int) : Mi (slices_Grow_byte_byte_k1 a1) := by delta slices_Grow_byte_byte_k1; infer_instance
noncomputable instance (_a0 : List UInt8) (a1 : Int) : Mi (slices_Grow_byte_byte _a0 a1) := by delta slices_Grow_byte_byte; infer_instance
noncomputable instance (l57 : List UInt8) : Mi (slices_Concat_byte_byte_k3 l57) := by delta slices_Concat_byte_byte_k3; infer_instance
noncomputable instance (a0 : List (List UInt8)) (s) : Mi (slices_Concat_byte_byte_bl4 a0 s) := by obtain ⟨l69, s27_70⟩ := s; delta slices_Concat_byte_byte_bl4; dsimp only; infer_instance
noncomputable instance (a0 : List (List UInt8)) (s : (List UInt8) × Int) : Mi (slices_Concat_byte_byte_l4 a0 s) := by delta slices_Concat_byte_byte_l4; infer_instance
noncomputable instance (a0 : List (List UInt8)) (s3_15 : Int) : Mi (slices_Concat_byte_byte_k1 a0 s3_15) := by delta slices_Concat_byte_byte_k1; infer_instance
noncomputable instance (a0 : List (List UInt8)) (s) : Mi (slices_Concat_byte_byte_bl2 a0 s) := by obtain ⟨s3_29, s11_30⟩ := s; delta slices_Concat_byte_byte_bl2; dsimp only; infer_instance
noncomputable instance (a0 : List (List UInt8)) (s : Int × Int) : Mi (slices_Concat_byte_byte_l2 a0 s) := by delta slices_Concat_byte_byte_l2; infer_instance
noncomputable instance (a0 : List (List UInt8)) : Mi (slices_Concat_byte_byte a0) := by delta slices_Concat_byte_byte; infer_instance
noncomputable instance (l117 : List UInt8) : Mi (shapes_form_k1 l117) := by delta shapes_form_k1; infer_instance
noncomputable instance (a0 : ((List UInt8) × Int × Int × (List UInt8)) × (List Int)) : Mi (shapes_form a0) := by delta shapes_form; infer_instance
noncomputable instance (l18 : List UInt8) : Mi (wslice_form_k1 l18) := by delta wslice_form_k1; infer_instance
noncomputable instance (a0 : List (((List UInt8) × Int × Int × (List UInt8)) × (List Int))) (s) : Mi (wslice_form_bl2 a0 s) := by obtain ⟨l34, s13_35⟩ := s; delta wslice_form_bl2; dsimp only; infer_instance
noncomputable instance (a0 : List (((List UInt8) × Int × Int × (List UInt8)) × (List Int))) (s : (List UInt8) × Int) : Mi (wslice_form_l2 a0 s) := by delta wslice_form_l2; infer_instance
noncomputable instance (a0 : List (((List UInt8) × Int × Int × (List UInt8)) × (List Int))) : Mi (wslice_form a0) := by delta wslice_form; infer_instance
noncomputable instance (a0 : Int × (List (((List UInt8) × Int × Int × (List UInt8)) × (List Int)))) : Mi (shapes_Index_Bytes a0) := by delta shapes_Index_Bytes; infer_instance
noncomputable instance (a0 : Int) (l71 : List (((List UInt8) × Int × Int × (List UInt8)) × (List Int))) : Mi (shapes_build_k1 a0 l71) := by delta shapes_build_k1; infer_instance
noncomputable def shapes_build_bl2_is (a0 : Int) (a1 : List (((List UInt8) × Int × Int × (List UInt8)) × (List Int))) (x74 : (List ((List UInt8) × Int × Int × (List UInt8)))) : (List (((List UInt8) × Int × Int × (List UInt8)) × (List Int))) × Int → Option (((List (((List UInt8) × Int × Int × (List UInt8)) × (List Int))) × Int) ⊕ ((Int × (List (((List UInt8) × Int × Int × (List UInt8)) × (List Int)))) × (Int × Int))) := fun ⟨l102, s15_103⟩ =>
  if s15_103 < (x74.length : Int) then Go.L.chk (0 ≤ s15_103 ∧ s15_103 < (x74.length : Int)) (Option.bind (slices_Clone_int_int (Go.L.mget [] ((x74.getD s15_103.toNat default).1, (x74.getD s15_103.toNat default).2.1, (x74.getD s15_103.toNat default).2.2.1, (x74.getD s15_103.toNat default).2.2.2) a1)) (fun x114 => Go.L.chk (x114.length < 4611686018427387904) (Go.L.chk ((isI x114).length ≤ 9223372036854775807) (Go.L.chk (Go.E.Cap 72 (l102.length + ([(((x74.getD s15_103.toNat default).1, (x74.getD s15_103.toNat default).2.1, (x74.getD s15_103.toNat default).2.2.1, (x74.getD s15_103.toNat default).2.2.2), (Lib.compact (isI x114)))]).length)) (Go.L.chk (Go.L.I64 (s15_103 + (1 : Int))) (some (Sum.inl ((l102 ++ [(((x74.getD s15_103.toNat default).1, (x74.getD s15_103.toNat default).2.1, (x74.getD s15_103.toNat default).2.2.1, (x74.getD s15_103.toNat default).2.2.2), (Lib.compact (isI x114)))]), (s15_103 + (1 : Int)))))))))) else Option.map Sum.inr ((shapes_build_k1 a0) l102)
theorem shapes_build_bl2_isE : @shapes_build_bl2_is = @shapes_build_bl2 := by
  unfold shapes_build_bl2_is shapes_build_bl2
  simp only [isS_eq, isI_eq]
noncomputable instance (a0 : Int) (a1 : List (((List UInt8) × Int × Int × (List UInt8)) × (List Int))) (x74 : (List ((List UInt8) × Int × Int × (List UInt8)))) (s) : Mi (shapes_build_bl2_is a0 a1 x74 s) := by obtain ⟨l102, s15_103⟩ := s; delta shapes_build_bl2_is; dsimp only; infer_instance
noncomputable instance (a0 : Int) (a1 : List (((List UInt8) × Int × Int × (List UInt8)) × (List Int))) (x74 : (List ((List UInt8) × Int × Int × (List UInt8)))) (s) : Mi (shapes_build_bl2 a0 a1 x74 s) := ⟨(inferInstance : Mi (shapes_build_bl2_is a0 a1 x74 s)).c, by rw [← shapes_build_bl2_isE]; exact (inferInstance : Mi (shapes_build_bl2_is a0 a1 x74 s)).h⟩
noncomputable instance (a0 : Int) (a1 : List (((List UInt8) × Int × Int × (List UInt8)) × (List Int))) (x74 : (List ((List UInt8) × Int × Int × (List UInt8)))) (s : (List (((List UInt8) × Int × Int × (List UInt8)) × (List Int))) × Int) : Mi (shapes_build_l2 a0 a1 x74 s) := by delta shapes_build_l2; infer_instance
noncomputable instance (a0 : Int) (a1 : List (((List UInt8) × Int × Int × (List UInt8)) × (List Int))) : Mi (shapes_build a0 a1) := by delta shapes_build; infer_instance
noncomputable instance (a0 : List Go.L.Pv) (l68 : List (((List UInt8) × Int × Int × (List UInt8)) × (List Int))) : Mi (shapes_Build_k1 a0 l68) := by delta shapes_Build_k1; infer_instance
noncomputable instance (a0 : List Go.L.Pv) (s) : Mi (shapes_Build_bl2 a0 s) := by obtain ⟨l97, s16_98⟩ := s; delta shapes_Build_bl2; dsimp only; infer_instance
noncomputable instance (a0 : List Go.L.Pv) (s : (List (((List UInt8) × Int × Int × (List UInt8)) × (List Int))) × Int) : Mi (shapes_Build_l2 a0 s) := by delta shapes_Build_l2; infer_instance
noncomputable instance (a0 : List Go.L.Pv) : Mi (shapes_Build a0) := by delta shapes_Build; infer_instance
noncomputable instance (a0 : ((List UInt8) × Int × Int × (List UInt8)) × (List Int)) (a1 : Int) (a2 : Int) : Mi (shapes_Index_Number_1 a0 a1 a2) := by delta shapes_Index_Number_1; infer_instance
noncomputable def shapes_Index_collect_s2_k1_is (l58 : List Int) (c59 : Int) (c60 : Int) : Option ((List Int) × Int × Int) := 
  Go.L.chk (l58.length < 4611686018427387904) (Go.L.chk ((isI l58).length ≤ 9223372036854775807) (some ((Lib.compact (isI l58)), c59, c60)))
theorem shapes_Index_collect_s2_k1_isE : @shapes_Index_collect_s2_k1_is = @shapes_Index_collect_s2_k1 := by
  unfold shapes_Index_collect_s2_k1_is shapes_Index_collect_s2_k1
  simp only [isS_eq, isI_eq]
noncomputable instance (l58 : List Int) (c59 : Int) (c60 : Int) : Mi (shapes_Index_collect_s2_k1_is l58 c59 c60) := by delta shapes_Index_collect_s2_k1_is; infer_instance
noncomputable instance (l58 : List Int) (c59 : Int) (c60 : Int) : Mi (shapes_Index_collect_s2_k1 l58 c59 c60) := ⟨(inferInstance : Mi (shapes_Index_collect_s2_k1_is l58 c59 c60)).c, by rw [← shapes_Index_collect_s2_k1_isE]; exact (inferInstance : Mi (shapes_Index_collect_s2_k1_is l58 c59 c60)).h⟩
noncomputable instance (a0 : Int × (List (((List UInt8) × Int × Int × (List UInt8)) × (List Int)))) (a1 : List UInt8) (s) : Mi (shapes_Index_collect_s2_bl2 a0 a1 s) := by obtain ⟨l88, c89, c90, s13_91⟩ := s; delta shapes_Index_collect_s2_bl2; dsimp only; infer_instance
noncomputable instance (a0 : Int × (List (((List UInt8) × Int × Int × (List UInt8)) × (List Int)))) (a1 : List UInt8) (s : (List Int) × Int × Int × Int) : Mi (shapes_Index_collect_s2_l2 a0 a1 s) := by delta shapes_Index_collect_s2_l2; infer_instance
noncomputable instance (a0 : Int × (List (((List UInt8) × Int × Int × (List UInt8)) × (List Int)))) (a1 : List UInt8) (a2_c0 : Int) (a2_c1 : Int) : Mi (shapes_Index_collect_s2 a0 a1 a2_c0 a2_c1) := by delta shapes_Index_collect_s2; infer_instance
noncomputable instance (a0 : Int × (List (((List UInt8) × Int × Int × (List UInt8)) × (List Int)))) (a1 : List UInt8) (a2 : Int) (a3 : Int) : Mi (shapes_Index_Number a0 a1 a2 a3) := by delta shapes_Index_Number; infer_instance
noncomputable instance (_a0 : ((List UInt8) × Int × Int × (List UInt8)) × (List Int)) : Mi (shapes_Index_Find_1 _a0) := by delta shapes_Index_Find_1; infer_instance
noncomputable def shapes_Index_collect_k1_is (l54 : List Int) : Option ((List Int)) := 
  Go.L.chk (l54.length < 4611686018427387904) (Go.L.chk ((isI l54).length ≤ 9223372036854775807) (some ((Lib.compact (isI l54)))))
theorem shapes_Index_collect_k1_isE : @shapes_Index_collect_k1_is = @shapes_Index_collect_k1 := by
  unfold shapes_Index_collect_k1_is shapes_Index_collect_k1
  simp only [isS_eq, isI_eq]
noncomputable instance (l54 : List Int) : Mi (shapes_Index_collect_k1_is l54) := by delta shapes_Index_collect_k1_is; infer_instance
noncomputable instance (l54 : List Int) : Mi (shapes_Index_collect_k1 l54) := ⟨(inferInstance : Mi (shapes_Index_collect_k1_is l54)).c, by rw [← shapes_Index_collect_k1_isE]; exact (inferInstance : Mi (shapes_Index_collect_k1_is l54)).h⟩
noncomputable instance (a0 : Int × (List (((List UInt8) × Int × Int × (List UInt8)) × (List Int)))) (a1 : List UInt8) (s) : Mi (shapes_Index_collect_bl2 a0 a1 s) := by obtain ⟨l81, s13_82⟩ := s; delta shapes_Index_collect_bl2; dsimp only; infer_instance
noncomputable instance (a0 : Int × (List (((List UInt8) × Int × Int × (List UInt8)) × (List Int)))) (a1 : List UInt8) (s : (List Int) × Int) : Mi (shapes_Index_collect_l2 a0 a1 s) := by delta shapes_Index_collect_l2; infer_instance
noncomputable instance (a0 : Int × (List (((List UInt8) × Int × Int × (List UInt8)) × (List Int)))) (a1 : List UInt8) : Mi (shapes_Index_collect a0 a1) := by delta shapes_Index_collect; infer_instance
noncomputable instance (a0 : Int × (List (((List UInt8) × Int × Int × (List UInt8)) × (List Int)))) (a1 : List UInt8) : Mi (shapes_Index_Find a0 a1) := by delta shapes_Index_Find; infer_instance
noncomputable instance (a0 : ((List UInt8) × Int × Int × (List UInt8)) × (List Int)) (a1 : List UInt8) : Mi (shapes_Index_Text_1 a0 a1) := by delta shapes_Index_Text_1; infer_instance
noncomputable def shapes_Index_collect_s3_k1_is (l59 : List Int) (c60 : List UInt8) : Option ((List Int) × (List UInt8)) := 
  Go.L.chk (l59.length < 4611686018427387904) (Go.L.chk ((isI l59).length ≤ 9223372036854775807) (some ((Lib.compact (isI l59)), c60)))
theorem shapes_Index_collect_s3_k1_isE : @shapes_Index_collect_s3_k1_is = @shapes_Index_collect_s3_k1 := by
  unfold shapes_Index_collect_s3_k1_is shapes_Index_collect_s3_k1
  simp only [isS_eq, isI_eq]
noncomputable instance (l59 : List Int) (c60 : List UInt8) : Mi (shapes_Index_collect_s3_k1_is l59 c60) := by delta shapes_Index_collect_s3_k1_is; infer_instance
noncomputable instance (l59 : List Int) (c60 : List UInt8) : Mi (shapes_Index_collect_s3_k1 l59 c60) := ⟨(inferInstance : Mi (shapes_Index_collect_s3_k1_is l59 c60)).c, by rw [← shapes_Index_collect_s3_k1_isE]; exact (inferInstance : Mi (shapes_Index_collect_s3_k1_is l59 c60)).h⟩
noncomputable instance (a0 : Int × (List (((List UInt8) × Int × Int × (List UInt8)) × (List Int)))) (a1 : List UInt8) (s) : Mi (shapes_Index_collect_s3_bl2 a0 a1 s) := by obtain ⟨l89, c90, s13_91⟩ := s; delta shapes_Index_collect_s3_bl2; dsimp only; infer_instance
noncomputable instance (a0 : Int × (List (((List UInt8) × Int × Int × (List UInt8)) × (List Int)))) (a1 : List UInt8) (s : (List Int) × (List UInt8) × Int) : Mi (shapes_Index_collect_s3_l2 a0 a1 s) := by delta shapes_Index_collect_s3_l2; infer_instance
noncomputable instance (a0 : Int × (List (((List UInt8) × Int × Int × (List UInt8)) × (List Int)))) (a1 : List UInt8) (a2_c0 : List UInt8) : Mi (shapes_Index_collect_s3 a0 a1 a2_c0) := by delta shapes_Index_collect_s3; infer_instance
noncomputable instance (a0 : Int × (List (((List UInt8) × Int × Int × (List UInt8)) × (List Int)))) (a1 : List UInt8) (a2 : List UInt8) : Mi (shapes_Index_Text a0 a1 a2) := by delta shapes_Index_Text; infer_instance
noncomputable instance (a0 : Int) (a1 : Int) : Mi (wire_fault a0 a1) := by delta wire_fault; infer_instance
noncomputable instance (a1 : Int) : Mi (wire_ReadNumber_k1 a1) := by delta wire_ReadNumber_k1; infer_instance
noncomputable instance (a0 : List UInt8) (a1 : Int) (s) : Mi (wire_ReadNumber_bl2 a0 a1 s) := by obtain ⟨s7_160, s19_161⟩ := s; delta wire_ReadNumber_bl2; dsimp only; repeat' first | (show Mi _; infer_instance) | refine @iB _ _ _ _ ?_ (fun _ => ?_) | refine @iC _ _ _ _ ?_ | refine @iI _ _ _ _ _ ?_ ?_
noncomputable instance (a0 : List UInt8) (a1 : Int) (s : Int × Int) : Mi (wire_ReadNumber_l2 a0 a1 s) := by delta wire_ReadNumber_l2; infer_instance
noncomputable instance (a0 : List UInt8) (a1 : Int) : Mi (wire_ReadNumber a0 a1) := by delta wire_ReadNumber; infer_instance
noncomputable instance (c26 : Int) (c27 : Int) (c28 : Int) : Mi (shapes_Open_k1 c26 c27 c28) := by delta shapes_Open_k1; infer_instance
noncomputable instance (a0 : List UInt8) (a1 : Int) : Mi (wire_ReadChunk a0 a1) := by delta wire_ReadChunk; infer_instance
noncomputable instance (l65 : List Int) (s12_66 : Int) : Mi (wreads_Number_k1 l65 s12_66) := by delta wreads_Number_k1; infer_instance
noncomputable instance (a0 : List UInt8) (x2 : Int × Int × (Int × Int)) (s) : Mi (wreads_Number_bl2 a0 x2 s) := by obtain ⟨l89, s12_90, s41_91⟩ := s; delta wreads_Number_bl2; dsimp only; infer_instance
noncomputable instance (a0 : List UInt8) (x2 : Int × Int × (Int × Int)) (s : (List Int) × Int × Int) : Mi (wreads_Number_l2 a0 x2 s) := by delta wreads_Number_l2; infer_instance
noncomputable instance (a0 : List UInt8) (a1 : Int) (a2 : Int) : Mi (wreads_Number a0 a1 a2) := by delta wreads_Number; infer_instance
noncomputable instance (x111 : (List Int) × Int × (Int × Int)) (c123 : List UInt8) (c124 : Int) (c125 : Int) (c126 : List UInt8) (s5_128 : Int) : Mi (shapes_readEntry_k5 x111 c123 c124 c125 c126 s5_128) := by delta shapes_readEntry_k5; infer_instance
noncomputable instance (x84 : (List UInt8) × Int × (Int × Int)) (c95 : List UInt8) (c96 : Int) (c97 : Int) (c98 : List UInt8) (s5_100 : Int) : Mi (shapes_readEntry_k4 x84 c95 c96 c97 c98 s5_100) := by delta shapes_readEntry_k4; infer_instance
noncomputable instance (x57 : Int × Int × (Int × Int)) (c69 : List UInt8) (c70 : Int) (c71 : Int) (c72 : List UInt8) (s5_74 : Int) : Mi (shapes_readEntry_k3 x57 c69 c70 c71 c72 s5_74) := by delta shapes_readEntry_k3; infer_instance
noncomputable instance (x30 : Int × Int × (Int × Int)) (c42 : List UInt8) (c43 : Int) (c44 : Int) (c45 : List UInt8) (s5_47 : Int) : Mi (shapes_readEntry_k2 x30 c42 c43 c44 c45 s5_47) := by delta shapes_readEntry_k2; infer_instance
noncomputable instance (x3 : (List UInt8) × Int × (Int × Int)) (c14 : List UInt8) (c15 : Int) (c16 : Int) (c17 : List UInt8) (s5_19 : Int) : Mi (shapes_readEntry_k1 x3 c14 c15 c16 c17 s5_19) := by delta shapes_readEntry_k1; infer_instance
noncomputable instance (a0 : List UInt8) (a1 : Int) : Mi (shapes_readEntry a0 a1) := by delta shapes_readEntry; infer_instance
noncomputable instance (l69 : List (((List UInt8) × Int × Int × (List UInt8)) × (List Int))) (s12_70 : Int) : Mi (wreads_entry_k1 l69 s12_70) := by delta wreads_entry_k1; infer_instance
noncomputable instance (a0 : List UInt8) (x2 : Int × Int × (Int × Int)) (s) : Mi (wreads_entry_bl2 a0 x2 s) := by obtain ⟨l95, s12_96, s41_97⟩ := s; delta wreads_entry_bl2; dsimp only; infer_instance
noncomputable instance (a0 : List UInt8) (x2 : Int × Int × (Int × Int)) (s : (List (((List UInt8) × Int × Int × (List UInt8)) × (List Int))) × Int × Int) : Mi (wreads_entry_l2 a0 x2 s) := by delta wreads_entry_l2; infer_instance
noncomputable instance (a0 : List UInt8) (a1 : Int) (a2 : Int) : Mi (wreads_entry a0 a1 a2) := by delta wreads_entry; infer_instance
noncomputable instance  : Mi (shapes_entry_valid_k1) := by delta shapes_entry_valid_k1; infer_instance
noncomputable instance (a0 : ((List UInt8) × Int × Int × (List UInt8)) × (List Int)) (a1 : Int) (s) : Mi (shapes_entry_valid_bl2 a0 a1 s) := by delta shapes_entry_valid_bl2; infer_instance
noncomputable instance (a0 : ((List UInt8) × Int × Int × (List UInt8)) × (List Int)) (a1 : Int) (s : Int) : Mi (shapes_entry_valid_l2 a0 a1 s) := by delta shapes_entry_valid_l2; infer_instance
noncomputable instance  : Mi (shapes_entry_valid_k3) := by delta shapes_entry_valid_k3; infer_instance
noncomputable instance (a0 : ((List UInt8) × Int × Int × (List UInt8)) × (List Int)) (a1 : Int) (s) : Mi (shapes_entry_valid_bl4 a0 a1 s) := by delta shapes_entry_valid_bl4; infer_instance
noncomputable instance (a0 : ((List UInt8) × Int × Int × (List UInt8)) × (List Int)) (a1 : Int) (s : Int) : Mi (shapes_entry_valid_l4 a0 a1 s) := by delta shapes_entry_valid_l4; infer_instance
noncomputable instance  : Mi (shapes_entry_valid_k5) := by delta shapes_entry_valid_k5; infer_instance
noncomputable instance (a0 : ((List UInt8) × Int × Int × (List UInt8)) × (List Int)) (a1 : Int) (s) : Mi (shapes_entry_valid_bl6 a0 a1 s) := by delta shapes_entry_valid_bl6; infer_instance
noncomputable instance (a0 : ((List UInt8) × Int × Int × (List UInt8)) × (List Int)) (a1 : Int) (s : Int) : Mi (shapes_entry_valid_l6 a0 a1 s) := by delta shapes_entry_valid_l6; infer_instance
noncomputable instance  : Mi (shapes_entry_valid_k19) := by delta shapes_entry_valid_k19; infer_instance
noncomputable instance (a0 : ((List UInt8) × Int × Int × (List UInt8)) × (List Int)) (a1 : Int) (s) : Mi (shapes_entry_valid_bl20 a0 a1 s) := by delta shapes_entry_valid_bl20; infer_instance
noncomputable instance (a0 : ((List UInt8) × Int × Int × (List UInt8)) × (List Int)) (a1 : Int) (s : Int) : Mi (shapes_entry_valid_l20 a0 a1 s) := by delta shapes_entry_valid_l20; infer_instance
noncomputable instance  : Mi (shapes_entry_valid_k17) := by delta shapes_entry_valid_k17; infer_instance
noncomputable instance (a0 : ((List UInt8) × Int × Int × (List UInt8)) × (List Int)) (a1 : Int) (s) : Mi (shapes_entry_valid_bl18 a0 a1 s) := by delta shapes_entry_valid_bl18; infer_instance
noncomputable instance (a0 : ((List UInt8) × Int × Int × (List UInt8)) × (List Int)) (a1 : Int) (s : Int) : Mi (shapes_entry_valid_l18 a0 a1 s) := by delta shapes_entry_valid_l18; infer_instance
noncomputable instance  : Mi (shapes_entry_valid_k15) := by delta shapes_entry_valid_k15; infer_instance
noncomputable instance (a0 : ((List UInt8) × Int × Int × (List UInt8)) × (List Int)) (a1 : Int) (s) : Mi (shapes_entry_valid_bl16 a0 a1 s) := by delta shapes_entry_valid_bl16; infer_instance
noncomputable instance (a0 : ((List UInt8) × Int × Int × (List UInt8)) × (List Int)) (a1 : Int) (s : Int) : Mi (shapes_entry_valid_l16 a0 a1 s) := by delta shapes_entry_valid_l16; infer_instance
noncomputable instance  : Mi (shapes_entry_valid_k13) := by delta shapes_entry_valid_k13; infer_instance
noncomputable instance (a0 : ((List UInt8) × Int × Int × (List UInt8)) × (List Int)) (a1 : Int) (s) : Mi (shapes_entry_valid_bl14 a0 a1 s) := by delta shapes_entry_valid_bl14; infer_instance
noncomputable instance (a0 : ((List UInt8) × Int × Int × (List UInt8)) × (List Int)) (a1 : Int) (s : Int) : Mi (shapes_entry_valid_l14 a0 a1 s) := by delta shapes_entry_valid_l14; infer_instance
noncomputable instance  : Mi (shapes_entry_valid_k11) := by delta shapes_entry_valid_k11; infer_instance
noncomputable instance (a0 : ((List UInt8) × Int × Int × (List UInt8)) × (List Int)) (a1 : Int) (s) : Mi (shapes_entry_valid_bl12 a0 a1 s) := by delta shapes_entry_valid_bl12; infer_instance
noncomputable instance (a0 : ((List UInt8) × Int × Int × (List UInt8)) × (List Int)) (a1 : Int) (s : Int) : Mi (shapes_entry_valid_l12 a0 a1 s) := by delta shapes_entry_valid_l12; infer_instance
noncomputable instance  : Mi (shapes_entry_valid_k9) := by delta shapes_entry_valid_k9; infer_instance
noncomputable instance (a0 : ((List UInt8) × Int × Int × (List UInt8)) × (List Int)) (a1 : Int) (s) : Mi (shapes_entry_valid_bl10 a0 a1 s) := by delta shapes_entry_valid_bl10; infer_instance
noncomputable instance (a0 : ((List UInt8) × Int × Int × (List UInt8)) × (List Int)) (a1 : Int) (s : Int) : Mi (shapes_entry_valid_l10 a0 a1 s) := by delta shapes_entry_valid_l10; infer_instance
noncomputable instance  : Mi (shapes_entry_valid_k7) := by delta shapes_entry_valid_k7; infer_instance
noncomputable instance (a0 : ((List UInt8) × Int × Int × (List UInt8)) × (List Int)) (a1 : Int) (s) : Mi (shapes_entry_valid_bl8 a0 a1 s) := by delta shapes_entry_valid_bl8; infer_instance
noncomputable instance (a0 : ((List UInt8) × Int × Int × (List UInt8)) × (List Int)) (a1 : Int) (s : Int) : Mi (shapes_entry_valid_l8 a0 a1 s) := by delta shapes_entry_valid_l8; infer_instance
noncomputable instance (a0 : ((List UInt8) × Int × Int × (List UInt8)) × (List Int)) (a1 : Int) : Mi (shapes_entry_valid a0 a1) := by delta shapes_entry_valid; infer_instance
noncomputable instance (c255 : Int) (c256 : Int) (c257 : Int) : Mi (shapes_Open_k5 c255 c256 c257) := by delta shapes_Open_k5; infer_instance
noncomputable instance (a0 : List UInt8) (a1 : List UInt8) : Mi (internal_bytealg_CompareString a0 a1) := by delta internal_bytealg_CompareString; infer_instance
noncomputable instance (a0 : List UInt8) (a1 : List UInt8) : Mi (strings_Compare a0 a1) := by delta strings_Compare; infer_instance
noncomputable instance (a0 : Int) : Mi (cmp_isNaN_int a0) := by delta cmp_isNaN_int; infer_instance
noncomputable instance (a0 : Int) (a1 : Int) : Mi (cmp_Compare_int a0 a1) := by delta cmp_Compare_int; infer_instance
noncomputable instance  : Mi (cmp_Or_int_k1) := by delta cmp_Or_int_k1; infer_instance
noncomputable instance (a0 : List Int) (s) : Mi (cmp_Or_int_bl2 a0 s) := by delta cmp_Or_int_bl2; infer_instance
noncomputable instance (a0 : List Int) (s : Int) : Mi (cmp_Or_int_l2 a0 s) := by delta cmp_Or_int_l2; infer_instance
noncomputable instance (a0 : List Int) : Mi (cmp_Or_int a0) := by delta cmp_Or_int; infer_instance
noncomputable instance (a0 : (List UInt8) × Int × Int × (List UInt8)) (a1 : (List UInt8) × Int × Int × (List UInt8)) : Mi (shapes_leaf_compare a0 a1) := by delta shapes_leaf_compare; infer_instance
noncomputable instance (c286 : Int) (c287 : Int) (c288 : Int) : Mi (shapes_Open_k6 c286 c287 c288) := by delta shapes_Open_k6; infer_instance
noncomputable instance (a0 : List UInt8) (a1 : List UInt8) : Mi (bytes_Equal a0 a1) := by delta bytes_Equal; infer_instance
noncomputable instance (c322 : Int) (c323 : Int) (c324 : Int) : Mi (shapes_Open_k7 c322 c323 c324) := by delta shapes_Open_k7; infer_instance
noncomputable instance (a0 : List UInt8) (x10 : (Int × Int)) (x14 : Int × Int × (Int × Int)) (x39 : (List (((List UInt8) × Int × Int × (List UInt8)) × (List Int))) × Int × (Int × Int)) : Mi (shapes_Open_k3 a0 x10 x14 x39) := by delta shapes_Open_k3; infer_instance
noncomputable instance (a0 : List UInt8) (x10 : (Int × Int)) (x14 : Int × Int × (Int × Int)) (x39 : (List (((List UInt8) × Int × Int × (List UInt8)) × (List Int))) × Int × (Int × Int)) (s) : Mi (shapes_Open_bl4 a0 x10 x14 x39 s) := by delta shapes_Open_bl4; infer_instance
noncomputable instance (a0 : List UInt8) (x10 : (Int × Int)) (x14 : Int × Int × (Int × Int)) (x39 : (List (((List UInt8) × Int × Int × (List UInt8)) × (List Int))) × Int × (Int × Int)) (s : Int) : Mi (shapes_Open_l4 a0 x10 x14 x39 s) := by delta shapes_Open_l4; infer_instance
noncomputable instance (c50 : Int) (c51 : Int) (c52 : Int) : Mi (shapes_Open_k2 c50 c51 c52) := by delta shapes_Open_k2; infer_instance
noncomputable instance (a0 : List UInt8) : Mi (shapes_Open a0) := by delta shapes_Open; infer_instance
noncomputable instance  : Mi (ref4_Texts_k1) := by delta ref4_Texts_k1; infer_instance
noncomputable instance (a0 : List (List UInt8)) (a1 : List (List UInt8)) (s) : Mi (ref4_Texts_bl2 a0 a1 s) := by delta ref4_Texts_bl2; infer_instance
noncomputable instance (a0 : List (List UInt8)) (a1 : List (List UInt8)) (s : Int) : Mi (ref4_Texts_l2 a0 a1 s) := by delta ref4_Texts_l2; infer_instance
noncomputable instance (a0 : List (List UInt8)) (a1 : List (List UInt8)) : Mi (ref4_Texts a0 a1) := by delta ref4_Texts; infer_instance
noncomputable instance  : Mi (ref3_Ints_k1) := by delta ref3_Ints_k1; infer_instance
noncomputable instance (a0 : List Int) (a1 : List Int) (s) : Mi (ref3_Ints_bl2 a0 a1 s) := by delta ref3_Ints_bl2; infer_instance
noncomputable instance (a0 : List Int) (a1 : List Int) (s : Int) : Mi (ref3_Ints_l2 a0 a1 s) := by delta ref3_Ints_l2; infer_instance
noncomputable instance (a0 : List Int) (a1 : List Int) : Mi (ref3_Ints a0 a1) := by delta ref3_Ints; infer_instance
noncomputable instance (a0 : Int × (List (((List UInt8) × Int × Int × (List UInt8)) × (List Int)))) : Mi (shapes_Index_Items a0) := by delta shapes_Index_Items; infer_instance
noncomputable instance (a0 : Int) (a1 : Int) : Mi (ref3_At a0 a1) := by delta ref3_At; infer_instance
noncomputable instance  : Mi (law4_shaped) := by delta law4_shaped; repeat' first | (show Mi _; infer_instance) | refine @iB _ _ _ _ ?_ (fun _ => ?_) | refine @iC _ _ _ _ ?_ | refine @iI _ _ _ _ _ ?_ ?_
theorem shaped_true : law4_shaped = some true := (inferInstance : Mi law4_shaped).h true (by kernel_rfl)
end Go.Proofs.YtmfiaecglndldaaGreatDoor
end
section
namespace Go.Proofs.YtmfiaecglndldaaGreatDoor
open Go Go.E Go.RowKit
set_option maxHeartbeats 1000000
set_option maxRecDepth 10000
open _root_.Go.Proofs.Tryz
noncomputable def law4_ShapesPathsMatchSpec (a0 : Go.L.Pv) : Option (Bool) :=
 Option.bind (shapes_Paths a0) (fun x2 => Option.bind (value_Validate a0) (fun x6 => Option.bind (law4_shaped) (fun x10 => if !x10 then Option.bind (law4_shaped) (fun x14 => if x14 then if x2.2.1 = x6.1 ∧ x2.2.2 = x6.2 then some (decide ((x2.1.length : Int) = (0 : Int))) else some (false) else some (false)) else if x2.2.1 = x6.1 ∧ x2.2.2 = x6.2 then if x6.1 = (0 : Int) then Option.bind (ref4_Paths a0) (fun x45 => Option.bind (ref4_Texts x2.1 x45) (fun x47 => some (x47))) else Option.bind (law4_shaped) (fun x36 => if x36 then if x2.2.1 = x6.1 ∧ x2.2.2 = x6.2 then some (decide ((x2.1.length : Int) = (0 : Int))) else some (false) else some (false)) else Option.bind (law4_shaped) (fun x25 => if x25 then if x2.2.1 = x6.1 ∧ x2.2.2 = x6.2 then some (decide ((x2.1.length : Int) = (0 : Int))) else some (false) else some (false)))))
theorem law4_ShapesPathsMatchSpec_ok (w : World) (H : PH) (hH : Le H (hp w)) {a0 : Go.L.Pv} {v0_0 : Value} {v0_1 : Value} {v0_2 : Value} (h0_0 : Vec .byte H v0_0 (a0.f.2.2.1)) (h0_1 : Vec .st H v0_1 (a0.f.2.2.2.1)) (h0_2 : Vec .tree H v0_2 (a0.f.2.2.2.2)) {r : Bool} (h : law4_ShapesPathsMatchSpec a0 = some r) :
  Ok Tryz.prog 5 [.agg #[.int .i64 a0.f.1, .int .i64 a0.f.2.1, v0_0, v0_1, v0_2]] w (fun v w' => Ext w w' ∧ v = .bool r) := by
 refine Ok_enter (n := 40) [(0, .agg #[.int .i64 a0.f.1, .int .i64 a0.f.2.1, v0_0, v0_1, v0_2])] func5 rfl rfl rfl rfl rfl ?_
 have hL := Lcl.start w
 refine W_seqr ?_
 refine S_box (t := 38) rfl rfl rfl hL ?_
 intro w1 b1 hL1 hle1 _
 refine S_pz 1 rfl ?_
 refine W_seqr ?_
 refine S_v (r_loadBN 0 rfl underlying38 rfl zr38 hL1 rfl) rfl ?_
 obtain ⟨x2, hb2, h⟩ := Go.L.bind_some h
 refine S_callL rfl rfl hL1 (shapes_Paths_ok (a0 := a0) _ _ (gz_le hH hL1) (h0_0.mono (gz_left hH)) (h0_1.mono (gz_left hH)) (h0_2.mono (gz_left hH)) hb2) ?_
 rintro _ w3 ⟨u3_0, rfl, hR3_0⟩ hx3 hL3 hle3
 have hv3_0 := hR3_0.vecG hH hL1 hx3
 refine S_pu 3 rfl ?_
 refine S_alloc zr23 rfl rfl hL3 ?_
 intro w4 b4 hL4 hle4 _
 replace hv3_0 := hv3_0.mono (gz_mono hH hle4)
 refine S_pu 1 rfl ?_
 refine S_storeBN 0 rfl rfl rfl zr23 hL4 rfl rfl (onc rfl (onc rfl on0)) ?_
 intro w5 hL5 hle5
 replace hv3_0 := hv3_0.mono (gz_mono hH hle5)
 refine S_seqnil ?_
 refine W_seqr ?_
 refine S_v (r_loadBN 1 rfl underlying38 rfl zr38 hL5 rfl) rfl ?_
 obtain ⟨x6, hb6, h⟩ := Go.L.bind_some h
 refine S_callL rfl rfl hL5 (value_Validate_ok (a0 := a0) _ _ (gz_le hH hL5) (h0_0.mono (gz_left hH)) (h0_1.mono (gz_left hH)) (h0_2.mono (gz_left hH)) hb6) ?_
 rintro _ w7 rfl hx7 hL7 hle7
 replace hv3_0 := hv3_0.mono (gz_mono hH hle7)
 refine S_alloc zr23 rfl rfl hL7 ?_
 intro w8 b8 hL8 hle8 _
 replace hv3_0 := hv3_0.mono (gz_mono hH hle8)
 refine S_storeBN 0 rfl rfl rfl zr23 hL8 rfl rfl (onc rfl (onc rfl on0)) ?_
 intro w9 hL9 hle9
 replace hv3_0 := hv3_0.mono (gz_mono hH hle9)
 refine S_seqnil ?_
 refine W_seq ?_
 refine W_seqr ?_
 obtain ⟨x10, hb10, h⟩ := Go.L.bind_some h
 refine S_callL rfl rfl hL9 (law4_shaped_ok _ _ (gz_le hH hL9) hb10) ?_
 rintro _ w11 rfl hx11 hL11 hle11
 replace hv3_0 := hv3_0.mono (gz_mono hH hle11)
 refine S_pu 2 rfl ?_
 refine S_split (s := 15) rfl (fun hg12 => ?_) (fun hg12 => ?_)
 ·replace h := Go.L.ite_t hg12 h
  iterate 3 refine S_unwanted rfl rfl hg12 rfl ?_
  refine S_v (r_pickT rfl hg12 rfl) rfl ?_
  refine S_pu 1 rfl ?_
  iterate 3 refine S_unwanted rfl rfl rfl rfl ?_
  refine S_v (r_pickT rfl rfl rfl) rfl ?_
  refine S_seqnil ?_
  refine W_true rfl ?_
  refine W_seqr ?_
  obtain ⟨x14, hb14, h⟩ := Go.L.bind_some h
  refine S_callL rfl rfl hL11 (law4_shaped_ok _ _ (gz_le hH hL11) hb14) ?_
  rintro _ w15 rfl hx15 hL15 hle15
  replace hv3_0 := hv3_0.mono (gz_mono hH hle15)
  refine S_pu 1 rfl ?_
  refine S_split (s := 26) rfl (fun hg16 => ?_) (fun hg16 => ?_)
  ·replace h := Go.L.ite_t hg16 h
   refine S_guarded rfl rfl hg16 ?_
   refine S_v (r_loadBN 1 rfl underlying23 rfl zr23 hL15 rfl) rfl ?_
   refine S_guarded rfl rfl hg16 ?_
   refine S_v (r_loadBN 0 rfl underlying23 rfl zr23 hL15 rfl) rfl ?_
   refine S_guarded rfl rfl hg16 ?_
   refine S_v (r_eqA rfl rfl eqg23 (eq23 _ _ _ _ )) rfl ?_
   refine S_v (r_pickT rfl hg16 rfl) rfl ?_
   refine S_pu 1 rfl ?_
   refine S_split (s := 31) rfl (fun hg18 => ?_) (fun hg18 => ?_)
   ·replace h := Go.L.ite_p (of_decide_eq_true hg18) h
    refine S_guarded rfl rfl hg18 ?_
    refine S_v (RunsAt_pu rfl) rfl ?_
    refine S_guarded rfl rfl hg18 ?_
    refine S_v (r_len rfl underlying30 hv3_0) rfl ?_
    refine S_guarded rfl rfl hg18 ?_
    refine S_v (RunsAt_pu rfl) rfl ?_
    refine S_v (r_pickT rfl hg18 rfl) rfl ?_
    refine S_pz 1 rfl ?_
    refine W_ret ?_
    refine At_seq_ret ?_
    obtain rfl := Option.some.inj h
    refine At_body rfl rfl ?_
    exact ⟨hL15.ext, rfl⟩
   ·replace h := Go.L.ite_n (of_decide_eq_false hg18) h
    iterate 3 refine S_unwanted rfl rfl hg18 rfl ?_
    refine S_v (r_pickF rfl hg18 rfl) rfl ?_
    refine S_pz 1 rfl ?_
    refine W_ret ?_
    refine At_seq_ret ?_
    obtain rfl := Option.some.inj h
    refine At_body rfl rfl ?_
    exact ⟨hL15.ext, rfl⟩
  ·replace h := Go.L.ite_f hg16 h
   iterate 3 refine S_unwanted rfl rfl hg16 rfl ?_
   refine S_v (r_pickF rfl hg16 rfl) rfl ?_
   refine S_pu 1 rfl ?_
   iterate 3 refine S_unwanted rfl rfl rfl rfl ?_
   refine S_v (r_pickF rfl rfl rfl) rfl ?_
   refine S_pz 1 rfl ?_
   refine W_ret ?_
   refine At_seq_ret ?_
   obtain rfl := Option.some.inj h
   refine At_body rfl rfl ?_
   exact ⟨hL15.ext, rfl⟩
 ·replace h := Go.L.ite_f hg12 h
  refine S_guarded rfl rfl hg12 ?_
  refine S_v (r_loadBN 1 rfl underlying23 rfl zr23 hL11 rfl) rfl ?_
  refine S_guarded rfl rfl hg12 ?_
  refine S_v (r_loadBN 0 rfl underlying23 rfl zr23 hL11 rfl) rfl ?_
  refine S_guarded rfl rfl hg12 ?_
  refine S_v (r_neA rfl rfl eqg23 (eq23 _ _ _ _ )) rfl ?_
  refine S_v (r_pickF rfl hg12 rfl) rfl ?_
  refine S_pu 1 rfl ?_
  refine S_split (s := 20) rfl (fun hg23 => ?_) (fun hg23 => ?_)
  ·replace h := Go.L.ite_n (not_dec_t hg23) h
   iterate 3 refine S_unwanted rfl rfl hg23 rfl ?_
   refine S_v (r_pickT rfl hg23 rfl) rfl ?_
   refine S_seqnil ?_
   refine W_true rfl ?_
   refine W_seqr ?_
   obtain ⟨x25, hb25, h⟩ := Go.L.bind_some h
   refine S_callL rfl rfl hL11 (law4_shaped_ok _ _ (gz_le hH hL11) hb25) ?_
   rintro _ w26 rfl hx26 hL26 hle26
   replace hv3_0 := hv3_0.mono (gz_mono hH hle26)
   refine S_pu 1 rfl ?_
   refine S_split (s := 26) rfl (fun hg27 => ?_) (fun hg27 => ?_)
   ·replace h := Go.L.ite_t hg27 h
    refine S_guarded rfl rfl hg27 ?_
    refine S_v (r_loadBN 1 rfl underlying23 rfl zr23 hL26 rfl) rfl ?_
    refine S_guarded rfl rfl hg27 ?_
    refine S_v (r_loadBN 0 rfl underlying23 rfl zr23 hL26 rfl) rfl ?_
    refine S_guarded rfl rfl hg27 ?_
    refine S_v (r_eqA rfl rfl eqg23 (eq23 _ _ _ _ )) rfl ?_
    refine S_v (r_pickT rfl hg27 rfl) rfl ?_
    refine S_pu 1 rfl ?_
    refine S_split (s := 31) rfl (fun hg29 => ?_) (fun hg29 => ?_)
    ·replace h := Go.L.ite_p (of_decide_eq_true hg29) h
     refine S_guarded rfl rfl hg29 ?_
     refine S_v (RunsAt_pu rfl) rfl ?_
     refine S_guarded rfl rfl hg29 ?_
     refine S_v (r_len rfl underlying30 hv3_0) rfl ?_
     refine S_guarded rfl rfl hg29 ?_
     refine S_v (RunsAt_pu rfl) rfl ?_
     refine S_v (r_pickT rfl hg29 rfl) rfl ?_
     refine S_pz 1 rfl ?_
     refine W_ret ?_
     refine At_seq_ret ?_
     obtain rfl := Option.some.inj h
     refine At_body rfl rfl ?_
     exact ⟨hL26.ext, rfl⟩
    ·replace h := Go.L.ite_n (of_decide_eq_false hg29) h
     iterate 3 refine S_unwanted rfl rfl hg29 rfl ?_
     refine S_v (r_pickF rfl hg29 rfl) rfl ?_
     refine S_pz 1 rfl ?_
     refine W_ret ?_
     refine At_seq_ret ?_
     obtain rfl := Option.some.inj h
     refine At_body rfl rfl ?_
     exact ⟨hL26.ext, rfl⟩
   ·replace h := Go.L.ite_f hg27 h
    iterate 3 refine S_unwanted rfl rfl hg27 rfl ?_
    refine S_v (r_pickF rfl hg27 rfl) rfl ?_
    refine S_pu 1 rfl ?_
    iterate 3 refine S_unwanted rfl rfl rfl rfl ?_
    refine S_v (r_pickF rfl rfl rfl) rfl ?_
    refine S_pz 1 rfl ?_
    refine W_ret ?_
    refine At_seq_ret ?_
    obtain rfl := Option.some.inj h
    refine At_body rfl rfl ?_
    exact ⟨hL26.ext, rfl⟩
  ·replace h := Go.L.ite_p (not_dec_f hg23) h
   refine S_guarded rfl rfl hg23 ?_
   refine S_v (r_field rfl underlying23 rfl zr3 (by decide)) rfl ?_
   refine S_guarded rfl rfl hg23 ?_
   refine S_v (r_loadB1 0 rfl underlying3 rfl hL11 rfl rfl) rfl ?_
   refine S_guarded rfl rfl hg23 ?_
   refine S_v (RunsAt_pu rfl) rfl ?_
   refine S_v (r_pickF rfl hg23 rfl) rfl ?_
   refine S_seqnil ?_
   refine W_ifn rfl (fun hc34 => ?_) (fun hc34 => ?_)
   ·replace h := Go.L.ite_n hc34 h
    refine W_seqr ?_
    obtain ⟨x36, hb36, h⟩ := Go.L.bind_some h
    refine S_callL rfl rfl hL11 (law4_shaped_ok _ _ (gz_le hH hL11) hb36) ?_
    rintro _ w37 rfl hx37 hL37 hle37
    replace hv3_0 := hv3_0.mono (gz_mono hH hle37)
    refine S_pu 1 rfl ?_
    refine S_split (s := 26) rfl (fun hg38 => ?_) (fun hg38 => ?_)
    ·replace h := Go.L.ite_t hg38 h
     refine S_guarded rfl rfl hg38 ?_
     refine S_v (r_loadBN 1 rfl underlying23 rfl zr23 hL37 rfl) rfl ?_
     refine S_guarded rfl rfl hg38 ?_
     refine S_v (r_loadBN 0 rfl underlying23 rfl zr23 hL37 rfl) rfl ?_
     refine S_guarded rfl rfl hg38 ?_
     refine S_v (r_eqA rfl rfl eqg23 (eq23 _ _ _ _ )) rfl ?_
     refine S_v (r_pickT rfl hg38 rfl) rfl ?_
     refine S_pu 1 rfl ?_
     refine S_split (s := 31) rfl (fun hg40 => ?_) (fun hg40 => ?_)
     ·replace h := Go.L.ite_p (of_decide_eq_true hg40) h
      refine S_guarded rfl rfl hg40 ?_
      refine S_v (RunsAt_pu rfl) rfl ?_
      refine S_guarded rfl rfl hg40 ?_
      refine S_v (r_len rfl underlying30 hv3_0) rfl ?_
      refine S_guarded rfl rfl hg40 ?_
      refine S_v (RunsAt_pu rfl) rfl ?_
      refine S_v (r_pickT rfl hg40 rfl) rfl ?_
      refine S_pz 1 rfl ?_
      refine W_ret ?_
      refine At_seq_ret ?_
      obtain rfl := Option.some.inj h
      refine At_body rfl rfl ?_
      exact ⟨hL37.ext, rfl⟩
     ·replace h := Go.L.ite_n (of_decide_eq_false hg40) h
      iterate 3 refine S_unwanted rfl rfl hg40 rfl ?_
      refine S_v (r_pickF rfl hg40 rfl) rfl ?_
      refine S_pz 1 rfl ?_
      refine W_ret ?_
      refine At_seq_ret ?_
      obtain rfl := Option.some.inj h
      refine At_body rfl rfl ?_
      exact ⟨hL37.ext, rfl⟩
    ·replace h := Go.L.ite_f hg38 h
     iterate 3 refine S_unwanted rfl rfl hg38 rfl ?_
     refine S_v (r_pickF rfl hg38 rfl) rfl ?_
     refine S_pu 1 rfl ?_
     iterate 3 refine S_unwanted rfl rfl rfl rfl ?_
     refine S_v (r_pickF rfl rfl rfl) rfl ?_
     refine S_pz 1 rfl ?_
     refine W_ret ?_
     refine At_seq_ret ?_
     obtain rfl := Option.some.inj h
     refine At_body rfl rfl ?_
     exact ⟨hL37.ext, rfl⟩
   ·replace h := Go.L.ite_p hc34 h
    refine W_skip ?_
    refine At_seq ?_
    refine W_p 1 rfl ?_
    refine S_v (r_loadBN 2 rfl underlying38 rfl zr38 hL11 rfl) rfl ?_
    obtain ⟨x45, hb45, h⟩ := Go.L.bind_some h
    refine S_callL rfl rfl hL11 (ref4_Paths_ok (a0 := a0) _ _ (gz_le hH hL11) (h0_0.mono (gz_left hH)) (h0_1.mono (gz_left hH)) (h0_2.mono (gz_left hH)) hb45) ?_
    rintro u46_0 w46 ⟨_, rfl, hR46_0⟩ hx46 hL46 hle46
    have hv46_0 := hR46_0.vecG hH hL11 hx46
    replace hv3_0 := hv3_0.mono (gz_mono hH hle46)
    obtain ⟨x47, hb47, h⟩ := Go.L.bind_some h
    refine S_callL rfl rfl hL46 (ref4_Texts_ok _ _ (gz_le hH hL46) hv3_0 hv46_0 hb47) ?_
    rintro _ w48 rfl hx48 hL48 hle48
    replace hv3_0 := hv3_0.mono (gz_mono hH hle48)
    replace hv46_0 := hv46_0.mono (gz_mono hH hle48)
    refine S_pz 1 rfl ?_
    refine W_ret ?_
    obtain rfl := Option.some.inj h
    refine At_body rfl rfl ?_
    exact ⟨hL48.ext, rfl⟩
end Go.Proofs.YtmfiaecglndldaaGreatDoor
end
section
namespace Go.Proofs.YtmfiaecglndldaaGreatDoor
open Go Go.L
theorem paths_law {v : Pv} (hs : Sm 1048576 10 v) : law4_ShapesPathsMatchSpec v = some true := by
  obtain ⟨f, h1, h2⟩ := validate_ex (B := 1048576) (by omega) hs
  unfold law4_ShapesPathsMatchSpec shapes_Paths
  rw [h1, Option.bind_some]
  rcases h2 with ⟨rfl, hv, hn⟩ | hf
  · have hlen : (lvs 10 v []).length ≤ 600 := by rw [lvs_len]; exact hn
    have hl1 : (Go.E.srtS ((lvs 10 v []).map (·.1))).length ≤ 600 := by rw [(srtS_perm _).length_eq, List.length_map]; exact hlen
    rw [if_pos ⟨rfl, rfl⟩, leaves_eq hv, fold_paths _ _ (by simp; omega), Option.bind_some, List.nil_append, chk_pos (by rw [List.length_map]; omega), chk_pos (by omega), Option.bind_some, Option.bind_some, shaped_true, Option.bind_some, if_neg (by decide), if_pos ⟨rfl, rfl⟩, if_pos rfl, ref_paths hv (by omega), Option.bind_some]
    have hc : (setS ((lvs 10 v []).map (·.1))).length ≤ 600 := by
      refine Nat.le_trans ?_ hl1
      exact Go.E.compact_le _
    show (ref4_Texts (setS ((lvs 10 v []).map (·.1))) (setS ((lvs 10 v []).map (·.1)))).bind _ = _
    rw [texts_self _ (by omega)]
    rfl
  · rw [if_neg (fun h => hf h.1), Option.bind_some, Option.bind_some, shaped_true, Option.bind_some, if_neg (by decide), if_pos ⟨rfl, rfl⟩, if_neg hf, Option.bind_some, if_pos rfl, if_pos ⟨rfl, rfl⟩]
    rfl
end Go.Proofs.YtmfiaecglndldaaGreatDoor
end
section
namespace Go.E
open Go Go.RowKit Go.ChangeShapes Go.WideShapes
section
variable {H : Type} {enc : TypeId × Value → H} {P : Program} {w : World} {base : Nat} {spare : Nat → Bool} {held : Bool}
theorem wf_u8 {n : Int} (h : (Lit.int .u8 n).wf = true) : 0 ≤ n ∧ n ≤ 255 := by
  simpa [Lit.wf, IntKind.min, IntKind.max, IntKind.signed, IntKind.bits] using h
theorem wf_i64 {n : Int} (h : (Lit.int .i64 n).wf = true) : -9223372036854775808 ≤ n ∧ n ≤ 9223372036854775807 := by
  simpa [Lit.wf, IntKind.min, IntKind.max, IntKind.signed, IntKind.bits] using h
/-- Arguments read, behind a call that leaves old memory as it was, as they read before. -/
theorem trodAll_stays (hl : laidOutB P = true) {W W' : World} (hb : Below W.heap.size W W') : ∀ {ts : List TypeId} {vs : List Value} {ds : List (DataW H)} {ps : List MemPlace}, (∀ t ∈ ts, P.readableRec t = true ∧ t < P.types.size) →
    DataW.TrodAll enc P W 0 (fun _ => true) true ts vs ds ps → (∀ x ∈ ps, x.block < W.heap.size) → DataW.TrodAll enc P W' 0 (fun b => decide (b < W.heap.size)) true ts vs ds ps
  | [], [], [], ps, _, h, _ => h
  | t :: ts, v :: vs, d :: ds, ps, ht, h, hlt => by
    obtain ⟨p, q, h1, h2, rfl⟩ := h
    have ht0 := ht t (.head _)
    exact ⟨p, q, Below.trod hl ht0.1 ht0.2 h1 hb (fun x hx => hlt x (List.mem_append.2 (.inl hx))), trodAll_stays hl hb (fun t' h' => ht t' (.tail _ h')) h2 (fun x hx => hlt x (List.mem_append.2 (.inr hx))), rfl⟩
  | [], [], _ :: _, _, _, h, _ => by cases h
  | [], _ :: _, _, _, _, h, _ => by cases h
  | _ :: _, [], _, _, _, h, _ => by cases h
  | _ :: _, _ :: _, [], _, _, h, _ => by cases h
end
end Go.E
namespace Go.E
open Go Go.RowKit Go.ChangeShapes Go.WideShapes Go.Deep
/-- What is read at a type lies in memory as plain data, of which something holds. -/
def Reads (P : Program) (t : TypeId) {α : Type} (r : Rp α) (ok : α → Prop) : Prop :=
  ∀ {H : Type} {enc : TypeId × Value → H} {w : World} {base : Nat} {spare : Nat → Bool} {held : Bool} {fuel : Nat} {cs : List Value} {x : DataW H × List MemPlace},
    DataW.trod enc P w base spare held fuel t cs = some x → ∃ a, r.rel (hp w) a cs ∧ ok a
section
variable {P : Program} {t e : TypeId}
theorem reads_i64 (ht : P.underlying t = some (.int .i64)) : Reads P t (.int .i64) (fun n => Go.L.I64 n) := fun h => by
  obtain ⟨n, rfl, _, hw⟩ := DataW.trod_int ht h
  exact ⟨n, rfl, wf_i64 hw⟩
theorem reads_byte (ht : P.underlying t = some (.int .u8)) : Reads P t .byte (fun _ => True) := fun h => by
  obtain ⟨n, rfl, _, hw⟩ := DataW.trod_int ht h
  have hw' := wf_u8 hw
  refine ⟨Go.L.u8 n, ?_, trivial⟩
  show [_] = [_]
  rw [Go.L.u8_toNat, Int.emod_eq_of_lt (by omega) (by omega)]
end
end Go.E
end
section
namespace Go.Proofs.YtmfiaecglndldaaGreatDoor.bulks
open Go Go.E
theorem one_le {H : Type} (d : DataW H) : 1 ≤ Rows.uptoBulk d := by
  cases d with
  | lit l => cases l <;> simp [Rows.uptoBulk]
  | nil => simp [Rows.uptoBulk]
  | ptr d => simp [Rows.uptoBulk]
  | slice elems spare => simp [Rows.uptoBulk]
  | agg parts => simp [Rows.uptoBulk]
  | iface t d => simp [Rows.uptoBulk]
  | map entries => simp [Rows.uptoBulk]
  | held h => simp [Rows.uptoBulk]
theorem length_le {H : Type} (l : List (DataW H)) : l.length ≤ Rows.uptoBulkAll l := by
  induction l with
  | nil => simp [Rows.uptoBulkAll]
  | cons x r ih => have := one_le x; simp only [Rows.uptoBulkAll, List.length_cons]; omega
theorem bound {H : Type} {l : List (DataW H)} (hk : Rows.uptoSmall H l = true) : Rows.uptoBulkAll l ≤ 1048576 := of_decide_eq_true hk
end Go.Proofs.YtmfiaecglndldaaGreatDoor.bulks
namespace Go.Proofs.YtmfiaecglndldaaGreatDoor.bulks
open Go Go.E Go.RowKit Go.ChangeShapes Go.WideShapes Go.Deep Go.L
theorem all_mem {H : Type} {l : List (DataW H)} {x : DataW H} (h : x ∈ l) : Rows.uptoBulk x ≤ Rows.uptoBulkAll l := by
  induction l with
  | nil => cases h
  | cons y l ih =>
    simp only [Rows.uptoBulkAll]
    rcases List.mem_cons.1 h with rfl | h
    · omega
    · have := ih h; omega
/-- What is read at a type with so much bulk lies in memory as plain data that is small. -/
def RB (P : Program) (t : TypeId) {α : Type} (r : Rp α) (ok : α → Prop) (k : Nat) : Prop :=
  ∀ {H : Type} {enc : TypeId × Value → H} {w : World} {base : Nat} {spare : Nat → Bool} {held : Bool} {fuel : Nat} {cs : List Value} {x : DataW H × List MemPlace},
    Rows.uptoBulk x.1 ≤ k → DataW.trod enc P w base spare held fuel t cs = some x → ∃ a, r.rel (hp w) a cs ∧ ok a
section
variable {P : Program} {t e : TypeId} {k : Nat}
theorem RB.use {α : Type} {r : Rp α} {ok : α → Prop} (h : RB P t r ok k) {H : Type} {enc : TypeId × Value → H} {w : World} {base : Nat} {spare : Nat → Bool} {held : Bool} {fuel : Nat} {cs : List Value} {d : DataW H} {p : List MemPlace}
    (hk : Rows.uptoBulk d ≤ k) (hx : DataW.trod enc P w base spare held fuel t cs = some (d, p)) : ∃ a, r.rel (hp w) a cs ∧ ok a := @h H enc w base spare held fuel cs (d, p) hk hx
theorem rb_of {α : Type} {r : Rp α} {ok : α → Prop} (h : Reads P t r ok) : RB P t r ok k := fun _ hx => h hx
theorem rb_str (ht : P.underlying t = some .string) : RB P t .st (fun l => l.length ≤ k) k := fun hk h => by
  obtain ⟨s, rfl, rfl, hs⟩ := DataW.trod_string ht h
  simp only [Rows.uptoBulk] at hk
  exact ⟨s.data.toList, by show [_] = [_]; simp, by omega⟩
theorem rb_slice {α : Type} {r : Rp α} {ok : α → Prop} (ht : P.underlying t = some (.slice e)) (hc : P.cellsOf e = r.sz) (hsz : 0 < r.sz) (hr : RB P e r ok k) : RB P t (.vec r) (fun l => l.length ≤ k ∧ ∀ x ∈ l, ok x) k := fun {H enc w base spare held fuel cs x} hk h => by
  rcases open_slice ht h with ⟨rfl, _⟩ | ⟨a, len, cap, m, n, D, Pl, rfl, hb, hl, hm, rfl, rfl, hel⟩
  · exact ⟨[], ⟨_, rfl, Vec.nil _ _⟩, by simp, by simp⟩
  · have hm2 : len ≤ (if spare a.block then cap else len) := by split <;> omega
    simp only [Rows.uptoBulk] at hk
    have hlk := length_le ((List.range len).map D)
    rw [List.length_map, List.length_range] at hlk
    have hx : ∀ i, i < len → ∃ y, ok y ∧ ∃ c, r.rel (hp w) y c ∧ w.cells? base (a.add (i * r.sz)) r.sz = some c := fun i hi => by
      obtain ⟨cs', h1, h2⟩ := hel i (by omega)
      have hDi := all_mem (List.mem_map_of_mem (f := D) (List.mem_range.2 hi))
      obtain ⟨y, h3, h4⟩ := hr (x := (D i, Pl i)) (by show Rows.uptoBulk (D i) ≤ k; omega) h2
      rw [hc] at h1
      exact ⟨y, h4, cs', h3, h1⟩
    have key : ∀ k, k ≤ len → ∃ l : List α, l.length = k ∧ (∀ x ∈ l, ok x) ∧ ∀ i y, l[i]? = some y → ∃ c, r.rel (hp w) y c ∧ w.cells? base (a.add (i * r.sz)) r.sz = some c := by
      intro k
      induction k with
      | zero => intro _; exact ⟨[], rfl, by simp, by simp⟩
      | succ k ih =>
        intro hk
        obtain ⟨l, h1, h2, h3⟩ := ih (by omega)
        obtain ⟨y, h4, c, h5, h6⟩ := hx k (by omega)
        refine ⟨l ++ [y], by simp [h1], fun z hz => ?_, fun i z hz => ?_⟩
        · rcases List.mem_append.1 hz with hz | hz
          · exact h2 z hz
          · simp at hz; subst hz; exact h4
        · rcases Nat.lt_or_ge i l.length with hi | hi
          · rw [List.getElem?_append_left hi] at hz; exact h3 i z hz
          · rw [List.getElem?_append_right hi] at hz
            have hi0 : i - l.length = 0 := by
              have := (List.getElem?_eq_some_iff.1 hz).1
              simp at this; omega
            rw [hi0] at hz
            simp at hz
            subst hz
            obtain rfl : i = k := by omega
            exact ⟨c, h5, h6⟩
    obtain ⟨l, h1, h2, h3⟩ := key len (Nat.le_refl _)
    refine ⟨l, ⟨_, rfl, some a, cap, by rw [h1], by omega, hm, (fun h => by cases h), fun A hA hne => ?_⟩, by omega, h2⟩
    cases hA
    have cell : ∀ i y, l[i]? = some y → ∃ c, r.rel (hp w) y c ∧ ∀ j u, c[j]? = some u → w.cell? ((a.add (i * r.sz)).add j) = some u := fun i y hy => by
      obtain ⟨c, h4, h5⟩ := h3 i y hy
      obtain ⟨_, hlen, hcell⟩ := World.cells?_some h5
      exact ⟨c, h4, fun j u hu => by rw [← hu]; exact hcell j (by rw [← hlen]; exact (List.getElem?_eq_some_iff.1 hu).1)⟩
    have hspot : a.spot = none := by
      obtain ⟨y, l', rfl⟩ := List.exists_cons_of_ne_nil hne
      obtain ⟨c, h4, h5⟩ := cell 0 y rfl
      have hc0 : 0 < c.length := by rw [r.len h4]; omega
      have := World.cell?_spot (h5 0 _ (List.getElem?_eq_getElem hc0))
      simpa [Addr.add] using this
    refine ⟨hspot, fun i y hy => ?_⟩
    obtain ⟨c, h4, h5⟩ := cell i y hy
    refine ⟨c, h4, fun j u hu => ?_⟩
    rw [← addr_add_add hspot]
    exact h5 j u hu
/-- A value of package api. -/
theorem rb_tree {f0 f1 f2 f3 f4 : Field} {tb ts tp te : TypeId} (ht : P.underlying t = some (.struct #[f0, f1, f2, f3, f4])) (hc : P.cellsOf t = 5)
    (o0 : f0.offset = 0) (o1 : f1.offset = 1) (o2 : f2.offset = 2) (o3 : f3.offset = 3) (o4 : f4.offset = 4)
    (u0 : P.underlying f0.type = some (.int .i64)) (u1 : P.underlying f1.type = some (.int .i64)) (e2 : f2.type = tb) (e3 : f3.type = ts) (e4 : f4.type = tp)
    (c0 : P.cellsOf f0.type = 1) (c1 : P.cellsOf f1.type = 1) (c2 : P.cellsOf tb = 1) (c3 : P.cellsOf ts = 1) (c4 : P.cellsOf tp = 1)
    (ub : P.underlying tb = some (.slice te)) (ue : P.underlying te = some (.int .u8)) (ce : P.cellsOf te = 1) {tg : TypeId} (us : P.underlying ts = some (.slice tg)) (ug : P.underlying tg = some .string) (cg : P.cellsOf tg = 1) (up : P.underlying tp = some (.slice t)) (B : Nat) (k : Nat) (hB : k ≤ B) : RB P t .tree (fun v => ∀ d, Sm B d v) k := by
  induction k with
  | zero =>
    intro H enc w base spare held fuel cs x hk h
    have := one_le x.1
    omega
  | succ k ih0 =>
    intro H enc w base spare held fuel cs x hk h
    subst e2; subst e3; subst e4
    obtain ⟨xs, n, rfl, rfl, hl, hlen, hfs⟩ := DataW.trod_struct ht h
    have ih : RB P t .tree (fun v => ∀ d, Sm B d v) k := @ih0 (by omega)
    simp only [Rows.uptoBulk] at hk
    have hb : ∀ y ∈ xs, Rows.uptoBulk y.1 ≤ k := fun y hy => by
      have := all_mem (List.mem_map_of_mem (f := fun z : DataW H × List MemPlace => z.1) hy)
      omega
    have hx5 : xs.length = 5 := by simpa using hlen
    have get : ∀ (i : Nat) (f : Field), (#[f0, f1, f2, f3, f4] : Array Field)[i]? = some f → i < 5 → P.cellsOf f.type = 1 → f.offset = i → ∃ y : DataW H × List MemPlace, Rows.uptoBulk y.1 ≤ k ∧ DataW.trod enc P w base spare held n f.type ((cs.drop i).take 1) = some y := fun i f hf hi hcf hof => by
      have h1 := hfs i f hf
      rw [hcf, hof, List.getElem?_eq_getElem (by omega : i < xs.length)] at h1
      exact ⟨_, hb _ (List.getElem_mem _), h1⟩
    obtain ⟨y0, b0, t0⟩ := get 0 f0 rfl (by omega) c0 o0
    obtain ⟨y1, b1, t1⟩ := get 1 f1 rfl (by omega) c1 o1
    obtain ⟨y2, b2, t2⟩ := get 2 f2 rfl (by omega) c2 o2
    obtain ⟨y3, b3, t3⟩ := get 3 f3 rfl (by omega) c3 o3
    obtain ⟨y4, b4, t4⟩ := get 4 f4 rfl (by omega) c4 o4
    obtain ⟨a0, r0, q0⟩ := rb_of (k := k) (reads_i64 u0) b0 t0
    obtain ⟨a1, r1, q1⟩ := rb_of (k := k) (reads_i64 u1) b1 t1
    obtain ⟨a2, r2, q2, _⟩ := rb_slice ub ce (by decide) (rb_of (k := k) (reads_byte ue)) b2 t2
    obtain ⟨a3, r3, q3, q3'⟩ := rb_slice us cg (by decide) (rb_str (k := k) ug) b3 t3
    obtain ⟨a4, r4, q4, q4'⟩ := rb_slice up (r := .tree) hc (by decide) ih b4 t4
    refine ⟨.mk a0 a1 a2 a3 a4, Rp.tree_close ?_, fun d => ?_⟩
    · have hcs : cs = (cs.drop 0).take 1 ++ ((cs.drop 1).take 1 ++ ((cs.drop 2).take 1 ++ ((cs.drop 3).take 1 ++ (cs.drop 4).take 1))) := by
        have h5 : cs.length = 5 := by rw [hl, hc]
        match cs, h5 with
        | [_, _, _, _, _], _ => rfl
      exact ⟨_, _, hcs, r0, _, _, rfl, r1, _, _, rfl, r2, _, _, rfl, r3, r4⟩
    · cases d with
      | zero => exact trivial
      | succ d => exact ⟨by show a2.length ≤ B; omega, by show a3.length ≤ B; omega, by show a4.length ≤ B; omega, fun x hx => by have := q3' x hx; omega, q0, q1, fun p hp => q4' p hp d⟩
end
end Go.Proofs.YtmfiaecglndldaaGreatDoor.bulks
end
section
namespace Go.Proofs.YtmfiaecglndldaaGreatDoor
open Go Go.E Go.Lib
def laidU : List (String × DataW Unit) := [("unicode/utf8.acceptRanges", Rows.laid_unicode_utf8_acceptRanges), ("unicode/utf8.first", Rows.laid_unicode_utf8_first)]
noncomputable def laidWorld (os : Os) : World :=
  let w0 := World.holding Tryz.prog os ⟨#[], #[], []⟩
  let put (h : Array Obj) (g : Nat) (cs : Array Value) : Array Obj := h.modify g fun
    | .cells _ t frozen => .cells cs t frozen
    | o => o
  let h1 := put w0.heap 1 (Lib.firstTab.map fun z => Value.int .u8 z).toArray
  let h2 := put h1 2 ((List.range 16).flatMap fun i => [Value.int .u8 (Lib.accLo i), Value.int .u8 (Lib.accHi i)]).toArray
  { w0 with heap := h2 }
theorem door_met (os : Os) (args : Array Value) : laidMetH Tryz.prog laidU ((laidWorld os).forCall (fun _ _ => 0) ⟨#[], args, []⟩).memory :=
  laidMetH_of_parts3 (fuel := 8) (laidMet_of_run' 8 (by kernel_rfl) (by kernel_rfl)) (by kernel_rfl) (by kernel_rfl)
end Go.Proofs.YtmfiaecglndldaaGreatDoor
end
