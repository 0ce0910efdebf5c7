/- Texts of a claim, merged. -/
import Derived.Test.YtmfiaecglndldaaGreatDoorKh6
import Derived.KernelRfl
import Derived.ProofKit
import Derived.OpenShut
import Derived.Carry
import Derived.Deep.Slices
import Derived.Test.YtmfiaecglndldaaGreatDoorRows
import Derived.Lib.LaidU8T
import Derived.LaidMore
import Derived.MakeChecks
import Derived.LaidHandle
set_option linter.unusedVariables false
set_option linter.unusedSimpArgs false
section
namespace Go.Proofs.YtmfiaecglndldaaGreatDoor
open Go Go.E Go.RowKit
set_option maxHeartbeats 1000000
set_option maxRecDepth 10000
open _root_.Go.Proofs.Tryz
noncomputable def law4_shaped : Option (Bool) :=
 Option.bind (shapes_Match ([42, 42, 47, 99] : List UInt8) ([97, 47, 98, 47, 99] : List UInt8)) (fun x1 => Option.bind (shapes_Match ([42, 47, 99] : List UInt8) ([97, 47, 98, 47, 99] : List UInt8)) (fun x5 => Option.bind (law4_record (5 : Int)) (fun x9 => Option.bind (shapes_Paths x9) (fun x11 => Option.bind (law4_number (5 : Int)) (fun x15 => Option.bind (law4_record (5 : Int)) (fun x17 => Option.bind (shapes_Build ([x15, x17])) (fun x20 => Option.bind (shapes_Index_Number (x20.1.1, x20.1.2) ([97] : List UInt8) (1 : Int) (5 : Int)) (fun x26 => Option.bind (shapes_Index_Find (x20.1.1, x20.1.2) ([42, 42] : List UInt8)) (fun x31 => Option.bind (shapes_Index_Text (x20.1.1, x20.1.2) ([97] : List UInt8) ([])) (fun x35 => Option.bind (shapes_Open ([(0 : UInt8), (0 : UInt8)])) (fun x40 => if x1.2.1 = (0 : Int) then if x5.2.1 = (0 : Int) then if x11.2.1 = (0 : Int) then if x20.2.1 = (0 : Int) then if x26.2.1 = (0 : Int) then if x31.2.1 = (0 : Int) then if x35.2.1 = (0 : Int) then if x40.2.1 = (0 : Int) then (if (bif x1.1 then !x5.1 else false) then Option.bind (ref4_Texts x11.1 ([([] : List UInt8), ([97] : List UInt8)])) (fun x74 => if x74 then Option.bind (ref3_Ints x26.1 ([(1 : Int)])) (fun x79 => if x79 then Option.bind (ref3_Ints x31.1 ([(0 : Int), (1 : Int)])) (fun x84 => if x84 then if (x35.1.length : Int) = (0 : Int) then Option.bind (shapes_Index_Items (x40.1.1, x40.1.2)) (fun x90 => if x90 = (0 : Int) then Option.bind (shapes_Check ([97, 47, 47, 98] : List UInt8)) (fun x94 => Option.bind (ref3_At (1 : Int) (2 : Int)) (fun x96 => some (decide (x94.1 = x96.1 ∧ x94.2 = x96.2)))) else some (false)) else some (false) else some (false)) else some (false)) else some (false)) else some (false)) else some (false) else some (false) else some (false) else some (false) else some (false) else some (false) else some (false) else some (false))))))))))))
theorem law4_shaped_ok (w : World) (H : PH) (hH : Le H (hp w))    {r : Bool} (h : law4_shaped = some r) :
  Ok Tryz.prog 14 [] w (fun v w' => Ext w w' ∧ v = .bool r) := by
 refine Ok_enter (n := 130) [] func14 rfl rfl rfl rfl rfl ?_;have hL := Lcl.start w;refine W_pz 1 rfl ?_;refine W_seqr ?_;obtain ⟨x1, hb1, h⟩ := Go.L.bind_some h;refine S_callL rfl rfl hL (shapes_Match_ok _ _ (gz_le hH hL) hb1) ?_;rintro _ w2 rfl hx2 hL2 hle2;refine S_pu 3 rfl ?_;refine S_alloc zr23 rfl rfl hL2 ?_;intro w3 b3 hL3 hle3 _;refine S_pu 1 rfl ?_;refine S_storeBN 0 rfl rfl rfl zr23 hL3 rfl rfl (onc rfl (onc rfl on0)) ?_;intro w4 hL4 hle4;refine S_seqnil ?_;refine W_seqr ?_;obtain ⟨x5, hb5, h⟩ := Go.L.bind_some h;refine S_callL rfl rfl hL4 (shapes_Match_ok _ _ (gz_le hH hL4) hb5) ?_;rintro _ w6 rfl hx6 hL6 hle6;refine S_pu 3 rfl ?_;refine S_alloc zr23 rfl rfl hL6 ?_;intro w7 b7 hL7 hle7 _;refine S_pu 1 rfl ?_;refine S_storeBN 0 rfl rfl rfl zr23 hL7 rfl rfl (onc rfl (onc rfl on0)) ?_;intro w8 hL8 hle8;refine S_seqnil ?_;refine W_seqr ?_;obtain ⟨x9, hb9, h⟩ := Go.L.bind_some h;refine S_callL rfl rfl hL8 (law4_record_ok _ _ (gz_le hH hL8) hb9) ?_;rintro _ w10 ⟨u10_0, u10_1, u10_2, rfl, hR10_0, hR10_1, hR10_2⟩ hx10 hL10 hle10;have hv10_0 := hR10_0.vecG hH hL8 hx10;have hv10_1 := hR10_1.mono (gz_nw hH hL8 hx10);have hv10_2 := hR10_2.mono (gz_nw hH hL8 hx10);obtain ⟨x11, hb11, h⟩ := Go.L.bind_some h;refine S_callL rfl rfl hL10 (shapes_Paths_ok (a0 := x9) _ _ (gz_le hH hL10) hv10_0 hv10_1 hv10_2 hb11) ?_;rintro _ w12 ⟨u12_0, rfl, hR12_0⟩ hx12 hL12 hle12;have hv12_0 := hR12_0.vecG hH hL10 hx12;replace hv10_0 := hv10_0.mono (gz_mono hH hle12)
 replace hv10_1 := hv10_1.mono (gz_mono hH hle12);replace hv10_2 := hv10_2.mono (gz_mono hH hle12);refine S_pu 3 rfl ?_;refine S_alloc zr23 rfl rfl hL12 ?_;intro w13 b13 hL13 hle13 _;replace hv10_0 := hv10_0.mono (gz_mono hH hle13);replace hv10_1 := hv10_1.mono (gz_mono hH hle13);replace hv10_2 := hv10_2.mono (gz_mono hH hle13);replace hv12_0 := hv12_0.mono (gz_mono hH hle13);refine S_pu 1 rfl ?_;refine S_storeBN 0 rfl rfl rfl zr23 hL13 rfl rfl (onc rfl (onc rfl on0)) ?_;intro w14 hL14 hle14;replace hv10_0 := hv10_0.mono (gz_mono hH hle14);replace hv10_1 := hv10_1.mono (gz_mono hH hle14);replace hv10_2 := hv10_2.mono (gz_mono hH hle14);replace hv12_0 := hv12_0.mono (gz_mono hH hle14);refine S_seqnil ?_;refine W_seqr ?_;obtain ⟨x15, hb15, h⟩ := Go.L.bind_some h;refine S_callL rfl rfl hL14 (law4_number_ok _ _ (gz_le hH hL14) hb15) ?_;rintro _ w16 ⟨u16_0, u16_1, u16_2, rfl, hR16_0, hR16_1, hR16_2⟩ hx16 hL16 hle16;have hv16_0 := hR16_0.vecG hH hL14 hx16;have hv16_1 := hR16_1.vecG hH hL14 hx16;have hv16_2 := hR16_2.vecG hH hL14 hx16;replace hv12_0 := hv12_0.mono (gz_mono hH hle16);obtain ⟨x17, hb17, h⟩ := Go.L.bind_some h;refine S_callL rfl rfl hL16 (law4_record_ok _ _ (gz_le hH hL16) hb17) ?_;rintro _ w18 ⟨u18_0, u18_1, u18_2, rfl, hR18_0, hR18_1, hR18_2⟩ hx18 hL18 hle18;have hv18_0 := hR18_0.vecG hH hL16 hx18;have hv18_1 := hR18_1.mono (gz_nw hH hL16 hx18);have hv18_2 := hR18_2.mono (gz_nw hH hL16 hx18);replace hv12_0 := hv12_0.mono (gz_mono hH hle18)
 replace hv16_0 := hv16_0.mono (gz_mono hH hle18);replace hv16_1 := hv16_1.mono (gz_mono hH hle18);replace hv16_2 := hv16_2.mono (gz_mono hH hle18);refine S_litE (r := .tree) (l := [x15, x17]) rfl (fun _ => bsl36_2 _ _ _ _ _ _ _ _ _ _ _) rfl (show 2 ≤ 9223372036854775807 by decide) hH hL18 (.c5 (Go.E.Rp.tree_close ⟨_, _, rfl, rfl, ⟨_, _, rfl, rfl, ⟨_, _, rfl, ⟨_, rfl, hv16_0⟩, ⟨_, _, rfl, ⟨_, rfl, hv16_1⟩, ⟨_, rfl, hv16_2⟩⟩⟩⟩⟩) (.c5 (Go.E.Rp.tree_close ⟨_, _, rfl, rfl, ⟨_, _, rfl, rfl, ⟨_, _, rfl, ⟨_, rfl, hv18_0⟩, ⟨_, _, rfl, ⟨_, rfl, hv18_1⟩, ⟨_, rfl, hv18_2⟩⟩⟩⟩⟩) .nil)) ?_;intro v19 w19 hx19 hL19 hle19 hv19;replace hv12_0 := hv12_0.mono (gz_mono hH hle19);replace hv16_0 := hv16_0.mono (gz_mono hH hle19);replace hv16_1 := hv16_1.mono (gz_mono hH hle19);replace hv16_2 := hv16_2.mono (gz_mono hH hle19);replace hv18_0 := hv18_0.mono (gz_mono hH hle19);replace hv18_1 := hv18_1.mono (gz_mono hH hle19);replace hv18_2 := hv18_2.mono (gz_mono hH hle19);obtain ⟨x20, hb20, h⟩ := Go.L.bind_some h;refine S_callL rfl rfl hL19 (shapes_Build_ok _ _ (gz_le hH hL19) hv19 hb20) ?_;rintro _ w21 ⟨u21_0, rfl, hR21_0⟩ hx21 hL21 hle21;have hv21_0 := hR21_0.mono (gz_nw hH hL19 hx21);replace hv12_0 := hv12_0.mono (gz_mono hH hle21);replace hv16_0 := hv16_0.mono (gz_mono hH hle21);replace hv16_1 := hv16_1.mono (gz_mono hH hle21);replace hv16_2 := hv16_2.mono (gz_mono hH hle21);replace hv18_0 := hv18_0.mono (gz_mono hH hle21);replace hv18_1 := hv18_1.mono (gz_mono hH hle21)
 replace hv18_2 := hv18_2.mono (gz_mono hH hle21);replace hv19 := hv19.mono (gz_mono hH hle21);refine S_pu 3 rfl ?_;refine S_alloc zr47 rfl rfl hL21 ?_;intro w22 b22 hL22 hle22 _;replace hv12_0 := hv12_0.mono (gz_mono hH hle22);replace hv16_0 := hv16_0.mono (gz_mono hH hle22);replace hv16_1 := hv16_1.mono (gz_mono hH hle22);replace hv16_2 := hv16_2.mono (gz_mono hH hle22);replace hv18_0 := hv18_0.mono (gz_mono hH hle22);replace hv18_1 := hv18_1.mono (gz_mono hH hle22);replace hv18_2 := hv18_2.mono (gz_mono hH hle22);replace hv19 := hv19.mono (gz_mono hH hle22);replace hv21_0 := hv21_0.mono (gz_mono hH hle22);refine S_alloc zr23 rfl rfl hL22 ?_;intro w23 b23 hL23 hle23 _;replace hv12_0 := hv12_0.mono (gz_mono hH hle23);replace hv16_0 := hv16_0.mono (gz_mono hH hle23);replace hv16_1 := hv16_1.mono (gz_mono hH hle23);replace hv16_2 := hv16_2.mono (gz_mono hH hle23);replace hv18_0 := hv18_0.mono (gz_mono hH hle23);replace hv18_1 := hv18_1.mono (gz_mono hH hle23);replace hv18_2 := hv18_2.mono (gz_mono hH hle23);replace hv19 := hv19.mono (gz_mono hH hle23);replace hv21_0 := hv21_0.mono (gz_mono hH hle23);refine S_storeBN 1 rfl rfl rfl zr47 hL23 rfl rfl (onc rfl (onc hv21_0.one on0)) ?_;intro w24 hL24 hle24;replace hv12_0 := hv12_0.mono (gz_mono hH hle24);replace hv16_0 := hv16_0.mono (gz_mono hH hle24);replace hv16_1 := hv16_1.mono (gz_mono hH hle24);replace hv16_2 := hv16_2.mono (gz_mono hH hle24);replace hv18_0 := hv18_0.mono (gz_mono hH hle24)
 replace hv18_1 := hv18_1.mono (gz_mono hH hle24);replace hv18_2 := hv18_2.mono (gz_mono hH hle24);replace hv19 := hv19.mono (gz_mono hH hle24);replace hv21_0 := hv21_0.mono (gz_mono hH hle24);refine S_storeBN 0 rfl rfl rfl zr23 hL24 rfl rfl (onc rfl (onc rfl on0)) ?_;intro w25 hL25 hle25;replace hv12_0 := hv12_0.mono (gz_mono hH hle25);replace hv16_0 := hv16_0.mono (gz_mono hH hle25);replace hv16_1 := hv16_1.mono (gz_mono hH hle25);replace hv16_2 := hv16_2.mono (gz_mono hH hle25);replace hv18_0 := hv18_0.mono (gz_mono hH hle25);replace hv18_1 := hv18_1.mono (gz_mono hH hle25);replace hv18_2 := hv18_2.mono (gz_mono hH hle25);replace hv19 := hv19.mono (gz_mono hH hle25);replace hv21_0 := hv21_0.mono (gz_mono hH hle25);refine S_seqnil ?_;refine W_seqr ?_;refine S_v (r_loadBN 1 rfl underlying47 rfl zr47 hL25 rfl) rfl ?_;obtain ⟨x26, hb26, h⟩ := Go.L.bind_some h;refine S_callL rfl rfl hL25 (shapes_Index_Number_ok (a0 := (x20.1.1, x20.1.2)) _ _ (gz_le hH hL25) hv21_0 hb26) ?_;rintro _ w27 ⟨u27_0, rfl, hR27_0⟩ hx27 hL27 hle27;have hv27_0 := hR27_0.vecG hH hL25 hx27;replace hv12_0 := hv12_0.mono (gz_mono hH hle27);replace hv21_0 := hv21_0.mono (gz_mono hH hle27);refine S_pu 3 rfl ?_;refine S_alloc zr23 rfl rfl hL27 ?_;intro w28 b28 hL28 hle28 _;replace hv12_0 := hv12_0.mono (gz_mono hH hle28);replace hv21_0 := hv21_0.mono (gz_mono hH hle28);replace hv27_0 := hv27_0.mono (gz_mono hH hle28);refine S_pu 1 rfl ?_
 refine S_storeBN 0 rfl rfl rfl zr23 hL28 rfl rfl (onc rfl (onc rfl on0)) ?_;intro w29 hL29 hle29;replace hv12_0 := hv12_0.mono (gz_mono hH hle29);replace hv21_0 := hv21_0.mono (gz_mono hH hle29);replace hv27_0 := hv27_0.mono (gz_mono hH hle29);refine S_seqnil ?_;have hG30 := hL29.rG H;refine W_seqr ?_;refine S_v (r_loadBN 2 rfl underlying47 rfl zr47 hL29 rfl) rfl ?_;obtain ⟨x31, hb31, h⟩ := Go.L.bind_some h;refine S_callL rfl rfl hL29 (shapes_Index_Find_ok (a0 := (x20.1.1, x20.1.2)) _ _ (gz_le hH hL29) (hv21_0.mono hG30) hb31) ?_;rintro _ w32 ⟨u32_0, rfl, hR32_0⟩ hx32 hL32 hle32;have hv32_0 := hR32_0.vecG hH hL29 hx32;replace hG30 := hG30.trans (gz_mono hH hle32);refine S_pu 3 rfl ?_;refine S_alloc zr23 rfl rfl hL32 ?_;intro w33 b33 hL33 hle33 _;replace hv32_0 := hv32_0.mono (gz_mono hH hle33);replace hG30 := hG30.trans (gz_mono hH hle33);refine S_pu 1 rfl ?_;refine S_storeBN 0 rfl rfl rfl zr23 hL33 rfl rfl (onc rfl (onc rfl on0)) ?_;intro w34 hL34 hle34;replace hv32_0 := hv32_0.mono (gz_mono hH hle34);replace hG30 := hG30.trans (gz_mono hH hle34);refine S_seqnil ?_;refine W_seqr ?_;refine S_v (r_loadBN 3 rfl underlying47 rfl zr47 hL34 rfl) rfl ?_;obtain ⟨x35, hb35, h⟩ := Go.L.bind_some h;refine S_callL rfl rfl hL34 (shapes_Index_Text_ok (a0 := (x20.1.1, x20.1.2)) _ _ (gz_le hH hL34) (hv21_0.mono hG30) (Vec.nil _ _) hb35) ?_;rintro _ w36 ⟨u36_0, rfl, hR36_0⟩ hx36 hL36 hle36;have hv36_0 := hR36_0.vecG hH hL34 hx36;replace hv32_0 := hv32_0.mono (gz_mono hH hle36)
 replace hG30 := hG30.trans (gz_mono hH hle36);refine S_pu 3 rfl ?_;refine S_alloc zr23 rfl rfl hL36 ?_;intro w37 b37 hL37 hle37 _;replace hv32_0 := hv32_0.mono (gz_mono hH hle37);replace hv36_0 := hv36_0.mono (gz_mono hH hle37);replace hG30 := hG30.trans (gz_mono hH hle37);refine S_pu 1 rfl ?_;refine S_storeBN 0 rfl rfl rfl zr23 hL37 rfl rfl (onc rfl (onc rfl on0)) ?_;intro w38 hL38 hle38;replace hv32_0 := hv32_0.mono (gz_mono hH hle38);replace hv36_0 := hv36_0.mono (gz_mono hH hle38);replace hG30 := hG30.trans (gz_mono hH hle38);refine S_seqnil ?_;refine W_seqr ?_;refine S_litE (r := .byte) (l := [(0 : UInt8), (0 : UInt8)]) rfl (fun _ => bsl35_2 _ _ _) rfl (show 2 ≤ 9223372036854775807 by decide) hH hL38 (.c1 rfl (.c1 rfl .nil)) ?_;intro v39 w39 hx39 hL39 hle39 hv39;replace hv32_0 := hv32_0.mono (gz_mono hH hle39);replace hv36_0 := hv36_0.mono (gz_mono hH hle39);replace hG30 := hG30.trans (gz_mono hH hle39);obtain ⟨x40, hb40, h⟩ := Go.L.bind_some h;refine S_callL rfl rfl hL39 (shapes_Open_ok _ _ (gz_le hH hL39) hv39 hb40) ?_;rintro _ w41 ⟨u41_0, rfl, hR41_0⟩ hx41 hL41 hle41;have hv41_0 := hR41_0.mono (gz_nw hH hL39 hx41);replace hv32_0 := hv32_0.mono (gz_mono hH hle41);replace hv36_0 := hv36_0.mono (gz_mono hH hle41);replace hv39 := hv39.mono (gz_mono hH hle41);replace hG30 := hG30.trans (gz_mono hH hle41);refine S_pu 3 rfl ?_;refine S_alloc zr47 rfl rfl hL41 ?_;intro w42 b42 hL42 hle42 _;replace hv32_0 := hv32_0.mono (gz_mono hH hle42)
 replace hv36_0 := hv36_0.mono (gz_mono hH hle42);replace hv39 := hv39.mono (gz_mono hH hle42);replace hv41_0 := hv41_0.mono (gz_mono hH hle42);replace hG30 := hG30.trans (gz_mono hH hle42);refine S_alloc zr23 rfl rfl hL42 ?_;intro w43 b43 hL43 hle43 _;replace hv32_0 := hv32_0.mono (gz_mono hH hle43);replace hv36_0 := hv36_0.mono (gz_mono hH hle43);replace hv39 := hv39.mono (gz_mono hH hle43);replace hv41_0 := hv41_0.mono (gz_mono hH hle43);replace hG30 := hG30.trans (gz_mono hH hle43);refine S_storeBN 1 rfl rfl rfl zr47 hL43 rfl rfl (onc rfl (onc hv41_0.one on0)) ?_;intro w44 hL44 hle44;replace hv32_0 := hv32_0.mono (gz_mono hH hle44);replace hv36_0 := hv36_0.mono (gz_mono hH hle44);replace hv39 := hv39.mono (gz_mono hH hle44);replace hv41_0 := hv41_0.mono (gz_mono hH hle44);replace hG30 := hG30.trans (gz_mono hH hle44);refine S_storeBN 0 rfl rfl rfl zr23 hL44 rfl rfl (onc rfl (onc rfl on0)) ?_;intro w45 hL45 hle45;replace hv32_0 := hv32_0.mono (gz_mono hH hle45);replace hv36_0 := hv36_0.mono (gz_mono hH hle45);replace hv39 := hv39.mono (gz_mono hH hle45);replace hv41_0 := hv41_0.mono (gz_mono hH hle45);replace hG30 := hG30.trans (gz_mono hH hle45);refine S_seqnil ?_;refine W_seq ?_;have hG46 := hL45.rG H;refine W_seqr ?_;refine S_v (r_field rfl underlying23 rfl zr3 (by decide)) rfl ?_;refine S_v (r_loadB1 9 rfl underlying3 rfl hL45 rfl rfl) rfl ?_;refine S_pu 2 rfl ?_;refine S_split (s := 60) rfl (fun hg47 => ?_) (fun hg47 => ?_)
 ·replace h := Go.L.ite_n (not_dec_t hg47) h
  iterate 3 refine S_unwanted rfl rfl hg47 rfl ?_
  refine S_v (r_pickT rfl hg47 rfl) rfl ?_;refine S_pu 1 rfl ?_
  iterate 3 refine S_unwanted rfl rfl rfl rfl ?_
  refine S_v (r_pickT rfl rfl rfl) rfl ?_;refine S_pu 1 rfl ?_
  iterate 3 refine S_unwanted rfl rfl rfl rfl ?_
  refine S_v (r_pickT rfl rfl rfl) rfl ?_;refine S_pu 1 rfl ?_
  iterate 3 refine S_unwanted rfl rfl rfl rfl ?_
  refine S_v (r_pickT rfl rfl rfl) rfl ?_;refine S_pu 1 rfl ?_
  iterate 3 refine S_unwanted rfl rfl rfl rfl ?_
  refine S_v (r_pickT rfl rfl rfl) rfl ?_;refine S_pu 1 rfl ?_
  iterate 3 refine S_unwanted rfl rfl rfl rfl ?_
  refine S_v (r_pickT rfl rfl rfl) rfl ?_;refine S_pu 1 rfl ?_
  iterate 3 refine S_unwanted rfl rfl rfl rfl ?_
  refine S_v (r_pickT rfl rfl rfl) rfl ?_;refine S_seqnil ?_;refine W_true rfl ?_;refine W_pz 1 rfl ?_;refine W_ret ?_;refine At_seq_ret ?_;obtain rfl := Option.some.inj h;refine At_body rfl rfl ?_;exact ⟨hL45.ext, rfl⟩
 ·replace h := Go.L.ite_p (not_dec_f hg47) h;refine S_guarded rfl rfl hg47 ?_;refine S_v (r_field rfl underlying23 rfl zr3 (by decide)) rfl ?_;refine S_guarded rfl rfl hg47 ?_;refine S_v (r_loadB1 8 rfl underlying3 rfl hL45 rfl rfl) rfl ?_;refine S_guarded rfl rfl hg47 ?_;refine S_v (RunsAt_pu rfl) rfl ?_;refine S_v (r_pickF rfl hg47 rfl) rfl ?_;refine S_pu 1 rfl ?_;refine S_split (s := 65) rfl (fun hg50 => ?_) (fun hg50 => ?_)
  ·replace h := Go.L.ite_n (not_dec_t hg50) h
   iterate 3 refine S_unwanted rfl rfl hg50 rfl ?_
   refine S_v (r_pickT rfl hg50 rfl) rfl ?_;refine S_pu 1 rfl ?_
   iterate 3 refine S_unwanted rfl rfl rfl rfl ?_
   refine S_v (r_pickT rfl rfl rfl) rfl ?_;refine S_pu 1 rfl ?_
   iterate 3 refine S_unwanted rfl rfl rfl rfl ?_
   refine S_v (r_pickT rfl rfl rfl) rfl ?_;refine S_pu 1 rfl ?_
   iterate 3 refine S_unwanted rfl rfl rfl rfl ?_
   refine S_v (r_pickT rfl rfl rfl) rfl ?_;refine S_pu 1 rfl ?_
   iterate 3 refine S_unwanted rfl rfl rfl rfl ?_
   refine S_v (r_pickT rfl rfl rfl) rfl ?_;refine S_pu 1 rfl ?_
   iterate 3 refine S_unwanted rfl rfl rfl rfl ?_
   refine S_v (r_pickT rfl rfl rfl) rfl ?_;refine S_seqnil ?_;refine W_true rfl ?_;refine W_pz 1 rfl ?_;refine W_ret ?_;refine At_seq_ret ?_;obtain rfl := Option.some.inj h;refine At_body rfl rfl ?_;exact ⟨hL45.ext, rfl⟩
  ·replace h := Go.L.ite_p (not_dec_f hg50) h;refine S_guarded rfl rfl hg50 ?_;refine S_v (r_field rfl underlying23 rfl zr3 (by decide)) rfl ?_;refine S_guarded rfl rfl hg50 ?_;refine S_v (r_loadB1 7 rfl underlying3 rfl hL45 rfl rfl) rfl ?_;refine S_guarded rfl rfl hg50 ?_;refine S_v (RunsAt_pu rfl) rfl ?_;refine S_v (r_pickF rfl hg50 rfl) rfl ?_;refine S_pu 1 rfl ?_;refine S_split (s := 70) rfl (fun hg53 => ?_) (fun hg53 => ?_)
   ·replace h := Go.L.ite_n (not_dec_t hg53) h
    iterate 3 refine S_unwanted rfl rfl hg53 rfl ?_
    refine S_v (r_pickT rfl hg53 rfl) rfl ?_;refine S_pu 1 rfl ?_
    iterate 3 refine S_unwanted rfl rfl rfl rfl ?_
    refine S_v (r_pickT rfl rfl rfl) rfl ?_;refine S_pu 1 rfl ?_
    iterate 3 refine S_unwanted rfl rfl rfl rfl ?_
    refine S_v (r_pickT rfl rfl rfl) rfl ?_;refine S_pu 1 rfl ?_
    iterate 3 refine S_unwanted rfl rfl rfl rfl ?_
    refine S_v (r_pickT rfl rfl rfl) rfl ?_;refine S_pu 1 rfl ?_
    iterate 3 refine S_unwanted rfl rfl rfl rfl ?_
    refine S_v (r_pickT rfl rfl rfl) rfl ?_;refine S_seqnil ?_;refine W_true rfl ?_;refine W_pz 1 rfl ?_;refine W_ret ?_;refine At_seq_ret ?_;obtain rfl := Option.some.inj h;refine At_body rfl rfl ?_;exact ⟨hL45.ext, rfl⟩
   ·replace h := Go.L.ite_p (not_dec_f hg53) h;refine S_guarded rfl rfl hg53 ?_;refine S_v (r_field rfl underlying23 rfl zr3 (by decide)) rfl ?_;refine S_guarded rfl rfl hg53 ?_;refine S_v (r_loadB1 5 rfl underlying3 rfl hL45 rfl rfl) rfl ?_;refine S_guarded rfl rfl hg53 ?_;refine S_v (RunsAt_pu rfl) rfl ?_;refine S_v (r_pickF rfl hg53 rfl) rfl ?_;refine S_pu 1 rfl ?_;refine S_split (s := 75) rfl (fun hg56 => ?_) (fun hg56 => ?_)
    ·replace h := Go.L.ite_n (not_dec_t hg56) h
     iterate 3 refine S_unwanted rfl rfl hg56 rfl ?_
     refine S_v (r_pickT rfl hg56 rfl) rfl ?_;refine S_pu 1 rfl ?_
     iterate 3 refine S_unwanted rfl rfl rfl rfl ?_
     refine S_v (r_pickT rfl rfl rfl) rfl ?_;refine S_pu 1 rfl ?_
     iterate 3 refine S_unwanted rfl rfl rfl rfl ?_
     refine S_v (r_pickT rfl rfl rfl) rfl ?_;refine S_pu 1 rfl ?_
     iterate 3 refine S_unwanted rfl rfl rfl rfl ?_
     refine S_v (r_pickT rfl rfl rfl) rfl ?_;refine S_seqnil ?_;refine W_true rfl ?_;refine W_pz 1 rfl ?_;refine W_ret ?_;refine At_seq_ret ?_;obtain rfl := Option.some.inj h;refine At_body rfl rfl ?_;exact ⟨hL45.ext, rfl⟩
    ·replace h := Go.L.ite_p (not_dec_f hg56) h;refine S_guarded rfl rfl hg56 ?_;refine S_v (r_field rfl underlying23 rfl zr3 (by decide)) rfl ?_;refine S_guarded rfl rfl hg56 ?_;refine S_v (r_loadB1 4 rfl underlying3 rfl hL45 rfl rfl) rfl ?_;refine S_guarded rfl rfl hg56 ?_;refine S_v (RunsAt_pu rfl) rfl ?_;refine S_v (r_pickF rfl hg56 rfl) rfl ?_;refine S_pu 1 rfl ?_;refine S_split (s := 80) rfl (fun hg59 => ?_) (fun hg59 => ?_)
     ·replace h := Go.L.ite_n (not_dec_t hg59) h
      iterate 3 refine S_unwanted rfl rfl hg59 rfl ?_
      refine S_v (r_pickT rfl hg59 rfl) rfl ?_;refine S_pu 1 rfl ?_
      iterate 3 refine S_unwanted rfl rfl rfl rfl ?_
      refine S_v (r_pickT rfl rfl rfl) rfl ?_;refine S_pu 1 rfl ?_
      iterate 3 refine S_unwanted rfl rfl rfl rfl ?_
      refine S_v (r_pickT rfl rfl rfl) rfl ?_;refine S_seqnil ?_;refine W_true rfl ?_;refine W_pz 1 rfl ?_;refine W_ret ?_;refine At_seq_ret ?_;obtain rfl := Option.some.inj h;refine At_body rfl rfl ?_;exact ⟨hL45.ext, rfl⟩
     ·replace h := Go.L.ite_p (not_dec_f hg59) h;refine S_guarded rfl rfl hg59 ?_;refine S_v (r_field rfl underlying23 rfl zr3 (by decide)) rfl ?_;refine S_guarded rfl rfl hg59 ?_;refine S_v (r_loadB1 3 rfl underlying3 rfl hL45 rfl rfl) rfl ?_;refine S_guarded rfl rfl hg59 ?_;refine S_v (RunsAt_pu rfl) rfl ?_;refine S_v (r_pickF rfl hg59 rfl) rfl ?_;refine S_pu 1 rfl ?_;refine S_split (s := 85) rfl (fun hg62 => ?_) (fun hg62 => ?_)
      ·replace h := Go.L.ite_n (not_dec_t hg62) h
       iterate 3 refine S_unwanted rfl rfl hg62 rfl ?_
       refine S_v (r_pickT rfl hg62 rfl) rfl ?_;refine S_pu 1 rfl ?_
       iterate 3 refine S_unwanted rfl rfl rfl rfl ?_
       refine S_v (r_pickT rfl rfl rfl) rfl ?_;refine S_seqnil ?_;refine W_true rfl ?_;refine W_pz 1 rfl ?_;refine W_ret ?_;refine At_seq_ret ?_;obtain rfl := Option.some.inj h;refine At_body rfl rfl ?_;exact ⟨hL45.ext, rfl⟩
      ·replace h := Go.L.ite_p (not_dec_f hg62) h;refine S_guarded rfl rfl hg62 ?_;refine S_v (r_field rfl underlying23 rfl zr3 (by decide)) rfl ?_;refine S_guarded rfl rfl hg62 ?_;refine S_v (r_loadB1 2 rfl underlying3 rfl hL45 rfl rfl) rfl ?_;refine S_guarded rfl rfl hg62 ?_;refine S_v (RunsAt_pu rfl) rfl ?_;refine S_v (r_pickF rfl hg62 rfl) rfl ?_;refine S_pu 1 rfl ?_;refine S_split (s := 90) rfl (fun hg65 => ?_) (fun hg65 => ?_)
       ·replace h := Go.L.ite_n (not_dec_t hg65) h
        iterate 3 refine S_unwanted rfl rfl hg65 rfl ?_
        refine S_v (r_pickT rfl hg65 rfl) rfl ?_;refine S_seqnil ?_;refine W_true rfl ?_;refine W_pz 1 rfl ?_;refine W_ret ?_;refine At_seq_ret ?_;obtain rfl := Option.some.inj h;refine At_body rfl rfl ?_;exact ⟨hL45.ext, rfl⟩
       ·replace h := Go.L.ite_p (not_dec_f hg65) h;refine S_guarded rfl rfl hg65 ?_;refine S_v (r_field rfl underlying23 rfl zr3 (by decide)) rfl ?_;refine S_guarded rfl rfl hg65 ?_;refine S_v (r_loadB1 0 rfl underlying3 rfl hL45 rfl rfl) rfl ?_;refine S_guarded rfl rfl hg65 ?_;refine S_v (RunsAt_pu rfl) rfl ?_;refine S_v (r_pickF rfl hg65 rfl) rfl ?_;refine S_seqnil ?_;refine W_ifn rfl (fun hc68 => ?_) (fun hc68 => ?_)
        ·replace h := Go.L.ite_n hc68 h;refine W_pz 1 rfl ?_;refine W_ret ?_;refine At_seq_ret ?_;obtain rfl := Option.some.inj h;refine At_body rfl rfl ?_;exact ⟨hL45.ext, rfl⟩
        ·replace h := Go.L.ite_p hc68 h;refine W_skip ?_;refine At_seq ?_;refine W_p 2 rfl ?_;refine S_pickT 2 1 rfl rfl rfl rfl rfl rfl rfl ?_;refine S_pu 1 rfl ?_;refine S_split (s := 100) rfl (fun hg71 => ?_) (fun hg71 => ?_)
         ·replace h := Go.L.ite_t hg71 h;refine S_guarded rfl rfl hg71 ?_;refine S_v (RunsAt_pu rfl) rfl ?_;refine S_guarded rfl rfl hg71 ?_;refine S_litE (r := .st) (l := [([] : List UInt8), ([97] : List UInt8)]) rfl (fun _ => bsl30_2 _ rfl _ rfl _) rfl (show 2 ≤ 9223372036854775807 by decide) hH hL45 (.c1 rfl (.c1 rfl .nil)) ?_;intro v73 w73 hx73 hL73 hle73 hv73;replace hG46 := hG46.trans (gz_mono hH hle73);refine S_guarded rfl rfl hg71 ?_;obtain ⟨x74, hb74, h⟩ := Go.L.bind_some h;refine S_callL rfl rfl hL73 (ref4_Texts_ok _ _ (gz_le hH hL73) ((hv12_0.mono hG30).mono hG46) hv73 hb74) ?_;rintro _ w75 rfl hx75 hL75 hle75;replace hv73 := hv73.mono (gz_mono hH hle75);replace hG46 := hG46.trans (gz_mono hH hle75);refine S_v (r_pickT rfl hg71 rfl) rfl ?_;refine S_pu 1 rfl ?_;refine S_split (s := 105) rfl (fun hg76 => ?_) (fun hg76 => ?_)
          ·replace h := Go.L.ite_t hg76 h;refine S_guarded rfl rfl hg76 ?_;refine S_v (RunsAt_pu rfl) rfl ?_;refine S_guarded rfl rfl hg76 ?_;refine S_litE (r := (.int .i64)) (l := [(1 : Int)]) rfl (fun _ => bsl52_1 _ _) rfl (show 1 ≤ 9223372036854775807 by decide) hH hL75 (.c1 rfl .nil) ?_;intro v78 w78 hx78 hL78 hle78 hv78;replace hv73 := hv73.mono (gz_mono hH hle78);replace hG46 := hG46.trans (gz_mono hH hle78);refine S_guarded rfl rfl hg76 ?_;obtain ⟨x79, hb79, h⟩ := Go.L.bind_some h;refine S_callL rfl rfl hL78 (ref3_Ints_ok _ _ (gz_le hH hL78) ((hv27_0.mono hG30).mono hG46) hv78 hb79) ?_;rintro _ w80 rfl hx80 hL80 hle80;replace hv73 := hv73.mono (gz_mono hH hle80);replace hv78 := hv78.mono (gz_mono hH hle80);replace hG46 := hG46.trans (gz_mono hH hle80);refine S_v (r_pickT rfl hg76 rfl) rfl ?_;refine S_pu 1 rfl ?_;refine S_split (s := 110) rfl (fun hg81 => ?_) (fun hg81 => ?_)
           ·replace h := Go.L.ite_t hg81 h;refine S_guarded rfl rfl hg81 ?_;refine S_v (RunsAt_pu rfl) rfl ?_;refine S_guarded rfl rfl hg81 ?_;refine S_litE (r := (.int .i64)) (l := [(0 : Int), (1 : Int)]) rfl (fun _ => bsl52_2 _ _ _) rfl (show 2 ≤ 9223372036854775807 by decide) hH hL80 (.c1 rfl (.c1 rfl .nil)) ?_;intro v83 w83 hx83 hL83 hle83 hv83;replace hv73 := hv73.mono (gz_mono hH hle83);replace hv78 := hv78.mono (gz_mono hH hle83);replace hG46 := hG46.trans (gz_mono hH hle83);refine S_guarded rfl rfl hg81 ?_;obtain ⟨x84, hb84, h⟩ := Go.L.bind_some h;refine S_callL rfl rfl hL83 (ref3_Ints_ok _ _ (gz_le hH hL83) (hv32_0.mono hG46) hv83 hb84) ?_;rintro _ w85 rfl hx85 hL85 hle85;replace hv73 := hv73.mono (gz_mono hH hle85);replace hv78 := hv78.mono (gz_mono hH hle85);replace hv83 := hv83.mono (gz_mono hH hle85);replace hG46 := hG46.trans (gz_mono hH hle85);refine S_v (r_pickT rfl hg81 rfl) rfl ?_;refine S_pu 1 rfl ?_;refine S_split (s := 115) rfl (fun hg86 => ?_) (fun hg86 => ?_)
            ·replace h := Go.L.ite_t hg86 h;refine S_guarded rfl rfl hg86 ?_;refine S_v (RunsAt_pu rfl) rfl ?_;refine S_guarded rfl rfl hg86 ?_;refine S_v (r_len rfl underlying52 (hv36_0.mono hG46)) rfl ?_;refine S_guarded rfl rfl hg86 ?_;refine S_v (RunsAt_pu rfl) rfl ?_;refine S_v (r_pickT rfl hg86 rfl) rfl ?_;refine S_pu 1 rfl ?_;refine S_split (s := 120) rfl (fun hg88 => ?_) (fun hg88 => ?_)
             ·replace h := Go.L.ite_p (of_decide_eq_true hg88) h;refine S_guarded rfl rfl hg88 ?_;refine S_v (r_loadBN 1 rfl underlying47 rfl zr47 hL85 rfl) rfl ?_;refine S_guarded rfl rfl hg88 ?_;obtain ⟨x90, hb90, h⟩ := Go.L.bind_some h;refine S_callL rfl rfl hL85 (shapes_Index_Items_ok (a0 := (x40.1.1, x40.1.2)) _ _ (gz_le hH hL85) (hv41_0.mono hG46) hb90) ?_;rintro _ w91 rfl hx91 hL91 hle91;replace hv73 := hv73.mono (gz_mono hH hle91);replace hv78 := hv78.mono (gz_mono hH hle91);replace hv83 := hv83.mono (gz_mono hH hle91);replace hG46 := hG46.trans (gz_mono hH hle91);refine S_guarded rfl rfl hg88 ?_;refine S_v (RunsAt_pu rfl) rfl ?_;refine S_v (r_pickT rfl hg88 rfl) rfl ?_;refine S_pu 1 rfl ?_;refine S_split (s := 125) rfl (fun hg92 => ?_) (fun hg92 => ?_)
              ·replace h := Go.L.ite_p (of_decide_eq_true hg92) h;refine S_guarded rfl rfl hg92 ?_;obtain ⟨x94, hb94, h⟩ := Go.L.bind_some h;refine S_callL rfl rfl hL91 (shapes_Check_ok _ _ (gz_le hH hL91) hb94) ?_;rintro _ w95 rfl hx95 hL95 hle95;replace hv73 := hv73.mono (gz_mono hH hle95);replace hv78 := hv78.mono (gz_mono hH hle95);replace hv83 := hv83.mono (gz_mono hH hle95);replace hG46 := hG46.trans (gz_mono hH hle95);refine S_guarded rfl rfl hg92 ?_;obtain ⟨x96, hb96, h⟩ := Go.L.bind_some h;refine S_callL rfl rfl hL95 (ref3_At_ok _ _ (gz_le hH hL95) hb96) ?_;rintro _ w97 rfl hx97 hL97 hle97;replace hv73 := hv73.mono (gz_mono hH hle97);replace hv78 := hv78.mono (gz_mono hH hle97);replace hv83 := hv83.mono (gz_mono hH hle97);replace hG46 := hG46.trans (gz_mono hH hle97);refine S_guarded rfl rfl hg92 ?_;refine S_v (r_eqA rfl rfl eqg23 (eq23 _ _ _ _ )) rfl ?_;refine S_v (r_pickT rfl hg92 rfl) rfl ?_;refine S_pz 1 rfl ?_;refine W_ret ?_;obtain rfl := Option.some.inj h;refine At_body rfl rfl ?_;exact ⟨hL97.ext, rfl⟩
              ·replace h := Go.L.ite_n (of_decide_eq_false hg92) h
               iterate 3 refine S_unwanted rfl rfl hg92 rfl ?_
               refine S_v (r_pickF rfl hg92 rfl) rfl ?_;refine S_pz 1 rfl ?_;refine W_ret ?_;obtain rfl := Option.some.inj h;refine At_body rfl rfl ?_;exact ⟨hL91.ext, rfl⟩
             ·replace h := Go.L.ite_n (of_decide_eq_false hg88) h
              iterate 3 refine S_unwanted rfl rfl hg88 rfl ?_
              refine S_v (r_pickF rfl hg88 rfl) rfl ?_;refine S_pu 1 rfl ?_
              iterate 3 refine S_unwanted rfl rfl rfl rfl ?_
              refine S_v (r_pickF rfl rfl rfl) rfl ?_;refine S_pz 1 rfl ?_;refine W_ret ?_;obtain rfl := Option.some.inj h;refine At_body rfl rfl ?_;exact ⟨hL85.ext, rfl⟩
            ·replace h := Go.L.ite_f hg86 h
             iterate 3 refine S_unwanted rfl rfl hg86 rfl ?_
             refine S_v (r_pickF rfl hg86 rfl) rfl ?_;refine S_pu 1 rfl ?_
             iterate 3 refine S_unwanted rfl rfl rfl rfl ?_
             refine S_v (r_pickF rfl rfl rfl) rfl ?_;refine S_pu 1 rfl ?_
             iterate 3 refine S_unwanted rfl rfl rfl rfl ?_
             refine S_v (r_pickF rfl rfl rfl) rfl ?_;refine S_pz 1 rfl ?_;refine W_ret ?_;obtain rfl := Option.some.inj h;refine At_body rfl rfl ?_;exact ⟨hL85.ext, rfl⟩
           ·replace h := Go.L.ite_f hg81 h
            iterate 3 refine S_unwanted rfl rfl hg81 rfl ?_
            refine S_v (r_pickF rfl hg81 rfl) rfl ?_;refine S_pu 1 rfl ?_
            iterate 3 refine S_unwanted rfl rfl rfl rfl ?_
            refine S_v (r_pickF rfl rfl rfl) rfl ?_;refine S_pu 1 rfl ?_
            iterate 3 refine S_unwanted rfl rfl rfl rfl ?_
            refine S_v (r_pickF rfl rfl rfl) rfl ?_;refine S_pu 1 rfl ?_
            iterate 3 refine S_unwanted rfl rfl rfl rfl ?_
            refine S_v (r_pickF rfl rfl rfl) rfl ?_;refine S_pz 1 rfl ?_;refine W_ret ?_;obtain rfl := Option.some.inj h;refine At_body rfl rfl ?_;exact ⟨hL80.ext, rfl⟩
          ·replace h := Go.L.ite_f hg76 h
           iterate 3 refine S_unwanted rfl rfl hg76 rfl ?_
           refine S_v (r_pickF rfl hg76 rfl) rfl ?_;refine S_pu 1 rfl ?_
           iterate 3 refine S_unwanted rfl rfl rfl rfl ?_
           refine S_v (r_pickF rfl rfl rfl) rfl ?_;refine S_pu 1 rfl ?_
           iterate 3 refine S_unwanted rfl rfl rfl rfl ?_
           refine S_v (r_pickF rfl rfl rfl) rfl ?_;refine S_pu 1 rfl ?_
           iterate 3 refine S_unwanted rfl rfl rfl rfl ?_
           refine S_v (r_pickF rfl rfl rfl) rfl ?_;refine S_pu 1 rfl ?_
           iterate 3 refine S_unwanted rfl rfl rfl rfl ?_
           refine S_v (r_pickF rfl rfl rfl) rfl ?_;refine S_pz 1 rfl ?_;refine W_ret ?_;obtain rfl := Option.some.inj h;refine At_body rfl rfl ?_;exact ⟨hL75.ext, rfl⟩
         ·replace h := Go.L.ite_f hg71 h
          iterate 3 refine S_unwanted rfl rfl hg71 rfl ?_
          refine S_v (r_pickF rfl hg71 rfl) rfl ?_;refine S_pu 1 rfl ?_
          iterate 3 refine S_unwanted rfl rfl rfl rfl ?_
          refine S_v (r_pickF rfl rfl rfl) rfl ?_;refine S_pu 1 rfl ?_
          iterate 3 refine S_unwanted rfl rfl rfl rfl ?_
          refine S_v (r_pickF rfl rfl rfl) rfl ?_;refine S_pu 1 rfl ?_
          iterate 3 refine S_unwanted rfl rfl rfl rfl ?_
          refine S_v (r_pickF rfl rfl rfl) rfl ?_;refine S_pu 1 rfl ?_
          iterate 3 refine S_unwanted rfl rfl rfl rfl ?_
          refine S_v (r_pickF rfl rfl rfl) rfl ?_;refine S_pu 1 rfl ?_
          iterate 3 refine S_unwanted rfl rfl rfl rfl ?_
          refine S_v (r_pickF rfl rfl rfl) rfl ?_;refine S_pz 1 rfl ?_;refine W_ret ?_;obtain rfl := Option.some.inj h;refine At_body rfl rfl ?_;exact ⟨hL45.ext, rfl⟩
end Go.Proofs.YtmfiaecglndldaaGreatDoor
end
section
namespace Go.Proofs.YtmfiaecglndldaaGreatDoor
open Go Go.E Go.RowKit Go.L
noncomputable instance (a b c d) : Mi (genSplitL a b c d) := ⟨_, apR _⟩
noncomputable instance (a b) : Mi (idxbL a b) := ⟨_, apR _⟩
noncomputable instance (a b) : Mi (joinL a b) := ⟨_, apR _⟩
noncomputable instance (a) : Mi (nameCF a) := ⟨_, apR _⟩
noncomputable instance (a0 : Int) (a1 : Int) : Mi (shapes_fault a0 a1) := by delta shapes_fault; infer_instance
noncomputable instance (a0 : List UInt8) (a1 : List UInt8) : Mi (strings_Split a0 a1) := by delta strings_Split; infer_instance
noncomputable instance (a0 : List UInt8) : Mi (shapes_steps a0) := by delta shapes_steps; infer_instance
noncomputable instance (a0 : List UInt8) : Mi (value_Name a0) := by delta value_Name; infer_instance
noncomputable instance  : Mi (shapes_Check_k1) := by delta shapes_Check_k1; infer_instance
noncomputable instance (x85 : (List (List UInt8))) (s) : Mi (shapes_Check_bl2 x85 s) := by obtain ⟨s3_122, s13_123⟩ := s; delta shapes_Check_bl2; dsimp only; repeat' first | (show Mi _; infer_instance) | refine @iB _ _ _ _ ?_ (fun _ => ?_) | refine @iC _ _ _ _ ?_ | refine @iI _ _ _ _ _ ?_ ?_
noncomputable instance (x85 : (List (List UInt8))) (s : Int × Int) : Mi (shapes_Check_l2 x85 s) := by delta shapes_Check_l2; infer_instance
noncomputable instance (a0 : List UInt8) : Mi (shapes_Check a0) := by delta shapes_Check; infer_instance
noncomputable instance (a0 : List UInt8) : Mi (shapes_isPath_1 a0) := by delta shapes_isPath_1; infer_instance
noncomputable instance  : Mi (idxf_isPath_1_k1) := by delta idxf_isPath_1_k1; infer_instance
noncomputable instance (a0 : List (List UInt8)) (s) : Mi (idxf_isPath_1_bl2 a0 s) := by delta idxf_isPath_1_bl2; infer_instance
noncomputable instance (a0 : List (List UInt8)) (s : Int) : Mi (idxf_isPath_1_l2 a0 s) := by delta idxf_isPath_1_l2; infer_instance
noncomputable instance (a0 : List (List UInt8)) : Mi (idxf_isPath_1 a0) := by delta idxf_isPath_1; infer_instance
noncomputable instance (a0 : List (List UInt8)) : Mi (conf_isPath_1 a0) := by delta conf_isPath_1; infer_instance
noncomputable instance (a0 : List UInt8) : Mi (shapes_isPath a0) := by delta shapes_isPath; infer_instance
noncomputable instance (a0 : List UInt8) (a1 : List UInt8) : Mi (shapes_matches_1 a0 a1) := by delta shapes_matches_1; infer_instance
noncomputable instance (l233 : List (List UInt8)) (s5_234 : Int) : Mi (slices_CompactFunc_string_string_k4 l233 s5_234) := by delta slices_CompactFunc_string_string_k4; infer_instance
noncomputable instance (s5_128 : Int) (s) : Mi (slices_CompactFunc_string_string_bl5 s5_128 s) := by obtain ⟨l263, s5_264, s7_265⟩ := s; delta slices_CompactFunc_string_string_bl5; dsimp only; infer_instance
noncomputable instance (s5_128 : Int) (s : (List (List UInt8)) × Int × Int) : Mi (slices_CompactFunc_string_string_l5 s5_128 s) := by delta slices_CompactFunc_string_string_l5; infer_instance
noncomputable instance (l127 : List (List UInt8)) (s5_186 : Int) : Mi (slices_CompactFunc_string_string_k3 l127 s5_186) := by delta slices_CompactFunc_string_string_k3; infer_instance
noncomputable instance (l65 : List (List UInt8)) : Mi (slices_CompactFunc_string_string_k1 l65) := by delta slices_CompactFunc_string_string_k1; infer_instance
noncomputable instance  (s) : Mi (slices_CompactFunc_string_string_bl2 s) := by obtain ⟨l127, s5_128⟩ := s; delta slices_CompactFunc_string_string_bl2; dsimp only; infer_instance
noncomputable instance (s : (List (List UInt8)) × Int) : Mi (slices_CompactFunc_string_string_l2 s) := by delta slices_CompactFunc_string_string_l2; infer_instance
noncomputable instance (a0 : List (List UInt8)) : Mi (slices_CompactFunc_string_string a0) := by delta slices_CompactFunc_string_string; infer_instance
noncomputable instance  : Mi (shapes_match_body_k2) := by delta shapes_match_body_k2; infer_instance
noncomputable instance (a0 : List (List UInt8)) (a1 : List (List UInt8)) (self : (List (List UInt8)) → (List (List UInt8)) → Option (Bool)) [∀ x0 x1, Mi (self x0 x1)] (s) : Mi (shapes_match_body_bl3 a0 a1 self s) := by delta shapes_match_body_bl3; infer_instance
noncomputable instance (a0 : List (List UInt8)) (a1 : List (List UInt8)) (self : (List (List UInt8)) → (List (List UInt8)) → Option (Bool)) [∀ x0 x1, Mi (self x0 x1)] (s : Int) : Mi (shapes_match_body_l3 a0 a1 self s) := by delta shapes_match_body_l3; infer_instance
noncomputable instance (a0 : List (List UInt8)) (a1 : List (List UInt8)) (self : (List (List UInt8)) → (List (List UInt8)) → Option (Bool)) [∀ x0 x1, Mi (self x0 x1)] : Mi (shapes_match_body_k1 a0 a1 self) := by delta shapes_match_body_k1; infer_instance
noncomputable instance (self : (List (List UInt8)) → (List (List UInt8)) → Option (Bool)) [∀ x0 x1, Mi (self x0 x1)] (a0 : List (List UInt8)) (a1 : List (List UInt8)) : Mi (shapes_match_body self a0 a1) := by delta shapes_match_body; infer_instance
noncomputable instance shapes_match_nMi  : ∀ (n : Nat) (y0) (y1), Mi (shapes_match_n n y0 y1)
 | 0, _, _ => ⟨none, fun _ h => by cases h⟩
 | n + 1, y0, y1 => by
  haveI := shapes_match_nMi n
  show Mi (shapes_match_body (shapes_match_n n) y0 y1)
  infer_instance
noncomputable instance  (y0) (y1) : Mi (shapes_match y0 y1) := by delta shapes_match; infer_instance
noncomputable instance (a0 : List UInt8) (a1 : List UInt8) : Mi (shapes_matches a0 a1) := by delta shapes_matches; infer_instance
noncomputable instance (a0 : List UInt8) (a1 : List UInt8) : Mi (shapes_Match a0 a1) := by delta shapes_Match; infer_instance
noncomputable instance (a0 : Int) : Mi (law4_number a0) := by delta law4_number; infer_instance
noncomputable instance (a0 : Int) : Mi (law4_record a0) := by delta law4_record; infer_instance
noncomputable instance (a0 : Int) (a1 : Int) : Mi (value_fault a0 a1) := by delta value_fault; infer_instance
noncomputable instance  : Mi (slices_Index_int_int_k1) := by delta slices_Index_int_int_k1; infer_instance
noncomputable instance (a0 : List Int) (a1 : Int) (s) : Mi (slices_Index_int_int_bl2 a0 a1 s) := by delta slices_Index_int_int_bl2; infer_instance
noncomputable instance (a0 : List Int) (a1 : Int) (s : Int) : Mi (slices_Index_int_int_l2 a0 a1 s) := by delta slices_Index_int_int_l2; infer_instance
noncomputable instance (a0 : List Int) (a1 : Int) : Mi (slices_Index_int_int a0 a1) := by delta slices_Index_int_int; infer_instance
noncomputable instance (a0 : List Int) (a1 : Int) : Mi (slices_Contains_int_int a0 a1) := by delta slices_Contains_int_int; infer_instance
noncomputable instance (a0 : List Int) (a1 : Go.L.Pv) : Mi (value_checkNode_1 a0 a1) := by delta value_checkNode_1; infer_instance
noncomputable instance (a0 : List UInt8) : Mi (value_checkNode_2 a0) := by delta value_checkNode_2; infer_instance
noncomputable instance  : Mi (idxf_checkNode_2_k1) := by delta idxf_checkNode_2_k1; infer_instance
noncomputable instance (a0 : List (List UInt8)) (s) : Mi (idxf_checkNode_2_bl2 a0 s) := by delta idxf_checkNode_2_bl2; infer_instance
noncomputable instance (a0 : List (List UInt8)) (s : Int) : Mi (idxf_checkNode_2_l2 a0 s) := by delta idxf_checkNode_2_l2; infer_instance
noncomputable instance (a0 : List (List UInt8)) : Mi (idxf_checkNode_2 a0) := by delta idxf_checkNode_2; infer_instance
noncomputable instance (a0 : List (List UInt8)) : Mi (conf_checkNode_2 a0) := by delta conf_checkNode_2; infer_instance
noncomputable instance  : Mi (slices_Index_string_string_k1) := by delta slices_Index_string_string_k1; infer_instance
noncomputable instance (a0 : List (List UInt8)) (a1 : List UInt8) (s) : Mi (slices_Index_string_string_bl2 a0 a1 s) := by delta slices_Index_string_string_bl2; infer_instance
noncomputable instance (a0 : List (List UInt8)) (a1 : List UInt8) (s : Int) : Mi (slices_Index_string_string_l2 a0 a1 s) := by delta slices_Index_string_string_l2; infer_instance
noncomputable instance (a0 : List (List UInt8)) (a1 : List UInt8) : Mi (slices_Index_string_string a0 a1) := by delta slices_Index_string_string; infer_instance
noncomputable instance (a0 : List (List UInt8)) (a1 : List UInt8) : Mi (slices_Contains_string_string a0 a1) := by delta slices_Contains_string_string; infer_instance
noncomputable instance  : Mi (value_checkNode_k5) := by delta value_checkNode_k5; infer_instance
noncomputable instance (c87 : List (List UInt8)) (s) : Mi (value_checkNode_bl6 c87 s) := by delta value_checkNode_bl6; infer_instance
noncomputable instance (c87 : List (List UInt8)) (s : Int) : Mi (value_checkNode_l6 c87 s) := by delta value_checkNode_l6; infer_instance
noncomputable instance (_c84 : Int) (_c85 : Int) (_c86 : List UInt8) (c87 : List (List UInt8)) (c88 : List Go.L.Pv) (s12_89 : Bool) : Mi (value_checkNode_k1 _c84 _c85 _c86 c87 c88 s12_89) := by delta value_checkNode_k1; infer_instance
noncomputable instance (c154 : Int) (c155 : Int) (c156 : List UInt8) (c157 : List (List UInt8)) (c158 : List Go.L.Pv) (s12_159 : Bool) : Mi (value_checkNode_k4 c154 c155 c156 c157 c158 s12_159) := by delta value_checkNode_k4; infer_instance
noncomputable instance (c127 : Int) (c128 : Int) (c129 : List UInt8) (c130 : List (List UInt8)) (c131 : List Go.L.Pv) (s12_132 : Bool) : Mi (value_checkNode_k3 c127 c128 c129 c130 c131 s12_132) := by delta value_checkNode_k3; infer_instance
noncomputable instance (c100 : Int) (c101 : Int) (c102 : List UInt8) (c103 : List (List UInt8)) (c104 : List Go.L.Pv) (s12_105 : Bool) : Mi (value_checkNode_k2 c100 c101 c102 c103 c104 s12_105) := by delta value_checkNode_k2; infer_instance
noncomputable instance (a0 : Go.L.Pv) : Mi (value_checkNode a0) := by delta value_checkNode; infer_instance
noncomputable instance (s9_65 : Int) : Mi (value_check_body_k1 s9_65) := by delta value_check_body_k1; infer_instance
noncomputable instance (a0 : Go.L.Pv) (a2 : Int) (self : Go.L.Pv → Int → Int → Option (Int × (Int × Int))) [∀ x0 x1 x2, Mi (self x0 x1 x2)] (s) : Mi (value_check_body_bl2 a0 a2 self s) := by obtain ⟨s9_90, s33_91⟩ := s; delta value_check_body_bl2; dsimp only; infer_instance
noncomputable instance (a0 : Go.L.Pv) (a2 : Int) (self : Go.L.Pv → Int → Int → Option (Int × (Int × Int))) [∀ x0 x1 x2, Mi (self x0 x1 x2)] (s : Int × Int) : Mi (value_check_body_l2 a0 a2 self s) := by delta value_check_body_l2; infer_instance
noncomputable instance (self : Go.L.Pv → Int → Int → Option (Int × (Int × Int))) [∀ x0 x1 x2, Mi (self x0 x1 x2)] (a0 : Go.L.Pv) (a1 : Int) (a2 : Int) : Mi (value_check_body self a0 a1 a2) := by delta value_check_body; infer_instance
noncomputable instance value_check_nMi  : ∀ (n : Nat) (y0) (y1) (y2), Mi (value_check_n n y0 y1 y2)
 | 0, _, _, _ => ⟨none, fun _ h => by cases h⟩
 | n + 1, y0, y1, y2 => by
  haveI := value_check_nMi n
  show Mi (value_check_body (value_check_n n) y0 y1 y2)
  infer_instance
noncomputable instance  (y0) (y1) (y2) : Mi (value_check y0 y1 y2) := by delta value_check; infer_instance
noncomputable instance (l12 : List UInt8) (s3_13 : Int) : Mi (wire_Number_k1 l12 s3_13) := by delta wire_Number_k1; infer_instance
noncomputable instance  (s) : Mi (wire_Number_bl2 s) := by obtain ⟨l23, s3_24⟩ := s; delta wire_Number_bl2; dsimp only; infer_instance
noncomputable instance (s : (List UInt8) × Int) : Mi (wire_Number_l2 s) := by delta wire_Number_l2; infer_instance
noncomputable instance (a0 : Int) : Mi (wire_Number a0) := by delta wire_Number; infer_instance
noncomputable instance (a0 : List UInt8) : Mi (wire_Chunk a0) := by delta wire_Chunk; infer_instance
noncomputable instance (a0 : Go.L.Pv) (s34_107 : Int) (self : Go.L.Pv → Option ((List UInt8))) [∀ x0, Mi (self x0)] (l128 : List UInt8) : Mi (value_encode_body_k3 a0 s34_107 self l128) := by delta value_encode_body_k3; infer_instance
noncomputable instance (l77 : List UInt8) : Mi (value_encode_body_k1 l77) := by delta value_encode_body_k1; infer_instance
noncomputable instance (a0 : Go.L.Pv) (self : Go.L.Pv → Option ((List UInt8))) [∀ x0, Mi (self x0)] (s) : Mi (value_encode_body_bl2 a0 self s) := by obtain ⟨l106, s34_107⟩ := s; delta value_encode_body_bl2; dsimp only; infer_instance
noncomputable instance (a0 : Go.L.Pv) (self : Go.L.Pv → Option ((List UInt8))) [∀ x0, Mi (self x0)] (s : (List UInt8) × Int) : Mi (value_encode_body_l2 a0 self s) := by delta value_encode_body_l2; infer_instance
noncomputable instance (self : Go.L.Pv → Option ((List UInt8))) [∀ x0, Mi (self x0)] (a0 : Go.L.Pv) : Mi (value_encode_body self a0) := by delta value_encode_body; infer_instance
noncomputable instance value_encode_nMi  : ∀ (n : Nat) (y0), Mi (value_encode_n n y0)
 | 0, _ => ⟨none, fun _ h => by cases h⟩
 | n + 1, y0 => by
  haveI := value_encode_nMi n
  show Mi (value_encode_body (value_encode_n n) y0)
  infer_instance
noncomputable instance  (y0) : Mi (value_encode y0) := by delta value_encode; infer_instance
noncomputable instance (a0 : Go.L.Pv) : Mi (value_Encode a0) := by delta value_Encode; infer_instance
noncomputable instance (a0 : Go.L.Pv) : Mi (value_Validate a0) := by delta value_Validate; infer_instance
noncomputable instance (a0 : List (List UInt8)) : Mi (slices_Clone_string_string a0) := by delta slices_Clone_string_string; infer_instance
noncomputable instance {σ : Type} (a0 : Go.L.Pv) (a1 : List (List UInt8)) (s24_45 : Int) (self : Go.L.Pv → (List (List UInt8)) → σ → Option σ) [∀ x0 x1 x2, Mi (self x0 x1 x2)] (s8_62 : List UInt8) (sJ63 : σ) : Mi (shapes_leaves_body_k2 a0 a1 s24_45 self s8_62 sJ63) := by delta shapes_leaves_body_k2; infer_instance
noncomputable instance {σ : Type} (a0 : Go.L.Pv) (a1 : List (List UInt8)) (self : Go.L.Pv → (List (List UInt8)) → σ → Option σ) [∀ x0 x1 x2, Mi (self x0 x1 x2)] (s) : Mi (shapes_leaves_body_bl1 a0 a1 self s) := by obtain ⟨s24_45, sJ46⟩ := s; delta shapes_leaves_body_bl1; dsimp only; infer_instance
noncomputable instance {σ : Type} (a0 : Go.L.Pv) (a1 : List (List UInt8)) (self : Go.L.Pv → (List (List UInt8)) → σ → Option σ) [∀ x0 x1 x2, Mi (self x0 x1 x2)] (s : Int × σ) : Mi (shapes_leaves_body_l1 a0 a1 self s) := by delta shapes_leaves_body_l1; infer_instance
noncomputable instance {σ : Type} (step : σ → ((List UInt8) × Int × Int × (List UInt8)) → Option σ) [∀ x0 x1, Mi (step x0 x1)] (self : Go.L.Pv → (List (List UInt8)) → σ → Option σ) [∀ x0 x1 x2, Mi (self x0 x1 x2)] (a0 : Go.L.Pv) (a1 : List (List UInt8)) (s : σ) : Mi (shapes_leaves_body step self a0 a1 s) := by delta shapes_leaves_body; infer_instance
noncomputable instance shapes_leaves_nMi {σ : Type} (step : σ → ((List UInt8) × Int × Int × (List UInt8)) → Option σ) [∀ x0 x1, Mi (step x0 x1)] : ∀ (n : Nat) (y0) (y1) (y2), Mi (shapes_leaves_n step n y0 y1 y2)
 | 0, _, _, _ => ⟨none, fun _ h => by cases h⟩
 | n + 1, y0, y1, y2 => by
  haveI := shapes_leaves_nMi step n
  show Mi (shapes_leaves_body step (shapes_leaves_n step n) y0 y1 y2)
  infer_instance
noncomputable instance {σ : Type} (step : σ → ((List UInt8) × Int × Int × (List UInt8)) → Option σ) [∀ x0 x1, Mi (step x0 x1)] (y0) (y1) (y2) : Mi (shapes_leaves step y0 y1 y2) := by delta shapes_leaves; infer_instance
noncomputable instance (a0 : (List UInt8) × Int × Int × (List UInt8)) (a1 : List (List UInt8)) : Mi (shapes_Paths_1 a0 a1) := by delta shapes_Paths_1; infer_instance
noncomputable instance (s : List (List UInt8)) (x : Lf) : Mi (pathStep s x) := by delta pathStep; infer_instance
noncomputable def shapes_Paths_is (a0 : Go.L.Pv) : Option ((List (List UInt8)) × (Int × Int)) := 
  Option.bind (value_Validate a0) (fun x3 => if x3.1 = (0 : Int) ∧ x3.2 = (0 : Int) then Option.bind (shapes_leaves pathStep a0 ([] : List (List UInt8)) ([] : List (List UInt8))) (fun x18 => Go.L.chk (x18.length < 4611686018427387904) (Go.L.chk ((isS x18).length ≤ 9223372036854775807) (some ((Lib.compact (isS x18)), ((0 : Int), (0 : Int)))))) else some ([], (x3.1, x3.2)))
theorem shapes_Paths_isE : @shapes_Paths_is = @shapes_Paths := by
  unfold shapes_Paths_is shapes_Paths;simp only [isS_eq, isI_eq]
noncomputable instance (a0 : Go.L.Pv) : Mi (shapes_Paths_is a0) := by delta shapes_Paths_is; infer_instance
noncomputable instance (a0 : Go.L.Pv) : Mi (shapes_Paths a0) := ⟨(inferInstance : Mi (shapes_Paths_is a0)).c, by rw [← shapes_Paths_isE]; exact (inferInstance : Mi (shapes_Paths_is a0)).h⟩
noncomputable instance (i : Int) (l : List (Lf × List Int)) (x : Lf) : Mi (buildStep i l x) := by delta buildStep; infer_instance
noncomputable instance (a0 : List Int) : Mi (slices_Clone_int_int a0) := by delta slices_Clone_int_int; infer_instance
noncomputable instance (l16 : List UInt8) : Mi (wslice_Number_k1 l16) := by delta wslice_Number_k1; infer_instance
noncomputable instance (a0 : List Int) (s) : Mi (wslice_Number_bl2 a0 s) := by obtain ⟨l30, s13_31⟩ := s; delta wslice_Number_bl2; dsimp only; infer_instance
noncomputable instance (a0 : List Int) (s : (List UInt8) × Int) : Mi (wslice_Number_l2 a0 s) := by delta wslice_Number_l2; infer_instance
noncomputable instance (a0 : List Int) : Mi (wslice_Number a0) := by delta wslice_Number; infer_instance
noncomputable instance (a1 : Int) : Mi (slices_Grow_byte_byte_k1 a1) := by delta slices_Grow_byte_byte_k1; infer_instance
noncomputable instance (_a0 : List UInt8) (a1 : Int) : Mi (slices_Grow_byte_byte _a0 a1) := by delta slices_Grow_byte_byte; infer_instance
noncomputable instance (l57 : List UInt8) : Mi (slices_Concat_byte_byte_k3 l57) := by delta slices_Concat_byte_byte_k3; infer_instance
noncomputable instance (a0 : List (List UInt8)) (s) : Mi (slices_Concat_byte_byte_bl4 a0 s) := by obtain ⟨l69, s27_70⟩ := s; delta slices_Concat_byte_byte_bl4; dsimp only; infer_instance
noncomputable instance (a0 : List (List UInt8)) (s : (List UInt8) × Int) : Mi (slices_Concat_byte_byte_l4 a0 s) := by delta slices_Concat_byte_byte_l4; infer_instance
noncomputable instance (a0 : List (List UInt8)) (s3_15 : Int) : Mi (slices_Concat_byte_byte_k1 a0 s3_15) := by delta slices_Concat_byte_byte_k1; infer_instance
noncomputable instance (a0 : List (List UInt8)) (s) : Mi (slices_Concat_byte_byte_bl2 a0 s) := by obtain ⟨s3_29, s11_30⟩ := s; delta slices_Concat_byte_byte_bl2; dsimp only; infer_instance
noncomputable instance (a0 : List (List UInt8)) (s : Int × Int) : Mi (slices_Concat_byte_byte_l2 a0 s) := by delta slices_Concat_byte_byte_l2; infer_instance
noncomputable instance (a0 : List (List UInt8)) : Mi (slices_Concat_byte_byte a0) := by delta slices_Concat_byte_byte; infer_instance
noncomputable instance (l117 : List UInt8) : Mi (shapes_form_k1 l117) := by delta shapes_form_k1; infer_instance
noncomputable instance (a0 : ((List UInt8) × Int × Int × (List UInt8)) × (List Int)) : Mi (shapes_form a0) := by delta shapes_form; infer_instance
noncomputable instance (l18 : List UInt8) : Mi (wslice_form_k1 l18) := by delta wslice_form_k1; infer_instance
noncomputable instance (a0 : List (((List UInt8) × Int × Int × (List UInt8)) × (List Int))) (s) : Mi (wslice_form_bl2 a0 s) := by obtain ⟨l34, s13_35⟩ := s; delta wslice_form_bl2; dsimp only; infer_instance
noncomputable instance (a0 : List (((List UInt8) × Int × Int × (List UInt8)) × (List Int))) (s : (List UInt8) × Int) : Mi (wslice_form_l2 a0 s) := by delta wslice_form_l2; infer_instance
noncomputable instance (a0 : List (((List UInt8) × Int × Int × (List UInt8)) × (List Int))) : Mi (wslice_form a0) := by delta wslice_form; infer_instance
noncomputable instance (a0 : Int × (List (((List UInt8) × Int × Int × (List UInt8)) × (List Int)))) : Mi (shapes_Index_Bytes a0) := by delta shapes_Index_Bytes; infer_instance
noncomputable instance (a0 : Int) (l71 : List (((List UInt8) × Int × Int × (List UInt8)) × (List Int))) : Mi (shapes_build_k1 a0 l71) := by delta shapes_build_k1; infer_instance
noncomputable def shapes_build_bl2_is (a0 : Int) (a1 : List (((List UInt8) × Int × Int × (List UInt8)) × (List Int))) (x74 : (List ((List UInt8) × Int × Int × (List UInt8)))) : (List (((List UInt8) × Int × Int × (List UInt8)) × (List Int))) × Int → Option (((List (((List UInt8) × Int × Int × (List UInt8)) × (List Int))) × Int) ⊕ ((Int × (List (((List UInt8) × Int × Int × (List UInt8)) × (List Int)))) × (Int × Int))) := fun ⟨l102, s15_103⟩ =>
  if s15_103 < (x74.length : Int) then Go.L.chk (0 ≤ s15_103 ∧ s15_103 < (x74.length : Int)) (Option.bind (slices_Clone_int_int (Go.L.mget [] ((x74.getD s15_103.toNat default).1, (x74.getD s15_103.toNat default).2.1, (x74.getD s15_103.toNat default).2.2.1, (x74.getD s15_103.toNat default).2.2.2) a1)) (fun x114 => Go.L.chk (x114.length < 4611686018427387904) (Go.L.chk ((isI x114).length ≤ 9223372036854775807) (Go.L.chk (Go.E.Cap 72 (l102.length + ([(((x74.getD s15_103.toNat default).1, (x74.getD s15_103.toNat default).2.1, (x74.getD s15_103.toNat default).2.2.1, (x74.getD s15_103.toNat default).2.2.2), (Lib.compact (isI x114)))]).length)) (Go.L.chk (Go.L.I64 (s15_103 + (1 : Int))) (some (Sum.inl ((l102 ++ [(((x74.getD s15_103.toNat default).1, (x74.getD s15_103.toNat default).2.1, (x74.getD s15_103.toNat default).2.2.1, (x74.getD s15_103.toNat default).2.2.2), (Lib.compact (isI x114)))]), (s15_103 + (1 : Int)))))))))) else Option.map Sum.inr ((shapes_build_k1 a0) l102)
theorem shapes_build_bl2_isE : @shapes_build_bl2_is = @shapes_build_bl2 := by
  unfold shapes_build_bl2_is shapes_build_bl2;simp only [isS_eq, isI_eq]
noncomputable instance (a0 : Int) (a1 : List (((List UInt8) × Int × Int × (List UInt8)) × (List Int))) (x74 : (List ((List UInt8) × Int × Int × (List UInt8)))) (s) : Mi (shapes_build_bl2_is a0 a1 x74 s) := by obtain ⟨l102, s15_103⟩ := s; delta shapes_build_bl2_is; dsimp only; infer_instance
noncomputable instance (a0 : Int) (a1 : List (((List UInt8) × Int × Int × (List UInt8)) × (List Int))) (x74 : (List ((List UInt8) × Int × Int × (List UInt8)))) (s) : Mi (shapes_build_bl2 a0 a1 x74 s) := ⟨(inferInstance : Mi (shapes_build_bl2_is a0 a1 x74 s)).c, by rw [← shapes_build_bl2_isE]; exact (inferInstance : Mi (shapes_build_bl2_is a0 a1 x74 s)).h⟩
noncomputable instance (a0 : Int) (a1 : List (((List UInt8) × Int × Int × (List UInt8)) × (List Int))) (x74 : (List ((List UInt8) × Int × Int × (List UInt8)))) (s : (List (((List UInt8) × Int × Int × (List UInt8)) × (List Int))) × Int) : Mi (shapes_build_l2 a0 a1 x74 s) := by delta shapes_build_l2; infer_instance
noncomputable instance (a0 : Int) (a1 : List (((List UInt8) × Int × Int × (List UInt8)) × (List Int))) : Mi (shapes_build a0 a1) := by delta shapes_build; infer_instance
noncomputable instance (a0 : List Go.L.Pv) (l68 : List (((List UInt8) × Int × Int × (List UInt8)) × (List Int))) : Mi (shapes_Build_k1 a0 l68) := by delta shapes_Build_k1; infer_instance
noncomputable instance (a0 : List Go.L.Pv) (s) : Mi (shapes_Build_bl2 a0 s) := by obtain ⟨l97, s16_98⟩ := s; delta shapes_Build_bl2; dsimp only; infer_instance
noncomputable instance (a0 : List Go.L.Pv) (s : (List (((List UInt8) × Int × Int × (List UInt8)) × (List Int))) × Int) : Mi (shapes_Build_l2 a0 s) := by delta shapes_Build_l2; infer_instance
noncomputable instance (a0 : List Go.L.Pv) : Mi (shapes_Build a0) := by delta shapes_Build; infer_instance
noncomputable instance (a0 : ((List UInt8) × Int × Int × (List UInt8)) × (List Int)) (a1 : Int) (a2 : Int) : Mi (shapes_Index_Number_1 a0 a1 a2) := by delta shapes_Index_Number_1; infer_instance
noncomputable def shapes_Index_collect_s2_k1_is (l58 : List Int) (c59 : Int) (c60 : Int) : Option ((List Int) × Int × Int) := 
  Go.L.chk (l58.length < 4611686018427387904) (Go.L.chk ((isI l58).length ≤ 9223372036854775807) (some ((Lib.compact (isI l58)), c59, c60)))
theorem shapes_Index_collect_s2_k1_isE : @shapes_Index_collect_s2_k1_is = @shapes_Index_collect_s2_k1 := by
  unfold shapes_Index_collect_s2_k1_is shapes_Index_collect_s2_k1;simp only [isS_eq, isI_eq]
noncomputable instance (l58 : List Int) (c59 : Int) (c60 : Int) : Mi (shapes_Index_collect_s2_k1_is l58 c59 c60) := by delta shapes_Index_collect_s2_k1_is; infer_instance
noncomputable instance (l58 : List Int) (c59 : Int) (c60 : Int) : Mi (shapes_Index_collect_s2_k1 l58 c59 c60) := ⟨(inferInstance : Mi (shapes_Index_collect_s2_k1_is l58 c59 c60)).c, by rw [← shapes_Index_collect_s2_k1_isE]; exact (inferInstance : Mi (shapes_Index_collect_s2_k1_is l58 c59 c60)).h⟩
noncomputable instance (a0 : Int × (List (((List UInt8) × Int × Int × (List UInt8)) × (List Int)))) (a1 : List UInt8) (s) : Mi (shapes_Index_collect_s2_bl2 a0 a1 s) := by obtain ⟨l88, c89, c90, s13_91⟩ := s; delta shapes_Index_collect_s2_bl2; dsimp only; infer_instance
noncomputable instance (a0 : Int × (List (((List UInt8) × Int × Int × (List UInt8)) × (List Int)))) (a1 : List UInt8) (s : (List Int) × Int × Int × Int) : Mi (shapes_Index_collect_s2_l2 a0 a1 s) := by delta shapes_Index_collect_s2_l2; infer_instance
noncomputable instance (a0 : Int × (List (((List UInt8) × Int × Int × (List UInt8)) × (List Int)))) (a1 : List UInt8) (a2_c0 : Int) (a2_c1 : Int) : Mi (shapes_Index_collect_s2 a0 a1 a2_c0 a2_c1) := by delta shapes_Index_collect_s2; infer_instance
noncomputable instance (a0 : Int × (List (((List UInt8) × Int × Int × (List UInt8)) × (List Int)))) (a1 : List UInt8) (a2 : Int) (a3 : Int) : Mi (shapes_Index_Number a0 a1 a2 a3) := by delta shapes_Index_Number; infer_instance
noncomputable instance (_a0 : ((List UInt8) × Int × Int × (List UInt8)) × (List Int)) : Mi (shapes_Index_Find_1 _a0) := by delta shapes_Index_Find_1; infer_instance
noncomputable def shapes_Index_collect_k1_is (l54 : List Int) : Option ((List Int)) := 
  Go.L.chk (l54.length < 4611686018427387904) (Go.L.chk ((isI l54).length ≤ 9223372036854775807) (some ((Lib.compact (isI l54)))))
theorem shapes_Index_collect_k1_isE : @shapes_Index_collect_k1_is = @shapes_Index_collect_k1 := by
  unfold shapes_Index_collect_k1_is shapes_Index_collect_k1;simp only [isS_eq, isI_eq]
noncomputable instance (l54 : List Int) : Mi (shapes_Index_collect_k1_is l54) := by delta shapes_Index_collect_k1_is; infer_instance
noncomputable instance (l54 : List Int) : Mi (shapes_Index_collect_k1 l54) := ⟨(inferInstance : Mi (shapes_Index_collect_k1_is l54)).c, by rw [← shapes_Index_collect_k1_isE]; exact (inferInstance : Mi (shapes_Index_collect_k1_is l54)).h⟩
noncomputable instance (a0 : Int × (List (((List UInt8) × Int × Int × (List UInt8)) × (List Int)))) (a1 : List UInt8) (s) : Mi (shapes_Index_collect_bl2 a0 a1 s) := by obtain ⟨l81, s13_82⟩ := s; delta shapes_Index_collect_bl2; dsimp only; infer_instance
noncomputable instance (a0 : Int × (List (((List UInt8) × Int × Int × (List UInt8)) × (List Int)))) (a1 : List UInt8) (s : (List Int) × Int) : Mi (shapes_Index_collect_l2 a0 a1 s) := by delta shapes_Index_collect_l2; infer_instance
noncomputable instance (a0 : Int × (List (((List UInt8) × Int × Int × (List UInt8)) × (List Int)))) (a1 : List UInt8) : Mi (shapes_Index_collect a0 a1) := by delta shapes_Index_collect; infer_instance
noncomputable instance (a0 : Int × (List (((List UInt8) × Int × Int × (List UInt8)) × (List Int)))) (a1 : List UInt8) : Mi (shapes_Index_Find a0 a1) := by delta shapes_Index_Find; infer_instance
noncomputable instance (a0 : ((List UInt8) × Int × Int × (List UInt8)) × (List Int)) (a1 : List UInt8) : Mi (shapes_Index_Text_1 a0 a1) := by delta shapes_Index_Text_1; infer_instance
noncomputable def shapes_Index_collect_s3_k1_is (l59 : List Int) (c60 : List UInt8) : Option ((List Int) × (List UInt8)) := 
  Go.L.chk (l59.length < 4611686018427387904) (Go.L.chk ((isI l59).length ≤ 9223372036854775807) (some ((Lib.compact (isI l59)), c60)))
theorem shapes_Index_collect_s3_k1_isE : @shapes_Index_collect_s3_k1_is = @shapes_Index_collect_s3_k1 := by
  unfold shapes_Index_collect_s3_k1_is shapes_Index_collect_s3_k1;simp only [isS_eq, isI_eq]
noncomputable instance (l59 : List Int) (c60 : List UInt8) : Mi (shapes_Index_collect_s3_k1_is l59 c60) := by delta shapes_Index_collect_s3_k1_is; infer_instance
noncomputable instance (l59 : List Int) (c60 : List UInt8) : Mi (shapes_Index_collect_s3_k1 l59 c60) := ⟨(inferInstance : Mi (shapes_Index_collect_s3_k1_is l59 c60)).c, by rw [← shapes_Index_collect_s3_k1_isE]; exact (inferInstance : Mi (shapes_Index_collect_s3_k1_is l59 c60)).h⟩
noncomputable instance (a0 : Int × (List (((List UInt8) × Int × Int × (List UInt8)) × (List Int)))) (a1 : List UInt8) (s) : Mi (shapes_Index_collect_s3_bl2 a0 a1 s) := by obtain ⟨l89, c90, s13_91⟩ := s; delta shapes_Index_collect_s3_bl2; dsimp only; infer_instance
noncomputable instance (a0 : Int × (List (((List UInt8) × Int × Int × (List UInt8)) × (List Int)))) (a1 : List UInt8) (s : (List Int) × (List UInt8) × Int) : Mi (shapes_Index_collect_s3_l2 a0 a1 s) := by delta shapes_Index_collect_s3_l2; infer_instance
noncomputable instance (a0 : Int × (List (((List UInt8) × Int × Int × (List UInt8)) × (List Int)))) (a1 : List UInt8) (a2_c0 : List UInt8) : Mi (shapes_Index_collect_s3 a0 a1 a2_c0) := by delta shapes_Index_collect_s3; infer_instance
noncomputable instance (a0 : Int × (List (((List UInt8) × Int × Int × (List UInt8)) × (List Int)))) (a1 : List UInt8) (a2 : List UInt8) : Mi (shapes_Index_Text a0 a1 a2) := by delta shapes_Index_Text; infer_instance
noncomputable instance (a0 : Int) (a1 : Int) : Mi (wire_fault a0 a1) := by delta wire_fault; infer_instance
noncomputable instance (a1 : Int) : Mi (wire_ReadNumber_k1 a1) := by delta wire_ReadNumber_k1; infer_instance
noncomputable instance (a0 : List UInt8) (a1 : Int) (s) : Mi (wire_ReadNumber_bl2 a0 a1 s) := by obtain ⟨s7_160, s19_161⟩ := s; delta wire_ReadNumber_bl2; dsimp only; repeat' first | (show Mi _; infer_instance) | refine @iB _ _ _ _ ?_ (fun _ => ?_) | refine @iC _ _ _ _ ?_ | refine @iI _ _ _ _ _ ?_ ?_
noncomputable instance (a0 : List UInt8) (a1 : Int) (s : Int × Int) : Mi (wire_ReadNumber_l2 a0 a1 s) := by delta wire_ReadNumber_l2; infer_instance
noncomputable instance (a0 : List UInt8) (a1 : Int) : Mi (wire_ReadNumber a0 a1) := by delta wire_ReadNumber; infer_instance
noncomputable instance (c26 : Int) (c27 : Int) (c28 : Int) : Mi (shapes_Open_k1 c26 c27 c28) := by delta shapes_Open_k1; infer_instance
noncomputable instance (a0 : List UInt8) (a1 : Int) : Mi (wire_ReadChunk a0 a1) := by delta wire_ReadChunk; infer_instance
noncomputable instance (l65 : List Int) (s12_66 : Int) : Mi (wreads_Number_k1 l65 s12_66) := by delta wreads_Number_k1; infer_instance
noncomputable instance (a0 : List UInt8) (x2 : Int × Int × (Int × Int)) (s) : Mi (wreads_Number_bl2 a0 x2 s) := by obtain ⟨l89, s12_90, s41_91⟩ := s; delta wreads_Number_bl2; dsimp only; infer_instance
noncomputable instance (a0 : List UInt8) (x2 : Int × Int × (Int × Int)) (s : (List Int) × Int × Int) : Mi (wreads_Number_l2 a0 x2 s) := by delta wreads_Number_l2; infer_instance
noncomputable instance (a0 : List UInt8) (a1 : Int) (a2 : Int) : Mi (wreads_Number a0 a1 a2) := by delta wreads_Number; infer_instance
noncomputable instance (x111 : (List Int) × Int × (Int × Int)) (c123 : List UInt8) (c124 : Int) (c125 : Int) (c126 : List UInt8) (s5_128 : Int) : Mi (shapes_readEntry_k5 x111 c123 c124 c125 c126 s5_128) := by delta shapes_readEntry_k5; infer_instance
noncomputable instance (x84 : (List UInt8) × Int × (Int × Int)) (c95 : List UInt8) (c96 : Int) (c97 : Int) (c98 : List UInt8) (s5_100 : Int) : Mi (shapes_readEntry_k4 x84 c95 c96 c97 c98 s5_100) := by delta shapes_readEntry_k4; infer_instance
noncomputable instance (x57 : Int × Int × (Int × Int)) (c69 : List UInt8) (c70 : Int) (c71 : Int) (c72 : List UInt8) (s5_74 : Int) : Mi (shapes_readEntry_k3 x57 c69 c70 c71 c72 s5_74) := by delta shapes_readEntry_k3; infer_instance
noncomputable instance (x30 : Int × Int × (Int × Int)) (c42 : List UInt8) (c43 : Int) (c44 : Int) (c45 : List UInt8) (s5_47 : Int) : Mi (shapes_readEntry_k2 x30 c42 c43 c44 c45 s5_47) := by delta shapes_readEntry_k2; infer_instance
noncomputable instance (x3 : (List UInt8) × Int × (Int × Int)) (c14 : List UInt8) (c15 : Int) (c16 : Int) (c17 : List UInt8) (s5_19 : Int) : Mi (shapes_readEntry_k1 x3 c14 c15 c16 c17 s5_19) := by delta shapes_readEntry_k1; infer_instance
noncomputable instance (a0 : List UInt8) (a1 : Int) : Mi (shapes_readEntry a0 a1) := by delta shapes_readEntry; infer_instance
noncomputable instance (l69 : List (((List UInt8) × Int × Int × (List UInt8)) × (List Int))) (s12_70 : Int) : Mi (wreads_entry_k1 l69 s12_70) := by delta wreads_entry_k1; infer_instance
noncomputable instance (a0 : List UInt8) (x2 : Int × Int × (Int × Int)) (s) : Mi (wreads_entry_bl2 a0 x2 s) := by obtain ⟨l95, s12_96, s41_97⟩ := s; delta wreads_entry_bl2; dsimp only; infer_instance
noncomputable instance (a0 : List UInt8) (x2 : Int × Int × (Int × Int)) (s : (List (((List UInt8) × Int × Int × (List UInt8)) × (List Int))) × Int × Int) : Mi (wreads_entry_l2 a0 x2 s) := by delta wreads_entry_l2; infer_instance
noncomputable instance (a0 : List UInt8) (a1 : Int) (a2 : Int) : Mi (wreads_entry a0 a1 a2) := by delta wreads_entry; infer_instance
noncomputable instance  : Mi (shapes_entry_valid_k3) := by delta shapes_entry_valid_k3; infer_instance
noncomputable instance (a0 : ((List UInt8) × Int × Int × (List UInt8)) × (List Int)) (a1 : Int) (s) : Mi (shapes_entry_valid_bl4 a0 a1 s) := by delta shapes_entry_valid_bl4; infer_instance
noncomputable instance (a0 : ((List UInt8) × Int × Int × (List UInt8)) × (List Int)) (a1 : Int) (s : Int) : Mi (shapes_entry_valid_l4 a0 a1 s) := by delta shapes_entry_valid_l4; infer_instance
noncomputable instance (a0 : ((List UInt8) × Int × Int × (List UInt8)) × (List Int)) (a1 : Int) : Mi (shapes_entry_valid_k1 a0 a1) := by delta shapes_entry_valid_k1; infer_instance
noncomputable instance (a0 : ((List UInt8) × Int × Int × (List UInt8)) × (List Int)) (a1 : Int) (s7_75 : Bool) : Mi (shapes_entry_valid_k2 a0 a1 s7_75) := by delta shapes_entry_valid_k2; infer_instance
noncomputable instance (a0 : ((List UInt8) × Int × Int × (List UInt8)) × (List Int)) (a1 : Int) : Mi (shapes_entry_valid a0 a1) := by delta shapes_entry_valid; infer_instance
noncomputable instance (c255 : Int) (c256 : Int) (c257 : Int) : Mi (shapes_Open_k5 c255 c256 c257) := by delta shapes_Open_k5; infer_instance
noncomputable instance (a0 : List UInt8) (a1 : List UInt8) : Mi (internal_bytealg_CompareString a0 a1) := by delta internal_bytealg_CompareString; infer_instance
noncomputable instance (a0 : List UInt8) (a1 : List UInt8) : Mi (strings_Compare a0 a1) := by delta strings_Compare; infer_instance
noncomputable instance (a0 : Int) : Mi (cmp_isNaN_int a0) := by delta cmp_isNaN_int; infer_instance
noncomputable instance (a0 : Int) (a1 : Int) : Mi (cmp_Compare_int a0 a1) := by delta cmp_Compare_int; infer_instance
noncomputable instance  : Mi (cmp_Or_int_k1) := by delta cmp_Or_int_k1; infer_instance
noncomputable instance (a0 : List Int) (s) : Mi (cmp_Or_int_bl2 a0 s) := by delta cmp_Or_int_bl2; infer_instance
noncomputable instance (a0 : List Int) (s : Int) : Mi (cmp_Or_int_l2 a0 s) := by delta cmp_Or_int_l2; infer_instance
noncomputable instance (a0 : List Int) : Mi (cmp_Or_int a0) := by delta cmp_Or_int; infer_instance
noncomputable instance (a0 : (List UInt8) × Int × Int × (List UInt8)) (a1 : (List UInt8) × Int × Int × (List UInt8)) : Mi (shapes_leaf_compare a0 a1) := by delta shapes_leaf_compare; infer_instance
noncomputable instance (c286 : Int) (c287 : Int) (c288 : Int) : Mi (shapes_Open_k6 c286 c287 c288) := by delta shapes_Open_k6; infer_instance
noncomputable instance (a0 : List UInt8) (a1 : List UInt8) : Mi (bytes_Equal a0 a1) := by delta bytes_Equal; infer_instance
noncomputable instance (c322 : Int) (c323 : Int) (c324 : Int) : Mi (shapes_Open_k7 c322 c323 c324) := by delta shapes_Open_k7; infer_instance
noncomputable instance (a0 : List UInt8) (x10 : (Int × Int)) (x14 : Int × Int × (Int × Int)) (x39 : (List (((List UInt8) × Int × Int × (List UInt8)) × (List Int))) × Int × (Int × Int)) : Mi (shapes_Open_k3 a0 x10 x14 x39) := by delta shapes_Open_k3; infer_instance
noncomputable instance (a0 : List UInt8) (x10 : (Int × Int)) (x14 : Int × Int × (Int × Int)) (x39 : (List (((List UInt8) × Int × Int × (List UInt8)) × (List Int))) × Int × (Int × Int)) (s) : Mi (shapes_Open_bl4 a0 x10 x14 x39 s) := by delta shapes_Open_bl4; infer_instance
noncomputable instance (a0 : List UInt8) (x10 : (Int × Int)) (x14 : Int × Int × (Int × Int)) (x39 : (List (((List UInt8) × Int × Int × (List UInt8)) × (List Int))) × Int × (Int × Int)) (s : Int) : Mi (shapes_Open_l4 a0 x10 x14 x39 s) := by delta shapes_Open_l4; infer_instance
noncomputable instance (c50 : Int) (c51 : Int) (c52 : Int) : Mi (shapes_Open_k2 c50 c51 c52) := by delta shapes_Open_k2; infer_instance
noncomputable instance (a0 : List UInt8) : Mi (shapes_Open a0) := by delta shapes_Open; infer_instance
noncomputable instance  : Mi (ref4_Texts_k1) := by delta ref4_Texts_k1; infer_instance
noncomputable instance (a0 : List (List UInt8)) (a1 : List (List UInt8)) (s) : Mi (ref4_Texts_bl2 a0 a1 s) := by delta ref4_Texts_bl2; infer_instance
noncomputable instance (a0 : List (List UInt8)) (a1 : List (List UInt8)) (s : Int) : Mi (ref4_Texts_l2 a0 a1 s) := by delta ref4_Texts_l2; infer_instance
noncomputable instance (a0 : List (List UInt8)) (a1 : List (List UInt8)) : Mi (ref4_Texts a0 a1) := by delta ref4_Texts; infer_instance
noncomputable instance  : Mi (ref3_Ints_k1) := by delta ref3_Ints_k1; infer_instance
noncomputable instance (a0 : List Int) (a1 : List Int) (s) : Mi (ref3_Ints_bl2 a0 a1 s) := by delta ref3_Ints_bl2; infer_instance
noncomputable instance (a0 : List Int) (a1 : List Int) (s : Int) : Mi (ref3_Ints_l2 a0 a1 s) := by delta ref3_Ints_l2; infer_instance
noncomputable instance (a0 : List Int) (a1 : List Int) : Mi (ref3_Ints a0 a1) := by delta ref3_Ints; infer_instance
noncomputable instance (a0 : Int × (List (((List UInt8) × Int × Int × (List UInt8)) × (List Int)))) : Mi (shapes_Index_Items a0) := by delta shapes_Index_Items; infer_instance
noncomputable instance (a0 : Int) (a1 : Int) : Mi (ref3_At a0 a1) := by delta ref3_At; infer_instance
noncomputable instance  : Mi (law4_shaped) := by delta law4_shaped; repeat' first | (show Mi _; infer_instance) | refine @iB _ _ _ _ ?_ (fun _ => ?_) | refine @iC _ _ _ _ ?_ | refine @iI _ _ _ _ _ ?_ ?_
theorem shaped_true : law4_shaped = some true := (inferInstance : Mi law4_shaped).h true (by kernel_rfl)
end Go.Proofs.YtmfiaecglndldaaGreatDoor
end
section
namespace Go.Proofs.YtmfiaecglndldaaGreatDoor
open Go Go.L
theorem inc_len : ∀ {l : List Int} {lo n : Int}, l.Pairwise (fun a b => a < b) → (∀ z ∈ l, lo ≤ z ∧ z < n) → lo ≤ n → (l.length : Int) ≤ n - lo
  | [], lo, n, _, _, h => by simp; omega
  | a :: l, lo, n, hp, hz, h => by
    obtain ⟨p1, p2⟩ := List.pairwise_cons.1 hp;have ha := hz a (.head _);have := inc_len (lo := a + 1) (n := n) p2 (fun z hzz => ⟨by have := p1 z hzz; omega, (hz z (.tail _ hzz)).2⟩) (by omega);simp only [List.length_cons];omega
theorem GI.few {n : Int} {es : List En} (h : GI n es) : ∀ e ∈ es, e.2.length ≤ 64 := fun e he => by
  have := inc_len (lo := 0) (n := n) (h.ev e he).inc (h.ev e he).items h.n0;have := h.n64;omega
theorem lform_pos (e : En) : 1 ≤ (lform e).length := by
  unfold lform chunkF;simp only [List.flatten_cons, List.length_append]
  have : 1 ≤ (vint (zz (e.1.1.length : Int))).length := by
    unfold vint vintN; split <;> simp
  omega
theorem iform_count (n : Int) (es : List En) : es.length ≤ (iform n es).length := by
  unfold iform;simp only [List.length_append]
  have : es.length ≤ (es.flatMap lform).length := by
    induction es with
    | nil => simp
    | cons e l ih => rw [List.flatMap_cons, List.length_append, List.length_cons]; have := lform_pos e; omega
  omega
end Go.Proofs.YtmfiaecglndldaaGreatDoor
end
section
namespace Go.L
theorem vintN_uniq : ∀ (n u u' : Nat) (t t' : List UInt8), u < 128 ^ n → u' < 128 ^ n → 1 ≤ n → vintN n u ++ t = vintN n u' ++ t' → u = u' ∧ t = t'
  | 0, _, _, _, _, _, _, h, _ => absurd h (by omega)
  | n + 1, u, u', t, t', hu, hu', _, h => by
    unfold vintN at h
    have hb : ∀ {a b : Nat}, a < 256 → b < 256 → UInt8.ofNat a = UInt8.ofNat b → a = b := fun ha hb he => by
      have := congrArg UInt8.toNat he
      simpa [Nat.mod_eq_of_lt ha, Nat.mod_eq_of_lt hb] using this
    by_cases c : 128 ≤ u <;> by_cases c' : 128 ≤ u'
    · rw [if_pos c, if_pos c', List.cons_append, List.cons_append] at h;obtain ⟨h1, h2⟩ := List.cons.inj h;have h1 := hb (by omega) (by omega) h1
      have hn : 1 ≤ n := by
        rcases Nat.eq_zero_or_pos n with h0 | h0
        · subst h0; simp at hu; omega
        · exact h0
      obtain ⟨h3, h4⟩ := vintN_uniq n (u / 128) (u' / 128) t t' (Nat.div_lt_of_lt_mul (by rw [Nat.pow_succ, Nat.mul_comm] at hu; exact hu)) (Nat.div_lt_of_lt_mul (by rw [Nat.pow_succ, Nat.mul_comm] at hu'; exact hu')) hn h2;exact ⟨by omega, h4⟩
    · rw [if_pos c, if_neg c', List.cons_append, List.cons_append] at h;have := hb (by omega) (by omega) (List.cons.inj h).1;omega
    · rw [if_neg c, if_pos c', List.cons_append, List.cons_append] at h;have := hb (by omega) (by omega) (List.cons.inj h).1;omega
    · rw [if_neg c, if_neg c', List.cons_append, List.cons_append] at h;obtain ⟨h1, h2⟩ := List.cons.inj h;exact ⟨hb (by omega) (by omega) h1, h2⟩
theorem num_uniq {a a' : Int} {t t' : List UInt8} (h : I64 a) (h' : I64 a') (e : vint (zz a) ++ t = vint (zz a') ++ t') : a = a' ∧ t = t' := by
  obtain ⟨h1, h2⟩ := vintN_uniq 10 (zz a) (zz a') t t' (Nat.lt_trans (zz_lt h) (by decide)) (Nat.lt_trans (zz_lt h') (by decide)) (by decide) e;refine ⟨?_, h2⟩;have := congrArg unzz h1
  rwa [unzz_zz, unzz_zz] at this
theorem chunk_uniq {s s' t t' : List UInt8} (h : s.length ≤ 2000000) (h' : s'.length ≤ 2000000) (e : chunkF s ++ t = chunkF s' ++ t') : s = s' ∧ t = t' := by
  unfold chunkF at e;rw [List.append_assoc, List.append_assoc] at e;obtain ⟨h1, h2⟩ := num_uniq (by unfold I64; omega) (by unfold I64; omega) e;exact List.append_inj h2 (by omega)
theorem list_uniq : ∀ {l l' : List Int} {t t' : List UInt8}, l.length = l'.length → (∀ z ∈ l, I64 z) → (∀ z ∈ l', I64 z) → (l.flatMap fun i => vint (zz i)) ++ t = (l'.flatMap fun i => vint (zz i)) ++ t' → l = l' ∧ t = t'
  | [], [], _, _, _, _, _, e => ⟨rfl, e⟩
  | [], _ :: _, _, _, h, _, _, _ => by simp at h
  | _ :: _, [], _, _, h, _, _, _ => by simp at h
  | z :: l, z' :: l', t, t', hl, h, h', e => by
    rw [List.flatMap_cons, List.flatMap_cons, List.append_assoc, List.append_assoc] at e;obtain ⟨h1, h2⟩ := num_uniq (h z (.head _)) (h' z' (.head _)) e;obtain ⟨h3, h4⟩ := list_uniq (by simpa using hl) (fun y hy => h y (.tail _ hy)) (fun y hy => h' y (.tail _ hy)) h2;exact ⟨by rw [h1, h3], h4⟩
theorem items_uniq {l l' : List Int} {t t' : List UInt8} (hl : l.length ≤ 1000000) (hl' : l'.length ≤ 1000000) (h : ∀ z ∈ l, I64 z) (h' : ∀ z ∈ l', I64 z) (e : itemsF l ++ t = itemsF l' ++ t') : l = l' ∧ t = t' := by
  unfold itemsF at e;rw [List.append_assoc, List.append_assoc] at e;obtain ⟨h1, h2⟩ := num_uniq (by unfold I64; omega) (by unfold I64; omega) e;exact list_uniq (by omega) h h' h2
end Go.L
namespace Go.Proofs.YtmfiaecglndldaaGreatDoor
open Go Go.L
theorem lform_uniq {e e' : En} {t t' : List UInt8} (h : EnS e) (h' : EnS e') (heq : lform e ++ t = lform e' ++ t') : e = e' ∧ t = t' := by
  unfold lform at heq;simp only [List.flatten_cons, List.flatten_nil, List.append_nil, List.append_assoc] at heq;obtain ⟨p1, p2, p3, p4, p5, p6⟩ := h;obtain ⟨q1, q2, q3, q4, q5, q6⟩ := h';obtain ⟨r1, s1⟩ := chunk_uniq p1 q1 heq;obtain ⟨r2, s2⟩ := num_uniq p2 q2 s1;obtain ⟨r3, s3⟩ := num_uniq p3 q3 s2;obtain ⟨r4, s4⟩ := chunk_uniq p4 q4 s3;obtain ⟨r5, s5⟩ := items_uniq p6 q6 p5 q5 s4;exact ⟨Prod.ext (Prod.ext r1 (Prod.ext r2 (Prod.ext r3 r4))) r5, s5⟩
theorem forms_uniq : ∀ {es es' : List En} {t t' : List UInt8}, es.length = es'.length → (∀ e ∈ es, EnS e) → (∀ e ∈ es', EnS e) → es.flatMap lform ++ t = es'.flatMap lform ++ t' → es = es' ∧ t = t'
  | [], [], _, _, _, _, _, e => ⟨rfl, e⟩
  | [], _ :: _, _, _, h, _, _, _ => by simp at h
  | _ :: _, [], _, _, h, _, _, _ => by simp at h
  | z :: l, z' :: l', t, t', hl, h, h', e => by
    rw [List.flatMap_cons, List.flatMap_cons, List.append_assoc, List.append_assoc] at e;obtain ⟨h1, h2⟩ := lform_uniq (h z (.head _)) (h' z' (.head _)) e;obtain ⟨h3, h4⟩ := forms_uniq (by simpa using hl) (fun y hy => h y (.tail _ hy)) (fun y hy => h' y (.tail _ hy)) h2;exact ⟨by rw [h1, h3], h4⟩
end Go.Proofs.YtmfiaecglndldaaGreatDoor
end
section
namespace Go.L
/-- The value of digits of base 128. -/
def val : List UInt8 → Nat
  | [] => 0
  | c :: l => c.toNat % 128 + 128 * val l
theorem val_vintN : ∀ (k u : Nat), u < 128 ^ k → val (vintN k u) = u
  | 0, u, h => by simp at h; subst h; rfl
  | k + 1, u, h => by
    unfold vintN
    by_cases c : 128 ≤ u
    · rw [if_pos c, val, val_vintN k (u / 128) (Nat.div_lt_of_lt_mul (by rw [Nat.pow_succ, Nat.mul_comm] at h; exact h))];have : (UInt8.ofNat (u % 128 + 128)).toNat = u % 128 + 128 := by simp; omega
      omega
    · rw [if_neg c, val];have : (UInt8.ofNat u).toNat = u := by simp; omega
      show _ + 128 * 0 = _
      omega
theorem vint_split : ∀ (k u : Nat), u < 128 ^ (k + 1) → ∃ Q c, vintN (k + 1) u = Q ++ [c] ∧ (∀ x ∈ Q, 128 ≤ x.toNat) ∧ c.toNat < 128 ∧ Q.length ≤ k
  | 0, u, h => ⟨[], UInt8.ofNat u, by unfold vintN; rw [if_neg (by simp at h; omega)]; rfl, fun x hx => (by cases hx), by simp at h ⊢; omega, by simp⟩
  | k + 1, u, h => by
    unfold vintN
    by_cases c : 128 ≤ u
    · obtain ⟨Q, c', h1, h2, h3, h4⟩ := vint_split k (u / 128) (Nat.div_lt_of_lt_mul (by rw [Nat.pow_succ, Nat.mul_comm] at h; exact h));refine ⟨UInt8.ofNat (u % 128 + 128) :: Q, c', by rw [if_pos c, h1]; rfl, fun x hx => ?_, h3, by simp; omega⟩
      rcases List.mem_cons.1 hx with rfl | hx
      · simp; omega
      · exact h2 x hx
    · exact ⟨[], UInt8.ofNat u, by rw [if_neg c]; rfl, fun x hx => (by cases hx), by simp; omega, by simp⟩
theorem split_uniq : ∀ {P Q C R : List UInt8} {c c' : UInt8} {m : Nat}, Q ++ c' :: C = P ++ c :: R → (∀ x ∈ Q, 128 ≤ x.toNat) → c'.toNat < 128 → (∀ x ∈ P, 128 ≤ x.toNat) → (P.length = m ∨ c.toNat < 128) → Q.length < m → Q = P ∧ c' = c ∧ C = R
  | [], [], C, R, c, c', m, h, _, _, _, _, _ => by
    rw [List.nil_append, List.nil_append] at h;exact ⟨rfl, (List.cons.inj h).1, (List.cons.inj h).2⟩
  | p :: P, [], C, R, c, c', m, h, _, h2, h3, _, _ => by
    rw [List.nil_append, List.cons_append] at h;have := h3 p (.head _);rw [← (List.cons.inj h).1] at this;omega
  | [], q :: Q, C, R, c, c', m, h, h1, h2, h3, h4, h5 => by
    rw [List.nil_append, List.cons_append] at h;have := h1 q (.head _);rw [(List.cons.inj h).1] at this
    rcases h4 with h4 | h4
    · simp at h4 h5; omega
    · omega
  | p :: P, q :: Q, C, R, c, c', m, h, h1, h2, h3, h4, h5 => by
    rw [List.cons_append, List.cons_append] at h;obtain ⟨a1, a2⟩ := List.cons.inj h;obtain ⟨b1, b2, b3⟩ := split_uniq (m := m - 1) a2 (fun x hx => h1 x (.tail _ hx)) h2 (fun x hx => h3 x (.tail _ hx)) (h4.imp (fun h => by simp at h; omega) id) (by simp at h5; omega);exact ⟨by rw [a1, b1], b2, b3⟩
theorem getD_app {α : Type} [Inhabited α] (A T : List α) (i : Nat) : (A ++ T).getD (A.length + i) default = T.getD i default := by
  rw [List.getD_eq_getElem?_getD, List.getElem?_append_right (by omega), List.getD_eq_getElem?_getD, Nat.add_sub_cancel_left]
end Go.L
namespace Go.Proofs.YtmfiaecglndldaaGreatDoor
open Go Go.L
/-- A reader's answer: what was written with F stands at the head of T, or nothing of the kind. -/
def RD {α : Type} (F : α → List UInt8) (P : α → Prop) (A T : List UInt8) (r : α × Int × Bool) : Prop :=
  (∃ x C, P x ∧ T = F x ++ C ∧ r = (x, ((A.length + (F x).length : Nat) : Int), true)) ∨ (r.2.2 = false ∧ ∀ y C, P y → T ≠ F y ++ C)
theorem scan_ex {A T : List UInt8} (hl : (A ++ T).length ≤ 1000000) : ∀ (d i : Nat) (P R : List UInt8), T = P ++ R → P.length = i → i + d = 10 → (∀ c ∈ P, 128 ≤ c.toNat) →
    ∃ P' R', T = P' ++ R' ∧ (∀ c ∈ P', 128 ≤ c.toNat) ∧ P'.length ≤ 10 ∧ (∀ c R'', R' = c :: R'' → P'.length = 10 ∨ c.toNat < 128) ∧ Go.L.run (ref4_numberAt_bl2 (A ++ T) (A.length : Int)) ((A.length + i : Nat) : Int) = ref4_numberAt_k1 (A ++ T) (A.length : Int) ((A.length + P'.length : Nat) : Int)
  | 0, i, P, R, hT, hP, hi, hall => by
    refine ⟨P, R, hT, hall, by omega, fun c R'' _ => .inl (by omega), run_inr (m := ref4_numberAt_k1 (A ++ T) (A.length : Int) ((A.length + P.length : Nat) : Int)) ?_⟩;unfold ref4_numberAt_bl2;rw [List.length_append] at hl ⊢;rw [hP]
    by_cases h : ((A.length + i : Nat) : Int) < ((A.length + T.length : Nat) : Int)
    · rw [if_pos h, chk_pos (by unfold I64; omega), if_neg (by omega)]
    · rw [if_neg h]
  | d + 1, i, P, [], hT, hP, hi, hall => by
    refine ⟨P, [], hT, hall, by omega, fun c R'' h => (by cases h), run_inr (m := ref4_numberAt_k1 (A ++ T) (A.length : Int) ((A.length + P.length : Nat) : Int)) ?_⟩;unfold ref4_numberAt_bl2;rw [List.append_nil] at hT;rw [if_neg (by rw [List.length_append, hT]; omega), hP]
  | d + 1, i, P, c :: R, hT, hP, hi, hall => by
    have hTl : T.length = i + (R.length + 1) := by rw [hT, List.length_append, List.length_cons]; omega
    have hg : (A ++ T).getD (A.length + i) default = c := by
      rw [getD_app, hT];have := getD_app P (c :: R) 0;rw [hP] at this;exact this
    rw [List.length_append] at hl
    by_cases hc : 128 ≤ c.toNat
    · have hb : ref4_numberAt_bl2 (A ++ T) (A.length : Int) ((A.length + i : Nat) : Int) = some (.inl ((A.length + (i + 1) : Nat) : Int)) := by
        unfold ref4_numberAt_bl2;rw [if_pos (by rw [List.length_append]; omega), chk_pos (by unfold I64; omega), if_pos (by omega), chk_pos (by rw [List.length_append]; omega), Int.toNat_natCast, hg, if_pos (by omega), chk_pos (by unfold I64; omega)]
        rfl
      obtain ⟨P', R', h1, h2, h3, h4, h5⟩ := scan_ex (A := A) (T := T) (by rw [List.length_append]; exact hl) d (i + 1) (P ++ [c]) R (by rw [hT]; simp) (by simp; omega) (by omega) (fun x hx => by
        rcases List.mem_append.1 hx with h | h
        · exact hall x h
        · rw [List.mem_singleton] at h; subst h; exact hc)
      exact ⟨P', R', h1, h2, h3, h4, by rw [run_inl hb, h5]⟩
    · refine ⟨P, c :: R, hT, hall, by omega, fun c' R'' h => .inr (by rw [← (List.cons.inj h).1]; omega), run_inr (m := ref4_numberAt_k1 (A ++ T) (A.length : Int) ((A.length + P.length : Nat) : Int)) ?_⟩;unfold ref4_numberAt_bl2;rw [if_pos (by rw [List.length_append]; omega), chk_pos (by unfold I64; omega), if_pos (by omega), chk_pos (by rw [List.length_append]; omega), Int.toNat_natCast, hg, if_neg (by omega), hP]
theorem value_run {A R seg : List UInt8} {e : Int} (hl : (A ++ (seg ++ R)).length ≤ 1000000) : ∀ (n : Nat) (S1 S2 : List UInt8), S1.length = n → seg = S1 ++ S2 →
    Go.L.run (ref4_numberAt_bl4 (A ++ (seg ++ R)) (A.length : Int) e) (((val S2 % 18446744073709551616 : Nat) : Int), ((A.length + n : Nat) : Int) - 1) = ref4_numberAt_k3 (A ++ (seg ++ R)) (A.length : Int) e ((val seg % 18446744073709551616 : Nat) : Int)
  | 0, S1, S2, h1, h2 => by
    have : S1 = [] := List.eq_nil_of_length_eq_zero h1;subst this;rw [List.nil_append] at h2;subst h2;refine run_inr ?_;unfold ref4_numberAt_bl4;dsimp only;rw [if_neg (by omega)]
  | n + 1, S1, S2, h1, h2 => by
    obtain ⟨S, c, rfl⟩ : ∃ S c, S1 = S ++ [c] := by
      rcases List.eq_nil_or_concat S1 with h0 | ⟨S, c, h0⟩
      · subst h0; simp at h1
      · exact ⟨S, c, by simpa using h0⟩
    have hS : S.length = n := by simpa using h1
    have hsl : seg.length = n + 1 + S2.length := by rw [h2]; simp; omega
    have hg : (A ++ (seg ++ R)).getD (A.length + n) default = c := by
      rw [getD_app, h2];have := getD_app S (c :: (S2 ++ R)) 0;rw [hS] at this
      simpa using this
    have hb : ref4_numberAt_bl4 (A ++ (seg ++ R)) (A.length : Int) e (((val S2 % 18446744073709551616 : Nat) : Int), ((A.length + (n + 1) : Nat) : Int) - 1) = some (.inl (((val (c :: S2) % 18446744073709551616 : Nat) : Int), ((A.length + n : Nat) : Int) - 1)) := by
      unfold ref4_numberAt_bl4;dsimp only;simp only [List.length_append] at hl;rw [if_pos (by omega), chk_pos (by simp only [List.length_append]; omega), chk_pos (by decide), chk_pos (by unfold I64; omega), show (((A.length + (n + 1) : Nat) : Int) - 1).toNat = A.length + n by omega, hg, wrap_u, wrap_u, wrap_u];have hc : (c % 128).toNat = c.toNat % 128 := by simp
      rw [hc];have hv : val (c :: S2) = c.toNat % 128 + 128 * val S2 := rfl;rw [hv];generalize val S2 = v;generalize c.toNat % 128 = x
      congr 3
      · omega
      · omega
    rw [run_inl hb];exact value_run hl n S (c :: S2) hS (by rw [h2]; simp)
theorem rnum4 {A T : List UInt8} (hl : (A ++ T).length ≤ 1000000) : ∃ r, ref4_numberAt (A ++ T) (A.length : Int) = some r ∧ RD (fun a => vint (zz a)) I64 A T r := by
  obtain ⟨P, R, hT, hP, hP10, hPc, hrun⟩ := scan_ex hl 10 0 [] T rfl rfl rfl (fun c hc => by cases hc);unfold ref4_numberAt ref4_numberAt_l2;rw [Nat.add_zero] at hrun;rw [hrun];have hvs : ∀ y, I64 y → ∃ Q c, vint (zz y) = Q ++ [c] ∧ (∀ x ∈ Q, 128 ≤ x.toNat) ∧ c.toNat < 128 ∧ Q.length ≤ 9 := fun y hy => vint_split 9 (zz y) (Nat.lt_trans (zz_lt hy) (by decide));unfold ref4_numberAt_k1
  cases R with
  | nil =>
    rw [List.append_nil] at hT;subst hT;refine ⟨(0, 0, false), by rw [if_pos (by rw [List.length_append]; omega)], .inr ⟨rfl, fun y C hy hC => ?_⟩⟩;obtain ⟨Q, c, h1, h2, h3, h4⟩ := hvs y hy;have hC2 : T = vint (zz y) ++ C := hC;have := hP c (by rw [hC2, h1]; simp);omega
  | cons c R =>
    have hlen : T.length = P.length + (R.length + 1) := by rw [hT, List.length_append, List.length_cons]
    rw [List.length_append] at hl;rw [if_neg (by rw [List.length_append]; omega)];have hseg : T = (P ++ [c]) ++ R := by rw [hT]; simp
    have hv := value_run (A := A) (R := R) (seg := P ++ [c]) (e := ((A.length + P.length : Nat) : Int)) (by simp only [List.length_append, List.length_cons, List.length_nil]; omega) (P.length + 1) (P ++ [c]) [] (by simp) (by simp);rw [← hseg] at hv;unfold ref4_numberAt_l4;have e1 : ((A.length + (P.length + 1) : Nat) : Int) - 1 = ((A.length + P.length : Nat) : Int) := by omega
    rw [e1] at hv;have hv' : Go.L.run (ref4_numberAt_bl4 (A ++ T) (A.length : Int) ((A.length + P.length : Nat) : Int)) ((0 : Int), ((A.length + P.length : Nat) : Int)) = ref4_numberAt_k3 (A ++ T) (A.length : Int) ((A.length + P.length : Nat) : Int) ((val (P ++ [c]) % 18446744073709551616 : Nat) : Int) := hv;rw [hv'];generalize hw : val (P ++ [c]) % 18446744073709551616 = w;have hwl : w < 18446744073709551616 := by rw [← hw]; exact Nat.mod_lt _ (by decide)
    have hk5 : ref4_numberAt_k5 (A ++ T) (A.length : Int) ((A.length + P.length : Nat) : Int) (unzz w) = some (unzz w, ((A.length + (P ++ [c]).length : Nat) : Int), decide (vint w = P ++ [c])) := by
      unfold ref4_numberAt_k5 ref3_SameBytes
      have hd : ((A ++ T).drop (A.length : Int).toNat).take ((((A.length + P.length : Nat) : Int) + 1).toNat - (A.length : Int).toNat) = P ++ [c] := by
        rw [show (((A.length + P.length : Nat) : Int) + 1).toNat - (A.length : Int).toNat = (P ++ [c]).length by simp; omega, Int.toNat_natCast, List.drop_left' rfl, hseg, List.take_left' rfl]
      rw [chk_pos (by unfold I64; omega), chk_pos (by unfold I64; omega), chk_pos (by rw [List.length_append]; omega), varint_eq (unzz_i64 (by omega)), Option.bind_some, hd, Option.bind_some, zz_unzz]
      congr 3
      simp; omega
    have hk3 : ref4_numberAt_k3 (A ++ T) (A.length : Int) ((A.length + P.length : Nat) : Int) (w : Int) = ref4_numberAt_k5 (A ++ T) (A.length : Int) ((A.length + P.length : Nat) : Int) (unzz w) := by
      unfold ref4_numberAt_k3 unzz;rw [chk_pos (by omega), chk_pos (by omega), show (w : Int) / 2 = ((w / 2 : Nat) : Int) by omega, wrap64_lt (by omega)]
      by_cases ho : w % 2 = 0
      · rw [if_neg (by omega), if_pos ho]
      · rw [if_pos (by omega), if_neg ho, chk_pos (by unfold I64; omega), chk_pos (by unfold I64; omega)]
    refine ⟨_, by rw [hk3, hk5], ?_⟩
    by_cases hok : vint w = P ++ [c]
    · exact .inl ⟨unzz w, R, unzz_i64 (by omega), by show T = vint (zz (unzz w)) ++ R; rw [zz_unzz, hok, hseg], by show _ = (unzz w, ((A.length + (vint (zz (unzz w))).length : Nat) : Int), true); rw [zz_unzz, hok, decide_eq_true rfl]⟩
    · refine .inr ⟨decide_eq_false hok, fun y C hy hC => hok ?_⟩;obtain ⟨Q, c', h1, h2, h3, h4⟩ := hvs y hy;have hC' : T = vint (zz y) ++ C := hC;rw [h1, hT, List.append_assoc] at hC';obtain ⟨k1, k2, k3⟩ := split_uniq (m := 10) hC'.symm h2 h3 hP (hPc c R rfl) (by omega);have hvz : vint (zz y) = P ++ [c] := by rw [h1, k1, k2]
      have hvv := val_vintN 10 (zz y) (Nat.lt_trans (zz_lt hy) (by decide));have hvv' : val (vint (zz y)) = zz y := hvv;have : w = zz y := by rw [← hw, ← hvz, hvv', Nat.mod_eq_of_lt (zz_lt hy)]
      rw [this]; exact hvz
theorem rchunk4 {A T : List UInt8} (hl : (A ++ T).length ≤ 1000000) : ∃ r, ref4_chunkAt (A ++ T) (A.length : Int) = some r ∧ RD chunkF (fun s => s.length ≤ 1000000) A T r := by
  obtain ⟨r, h1, h2⟩ := rnum4 hl;unfold ref4_chunkAt;rw [h1, Option.bind_some];rw [List.length_append] at hl
  rcases h2 with ⟨a, C, ha, hT, rfl⟩ | ⟨hf, hno⟩
  · dsimp only at hT ⊢;have hTl : T.length = (vint (zz a)).length + C.length := by rw [hT, List.length_append]
    rw [if_neg (by decide), chk_pos (by rw [List.length_append]; unfold I64; omega)];unfold ref3_In;rw [Option.bind_some]
    by_cases hin : 0 ≤ a ∧ a ≤ ((A ++ T).length : Int) - ((A.length + (vint (zz a)).length : Nat) : Int)
    · obtain ⟨m, rfl⟩ : ∃ m : Nat, a = (m : Int) := ⟨a.toNat, by omega⟩;have hmC : m ≤ C.length := by rw [List.length_append] at hin; omega
      rw [decide_eq_true hin, if_neg (by decide), chk_pos (by unfold I64; omega), chk_pos (by rw [List.length_append] at hin ⊢; omega), chk_pos (by unfold I64; omega)]
      have hd : ((A ++ T).drop (((A.length + (vint (zz (m : Int))).length : Nat) : Int)).toNat).take ((((A.length + (vint (zz (m : Int))).length : Nat) : Int) + (m : Int)).toNat - (((A.length + (vint (zz (m : Int))).length : Nat) : Int)).toNat) = C.take m := by
        rw [show (((A.length + (vint (zz (m : Int))).length : Nat) : Int) + (m : Int)).toNat - (((A.length + (vint (zz (m : Int))).length : Nat) : Int)).toNat = m by omega, Int.toNat_natCast, hT, ← List.append_assoc, List.drop_left' (by rw [List.length_append])]
      rw [hd];have hml : (C.take m).length = m := by rw [List.length_take]; omega
      refine ⟨_, rfl, .inl ⟨C.take m, C.drop m, by show (C.take m).length ≤ 1000000; rw [hml]; omega, ?_, ?_⟩⟩
      · unfold chunkF;rw [hml, List.append_assoc, List.take_append_drop, ← hT]
      · unfold chunkF;rw [hml, List.length_append, hml]
        congr 2
        omega
    · rw [decide_eq_false hin, if_pos (show (!false) = true from rfl)];refine ⟨_, rfl, .inr ⟨rfl, fun y C' hy hC' => hin ?_⟩⟩;unfold chunkF at hC';rw [hT, List.append_assoc] at hC';obtain ⟨k1, k2⟩ := num_uniq ha (by unfold I64; omega) hC';have := congrArg List.length k2;rw [List.length_append] at this;rw [List.length_append];omega
  · rw [if_pos (by rw [hf]; rfl)];refine ⟨_, rfl, .inr ⟨rfl, fun y C hy hC => ?_⟩⟩;unfold chunkF at hC;rw [List.append_assoc] at hC;exact hno (y.length : Int) (y ++ C) (by unfold I64; omega) hC
end Go.Proofs.YtmfiaecglndldaaGreatDoor
end
section
namespace Go.Proofs.YtmfiaecglndldaaGreatDoor
open Go Go.L
/-! ### Insertion -/
end Go.Proofs.YtmfiaecglndldaaGreatDoor
end
section
namespace Go.L
theorem less_cmp : ∀ x y : List UInt8, Op.bytesLess x y = decide (Lib.compareBytes x y < 0)
  | [], [] => by simp [Op.bytesLess, Lib.compareBytes]
  | _ :: _, [] => by simp [Op.bytesLess, Lib.compareBytes]
  | [], _ :: _ => by simp [Op.bytesLess, Lib.compareBytes]
  | a :: x, b :: y => by
    rw [Op.bytesLess, less_cmp x y, Lib.compareBytes]
    by_cases h1 : a < b
    · simp [h1]
    · by_cases h2 : b < a
      · have h3 : a ≠ b := fun e => by subst e; exact absurd h2 (UInt8.lt_irrefl a)
        simp [h1, h2, h3]
      · have h3 : a = b := UInt8.le_antisymm (UInt8.not_lt.1 h2) (UInt8.not_lt.1 h1);subst h3;simp
end Go.L
namespace Go.Proofs.YtmfiaecglndldaaGreatDoor
open Go Go.L
theorem cmpN_zero (x y : Int) : cmpN x y = 0 ↔ x = y := by unfold cmpN; split; omega; split <;> omega
theorem cmpN_neg (x y : Int) : cmpN x y < 0 ↔ x < y := by unfold cmpN; split; omega; split <;> omega
theorem before_eq (a b : Lf) : ref4_Before a b = some (decide (lfCmp a b < 0)) := by
  unfold ref4_Before lfCmp lexC
  by_cases h1 : a.1 = b.1
  · rw [if_pos h1, if_pos (show Lib.compareBytes a.1 b.1 = 0 by rw [h1]; exact cmp_self _)]
    by_cases h2 : a.2.1 = b.2.1
    · rw [if_pos h2, if_pos ((cmpN_zero _ _).2 h2)]
      by_cases h3 : a.2.2.1 = b.2.2.1
      · rw [if_pos h3, if_pos ((cmpN_zero _ _).2 h3), less_cmp]
      · rw [if_neg h3, if_neg (fun h => h3 ((cmpN_zero _ _).1 h)), decide_eq_decide.2 (cmpN_neg _ _)]
    · rw [if_neg h2, if_neg (fun h => h2 ((cmpN_zero _ _).1 h)), decide_eq_decide.2 (cmpN_neg _ _)]
  · rw [if_neg h1, if_neg (fun h => h1 (cmp_zero _ _ h)), less_cmp]
end Go.Proofs.YtmfiaecglndldaaGreatDoor
end
section
namespace Go.L
def flat (l : List Int) : List UInt8 := l.flatMap fun i => vint (zz i)
def OKl (n : Int) (l : List Int) : Prop := (∀ z ∈ l, 0 ≤ z ∧ z < n) ∧ l.Pairwise (fun a b => a < b)
theorem flat_app (l m : List Int) : flat (l ++ m) = flat l ++ flat m := List.flatMap_append
theorem flat_at (l : List Int) {k : Nat} (h : k < l.length) : flat l = flat (l.take k) ++ (vint (zz (l.getD k default)) ++ flat (l.drop (k + 1))) := by
  have : flat l = flat (l.take k) ++ flat (l.drop k) := by rw [← flat_app, List.take_append_drop]
  rw [this, drop_cons h]
  rfl
theorem OKl.i64 {n : Int} {l : List Int} (h : OKl n l) (hn : n ≤ 64) : ∀ z ∈ l, I64 z := fun z hz => by have := h.1 z hz; unfold I64; omega
end Go.L
namespace Go.Proofs.YtmfiaecglndldaaGreatDoor
open Go Go.L
theorem ritems4 {A T : List UInt8} {n many : Int} {x18 x30 x54 : Int × Int × Bool} {x2 x42 : List UInt8 × Int × Bool} (hl : (A ++ T).length ≤ 1000000) (hn : 0 ≤ n ∧ n ≤ 64) (hm : x54.1 = many) (h64 : many ≤ 64) :
    ∀ (d k : Nat) (l0 : List Int) (T' : List UInt8), (k : Int) + d = many → l0.length = k → OKl n l0 → T = flat l0 ++ T' →
      ∃ r, Go.L.run (ref4_leafAt_bl7 (A ++ T) n x54 x2 x18 x30 x42) (l0, ((A.length + (flat l0).length : Nat) : Int), (k : Int)) = some r ∧
        ((∃ l C, (l.length : Int) = many ∧ OKl n l ∧ T = flat l ++ C ∧ r = ((x2.1, x18.1, x30.1, x42.1), l, ((A.length + (flat l).length : Nat) : Int), true)) ∨ (r.2.2.2 = false ∧ ∀ l C, (l.length : Int) = many → OKl n l → T ≠ flat l ++ C))
  | 0, k, l0, T', hk, hlen, hok, hT => by
    refine ⟨((x2.1, x18.1, x30.1, x42.1), l0, ((A.length + (flat l0).length : Nat) : Int), true), run_inr (m := some _) ?_, .inl ⟨l0, T', by omega, hok, hT, rfl⟩⟩;unfold ref4_leafAt_bl7 ref4_leafAt_k6;dsimp only;rw [if_neg (by omega)]
  | d + 1, k, l0, T', hk, hlen, hok, hT => by
    have hcat : A ++ T = (A ++ flat l0) ++ T' := by rw [hT, List.append_assoc]
    have hpre : ∀ (l : List Int) (C : List UInt8), (l.length : Int) = many → OKl n l → T = flat l ++ C → l0 = l.take k ∧ T' = vint (zz (l.getD k default)) ++ (flat (l.drop (k + 1)) ++ C) := fun l C h1 h2 h3 => by
      rw [flat_at l (k := k) (by omega), hT, List.append_assoc, List.append_assoc] at h3;exact list_uniq (by rw [List.length_take]; omega) (hok.i64 hn.2) (fun z hz => h2.i64 hn.2 z (List.mem_of_mem_take hz)) h3
    obtain ⟨r, h1, h2⟩ := rnum4 (A := A ++ flat l0) (T := T') (by rw [← hcat]; exact hl);rw [← hcat, List.length_append] at h1
    have fail : ∀ (hb : ref4_leafAt_bl7 (A ++ T) n x54 x2 x18 x30 x42 (l0, ((A.length + (flat l0).length : Nat) : Int), (k : Int)) = some (Sum.inr ((([] : List UInt8), (0 : Int), (0 : Int), ([] : List UInt8)), [], (0 : Int), false))) (hno : ∀ l C, (l.length : Int) = many → OKl n l → T ≠ flat l ++ C),
        ∃ r, Go.L.run (ref4_leafAt_bl7 (A ++ T) n x54 x2 x18 x30 x42) (l0, ((A.length + (flat l0).length : Nat) : Int), (k : Int)) = some r ∧
        ((∃ l C, (l.length : Int) = many ∧ OKl n l ∧ T = flat l ++ C ∧ r = ((x2.1, x18.1, x30.1, x42.1), l, ((A.length + (flat l).length : Nat) : Int), true)) ∨ (r.2.2.2 = false ∧ ∀ l C, (l.length : Int) = many → OKl n l → T ≠ flat l ++ C)) := fun hb hno =>
      ⟨_, run_inr (m := some _) hb, .inr ⟨rfl, hno⟩⟩
    rcases h2 with ⟨z, C, hz, hC, rfl⟩ | ⟨hf, hno⟩
    · have hC' : T' = vint (zz z) ++ C := hC
      have hz' : ∀ (l : List Int) (C : List UInt8), (l.length : Int) = many → OKl n l → T = flat l ++ C → l0 = l.take k ∧ z = l.getD k default := fun l C2 g1 g2 g3 => by
        obtain ⟨q1, q2⟩ := hpre l C2 g1 g2 g3;rw [hC'] at q2;exact ⟨q1, (num_uniq hz (g2.i64 hn.2 _ (getD_mem (by omega))) q2).1⟩
      by_cases hin : 0 ≤ z ∧ z ≤ n - 1
      · by_cases hord : 0 < k → l0.getD (k - 1) default < z
        · have hstep : ref4_leafAt_bl7 (A ++ T) n x54 x2 x18 x30 x42 (l0, ((A.length + (flat l0).length : Nat) : Int), (k : Int)) = some (Sum.inl (l0 ++ [z], ((A.length + (flat (l0 ++ [z])).length : Nat) : Int), ((k + 1 : Nat) : Int))) := by
            unfold ref4_leafAt_bl7 ref3_In;dsimp only;have hfl : flat (l0 ++ [z]) = flat l0 ++ vint (zz z) := by rw [flat_app]; unfold flat; simp
            have hpos : (((A ++ flat l0).length + (vint (zz z)).length : Nat) : Int) = ((A.length + (flat (l0 ++ [z])).length : Nat) : Int) := by
              rw [hfl, List.length_append, List.length_append];omega
            rw [if_pos (by omega), h1, Option.bind_some];dsimp only;rw [if_neg (by decide), chk_pos (by unfold I64; omega), Option.bind_some, decide_eq_true hin, if_neg (by decide)];have hcap : Go.E.Cap 8 (l0.length + ([z]).length) := by unfold Go.E.Cap; simp; omega
            by_cases h0 : 0 < k
            · have := hord h0;rw [if_pos (by omega), chk_pos (by unfold I64; omega), chk_pos (by omega), show ((k : Int) - 1).toNat = k - 1 by omega, if_neg (by omega), chk_pos hcap, chk_pos (by unfold I64; omega)];exact congrArg (fun p => some (Sum.inl (l0 ++ [z], p, (k : Int) + 1))) hpos
            · rw [if_neg (by omega), chk_pos hcap, chk_pos (by unfold I64; omega)];exact congrArg (fun p => some (Sum.inl (l0 ++ [z], p, (k : Int) + 1))) hpos
          rw [run_inl hstep];refine ritems4 hl hn hm h64 d (k + 1) (l0 ++ [z]) C (by omega) (by simp; omega) ⟨fun y hy => ?_, List.pairwise_append.2 ⟨hok.2, List.pairwise_singleton _ _, fun y hy x hx => ?_⟩⟩ ?_
          · rcases List.mem_append.1 hy with h | h
            · exact hok.1 y h
            · rw [List.mem_singleton] at h; subst h; omega
          · rw [List.mem_singleton] at hx;subst hx;obtain ⟨j, hj, rfl⟩ := List.getElem_of_mem hy;have hlast := hord (by omega)
            by_cases hjk : j = k - 1
            · subst hjk
              simpa [List.getD_eq_getElem?_getD, List.getElem?_eq_getElem hj] using hlast
            · have := List.pairwise_iff_getElem.1 hok.2 j (k - 1) hj (by omega) (by omega);have e : l0.getD (k - 1) default = l0[k - 1] := by simp [List.getD_eq_getElem?_getD, List.getElem?_eq_getElem (show k - 1 < l0.length by omega)]
              rw [e] at hlast;omega
          · rw [flat_app, hT, hC'];unfold flat;simp
        · have h0 : 0 < k := by
            rcases Nat.eq_zero_or_pos k with h | h
            · exact absurd (fun h' => by omega) hord
            · exact h
          refine fail ?_ fun l C2 g1 g2 g3 => hord fun _ => ?_
          · unfold ref4_leafAt_bl7 ref3_In;dsimp only;rw [if_pos (by omega), h1, Option.bind_some];dsimp only;have hle : ¬ l0.getD (k - 1) default < z := fun h => hord fun _ => h;rw [if_neg (by decide), chk_pos (by unfold I64; omega), Option.bind_some, decide_eq_true hin, if_neg (by decide), if_pos (by omega), chk_pos (by unfold I64; omega), chk_pos (by omega), show ((k : Int) - 1).toNat = k - 1 by omega, if_pos (by omega)]
            rfl
          · obtain ⟨q1, q2⟩ := hz' l C2 g1 g2 g3;have := List.pairwise_iff_getElem.1 g2.2 (k - 1) k (by omega) (by omega) (by omega);have e1 : l.getD k default = l[k]'(by omega) := by simp [List.getD_eq_getElem?_getD, List.getElem?_eq_getElem (show k < l.length by omega)]
            have e3 : l0.getD (k - 1) default = l.getD (k - 1) default := by
              rw [q1, List.getD_eq_getElem?_getD, List.getElem?_take, if_pos (by omega), List.getD_eq_getElem?_getD]
            have e2 : l.getD (k - 1) default = l[k - 1]'(by omega) := by simp [List.getD_eq_getElem?_getD, List.getElem?_eq_getElem (show k - 1 < l.length by omega)]
            rw [e3, q2, e1, e2];exact this
      · refine fail ?_ fun l C2 g1 g2 g3 => hin ?_
        · unfold ref4_leafAt_bl7 ref3_In;dsimp only;rw [if_pos (by omega), h1, Option.bind_some];dsimp only;rw [if_neg (by decide), chk_pos (by unfold I64; omega), Option.bind_some, decide_eq_false hin, if_pos (show (!false) = true from rfl)]
          rfl
        · obtain ⟨q1, q2⟩ := hz' l C2 g1 g2 g3;have := g2.1 _ (getD_mem (i := k) (by omega));omega
    · refine fail ?_ fun l C2 g1 g2 g3 => ?_
      · unfold ref4_leafAt_bl7;dsimp only;rw [if_pos (by omega), h1, Option.bind_some, if_pos (by rw [hf]; rfl)]
        rfl
      · obtain ⟨q1, q2⟩ := hpre l C2 g1 g2 g3;exact hno _ _ (g2.i64 hn.2 _ (getD_mem (by omega))) q2
/-- The items of a leaf. -/
theorem fin4 {A T : List UInt8} {n : Int} {x18 x30 : Int × Int × Bool} {x2 x42 : List UInt8 × Int × Bool} (hl : (A ++ T).length ≤ 1000000) (hn : 0 ≤ n ∧ n ≤ 64) :
    ∃ r, (Option.bind (ref4_numberAt (A ++ T) (A.length : Int)) (fun x54 => if !x54.2.2 then some ((([] : List UInt8), (0 : Int), (0 : Int), ([] : List UInt8)), [], (0 : Int), false) else Option.bind (ref3_In x54.1 (1 : Int) n) (fun x60 => if !x60 then some ((([] : List UInt8), (0 : Int), (0 : Int), ([] : List UInt8)), [], (0 : Int), false) else (ref4_leafAt_l7 (A ++ T) n x54 x2 x18 x30 x42) (([] : List Int), x54.2.1, (0 : Int))))) = some r ∧
      ((∃ l C, l ≠ [] ∧ OKl n l ∧ T = itemsF l ++ C ∧ r = ((x2.1, x18.1, x30.1, x42.1), l, ((A.length + (itemsF l).length : Nat) : Int), true)) ∨ (r.2.2.2 = false ∧ ∀ l C, l ≠ [] → OKl n l → T ≠ itemsF l ++ C)) := by
  obtain ⟨r, h1, h2⟩ := rnum4 hl;have hol : ∀ l, OKl n l → (l.length : Int) ≤ n := fun l h => by have := inc_len (lo := 0) (n := n) h.2 h.1 hn.1; omega
  rw [h1, Option.bind_some]
  rcases h2 with ⟨z, C, hz, hC, rfl⟩ | ⟨hf, hno⟩
  · have hC' : T = vint (zz z) ++ C := hC;dsimp only;rw [if_neg (by decide)];unfold ref3_In;rw [Option.bind_some]
    have hpre : ∀ (l : List Int) (C2 : List UInt8), OKl n l → T = itemsF l ++ C2 → z = (l.length : Int) ∧ C = flat l ++ C2 := fun l C2 g1 g2 => by
      have := hol l g1;unfold itemsF at g2;rw [hC', List.append_assoc] at g2;exact num_uniq hz (by unfold I64; omega) g2
    by_cases hin : 1 ≤ z ∧ z ≤ n
    · rw [decide_eq_true hin, if_neg (by decide)];obtain ⟨m, rfl⟩ : ∃ m : Nat, z = (m : Int) := ⟨z.toNat, by omega⟩;have hcat : A ++ T = (A ++ vint (zz (m : Int))) ++ C := by rw [hC', List.append_assoc]
      obtain ⟨r, k1, k2⟩ := ritems4 (A := A ++ vint (zz (m : Int))) (T := C) (n := n) (many := (m : Int)) (x18 := x18) (x30 := x30) (x2 := x2) (x42 := x42) (x54 := ((m : Int), ((A.length + (vint (zz (m : Int))).length : Nat) : Int), true)) (by rw [← hcat]; exact hl) hn rfl (by omega) m 0 [] C (by omega) rfl ⟨fun z hz => (by cases hz), .nil⟩ rfl;rw [← hcat, List.length_append] at k1;refine ⟨r, k1, ?_⟩
      rcases k2 with ⟨l, C2, g1, g2, g3, g4⟩ | ⟨g1, g2⟩
      · refine .inl ⟨l, C2, fun h => by rw [h] at g1; simp at g1; omega, g2, ?_, ?_⟩
        · unfold itemsF;rw [hC', g3, g1, List.append_assoc]; rfl
        · rw [g4, List.length_append]
          congr 3
          unfold itemsF;rw [g1, List.length_append]
          show _ = ((A.length + ((vint (zz (m : Int))).length + (flat l).length) : Nat) : Int)
          omega
      · exact .inr ⟨g1, fun l C2 q1 q2 q3 => by
          obtain ⟨s1, s2⟩ := hpre l C2 q2 q3;exact g2 l C2 s1.symm q2 s2⟩
    · rw [decide_eq_false hin, if_pos (show (!false) = true from rfl)];refine ⟨_, rfl, .inr ⟨rfl, fun l C2 q1 q2 q3 => hin ?_⟩⟩;obtain ⟨s1, s2⟩ := hpre l C2 q2 q3;have := hol l q2;have : 0 < l.length := List.length_pos_iff.2 q1;omega
  · rw [if_pos (by rw [hf]; rfl)];refine ⟨_, rfl, .inr ⟨rfl, fun l C2 q1 q2 q3 => ?_⟩⟩;unfold itemsF at q3;rw [List.append_assoc] at q3;have := hol l q2;exact hno (l.length : Int) _ (by unfold I64; omega) q3
end Go.Proofs.YtmfiaecglndldaaGreatDoor
end
section
namespace Go.Proofs.YtmfiaecglndldaaGreatDoor
open Go Go.L
theorem RD.go {α : Type} {F : α → List UInt8} {P : α → Prop} {A T : List UInt8} {r : α × Int × Bool} (h : RD F P A T r) :
    (∃ x A1 T1, P x ∧ T = F x ++ T1 ∧ A1 = A ++ F x ∧ A ++ T = A1 ++ T1 ∧ r = (x, (A1.length : Int), true)) ∨ (r.2.2 = false ∧ ∀ y C, P y → T ≠ F y ++ C) := by
  rcases h with ⟨x, C, h1, h2, h3⟩ | h
  · exact .inl ⟨x, A ++ F x, C, h1, h2, rfl, by rw [h2, List.append_assoc], by rw [h3, List.length_append]⟩
  · exact .inr h
theorem lform_parts (y : En) (C : List UInt8) : lform y ++ C = chunkF y.1.1 ++ (vint (zz y.1.2.1) ++ (vint (zz y.1.2.2.1) ++ (chunkF y.1.2.2.2 ++ (itemsF y.2 ++ C)))) := by
  unfold lform;simp only [List.flatten_cons, List.flatten_nil, List.append_nil, List.append_assoc]
theorem leaf4 {A T : List UInt8} {n : Int} (hl : (A ++ T).length ≤ 1000000) (hn : 0 ≤ n ∧ n ≤ 64) :
    ∃ r, ref4_leafAt (A ++ T) (A.length : Int) n = some r ∧ RD lform (fun e => EV n e ∧ EnS e) A T ((r.1, r.2.1), r.2.2.1, r.2.2.2) := by
  unfold ref4_leafAt ref4_leafAt_k1 ref4_leafAt_k2 ref4_leafAt_k3 ref4_leafAt_k4;have bad : (∀ y C, EV n y ∧ EnS y → T ≠ lform y ++ C) → ∃ r, some ((([] : List UInt8), (0 : Int), (0 : Int), ([] : List UInt8)), ([] : List Int), (0 : Int), false) = some r ∧ RD lform (fun e => EV n e ∧ EnS e) A T ((r.1, r.2.1), r.2.2.1, r.2.2.2) := fun h => ⟨_, rfl, .inr ⟨rfl, h⟩⟩;have hTl : T.length ≤ 1000000 := by rw [List.length_append] at hl; omega
  obtain ⟨r1, h1, g1⟩ := rchunk4 hl;rw [h1, Option.bind_some]
  rcases g1.go with ⟨p, A1, T1, p1, c1, a1, e1, rfl⟩ | ⟨hf, hno⟩
  rotate_left
  · rw [if_pos (by rw [hf]; rfl)];refine bad fun y C hy hC => ?_;rw [lform_parts] at hC;exact hno _ _ (by have := hy.2.1; have := congrArg List.length hC; unfold chunkF at this; simp only [List.length_append] at this; omega) hC
  have s1 : ∀ y C, EV n y ∧ EnS y → T = lform y ++ C → p = y.1.1 ∧ T1 = vint (zz y.1.2.1) ++ (vint (zz y.1.2.2.1) ++ (chunkF y.1.2.2.2 ++ (itemsF y.2 ++ C))) := fun y C hy hC => by
    rw [lform_parts, c1] at hC;exact chunk_uniq (by omega) hy.2.1 hC
  dsimp only;rw [if_neg (by decide)]
  by_cases q1 : 330 < p.length
  · rw [if_pos (by omega)]
    exact bad fun y C hy hC => by
      have := hy.1.path.1;rw [← (s1 y C hy hC).1] at this;omega
  rw [if_neg (by omega), wrong_eq (by omega), Option.bind_some]
  by_cases q2 : 0 ≤ wr false 0 (sl p)
  · rw [if_pos q2]
    exact bad fun y C hy hC => by
      have := hy.1.path.2;rw [← (s1 y C hy hC).1] at this;exact this q2
  rw [if_neg q2];obtain ⟨r2, h2, g2⟩ := rnum4 (A := A1) (T := T1) (by rw [← e1]; exact hl);rw [← e1] at h2;rw [h2, Option.bind_some]
  rcases g2.go with ⟨k, A2, T2, p2, c2, a2, e2, rfl⟩ | ⟨hf, hno⟩
  rotate_left
  · rw [if_pos (by rw [hf]; rfl)];exact bad fun y C hy hC => hno _ _ hy.2.2.1 (s1 y C hy hC).2
  have s2 : ∀ y C, EV n y ∧ EnS y → T = lform y ++ C → k = y.1.2.1 ∧ T2 = vint (zz y.1.2.2.1) ++ (chunkF y.1.2.2.2 ++ (itemsF y.2 ++ C)) := fun y C hy hC => by
    have := (s1 y C hy hC).2;rw [c2] at this;exact num_uniq p2 hy.2.2.1 this
  dsimp only;rw [if_neg (by decide)];unfold ref3_In;rw [Option.bind_some]
  by_cases q3 : 1 ≤ k ∧ k ≤ 4
  rotate_left
  · rw [decide_eq_false q3, if_pos (show (!false) = true from rfl)]
    exact bad fun y C hy hC => by
      have := hy.1.kind;rw [← (s2 y C hy hC).1] at this;exact q3 this
  rw [decide_eq_true q3, if_neg (by decide)];obtain ⟨r3, h3, g3⟩ := rnum4 (A := A2) (T := T2) (by rw [← e2, ← e1]; exact hl);rw [← e2, ← e1] at h3;rw [h3, Option.bind_some]
  rcases g3.go with ⟨m, A3, T3, p3, c3, a3, e3, rfl⟩ | ⟨hf, hno⟩
  rotate_left
  · rw [if_pos (by rw [hf]; rfl)];exact bad fun y C hy hC => hno _ _ hy.2.2.2.1 (s2 y C hy hC).2
  have s3 : ∀ y C, EV n y ∧ EnS y → T = lform y ++ C → m = y.1.2.2.1 ∧ T3 = chunkF y.1.2.2.2 ++ (itemsF y.2 ++ C) := fun y C hy hC => by
    have := (s2 y C hy hC).2;rw [c3] at this;exact num_uniq p3 hy.2.2.2.1 this
  dsimp only;rw [if_neg (by decide)];have hl3 : (A3 ++ T3).length ≤ 1000000 := by rw [← e3, ← e2, ← e1]; exact hl
  obtain ⟨r4, h4, g4⟩ := rchunk4 (A := A3) (T := T3) hl3;rw [← e3, ← e2, ← e1] at h4;rw [h4, Option.bind_some]
  by_cases q4 : k = 1 ∨ m = 0
  rotate_left
  · rw [if_neg (fun h => q4 (.inl h)), if_neg (fun h => q4 (.inr h))]
    exact bad fun y C hy hC => by
      have := hy.1.num;rw [← (s2 y C hy hC).1, ← (s3 y C hy hC).1] at this;exact q4 this.symm
  rcases g4.go with ⟨s, A4, T4, p4, c4, a4, e4, rfl⟩ | ⟨hf, hno⟩
  rotate_left
  · have hb : (!r4.2.2) = true := by rw [hf]; rfl
    have hh := bad fun y C hy hC => by
      have := (s3 y C hy hC).2;exact hno _ _ (by have h5 := congrArg List.length this; unfold chunkF at h5; simp only [List.length_append] at h5 hl3; omega) this
    by_cases q5 : k = 1
    · rw [if_pos q5, if_pos hb]; exact hh
    · rw [if_neg q5, if_pos (q4.resolve_left q5), if_pos hb]; exact hh
  have hs4 : s.length ≤ 1000000 := p4
  have s4 : ∀ y C, EV n y ∧ EnS y → T = lform y ++ C → s = y.1.2.2.2 ∧ T4 = itemsF y.2 ++ C := fun y C hy hC => by
    have := (s3 y C hy hC).2;rw [c4] at this;exact chunk_uniq (by omega) hy.2.2.2.2.1 this
  have hl4 : (A4 ++ T4).length ≤ 1000000 := by rw [← e4]; exact hl3
  obtain ⟨r, h5, g5⟩ := fin4 (A := A4) (T := T4) (n := n) (x18 := (k, (A2.length : Int), true)) (x30 := (m, (A3.length : Int), true)) (x2 := (p, (A1.length : Int), true)) (x42 := (s, (A4.length : Int), true)) hl4 hn;rw [← e4, ← e3, ← e2, ← e1] at h5
  have good : (s = [] ∨ k = 2) → RD lform (fun e => EV n e ∧ EnS e) A T ((r.1, r.2.1), r.2.2.1, r.2.2.2) := fun q6 => by
    rcases g5 with ⟨l, C, w1, w2, w3, rfl⟩ | ⟨w1, w2⟩
    · refine .inl ⟨((p, k, m, s), l), C, ⟨⟨⟨by show p.length ≤ 330; omega, q2⟩, q3, q4.symm, q6, w1, w2.1, w2.2⟩, ?_⟩, ?_, ?_⟩
      · refine ⟨by show p.length ≤ 2000000; omega, p2, p3, by show s.length ≤ 2000000; omega, w2.i64 hn.2, ?_⟩;have := inc_len (lo := 0) (n := n) w2.2 w2.1 hn.1
        show l.length ≤ 1000000
        omega
      · rw [lform_parts, c1, c2, c3, c4, w3]
      · have hlen := congrArg List.length (lform_parts ((p, k, m, s), l) ([] : List UInt8));simp only [List.length_append, List.length_nil] at hlen
        have hA : (A4.length : Int) = ((A.length + (chunkF p).length + (vint (zz k)).length + (vint (zz m)).length + (chunkF s).length : Nat) : Int) := by
          rw [a4, a3, a2, a1]; simp only [List.length_append]
        dsimp only
        congr 2
        omega
    · exact .inr ⟨w1, fun y C hy hC => w2 y.2 C hy.1.ne ⟨hy.1.items, hy.1.inc⟩ (s4 y C hy hC).2⟩
  have nope : ¬ (s = [] ∨ k = 2) → ∀ y C, EV n y ∧ EnS y → T ≠ lform y ++ C := fun q6 y C hy hC => q6 (by
    have := hy.1.text;rw [← (s2 y C hy hC).1, ← (s4 y C hy hC).1] at this;exact this)
  dsimp only
  by_cases q5 : k = 1
  · rw [if_pos q5, if_neg (show ¬ (!true) = true by decide), if_neg (show ¬ k = 2 by omega)]
    by_cases q6 : s = []
    · rw [if_pos q6];exact ⟨r, h5, good (.inl q6)⟩
    · rw [if_neg q6];exact bad (nope fun h => h.elim q6 fun h => by omega)
  · rw [if_neg q5, if_pos (q4.resolve_left q5), if_neg (show ¬ (!true) = true by decide)]
    by_cases q7 : k = 2
    · rw [if_pos q7];exact ⟨r, h5, good (.inr q7)⟩
    · rw [if_neg q7]
      by_cases q6 : s = []
      · rw [if_pos q6];exact ⟨r, h5, good (.inl q6)⟩
      · rw [if_neg q6];exact bad (nope fun h => h.elim q6 q7)
end Go.Proofs.YtmfiaecglndldaaGreatDoor
end
section
namespace Go.Proofs.YtmfiaecglndldaaGreatDoor
open Go Go.L
theorem index_run {A T : List UInt8} {n : Int} {many : Nat} {x1 x11 : Int × Int × Bool} (hl : (A ++ T).length ≤ 1000000) (hn : 0 ≤ n ∧ n ≤ 64) (h1n : x1.1 = n) (hm : x11.1 = (many : Int)) (h64 : many ≤ 1000000) :
    ∀ (d : Nat) (es0 : List En) (T' : List UInt8), es0.length + d = many → (∀ e ∈ es0, EV n e ∧ EnS e) → es0.Pairwise (fun a b => lfCmp a.1 b.1 < 0) → T = es0.flatMap lform ++ T' →
      ∃ r, Go.L.run (ref4_ShapesIndex_bl2 (A ++ T) x1 x11) (es0.map (·.2), es0.map (·.1), ((A.length + (es0.flatMap lform).length : Nat) : Int), (es0.length : Int)) = some r ∧
        ((∃ (es : List En) (C : List UInt8), es.length = many ∧ (∀ e ∈ es, EV n e ∧ EnS e) ∧ es.Pairwise (fun a b => lfCmp a.1 b.1 < 0) ∧ T = es.flatMap lform ++ C ∧ r = (n, es.map (·.1), es.map (·.2), decide (C = []))) ∨
          (r.2.2.2 = false ∧ ∀ (es : List En) (C : List UInt8), es.length = many → (∀ e ∈ es, EV n e ∧ EnS e) → es.Pairwise (fun a b => lfCmp a.1 b.1 < 0) → T ≠ es.flatMap lform ++ C))
  | 0, es0, T', hk, hok, hp, hT => by
    refine ⟨(n, es0.map (·.1), es0.map (·.2), decide (T' = [])), run_inr (m := some _) ?_, .inl ⟨es0, T', by omega, hok, hp, hT, rfl⟩⟩;unfold ref4_ShapesIndex_bl2 ref4_ShapesIndex_k1;dsimp only;rw [if_neg (by omega), h1n]
    have : ((((A.length + (es0.flatMap lform).length : Nat) : Int)) = ((A ++ T).length : Int)) ↔ T' = [] := by
      rw [hT, ← List.length_eq_zero_iff]; simp only [List.length_append]; omega
    rw [decide_eq_decide.2 this]
  | d + 1, es0, T', hk, hok, hp, hT => by
    have hcat : A ++ T = (A ++ es0.flatMap lform) ++ T' := by rw [hT, List.append_assoc]
    have hpre : ∀ (es : List En) (C : List UInt8), es.length = many → (∀ e ∈ es, EV n e ∧ EnS e) → T = es.flatMap lform ++ C → es0 = es.take es0.length ∧ T' = lform (es.getD es0.length default) ++ ((es.drop (es0.length + 1)).flatMap lform ++ C) := fun es C h1 h2 h3 => by
      have e0 : es.flatMap lform = (es.take es0.length).flatMap lform ++ (lform (es.getD es0.length default) ++ (es.drop (es0.length + 1)).flatMap lform) := by
        rw [← List.flatMap_cons, ← drop_cons (by omega), ← List.flatMap_append, List.take_append_drop]
      rw [e0, hT, List.append_assoc, List.append_assoc] at h3;exact forms_uniq (by rw [List.length_take]; omega) (fun e he => (hok e he).2) (fun e he => (h2 e (List.mem_of_mem_take he)).2) h3
    obtain ⟨r, h1, h2⟩ := leaf4 (A := A ++ es0.flatMap lform) (T := T') (by rw [← hcat]; exact hl) hn;rw [← hcat, List.length_append] at h1
    have fail : ∀ (hb : ref4_ShapesIndex_bl2 (A ++ T) x1 x11 (es0.map (·.2), es0.map (·.1), ((A.length + (es0.flatMap lform).length : Nat) : Int), (es0.length : Int)) = some (Sum.inr ((0 : Int), [], [], false))) (hno : ∀ (es : List En) (C : List UInt8), es.length = many → (∀ e ∈ es, EV n e ∧ EnS e) → es.Pairwise (fun a b => lfCmp a.1 b.1 < 0) → T ≠ es.flatMap lform ++ C),
        ∃ r, Go.L.run (ref4_ShapesIndex_bl2 (A ++ T) x1 x11) (es0.map (·.2), es0.map (·.1), ((A.length + (es0.flatMap lform).length : Nat) : Int), (es0.length : Int)) = some r ∧
        ((∃ (es : List En) (C : List UInt8), es.length = many ∧ (∀ e ∈ es, EV n e ∧ EnS e) ∧ es.Pairwise (fun a b => lfCmp a.1 b.1 < 0) ∧ T = es.flatMap lform ++ C ∧ r = (n, es.map (·.1), es.map (·.2), decide (C = []))) ∨
          (r.2.2.2 = false ∧ ∀ (es : List En) (C : List UInt8), es.length = many → (∀ e ∈ es, EV n e ∧ EnS e) → es.Pairwise (fun a b => lfCmp a.1 b.1 < 0) → T ≠ es.flatMap lform ++ C)) := fun hb hno =>
      ⟨_, run_inr (m := some _) hb, .inr ⟨rfl, hno⟩⟩
    rcases h2 with ⟨e, C, hz, hC, hr⟩ | ⟨hf, hno⟩
    · obtain ⟨⟨rp, rk, rm, rs⟩, rl, rpos, rok⟩ := r;have hr1 : ((rp, rk, rm, rs), rl) = e := congrArg Prod.fst hr;have hr2 : rpos = (((A ++ es0.flatMap lform).length + (lform e).length : Nat) : Int) := congrArg (fun x => x.2.1) hr;have hr3 : rok = true := congrArg (fun x => x.2.2) hr;subst hr1;subst hr2;subst hr3
      have hz' : ∀ (es : List En) (C : List UInt8), es.length = many → (∀ e ∈ es, EV n e ∧ EnS e) → T = es.flatMap lform ++ C → es0 = es.take es0.length ∧ ((rp, rk, rm, rs), rl) = es.getD es0.length default := fun es C2 g1 g2 g3 => by
        obtain ⟨q1, q2⟩ := hpre es C2 g1 g2 g3;rw [hC] at q2;exact ⟨q1, (lform_uniq hz.2 (g2 _ (getD_mem (by omega))).2 q2).1⟩
      have hcap1 : Go.E.Cap 48 ((es0.map (·.1)).length + ([((rp, rk, rm, rs) : Lf)]).length) := by unfold Go.E.Cap; simp; omega
      have hcap2 : Go.E.Cap 24 ((es0.map (·.2)).length + ([rl]).length) := by unfold Go.E.Cap; simp; omega
      have hpos : (((A ++ es0.flatMap lform).length + (lform ((rp, rk, rm, rs), rl)).length : Nat) : Int) = ((A.length + ((es0 ++ [((rp, rk, rm, rs), rl)]).flatMap lform).length : Nat) : Int) := by
        rw [List.flatMap_append, List.length_append, List.length_append];simp only [List.flatMap_cons, List.flatMap_nil, List.append_nil];omega
      have hbf : ∀ h0 : 0 < es0.length, ref4_Before (((es0.map (·.1)).getD (es0.length - 1) default).1, ((es0.map (·.1)).getD (es0.length - 1) default).2.1, ((es0.map (·.1)).getD (es0.length - 1) default).2.2.1, ((es0.map (·.1)).getD (es0.length - 1) default).2.2.2) (rp, rk, rm, rs) = some (decide (lfCmp (es0.getD (es0.length - 1) default).1 (rp, rk, rm, rs) < 0)) := fun h0 => by
        have e1 : (es0.map (·.1)).getD (es0.length - 1) default = (es0.getD (es0.length - 1) default).1 := by
          rw [List.getD_eq_getElem?_getD, List.getElem?_map, List.getD_eq_getElem?_getD, List.getElem?_eq_getElem (show es0.length - 1 < es0.length by omega)]; rfl
        rw [e1];exact before_eq _ _
      by_cases hord : 0 < es0.length → lfCmp (es0.getD (es0.length - 1) default).1 (rp, rk, rm, rs) < 0
      · have hstep : ref4_ShapesIndex_bl2 (A ++ T) x1 x11 (es0.map (·.2), es0.map (·.1), ((A.length + (es0.flatMap lform).length : Nat) : Int), (es0.length : Int)) = some (Sum.inl ((es0 ++ [((rp, rk, rm, rs), rl)]).map (·.2), (es0 ++ [((rp, rk, rm, rs), rl)]).map (·.1), ((A.length + ((es0 ++ [((rp, rk, rm, rs), rl)]).flatMap lform).length : Nat) : Int), ((es0 ++ [((rp, rk, rm, rs), rl)]).length : Int))) := by
          unfold ref4_ShapesIndex_bl2;dsimp only;rw [if_pos (by omega), h1n, h1, Option.bind_some];dsimp only;rw [if_neg (by decide)]
          have hfin : (some (Sum.inl (es0.map (·.2) ++ [rl], es0.map (·.1) ++ [((rp, rk, rm, rs) : Lf)], (((A ++ es0.flatMap lform).length + (lform ((rp, rk, rm, rs), rl)).length : Nat) : Int), (es0.length : Int) + 1)) : Option ((List (List Int) × List Lf × Int × Int) ⊕ (Int × List Lf × List (List Int) × Bool))) = some (Sum.inl ((es0 ++ [((rp, rk, rm, rs), rl)]).map (·.2), (es0 ++ [((rp, rk, rm, rs), rl)]).map (·.1), ((A.length + ((es0 ++ [((rp, rk, rm, rs), rl)]).flatMap lform).length : Nat) : Int), ((es0 ++ [((rp, rk, rm, rs), rl)]).length : Int))) := by
            rw [hpos, List.map_append, List.map_append, List.length_append]
            rfl
          by_cases h0 : 0 < es0.length
          · have := hord h0;rw [if_pos (by omega), chk_pos (by unfold I64; omega), chk_pos (by rw [List.length_map]; omega), show ((es0.length : Int) - 1).toNat = es0.length - 1 by omega, hbf h0, Option.bind_some, decide_eq_true this, if_neg (by decide), chk_pos hcap1, chk_pos hcap2, chk_pos (by unfold I64; omega)];exact hfin
          · rw [if_neg (by omega), chk_pos hcap1, chk_pos hcap2, chk_pos (by unfold I64; omega)];exact hfin
        rw [run_inl hstep];refine index_run hl hn h1n hm h64 d (es0 ++ [((rp, rk, rm, rs), rl)]) C (by simp; omega) (fun e he => ?_) (List.pairwise_append.2 ⟨hp, List.pairwise_singleton _ _, fun y hy x hx => ?_⟩) ?_
        · rcases List.mem_append.1 he with h | h
          · exact hok e h
          · rw [List.mem_singleton] at h; subst h; exact hz
        · rw [List.mem_singleton] at hx;subst hx;obtain ⟨j, hj, rfl⟩ := List.getElem_of_mem hy;have hlast := hord (by omega);have e : es0.getD (es0.length - 1) default = es0[es0.length - 1] := by simp [List.getD_eq_getElem?_getD, List.getElem?_eq_getElem (show es0.length - 1 < es0.length by omega)]
          rw [e] at hlast
          by_cases hjk : j = es0.length - 1
          · subst hjk;exact hlast
          · exact ordLf.trans _ _ _ (List.pairwise_iff_getElem.1 hp j (es0.length - 1) hj (by omega) (by omega)) hlast
        · rw [hT, hC, List.flatMap_append];simp
      · have h0 : 0 < es0.length := by
          rcases Nat.eq_zero_or_pos es0.length with h | h
          · exact absurd (fun h' => by omega) hord
          · exact h
        have hnl : ¬ lfCmp (es0.getD (es0.length - 1) default).1 (rp, rk, rm, rs) < 0 := fun h => hord fun _ => h;refine fail ?_ fun es C2 g1 g2 g3 g4 => hnl ?_
        · unfold ref4_ShapesIndex_bl2;dsimp only;rw [if_pos (by omega), h1n, h1, Option.bind_some];dsimp only;rw [if_neg (by decide), if_pos (by omega), chk_pos (by unfold I64; omega), chk_pos (by rw [List.length_map]; omega), show ((es0.length : Int) - 1).toNat = es0.length - 1 by omega, hbf h0, Option.bind_some, decide_eq_false hnl, if_pos (show (!false) = true from rfl)]
          rfl
        · obtain ⟨q1, q2⟩ := hz' es C2 g1 g2 g4;have := List.pairwise_iff_getElem.1 g3 (es0.length - 1) es0.length (by omega) (by omega) (by omega);have e1 : es.getD es0.length default = es[es0.length]'(by omega) := by simp [List.getD_eq_getElem?_getD, List.getElem?_eq_getElem (show es0.length < es.length by omega)]
          have e3 : es0.getD (es0.length - 1) default = es.getD (es0.length - 1) default := by
            have : ∀ k, es0 = es.take k → k - 1 < k → es0.getD (k - 1) default = es.getD (k - 1) default := fun k hk1 hk2 => by
              rw [hk1, List.getD_eq_getElem?_getD, List.getElem?_take, if_pos hk2, List.getD_eq_getElem?_getD]
            exact this _ q1 (by omega)
          have e2 : es.getD (es0.length - 1) default = es[es0.length - 1]'(by omega) := by simp [List.getD_eq_getElem?_getD, List.getElem?_eq_getElem (show es0.length - 1 < es.length by omega)]
          have q3 : (rp, rk, rm, rs) = (es.getD es0.length default).1 := congrArg Prod.fst q2;rw [e3, q3, e1, e2];exact this
    · have hf' : r.2.2.2 = false := hf;refine fail ?_ fun es C2 g1 g2 g3 g4 => ?_
      · unfold ref4_ShapesIndex_bl2;dsimp only;rw [if_pos (by omega), h1n, h1, Option.bind_some, if_pos (by rw [hf']; rfl)]
        rfl
      · obtain ⟨q1, q2⟩ := hpre es C2 g1 g2 g4;exact hno _ _ (g2 _ (getD_mem (by omega))) q2
/-- What the reference reads is the good index, if there is one. -/
theorem index4 {b : List UInt8} (hl : b.length ≤ 16384) : ∃ r, ref4_ShapesIndex b = some r ∧ ((∃ n es, GI n es ∧ iform n es = b ∧ r = (n, es.map (·.1), es.map (·.2), true)) ∨ (r.2.2.2 = false ∧ ∀ n es, GI n es → iform n es ≠ b)) := by
  unfold ref4_ShapesIndex;have bad : (∀ n es, GI n es → iform n es ≠ b) → ∃ r, some ((0 : Int), ([] : List Lf), ([] : List (List Int)), false) = some r ∧ ((∃ n es, GI n es ∧ iform n es = b ∧ r = (n, es.map (·.1), es.map (·.2), true)) ∨ (r.2.2.2 = false ∧ ∀ n es, GI n es → iform n es ≠ b)) := fun h => ⟨_, rfl, .inr ⟨rfl, h⟩⟩;obtain ⟨r1, h1, g1⟩ := rnum4 (A := []) (T := b) (by simp; omega);have h1' : ref4_numberAt b 0 = some r1 := h1;rw [h1', Option.bind_some]
  rcases g1.go with ⟨n, A1, T1, p1, c1, a1, e1, rfl⟩ | ⟨hf, hno⟩
  rotate_left
  · rw [if_pos (by rw [hf]; rfl)];exact bad fun n es hG he => hno n (vint (zz (es.length : Int)) ++ es.flatMap lform) (by have := hG.n0; have := hG.n64; unfold I64; omega) he.symm
  have s1 : ∀ n' es, GI n' es → iform n' es = b → n = n' ∧ T1 = vint (zz (es.length : Int)) ++ es.flatMap lform := fun n' es hG he => by
    have hc : b = vint (zz n) ++ T1 := c1;rw [← he] at hc;exact num_uniq p1 (by have := hG.n0; have := hG.n64; unfold I64; omega) hc.symm
  have e1' : b = A1 ++ T1 := e1;dsimp only;rw [if_neg (by decide)];unfold ref3_In;rw [Option.bind_some]
  by_cases q1 : 0 ≤ n ∧ n ≤ 64
  rotate_left
  · rw [decide_eq_false q1, if_pos (show (!false) = true from rfl)];exact bad fun n' es hG he => q1 (by have := hG.n0; have := hG.n64; rw [(s1 n' es hG he).1]; omega)
  rw [decide_eq_true q1, if_neg (by decide)];obtain ⟨r2, h2, g2⟩ := rnum4 (A := A1) (T := T1) (by rw [← e1']; omega);rw [← e1'] at h2;rw [h2, Option.bind_some]
  rcases g2.go with ⟨k, A2, T2, p2, c2, a2, e2, rfl⟩ | ⟨hf, hno⟩
  rotate_left
  · rw [if_pos (by rw [hf]; rfl)];exact bad fun n' es hG he => hno _ _ (by have := hG.len; unfold I64; omega) (s1 n' es hG he).2
  have s2 : ∀ n' es, GI n' es → iform n' es = b → k = (es.length : Int) ∧ T2 = es.flatMap lform := fun n' es hG he => by
    have := (s1 n' es hG he).2;rw [c2] at this;exact num_uniq p2 (by have := hG.len; unfold I64; omega) this
  have e2' : b = A2 ++ T2 := e1'.trans e2;dsimp only;rw [if_neg (by decide), Option.bind_some]
  by_cases q2 : 0 ≤ k ∧ k ≤ (b.length : Int)
  rotate_left
  · rw [decide_eq_false q2, if_pos (show (!false) = true from rfl)];exact bad fun n' es hG he => q2 (by rw [(s2 n' es hG he).1]; have := iform_count n' es; rw [he] at this; omega)
  rw [decide_eq_true q2, if_neg (by decide)];obtain ⟨many, rfl⟩ : ∃ m : Nat, k = (m : Int) := ⟨k.toNat, by omega⟩;obtain ⟨r, h3, g3⟩ := index_run (A := A2) (T := T2) (n := n) (many := many) (x1 := (n, (A1.length : Int), true)) (x11 := ((many : Int), (A2.length : Int), true)) (by rw [← e2']; omega) q1 rfl rfl (by omega) many [] T2 (by simp) (fun e he => by cases he) .nil rfl;rw [← e2'] at h3;unfold ref4_ShapesIndex_l2;refine ⟨r, h3, ?_⟩
  rcases g3 with ⟨es, C, w1, w2, w3, w4, rfl⟩ | ⟨w1, w2⟩
  · by_cases hC : C = []
    · refine .inl ⟨n, es, ⟨q1.1, q1.2, fun e he => (w2 e he).1, fun e he => (w2 e he).2, by omega, w3⟩, ?_, by rw [decide_eq_true hC]⟩;have hc : b = vint (zz n) ++ T1 := c1;rw [hc, c2, w4, hC, List.append_nil, ← w1]
      rfl
    · refine .inr ⟨decide_eq_false hC, fun n' es' hG he => hC ?_⟩;obtain ⟨z1, z2⟩ := s2 n' es' hG he;have z2' : es.flatMap lform ++ C = es'.flatMap lform ++ [] := by rw [← w4, List.append_nil]; exact z2
      exact (forms_uniq (by omega) (fun e he => (w2 e he).2) hG.sz z2').2
  · refine .inr ⟨w1, fun n' es' hG he => ?_⟩;obtain ⟨z1, z2⟩ := s2 n' es' hG he;have z3 := (s1 n' es' hG he).1;exact w2 es' [] (by omega) (fun e he => ⟨by rw [z3]; exact hG.ev e he, hG.sz e he⟩) hG.inc (by rw [List.append_nil]; exact z2)
end Go.Proofs.YtmfiaecglndldaaGreatDoor
end
section
namespace Go.L
/-- Marks. -/
def Mk (L : List Bool) (n : Nat) (Q : Int → Prop) : Prop := L.length = n ∧ ∀ i : Nat, i < n → (L.getD i default = true ↔ Q i)
theorem Mk.set {L : List Bool} {n : Nat} {Q : Int → Prop} (h : Mk L n Q) {at' : Nat} (ha : at' < n) (c : Bool) : Mk (L.set at' (L.getD at' default || c)) n (fun z => Q z ∨ (c = true ∧ z = (at' : Int))) := by
  refine ⟨by rw [List.length_set]; exact h.1, fun i hi => ?_⟩;rw [List.getD_eq_getElem?_getD, List.getElem?_set]
  by_cases he : at' = i
  · subst he;rw [if_pos rfl, if_pos (by rw [h.1]; exact ha)];have := h.2 at' ha
    show (L.getD at' default || c) = true ↔ _
    rw [Bool.or_eq_true, this];exact ⟨fun h => h.imp id fun h => ⟨h, rfl⟩, fun h => h.imp id fun h => h.1⟩
  · rw [if_neg he, ← List.getD_eq_getElem?_getD, h.2 i hi];exact ⟨.inl, fun h => h.resolve_right fun h => he (by omega)⟩
theorem Mk.iff {L : List Bool} {n : Nat} {Q R : Int → Prop} (h : Mk L n Q) (hq : ∀ i : Nat, i < n → (Q i ↔ R i)) : Mk L n R := ⟨h.1, fun i hi => (h.2 i hi).trans (hq i hi)⟩
/-- The items of the entries for which f holds. -/
def collected (f : (List UInt8 × Int × Int × List UInt8) × List Int → Bool) (es : List ((List UInt8 × Int × Int × List UInt8) × List Int)) : List Int := (es.filter f).flatMap (·.2)
theorem collected_mem {f : (List UInt8 × Int × Int × List UInt8) × List Int → Bool} {es : List ((List UInt8 × Int × Int × List UInt8) × List Int)} {z : Int} : z ∈ collected f es ↔ ∃ e ∈ es, f e = true ∧ z ∈ e.2 := by
  unfold collected;rw [List.mem_flatMap]
  constructor
  · rintro ⟨e, he, hz⟩;obtain ⟨h1, h2⟩ := List.mem_filter.1 he;exact ⟨e, h1, h2, hz⟩
  · rintro ⟨e, h1, h2, hz⟩;exact ⟨e, List.mem_filter.2 ⟨h1, h2⟩, hz⟩
theorem collected_take (f : (List UInt8 × Int × Int × List UInt8) × List Int → Bool) {es : List ((List UInt8 × Int × Int × List UInt8) × List Int)} {i : Nat} (h : i < es.length) : collected f (es.take (i + 1)) = collected f (es.take i) ++ if f (es.getD i default) then (es.getD i default).2 else [] := by
  unfold collected;rw [List.take_add_one, List.getElem?_eq_getElem h, List.filter_append, List.flatMap_append]
  congr 1
  have e : es.getD i default = es[i] := by simp [List.getD_eq_getElem?_getD, List.getElem?_eq_getElem h]
  rw [e];simp only [Option.toList_some, List.filter_cons, List.filter_nil]
  by_cases hf : f es[i] = true
  · simp [hf]
  · simp [hf]
theorem collected_len (f : (List UInt8 × Int × Int × List UInt8) × List Int → Bool) : ∀ {es : List ((List UInt8 × Int × Int × List UInt8) × List Int)}, (∀ e ∈ es, e.2.length ≤ 64) → (collected f es).length ≤ 64 * es.length
  | [], _ => by simp [collected]
  | e :: es, h => by
    have h1 := h e (.head _);have h2 := collected_len f (es := es) fun x hx => h x (.tail _ hx);unfold collected at h2 ⊢;rw [List.filter_cons]
    split
    · rw [List.flatMap_cons, List.length_append, List.length_cons]; omega
    · rw [List.length_cons]; omega
end Go.L
namespace Go.Proofs.YtmfiaecglndldaaGreatDoor
open Go Go.L
/-- What a pattern says of an entry. -/
def pmE (pat : List UInt8) (e : (List UInt8 × Int × Int × List UInt8) × List Int) : Bool := fits (col (sl pat)) (sl e.1.1)
def qmE (pat : List UInt8) (lo hi : Int) (e : (List UInt8 × Int × Int × List UInt8) × List Int) : Bool := pmE pat e && decide (e.1.2.1 = 1 ∧ lo ≤ e.1.2.2.1 ∧ e.1.2.2.1 ≤ hi)
theorem srtI_len (l : List Int) : (Go.E.srtI l).length = l.length := List.length_mergeSort _
theorem collect_eq {n : Int} {es : List En} {pat : List UInt8} (hp : pat.length < 900) (hl : es.length ≤ 1000000) (h64 : ∀ e ∈ es, e.2.length ≤ 64) (hpath : ∀ e ∈ es, e.1.1.length ≤ 330) : shapes_Index_collect (n, es) pat = some (setI (collected (pmE pat) es)) := by
  unfold shapes_Index_collect shapes_Index_collect_l2;refine run_count (fun i => (collected (pmE pat) (es.take i), ((i : Nat) : Int))) es.length (fun i hi => ?_) ?_ 0 (Nat.zero_le _)
  · have hlen := collected_len (pmE pat) (es := es.take i) fun e he => h64 e (List.mem_of_mem_take he);rw [List.length_take] at hlen;have h1 := h64 _ (getD_mem hi);have h2 := hpath _ (getD_mem hi);have hm : shapes_matches pat (es.getD i default).1.1 = some (pmE pat (es.getD i default)) := matches_eq hp (by omega);unfold shapes_Index_collect_bl2 shapes_Index_Find_1;dsimp only;rw [if_pos (by omega), chk_pos (by omega), Int.toNat_natCast, Option.bind_some, if_pos rfl, hm, Option.bind_some, collected_take _ hi]
    by_cases hf : pmE pat (es.getD i default) = true
    · rw [if_pos hf, if_pos hf, chk_pos (by unfold Go.E.Cap; omega), chk_pos (by unfold I64; omega)]
      rfl
    · rw [if_neg hf, if_neg hf, chk_pos (by unfold I64; omega), List.append_nil]
      rfl
  · have hlen := collected_len (pmE pat) h64;unfold shapes_Index_collect_bl2 shapes_Index_collect_k1;dsimp only;rw [if_neg (by omega), List.take_length, chk_pos (by omega), chk_pos (by rw [srtI_len]; omega)]
    rfl
theorem num1_eq (e : En) (lo hi : Int) : shapes_Index_Number_1 e lo hi = some (decide (e.1.2.1 = 1 ∧ lo ≤ e.1.2.2.1 ∧ e.1.2.2.1 ≤ hi), lo, hi) := by
  unfold shapes_Index_Number_1
  by_cases h1 : e.1.2.1 = 1
  · by_cases h2 : lo ≤ e.1.2.2.1
    · rw [if_pos h1, if_pos h2]; simp [h1, h2]
    · rw [if_pos h1, if_neg h2]; simp [h1, h2]
  · rw [if_neg h1]; simp [h1]
theorem collect2_eq {n : Int} {es : List En} {pat : List UInt8} {lo hi : Int} (hp : pat.length < 900) (hl : es.length ≤ 1000000) (h64 : ∀ e ∈ es, e.2.length ≤ 64) (hpath : ∀ e ∈ es, e.1.1.length ≤ 330) : shapes_Index_collect_s2 (n, es) pat lo hi = some (setI (collected (qmE pat lo hi) es), lo, hi) := by
  unfold shapes_Index_collect_s2 shapes_Index_collect_s2_l2;refine run_count (fun i => (collected (qmE pat lo hi) (es.take i), lo, hi, ((i : Nat) : Int))) es.length (fun i hi' => ?_) ?_ 0 (Nat.zero_le _)
  · have hlen := collected_len (qmE pat lo hi) (es := es.take i) fun e he => h64 e (List.mem_of_mem_take he);rw [List.length_take] at hlen;have h1 := h64 _ (getD_mem hi');have h2 := hpath _ (getD_mem hi');have hm : shapes_matches pat (es.getD i default).1.1 = some (pmE pat (es.getD i default)) := matches_eq hp (by omega);have hn : shapes_Index_Number_1 (((es.getD i default).1.1, (es.getD i default).1.2.1, (es.getD i default).1.2.2.1, (es.getD i default).1.2.2.2), (es.getD i default).2) lo hi = _ := num1_eq (es.getD i default) lo hi;unfold shapes_Index_collect_s2_bl2;dsimp only;rw [if_pos (by omega), chk_pos (by omega), Int.toNat_natCast, hn, Option.bind_some, collected_take _ hi'];have hqe : qmE pat lo hi (es.getD i default) = (pmE pat (es.getD i default) && decide ((es.getD i default).1.2.1 = 1 ∧ lo ≤ (es.getD i default).1.2.2.1 ∧ (es.getD i default).1.2.2.1 ≤ hi)) := rfl;rw [hqe]
    by_cases hq : (es.getD i default).1.2.1 = 1 ∧ lo ≤ (es.getD i default).1.2.2.1 ∧ (es.getD i default).1.2.2.1 ≤ hi
    · rw [decide_eq_true hq, if_pos rfl, hm, Option.bind_some, Bool.and_true]
      by_cases hf : pmE pat (es.getD i default) = true
      · rw [if_pos hf, if_pos hf, chk_pos (by unfold Go.E.Cap; omega), chk_pos (by unfold I64; omega)]
        rfl
      · rw [if_neg hf, if_neg hf, chk_pos (by unfold I64; omega), List.append_nil]
        rfl
    · rw [decide_eq_false hq, Bool.and_false, if_neg Bool.false_ne_true, if_neg Bool.false_ne_true, chk_pos (by unfold I64; omega), List.append_nil]
      rfl
  · have hlen := collected_len (qmE pat lo hi) h64;unfold shapes_Index_collect_s2_bl2 shapes_Index_collect_s2_k1;dsimp only;rw [if_neg (by omega), List.take_length, chk_pos (by omega), chk_pos (by rw [srtI_len]; omega)]
    rfl
theorem find_eq {n : Int} {es : List En} {pat : List UInt8} (hp : (pf pat).1 = 0) (hl : es.length ≤ 1000000) (h64 : ∀ e ∈ es, e.2.length ≤ 64) (hpath : ∀ e ∈ es, e.1.1.length ≤ 330) : shapes_Index_Find (n, es) pat = some (setI (collected (pmE pat) es), (0, 0)) := by
  obtain ⟨h1, h2⟩ := pf_zero pat hp;unfold shapes_Index_Find;rw [check_eq, Option.bind_some, h1, if_pos ⟨rfl, rfl⟩, collect_eq (by omega) hl h64 hpath]
  rfl
theorem numb_eq {n : Int} {es : List En} {pat : List UInt8} {lo hi : Int} (hp : (pf pat).1 = 0) (hlo : ¬ hi < lo) (hl : es.length ≤ 1000000) (h64 : ∀ e ∈ es, e.2.length ≤ 64) (hpath : ∀ e ∈ es, e.1.1.length ≤ 330) : shapes_Index_Number (n, es) pat lo hi = some (setI (collected (qmE pat lo hi) es), (0, 0)) := by
  obtain ⟨h1, h2⟩ := pf_zero pat hp;unfold shapes_Index_Number;rw [check_eq, Option.bind_some, h1, if_pos ⟨rfl, rfl⟩, if_neg hlo, collect2_eq (by omega) hl h64 hpath]
  rfl
/-- Marks of a sorted list. -/
theorem marked_eq {a : List Int} {L : List Bool} {n : Nat} {Q : Int → Prop} (hL : Mk L n Q) (hn : n ≤ 1000000) (ha : a.Pairwise (fun x y => x ≤ y ∧ x ≠ y)) (hm : ∀ z, z ∈ a ↔ ∃ i : Nat, i < n ∧ z = (i : Int) ∧ Q z) : law4_marked a L = some true := by
  unfold law4_marked law4_marked_l2
  have key : ∀ (d i : Nat) (a1 a2 : List Int), i + d = n → a = a1 ++ a2 → (∀ z ∈ a1, z < (i : Int)) → (∀ z ∈ a2, (i : Int) ≤ z) → a1.length ≤ i → Go.L.run (law4_marked_bl2 a L) ((a1.length : Int), (i : Int)) = some true := by
    intro d
    induction d with
    | zero =>
      intro i a1 a2 hi hsplit h1 h2 hl
      have : a2 = [] := by
        cases a2 with
        | nil => rfl
        | cons z a2 =>
          obtain ⟨j, hj, hz, _⟩ := (hm z).1 (by rw [hsplit]; simp);have := h2 z (.head _);omega
      subst this;rw [List.append_nil] at hsplit;subst hsplit;refine run_inr (m := some true) ?_;unfold law4_marked_bl2 law4_marked_k1;dsimp only;rw [if_neg (by rw [hL.1]; omega)];simp
    | succ d ih =>
      intro i a1 a2 hi hsplit h1 h2 hl;have hq := hL.2 i (by omega);have hlen : a.length = a1.length + a2.length := by rw [hsplit, List.length_append]
      by_cases hb : L.getD i default = true
      · have hia : (i : Int) ∈ a := (hm _).2 ⟨i, by omega, rfl, hq.1 hb⟩
        have hia2 : (i : Int) ∈ a2 := by
          rw [hsplit] at hia
          rcases List.mem_append.1 hia with h | h
          · have := h1 _ h; omega
          · exact h
        obtain ⟨z, a3, rfl⟩ : ∃ z a3, a2 = z :: a3 := by
          cases a2 with
          | nil => cases hia2
          | cons z a3 => exact ⟨z, a3, rfl⟩
        have hp2 : (z :: a3).Pairwise (fun x y => x ≤ y ∧ x ≠ y) := by rw [hsplit] at ha; exact (List.pairwise_append.1 ha).2.1
        obtain ⟨hz1, hz2⟩ := List.pairwise_cons.1 hp2
        have hzi : z = (i : Int) := by
          have := h2 z (.head _)
          rcases List.mem_cons.1 hia2 with h | h
          · exact h.symm
          · have := (hz1 _ h).1;omega
        have hg : a.getD a1.length default = (i : Int) := by
          rw [hsplit, ← hzi, List.getD_eq_getElem?_getD, List.getElem?_append_right (Nat.le_refl _), Nat.sub_self]; rfl
        rw [List.length_cons] at hlen
        have hstep : law4_marked_bl2 a L ((a1.length : Int), (i : Int)) = some (.inl (((a1 ++ [z]).length : Int), ((i + 1 : Nat) : Int))) := by
          unfold law4_marked_bl2;dsimp only;rw [if_pos (by rw [hL.1]; omega), chk_pos (by rw [hL.1]; omega), Int.toNat_natCast, hb, if_neg (by decide), if_neg (by omega), chk_pos (by omega), Int.toNat_natCast, hg, if_pos rfl, chk_pos (by unfold I64; omega), chk_pos (by unfold I64; omega), List.length_append]
          rfl
        rw [run_inl hstep];refine ih (i + 1) (a1 ++ [z]) a3 (by omega) (by rw [hsplit]; simp) (fun y hy => ?_) (fun y hy => ?_) (by simp; omega)
        · rcases List.mem_append.1 hy with h | h
          · have := h1 y h; omega
          · rw [List.mem_singleton] at h; omega
        · have := hz1 y hy;omega
      · have hia : (i : Int) ∉ a := fun h => by
          obtain ⟨j, _, hj2, hj3⟩ := (hm _).1 h;exact hb (hq.2 hj3)
        have hb' : L.getD i default = false := by simpa using hb
        have hstep : law4_marked_bl2 a L ((a1.length : Int), (i : Int)) = some (.inl ((a1.length : Int), ((i + 1 : Nat) : Int))) := by
          unfold law4_marked_bl2;dsimp only;rw [if_pos (by rw [hL.1]; omega), chk_pos (by rw [hL.1]; omega), Int.toNat_natCast, hb', if_pos (by decide), chk_pos (by unfold I64; omega)]
          rfl
        rw [run_inl hstep];refine ih (i + 1) a1 a2 (by omega) hsplit (fun y hy => by have := h1 y hy; omega) (fun y hy => ?_) (by omega);have h3 := h2 y hy;have h4 : y ≠ (i : Int) := fun e => hia (by rw [hsplit, ← e]; exact List.mem_append_right _ hy);omega
  exact key n 0 [] a (by omega) rfl (fun z hz => by cases hz) (fun z hz => by obtain ⟨j, _, h, _⟩ := (hm z).1 hz; omega) (by simp)
end Go.Proofs.YtmfiaecglndldaaGreatDoor
end
section
namespace Go.Proofs.YtmfiaecglndldaaGreatDoor
open Go Go.E Go.RowKit
set_option maxHeartbeats 1000000
set_option maxRecDepth 10000
open _root_.Go.Proofs.Tryz
noncomputable def law4_ShapesOpenMatchesSpec_k3 (s17_483 : Int) (l612 : List Bool) (l613 : List Bool) : Option (((List Bool) × (List Bool) × Int) ⊕ (Bool)) :=
 Go.L.chk (Go.L.I64 (s17_483 + (1 : Int))) (some (Sum.inl (l612, l613, (s17_483 + (1 : Int)))))
noncomputable def law4_ShapesOpenMatchesSpec_bl4 (a1 : List UInt8) (a2 : Int) (a3 : Int) (s17_483 : Int) (x28 : Int × (List ((List UInt8) × Int × Int × (List UInt8))) × (List (List Int)) × Bool) : (List Bool) × (List Bool) × Int → Option (((List Bool) × (List Bool) × Int) ⊕ (((List Bool) × (List Bool) × Int) ⊕ (Bool))) := fun ⟨l679, l680, s18_681⟩ =>
 Go.L.chk (0 ≤ s17_483 ∧ s17_483 < (x28.2.2.1.length : Int)) (if s18_681 < ((x28.2.2.1.getD s17_483.toNat default).length : Int) then Go.L.chk (0 ≤ s17_483 ∧ s17_483 < (x28.2.2.1.length : Int)) (Go.L.chk (0 ≤ s18_681 ∧ s18_681 < ((x28.2.2.1.getD s17_483.toNat default).length : Int)) (Go.L.chk (0 ≤ s17_483 ∧ s17_483 < (x28.2.1.length : Int)) (Option.bind (ref4_Matches a1 ((x28.2.1.getD s17_483.toNat default).1)) (fun x696 => Go.L.chk (0 ≤ (x28.2.2.1.getD s17_483.toNat default).getD s18_681.toNat default ∧ (x28.2.2.1.getD s17_483.toNat default).getD s18_681.toNat default < (l680.length : Int)) (Go.L.chk (0 ≤ (x28.2.2.1.getD s17_483.toNat default).getD s18_681.toNat default ∧ (x28.2.2.1.getD s17_483.toNat default).getD s18_681.toNat default < (l680.length : Int)) (Go.L.chk (0 ≤ (x28.2.2.1.getD s17_483.toNat default).getD s18_681.toNat default ∧ (x28.2.2.1.getD s17_483.toNat default).getD s18_681.toNat default < (l679.length : Int)) (if l679.getD (((x28.2.2.1.getD s17_483.toNat default).getD s18_681.toNat default).toNat) default then Go.L.chk (0 ≤ (x28.2.2.1.getD s17_483.toNat default).getD s18_681.toNat default ∧ (x28.2.2.1.getD s17_483.toNat default).getD s18_681.toNat default < (l679.length : Int)) (Go.L.chk (Go.L.I64 (s18_681 + (1 : Int))) (some (Sum.inl ((l679.set (((x28.2.2.1.getD s17_483.toNat default).getD s18_681.toNat default).toNat) true), (l680.set (((x28.2.2.1.getD s17_483.toNat default).getD s18_681.toNat default).toNat) (bif l680.getD (((x28.2.2.1.getD s17_483.toNat default).getD s18_681.toNat default).toNat) default then true else x696)), (s18_681 + (1 : Int)))))) else if x696 then Go.L.chk (0 ≤ s17_483 ∧ s17_483 < (x28.2.1.length : Int)) (if (x28.2.1.getD s17_483.toNat default).2.1 = (1 : Int) then Go.L.chk (0 ≤ s17_483 ∧ s17_483 < (x28.2.1.length : Int)) (Option.bind (ref3_In ((x28.2.1.getD s17_483.toNat default).2.2.1) a2 a3) (fun x722 => Go.L.chk (0 ≤ (x28.2.2.1.getD s17_483.toNat default).getD s18_681.toNat default ∧ (x28.2.2.1.getD s17_483.toNat default).getD s18_681.toNat default < (l679.length : Int)) (Go.L.chk (Go.L.I64 (s18_681 + (1 : Int))) (some (Sum.inl ((l679.set (((x28.2.2.1.getD s17_483.toNat default).getD s18_681.toNat default).toNat) x722), (l680.set (((x28.2.2.1.getD s17_483.toNat default).getD s18_681.toNat default).toNat) (bif l680.getD (((x28.2.2.1.getD s17_483.toNat default).getD s18_681.toNat default).toNat) default then true else x696)), (s18_681 + (1 : Int)))))))) else Go.L.chk (0 ≤ (x28.2.2.1.getD s17_483.toNat default).getD s18_681.toNat default ∧ (x28.2.2.1.getD s17_483.toNat default).getD s18_681.toNat default < (l679.length : Int)) (Go.L.chk (Go.L.I64 (s18_681 + (1 : Int))) (some (Sum.inl ((l679.set (((x28.2.2.1.getD s17_483.toNat default).getD s18_681.toNat default).toNat) false), (l680.set (((x28.2.2.1.getD s17_483.toNat default).getD s18_681.toNat default).toNat) (bif l680.getD (((x28.2.2.1.getD s17_483.toNat default).getD s18_681.toNat default).toNat) default then true else x696)), (s18_681 + (1 : Int))))))) else Go.L.chk (0 ≤ (x28.2.2.1.getD s17_483.toNat default).getD s18_681.toNat default ∧ (x28.2.2.1.getD s17_483.toNat default).getD s18_681.toNat default < (l679.length : Int)) (Go.L.chk (Go.L.I64 (s18_681 + (1 : Int))) (some (Sum.inl ((l679.set (((x28.2.2.1.getD s17_483.toNat default).getD s18_681.toNat default).toNat) false), (l680.set (((x28.2.2.1.getD s17_483.toNat default).getD s18_681.toNat default).toNat) (bif l680.getD (((x28.2.2.1.getD s17_483.toNat default).getD s18_681.toNat default).toNat) default then true else x696)), (s18_681 + (1 : Int))))))))))))) else Option.map Sum.inr ((law4_ShapesOpenMatchesSpec_k3 s17_483) l679 l680))
noncomputable def law4_ShapesOpenMatchesSpec_l4 (a1 : List UInt8) (a2 : Int) (a3 : Int) (s17_483 : Int) (x28 : Int × (List ((List UInt8) × Int × Int × (List UInt8))) × (List (List Int)) × Bool) (s : (List Bool) × (List Bool) × Int) : Option (((List Bool) × (List Bool) × Int) ⊕ (Bool)) := Go.L.run (law4_ShapesOpenMatchesSpec_bl4 a1 a2 a3 s17_483 x28) s
noncomputable def law4_ShapesOpenMatchesSpec_k1 (a1 : List UInt8) (a2 : Int) (a3 : Int) (x1 : (Int × (List (((List UInt8) × Int × Int × (List UInt8)) × (List Int)))) × (Int × Int)) (l346 : List Bool) (l347 : List Bool) : Option (Bool) :=
 Option.bind (shapes_Index_Find (x1.1.1, x1.1.2) a1) (fun x745 => Option.bind (shapes_Index_Number (x1.1.1, x1.1.2) a1 a2 a3) (fun x749 => if x745.2.1 = (0 : Int) then if x749.2.1 = (0 : Int) then Option.bind (law4_marked x745.1 l347) (fun x757 => if x757 then Option.bind (law4_marked x749.1 l346) (fun x761 => some (x761)) else some (false)) else some (false) else some (false)))
noncomputable def law4_ShapesOpenMatchesSpec_bl2 (a1 : List UInt8) (a2 : Int) (a3 : Int) (x1 : (Int × (List (((List UInt8) × Int × Int × (List UInt8)) × (List Int)))) × (Int × Int)) (x28 : Int × (List ((List UInt8) × Int × Int × (List UInt8))) × (List (List Int)) × Bool) : (List Bool) × (List Bool) × Int → Option (((List Bool) × (List Bool) × Int) ⊕ (Bool)) := fun ⟨l481, l482, s17_483⟩ =>
 if s17_483 < (x28.2.1.length : Int) then Go.L.chk (0 ≤ s17_483 ∧ s17_483 < (x28.2.1.length : Int)) (Option.bind (ref4_Steps ((x28.2.1.getD s17_483.toNat default).1)) (fun x619 => if (12 : Int) < (x619.length : Int) then Option.map Sum.inr (some (true)) else (law4_ShapesOpenMatchesSpec_l4 a1 a2 a3 s17_483 x28) (l481, l482, (0 : Int)))) else Option.map Sum.inr ((law4_ShapesOpenMatchesSpec_k1 a1 a2 a3 x1) l481 l482)
noncomputable def law4_ShapesOpenMatchesSpec_l2 (a1 : List UInt8) (a2 : Int) (a3 : Int) (x1 : (Int × (List (((List UInt8) × Int × Int × (List UInt8)) × (List Int)))) × (Int × Int)) (x28 : Int × (List ((List UInt8) × Int × Int × (List UInt8))) × (List (List Int)) × Bool) (s : (List Bool) × (List Bool) × Int) : Option (Bool) := Go.L.run (law4_ShapesOpenMatchesSpec_bl2 a1 a2 a3 x1 x28) s
noncomputable def law4_ShapesOpenMatchesSpec (a0 : List UInt8) (a1 : List UInt8) (a2 : Int) (a3 : Int) : Option (Bool) :=
 Option.bind (shapes_Open a0) (fun x1 => Option.bind (law4_shaped) (fun x7 => if !x7 then some (false) else (if (16384 : Int) < (a0.length : Int) then Option.bind (ref3_At (3 : Int) (-1 : Int)) (fun x16 => if x1.2.1 = x16.1 ∧ x1.2.2 = x16.2 then Option.bind (shapes_Index_Items (x1.1.1, x1.1.2)) (fun x20 => some (decide (x20 = (0 : Int)))) else some (false)) else Option.bind (ref4_ShapesIndex a0) (fun x28 => if !x28.2.2.2 then Option.bind (ref3_At (16 : Int) (-1 : Int)) (fun x35 => if x1.2.1 = x35.1 ∧ x1.2.2 = x35.2 then Option.bind (shapes_Index_Items (x1.1.1, x1.1.2)) (fun x39 => some (decide (x39 = (0 : Int)))) else some (false)) else (if x1.2.1 = (0 : Int) then Option.bind (shapes_Index_Items (x1.1.1, x1.1.2)) (fun x55 => if x55 = x28.1 then Option.bind (ref4_PatternFault a1) (fun x65 => if (bif !decide (x65.1 = (0 : Int)) then true else decide (a3 < a2)) then (if x1.2.1 = (0 : Int) then Option.bind (shapes_Index_Items (x1.1.1, x1.1.2)) (fun x71 => some (decide (x71 = x28.1))) else some (false)) else Go.L.chk (0 ≤ x28.1 ∧ ((1 : Nat) : Int) * x28.1 ≤ 281474976710656 ∧ x28.1 ≤ 9223372036854775807) (Go.L.chk (0 ≤ x28.1 ∧ ((1 : Nat) : Int) * x28.1 ≤ 281474976710656 ∧ x28.1 ≤ 9223372036854775807) ((law4_ShapesOpenMatchesSpec_l2 a1 a2 a3 x1 x28) ((List.replicate x28.1.toNat (false : Bool)), (List.replicate x28.1.toNat (false : Bool)), (0 : Int))))) else if x1.2.1 = (0 : Int) then Option.bind (shapes_Index_Items (x1.1.1, x1.1.2)) (fun x61 => some (decide (x61 = x28.1))) else some (false)) else if x1.2.1 = (0 : Int) then Option.bind (shapes_Index_Items (x1.1.1, x1.1.2)) (fun x51 => some (decide (x51 = x28.1))) else some (false))))))
theorem law4_ShapesOpenMatchesSpec_ok (w : World) (H : PH) (hH : Le H (hp w)) {a0 : List UInt8} {a1 : List UInt8} {a2 : Int} {a3 : Int} {v0_0 : Value} (h0_0 : Vec .byte H v0_0 (a0)) {r : Bool} (h : law4_ShapesOpenMatchesSpec a0 a1 a2 a3 = some r) :
  Ok Tryz.prog 8 [v0_0, .string ⟨(a1).toArray⟩, .int .i64 a2, .int .i64 a3] w (fun v w' => Ext w w' ∧ v = .bool r) := by
 refine Ok_enter (n := 200) [(0, v0_0), (1, .string ⟨(a1).toArray⟩), (2, .int .i64 a2), (3, .int .i64 a3)] func8 rfl rfl rfl rfl rfl ?_;have hL := Lcl.start w;refine W_pz 1 rfl ?_;refine W_p 1 rfl ?_;obtain ⟨x1, hb1, h⟩ := Go.L.bind_some h;refine S_callL rfl rfl hL (shapes_Open_ok _ _ (gz_le hH hL) (h0_0.mono (gz_left hH)) hb1) ?_;rintro _ w2 ⟨u2_0, rfl, hR2_0⟩ hx2 hL2 hle2;have hv2_0 := hR2_0.mono (gz_nw hH hL hx2);refine S_pu 3 rfl ?_;refine S_alloc zr47 rfl rfl hL2 ?_;intro w3 b3 hL3 hle3 _;replace hv2_0 := hv2_0.mono (gz_mono hH hle3);refine S_alloc zr23 rfl rfl hL3 ?_;intro w4 b4 hL4 hle4 _;replace hv2_0 := hv2_0.mono (gz_mono hH hle4);refine S_storeBN 1 rfl rfl rfl zr47 hL4 rfl rfl (onc rfl (onc hv2_0.one on0)) ?_;intro w5 hL5 hle5;replace hv2_0 := hv2_0.mono (gz_mono hH hle5);refine S_storeBN 0 rfl rfl rfl zr23 hL5 rfl rfl (onc rfl (onc rfl on0)) ?_;intro w6 hL6 hle6;replace hv2_0 := hv2_0.mono (gz_mono hH hle6);refine S_seqnil ?_;refine W_seq ?_;refine W_seqr ?_;obtain ⟨x7, hb7, h⟩ := Go.L.bind_some h;refine S_callL rfl rfl hL6 (law4_shaped_ok _ _ (gz_le hH hL6) hb7) ?_;rintro _ w8 rfl hx8 hL8 hle8;replace hv2_0 := hv2_0.mono (gz_mono hH hle8);refine S_pz 1 rfl ?_;refine W_cond rfl (fun hc9 => ?_) (fun hc9 => ?_)
 ·replace h := Go.L.ite_t hc9 h;refine W_pz 1 rfl ?_;refine W_ret ?_;refine At_seq_ret ?_;obtain rfl := Option.some.inj h;refine At_body rfl rfl ?_;exact ⟨hL8.ext, rfl⟩
 ·replace h := Go.L.ite_f hc9 h;refine W_skip ?_;refine At_seq ?_;refine W_seq ?_;refine W_p 1 rfl ?_;refine S_v (r_len rfl underlying35 h0_0) rfl ?_;refine S_pz 1 rfl ?_;refine W_if rfl (fun hc12 => ?_) (fun hc12 => ?_)
  ·replace h := Go.L.ite_p hc12 h;refine W_seqd (.q 0 (.q 1 (.q 2 (.q 3 (.q 4 (.q 5 (.q 6 (.q 7 (.q 8 (.tail 9)))))))))) mixed (by kernel_rfl) (fun w14 hx14 => ?_);have hL15 := hL8.call hx14;have hle15 := fz_ext hL8 hx14;replace hv2_0 := hv2_0.mono (gz_mono hH hle15);refine D_v (r_loadBN 0 rfl underlying23 rfl zr23 hL15 rfl) rfl rfl ?_;obtain ⟨x16, hb16, h⟩ := Go.L.bind_some h;refine D_call rfl rfl rfl (fun w17 hx17 => ref3_At_ok _ _ (Le.refl _) hb16) ?_;refine D_v (r_eqA rfl rfl eqg23 (eq23 _ _ _ _ )) rfl rfl ?_;refine D_pu 1 rfl ?_;refine D_split (s := 38) rfl (fun hg18 => ?_) (fun hg18 => ?_)
   ·replace h := Go.L.ite_p (of_decide_eq_true hg18) h;refine D_vg (r_loadBN 1 rfl underlying47 rfl zr47 hL15 rfl) rfl rfl rfl rfl hg18 rfl ?_;obtain ⟨x20, hb20, h⟩ := Go.L.bind_some h;have hok21 := (fun (w21 : World) (hx21 : Ext w14 w21) => shapes_Index_Items_ok w21 _ (Le.refl _) ((hv2_0.mono (gz_le hH hL15)).mono hx21.le) hb20);refine D_callg rfl rfl rfl rfl hg18 rfl rfl hok21 ?_;refine D_vg (RunsAt_pu rfl) rfl rfl rfl rfl hg18 rfl ?_;refine D_v (r_pickT rfl hg18 rfl) rfl rfl ?_;refine D_pu 1 rfl ?_;refine D_tail (fun w22 hx22 => ?_);have hL23 := hL15.call hx22;have hle23 := fz_ext hL15 hx22;replace hv2_0 := hv2_0.mono (gz_mono hH hle23);refine S_seqnil ?_;refine W_ret ?_;refine At_seq_ret ?_;obtain rfl := Option.some.inj h;refine At_body rfl rfl ?_;exact ⟨hL23.ext, rfl⟩
   ·replace h := Go.L.ite_n (of_decide_eq_false hg18) h
    iterate 3 refine D_no rfl rfl rfl rfl hg18 rfl ?_
    refine D_v (r_pickF rfl hg18 rfl) rfl rfl ?_;refine D_pu 1 rfl ?_;refine D_tail (fun w25 hx25 => ?_);have hL26 := hL15.call hx25;have hle26 := fz_ext hL15 hx25;replace hv2_0 := hv2_0.mono (gz_mono hH hle26);refine S_seqnil ?_;refine W_ret ?_;refine At_seq_ret ?_;obtain rfl := Option.some.inj h;refine At_body rfl rfl ?_;exact ⟨hL26.ext, rfl⟩
  ·replace h := Go.L.ite_n hc12 h;refine W_skip ?_;refine At_seq ?_;refine W_p 1 rfl ?_;obtain ⟨x28, hb28, h⟩ := Go.L.bind_some h;refine S_callL rfl rfl hL8 (ref4_ShapesIndex_ok _ _ (gz_le hH hL8) (h0_0.mono (gz_left hH)) hb28) ?_;rintro _ w29 ⟨u29_0, u29_1, rfl, hR29_0, hR29_1⟩ hx29 hL29 hle29;have hv29_0 := hR29_0.vecG hH hL8 hx29;have hv29_1 := hR29_1.vecG hH hL8 hx29;replace hv2_0 := hv2_0.mono (gz_mono hH hle29);refine S_pz 9 rfl ?_;refine W_seq ?_;have hG30 := hL29.rG H;refine W_pz 2 rfl ?_;refine W_cond rfl (fun hc31 => ?_) (fun hc31 => ?_)
   ·replace h := Go.L.ite_t hc31 h;refine W_seqd (.q 0 (.q 1 (.q 2 (.q 3 (.q 4 (.q 5 (.q 6 (.q 7 (.q 8 (.tail 9)))))))))) mixed (by kernel_rfl) (fun w33 hx33 => ?_);have hL34 := hL29.call hx33;have hle34 := fz_ext hL29 hx33;replace hG30 := hG30.trans (gz_mono hH hle34);refine D_v (r_loadBN 0 rfl underlying23 rfl zr23 hL34 rfl) rfl rfl ?_;obtain ⟨x35, hb35, h⟩ := Go.L.bind_some h;refine D_call rfl rfl rfl (fun w36 hx36 => ref3_At_ok _ _ (Le.refl _) hb35) ?_;refine D_v (r_eqA rfl rfl eqg23 (eq23 _ _ _ _ )) rfl rfl ?_;refine D_pu 1 rfl ?_;refine D_split (s := 55) rfl (fun hg37 => ?_) (fun hg37 => ?_)
    ·replace h := Go.L.ite_p (of_decide_eq_true hg37) h;refine D_vg (r_loadBN 1 rfl underlying47 rfl zr47 hL34 rfl) rfl rfl rfl rfl hg37 rfl ?_;obtain ⟨x39, hb39, h⟩ := Go.L.bind_some h;have hok40 := (fun (w40 : World) (hx40 : Ext w33 w40) => shapes_Index_Items_ok w40 _ (Le.refl _) (((hv2_0.mono hG30).mono (gz_le hH hL34)).mono hx40.le) hb39);refine D_callg rfl rfl rfl rfl hg37 rfl rfl hok40 ?_;refine D_vg (RunsAt_pu rfl) rfl rfl rfl rfl hg37 rfl ?_;refine D_v (r_pickT rfl hg37 rfl) rfl rfl ?_;refine D_pu 1 rfl ?_;refine D_tail (fun w41 hx41 => ?_);have hL42 := hL34.call hx41;have hle42 := fz_ext hL34 hx41;replace hG30 := hG30.trans (gz_mono hH hle42);refine S_seqnil ?_;refine W_ret ?_;refine At_seq_ret ?_;obtain rfl := Option.some.inj h;refine At_body rfl rfl ?_;exact ⟨hL42.ext, rfl⟩
    ·replace h := Go.L.ite_n (of_decide_eq_false hg37) h
     iterate 3 refine D_no rfl rfl rfl rfl hg37 rfl ?_
     refine D_v (r_pickF rfl hg37 rfl) rfl rfl ?_;refine D_pu 1 rfl ?_;refine D_tail (fun w44 hx44 => ?_);have hL45 := hL34.call hx44;have hle45 := fz_ext hL34 hx44;replace hG30 := hG30.trans (gz_mono hH hle45);refine S_seqnil ?_;refine W_ret ?_;refine At_seq_ret ?_;obtain rfl := Option.some.inj h;refine At_body rfl rfl ?_;exact ⟨hL45.ext, rfl⟩
   ·replace h := Go.L.ite_f hc31 h;refine W_skip ?_;refine At_seq ?_;refine W_seq ?_;refine W_seqr ?_;refine S_v (r_field rfl underlying23 rfl zr3 (by decide)) rfl ?_;refine S_v (r_loadB1 0 rfl underlying3 rfl hL29 rfl rfl) rfl ?_;refine S_pu 2 rfl ?_;refine S_split (s := 63) rfl (fun hg47 => ?_) (fun hg47 => ?_)
    ·replace h := Go.L.ite_n (not_dec_t hg47) h
     iterate 4 refine S_unwanted rfl rfl hg47 rfl ?_
     refine S_v (r_pickT rfl hg47 rfl) rfl ?_;refine S_pu 1 rfl ?_
     iterate 4 refine S_unwanted rfl rfl rfl rfl ?_
     refine S_v (r_pickT rfl rfl rfl) rfl ?_;refine S_pu 1 rfl ?_
     iterate 3 refine S_unwanted rfl rfl rfl rfl ?_
     refine S_v (r_pickT rfl rfl rfl) rfl ?_;refine S_seqnil ?_;refine W_true rfl ?_;refine W_seqr ?_;refine S_v (r_field rfl underlying23 rfl zr3 (by decide)) rfl ?_;refine S_v (r_loadB1 0 rfl underlying3 rfl hL29 rfl rfl) rfl ?_;refine S_pu 2 rfl ?_;refine S_split (s := 83) rfl (fun hg49 => ?_) (fun hg49 => ?_)
     ·replace h := Go.L.ite_p (of_decide_eq_true hg49) h;refine S_guarded rfl rfl hg49 ?_;refine S_v (r_loadBN 1 rfl underlying47 rfl zr47 hL29 rfl) rfl ?_;refine S_guarded rfl rfl hg49 ?_;obtain ⟨x51, hb51, h⟩ := Go.L.bind_some h;refine S_callL rfl rfl hL29 (shapes_Index_Items_ok (a0 := (x1.1.1, x1.1.2)) _ _ (gz_le hH hL29) (hv2_0.mono hG30) hb51) ?_;rintro _ w52 rfl hx52 hL52 hle52;replace hG30 := hG30.trans (gz_mono hH hle52);refine S_guarded rfl rfl hg49 ?_;refine S_v (RunsAt_pu rfl) rfl ?_;refine S_guarded rfl rfl hg49 ?_;refine S_v (RunsAt_pu rfl) rfl ?_;refine S_v (r_pickT rfl hg49 rfl) rfl ?_;refine S_pz 1 rfl ?_;refine W_ret ?_;refine At_seq_ret ?_;obtain rfl := Option.some.inj h;refine At_body rfl rfl ?_;exact ⟨hL52.ext, rfl⟩
     ·replace h := Go.L.ite_n (of_decide_eq_false hg49) h
      iterate 4 refine S_unwanted rfl rfl hg49 rfl ?_
      refine S_v (r_pickF rfl hg49 rfl) rfl ?_;refine S_pz 1 rfl ?_;refine W_ret ?_;refine At_seq_ret ?_;obtain rfl := Option.some.inj h;refine At_body rfl rfl ?_;exact ⟨hL29.ext, rfl⟩
    ·replace h := Go.L.ite_p (not_dec_f hg47) h;refine S_guarded rfl rfl hg47 ?_;refine S_v (r_loadBN 1 rfl underlying47 rfl zr47 hL29 rfl) rfl ?_;refine S_guarded rfl rfl hg47 ?_;obtain ⟨x55, hb55, h⟩ := Go.L.bind_some h;refine S_callL rfl rfl hL29 (shapes_Index_Items_ok (a0 := (x1.1.1, x1.1.2)) _ _ (gz_le hH hL29) (hv2_0.mono hG30) hb55) ?_;rintro _ w56 rfl hx56 hL56 hle56;replace hG30 := hG30.trans (gz_mono hH hle56);refine S_guarded rfl rfl hg47 ?_;refine S_v (RunsAt_pu rfl) rfl ?_;refine S_guarded rfl rfl hg47 ?_;refine S_v (RunsAt_pu rfl) rfl ?_;refine S_v (r_pickF rfl hg47 rfl) rfl ?_;refine S_pu 1 rfl ?_;refine S_split (s := 69) rfl (fun hg57 => ?_) (fun hg57 => ?_)
     ·replace h := Go.L.ite_n (not_dec_t hg57) h
      iterate 4 refine S_unwanted rfl rfl hg57 rfl ?_
      refine S_v (r_pickT rfl hg57 rfl) rfl ?_;refine S_pu 1 rfl ?_
      iterate 3 refine S_unwanted rfl rfl rfl rfl ?_
      refine S_v (r_pickT rfl rfl rfl) rfl ?_;refine S_seqnil ?_;refine W_true rfl ?_;refine W_seqr ?_;refine S_v (r_field rfl underlying23 rfl zr3 (by decide)) rfl ?_;refine S_v (r_loadB1 0 rfl underlying3 rfl hL56 rfl rfl) rfl ?_;refine S_pu 2 rfl ?_;refine S_split (s := 83) rfl (fun hg59 => ?_) (fun hg59 => ?_)
      ·replace h := Go.L.ite_p (of_decide_eq_true hg59) h;refine S_guarded rfl rfl hg59 ?_;refine S_v (r_loadBN 1 rfl underlying47 rfl zr47 hL56 rfl) rfl ?_;refine S_guarded rfl rfl hg59 ?_;obtain ⟨x61, hb61, h⟩ := Go.L.bind_some h;refine S_callL rfl rfl hL56 (shapes_Index_Items_ok (a0 := (x1.1.1, x1.1.2)) _ _ (gz_le hH hL56) (hv2_0.mono hG30) hb61) ?_;rintro _ w62 rfl hx62 hL62 hle62;replace hG30 := hG30.trans (gz_mono hH hle62);refine S_guarded rfl rfl hg59 ?_;refine S_v (RunsAt_pu rfl) rfl ?_;refine S_guarded rfl rfl hg59 ?_;refine S_v (RunsAt_pu rfl) rfl ?_;refine S_v (r_pickT rfl hg59 rfl) rfl ?_;refine S_pz 1 rfl ?_;refine W_ret ?_;refine At_seq_ret ?_;obtain rfl := Option.some.inj h;refine At_body rfl rfl ?_;exact ⟨hL62.ext, rfl⟩
      ·replace h := Go.L.ite_n (of_decide_eq_false hg59) h
       iterate 4 refine S_unwanted rfl rfl hg59 rfl ?_
       refine S_v (r_pickF rfl hg59 rfl) rfl ?_;refine S_pz 1 rfl ?_;refine W_ret ?_;refine At_seq_ret ?_;obtain rfl := Option.some.inj h;refine At_body rfl rfl ?_;exact ⟨hL56.ext, rfl⟩
     ·replace h := Go.L.ite_p (not_dec_f hg57) h;refine S_guarded rfl rfl hg57 ?_;refine S_v (RunsAt_pu rfl) rfl ?_;refine S_guarded rfl rfl hg57 ?_;obtain ⟨x65, hb65, h⟩ := Go.L.bind_some h;refine S_callL rfl rfl hL56 (ref4_PatternFault_ok _ _ (gz_le hH hL56) hb65) ?_;rintro _ w66 rfl hx66 hL66 hle66;replace hG30 := hG30.trans (gz_mono hH hle66);refine S_guarded rfl rfl hg57 ?_;refine S_v (r_part rfl underlying23 rfl underlying3 rfl rfl) rfl ?_;refine S_guarded rfl rfl hg57 ?_;refine S_v (RunsAt_pu rfl) rfl ?_;refine S_v (r_pickF rfl hg57 rfl) rfl ?_;refine S_pu 1 rfl ?_;refine S_pickF 3 15 rfl rfl rfl rfl rfl rfl rfl ?_;refine S_seqnil ?_;refine W_cond rfl (fun hc67 => ?_) (fun hc67 => ?_)
      ·replace h := Go.L.ite_t hc67 h;refine W_seqr ?_;refine S_v (r_field rfl underlying23 rfl zr3 (by decide)) rfl ?_;refine S_v (r_loadB1 0 rfl underlying3 rfl hL66 rfl rfl) rfl ?_;refine S_pu 2 rfl ?_;refine S_split (s := 83) rfl (fun hg69 => ?_) (fun hg69 => ?_)
       ·replace h := Go.L.ite_p (of_decide_eq_true hg69) h;refine S_guarded rfl rfl hg69 ?_;refine S_v (r_loadBN 1 rfl underlying47 rfl zr47 hL66 rfl) rfl ?_;refine S_guarded rfl rfl hg69 ?_;obtain ⟨x71, hb71, h⟩ := Go.L.bind_some h;refine S_callL rfl rfl hL66 (shapes_Index_Items_ok (a0 := (x1.1.1, x1.1.2)) _ _ (gz_le hH hL66) (hv2_0.mono hG30) hb71) ?_;rintro _ w72 rfl hx72 hL72 hle72;replace hG30 := hG30.trans (gz_mono hH hle72);refine S_guarded rfl rfl hg69 ?_;refine S_v (RunsAt_pu rfl) rfl ?_;refine S_guarded rfl rfl hg69 ?_;refine S_v (RunsAt_pu rfl) rfl ?_;refine S_v (r_pickT rfl hg69 rfl) rfl ?_;refine S_pz 1 rfl ?_;refine W_ret ?_;refine At_seq_ret ?_;obtain rfl := Option.some.inj h;refine At_body rfl rfl ?_;exact ⟨hL72.ext, rfl⟩
       ·replace h := Go.L.ite_n (of_decide_eq_false hg69) h
        iterate 4 refine S_unwanted rfl rfl hg69 rfl ?_
        refine S_v (r_pickF rfl hg69 rfl) rfl ?_;refine S_pz 1 rfl ?_;refine W_ret ?_;refine At_seq_ret ?_;obtain rfl := Option.some.inj h;refine At_body rfl rfl ?_;exact ⟨hL66.ext, rfl⟩
      ·replace h := Go.L.ite_f hc67 h;refine W_skip ?_;refine At_seq ?_;refine W_p 1 rfl ?_;obtain ⟨hk76, h⟩ := Go.L.chk_some h;refine S_makeE (r := .bool) (z := (false : Bool)) rfl rfl rfl underlying71 zr4 rfl (fun _ => rfl) rfl hH hL66 hk76 ?_;intro v75 w75 xs75 hL75 hle75 he75;replace hG30 := hG30.trans (gz_mono hH hle75);refine S_pz 1 rfl ?_;refine W_p 1 rfl ?_;obtain ⟨hk78, h⟩ := Go.L.chk_some h;refine S_makeE (r := .bool) (z := (false : Bool)) rfl rfl rfl underlying71 zr4 rfl (fun _ => rfl) rfl hH hL75 hk78 ?_;intro v77 w77 xs77 hL77 hle77 he77;replace he75 := he75.mono (gz_mono hH hle77);replace hG30 := hG30.trans (gz_mono hH hle77);refine S_pz 1 rfl ?_;refine W_cut (σ := (List Bool) × (List Bool) × (List Value) × (List Value)) (fun ⟨l346, l347, xsl346, xsl347⟩ => [(1, .string ⟨(a1).toArray⟩), (2, .int .i64 a2), (3, .int .i64 a3), (9, .pointer (some ⟨b3, 0, none⟩)), (15, v75), (16, v77)]) (fun ⟨l346, l347, xsl346, xsl347⟩ wr => InO w [.row (v77) 4 1 (l346).length (xsl346), .row (v75) 4 1 (l347).length (xsl347), .box b4 [.int .i64 x1.2.1, .int .i64 x1.2.2] 23, .box b3 [.int .i64 x1.1.1, u2_0] 47] wr fun Oz => Elems .bool (gz H w wr Oz) (l346) (xsl346) ∧ Elems .bool (gz H w wr Oz) (l347) (xsl347) ∧ Vec (.pair (.pair .st (.pair (.int .i64) (.pair (.int .i64) .st))) (.vec (.int .i64))) (gz H w wr Oz) (u2_0) (x1.1.2) ∧ (law4_ShapesOpenMatchesSpec_k1 a1 a2 a3 x1) l346 l347 = some r) ?_ ?_
       ·refine W_pz 1 rfl ?_;refine W_block ?_;obtain ⟨n484, h⟩ := Go.L.run_some h;refine W_loop (σ := (List Bool) × (List Bool) × Int × (List Value) × (List Value) × Nat) (fun ⟨l481, l482, s17_483, xsl481, xsl482, n⟩ => [(1, .string ⟨(a1).toArray⟩), (2, .int .i64 a2), (3, .int .i64 a3), (9, .pointer (some ⟨b3, 0, none⟩)), (12, u29_0), (13, u29_1), (15, v75), (16, v77), (17, .int .i64 s17_483)]) (fun ⟨l481, l482, s17_483, xsl481, xsl482, n⟩ wr => InO w [.row (v77) 4 1 (l481).length (xsl481), .row (v75) 4 1 (l482).length (xsl482), .box b4 [.int .i64 x1.2.1, .int .i64 x1.2.2] 23, .box b3 [.int .i64 x1.1.1, u2_0] 47] wr fun Oz => Vec (.pair .st (.pair (.int .i64) (.pair (.int .i64) .st))) (gz H w wr Oz) (u29_0) (x28.2.1) ∧ Vec (.vec (.int .i64)) (gz H w wr Oz) (u29_1) (x28.2.2.1) ∧ Elems .bool (gz H w wr Oz) (l481) (xsl481) ∧ Elems .bool (gz H w wr Oz) (l482) (xsl482) ∧ Vec (.pair (.pair .st (.pair (.int .i64) (.pair (.int .i64) .st))) (.vec (.int .i64))) (gz H w wr Oz) (u2_0) (x1.1.2) ∧ Go.L.itr (law4_ShapesOpenMatchesSpec_bl2 a1 a2 a3 x1 x28) n (l481, l482, s17_483) = some r) (fun ⟨l481, l482, s17_483, xsl481, xsl482, n⟩ => n) ((List.replicate x28.1.toNat (false : Bool)), (List.replicate x28.1.toNat (false : Bool)), (0 : Int), xs77, xs75, n484) (.cons rfl (.cons rfl (.cons rfl (.cons rfl (.cons rfl (.cons rfl (.cons rfl (.cons rfl (.cons rfl (Sub.nil _)))))))))) ⟨hL77, (hv29_0.mono hG30), (hv29_1.mono hG30), he77, he75, (hv2_0.mono hG30), h⟩ ?_
        rintro ⟨l481, l482, s17_483, xsl481, xsl482, nn484⟩ wr484 ⟨hL484, hf484_0, hf484_1, hel481, hel482, hf484_4, h⟩;obtain ⟨n484, e484, rfl, h, hm484⟩ := Go.L.itr_some h;refine W_seq ?_;have hG486 := hL484.rG H;refine W_p 2 rfl ?_;refine S_v (r_len rfl underlying67 (hf484_0.mono hG486)) rfl ?_;refine S_pz 1 rfl ?_;refine W_if rfl (fun hc487 => ?_) (fun hc487 => ?_)
        ·replace h := Go.L.ite_p hc487 h;refine W_skip ?_;refine At_seq ?_;refine W_cut (σ := (List Bool) × (List Bool) × (List Value) × (List Value)) (fun ⟨l612, l613, xsl612, xsl613⟩ => [(1, .string ⟨(a1).toArray⟩), (2, .int .i64 a2), (3, .int .i64 a3), (9, .pointer (some ⟨b3, 0, none⟩)), (12, u29_0), (13, u29_1), (15, v75), (16, v77), (17, .int .i64 s17_483)]) (fun ⟨l612, l613, xsl612, xsl613⟩ wr => InO w [.row (v77) 4 1 (l612).length (xsl612), .row (v75) 4 1 (l613).length (xsl613), .box b4 [.int .i64 x1.2.1, .int .i64 x1.2.2] 23, .box b3 [.int .i64 x1.1.1, u2_0] 47] wr fun Oz => Vec (.pair .st (.pair (.int .i64) (.pair (.int .i64) .st))) (gz H w wr Oz) (u29_0) (x28.2.1) ∧ Vec (.vec (.int .i64)) (gz H w wr Oz) (u29_1) (x28.2.2.1) ∧ Elems .bool (gz H w wr Oz) (l612) (xsl612) ∧ Elems .bool (gz H w wr Oz) (l613) (xsl613) ∧ Vec (.pair (.pair .st (.pair (.int .i64) (.pair (.int .i64) .st))) (.vec (.int .i64))) (gz H w wr Oz) (u2_0) (x1.1.2) ∧ (law4_ShapesOpenMatchesSpec_k3 s17_483) l612 l613 = some e484) ?_ ?_
         ·refine W_block ?_;refine W_seq ?_;refine W_p 2 rfl ?_;obtain ⟨hk617, h⟩ := Go.L.chk_some h;refine S_index rfl rfl underlying67 zr73 (hf484_0.mono hG486) s17_483.toNat (Int.toNat_of_nonneg hk617.1).symm (idx_lt hk617) rfl ?_;rintro p616 _ ⟨_, _, rfl, rfl, ⟨_, _, rfl, rfl, ⟨_, _, rfl, rfl, rfl⟩⟩⟩ hp616;refine S_v (r_field rfl underlying73 rfl zr9 (by decide)) rfl ?_;have hp618 := hp616.add 0;refine S_v (r_load1 rfl underlying9 rfl hp618 (gz_le hH hL484)) rfl ?_;obtain ⟨x619, hb619, h⟩ := Go.L.bind_some h;refine S_callL rfl rfl hL484 (ref4_Steps_ok _ _ (gz_le hH hL484) hb619) ?_;rintro u620_0 w620 ⟨_, rfl, hR620_0⟩ hx620 hL620 hle620;have hv620_0 := hR620_0.vecG hH hL484 hx620;replace hp616 := hp616.mono (gz_mono hH hle620);replace hp618 := hp618.mono (gz_mono hH hle620);replace hG486 := hG486.trans (gz_mono hH hle620);refine S_v (r_len rfl underlying30 hv620_0) rfl ?_;refine S_pz 1 rfl ?_;refine W_if rfl (fun hc621 => ?_) (fun hc621 => ?_)
          ·replace h := Go.L.ite_p hc621 h;refine W_pz 1 rfl ?_;refine W_ret ?_;refine At_seq_ret ?_;refine At_block_ret ?_;refine At_cut_ret ?_;refine At_loop_ret ?_;replace h := Go.L.Nxt.out h hm484;refine At_block_ret ?_;refine At_cut_ret ?_;obtain rfl := Option.some.inj h;refine At_body rfl rfl ?_;exact ⟨hL620.ext, rfl⟩
          ·replace h := Go.L.ite_n hc621 h;refine W_skip ?_;refine At_seq ?_;refine W_pz 1 rfl ?_;refine W_block ?_;obtain ⟨n682, h⟩ := Go.L.run_some h
           refine W_loop (σ := (List Bool) × (List Bool) × Int × (List Value) × (List Value) × Nat) (fun ⟨l679, l680, s18_681, xsl679, xsl680, n⟩ => [(1, .string ⟨(a1).toArray⟩), (2, .int .i64 a2), (3, .int .i64 a3), (9, .pointer (some ⟨b3, 0, none⟩)), (12, u29_0), (13, u29_1), (15, v75), (16, v77), (17, .int .i64 s17_483), (18, .int .i64 s18_681)]) (fun ⟨l679, l680, s18_681, xsl679, xsl680, n⟩ wr => InO w [.row (v77) 4 1 (l679).length (xsl679), .row (v75) 4 1 (l680).length (xsl680), .box b4 [.int .i64 x1.2.1, .int .i64 x1.2.2] 23, .box b3 [.int .i64 x1.1.1, u2_0] 47] wr fun Oz => Vec (.pair .st (.pair (.int .i64) (.pair (.int .i64) .st))) (gz H w wr Oz) (u29_0) (x28.2.1) ∧ Vec (.vec (.int .i64)) (gz H w wr Oz) (u29_1) (x28.2.2.1) ∧ Elems .bool (gz H w wr Oz) (l679) (xsl679) ∧ Elems .bool (gz H w wr Oz) (l680) (xsl680) ∧ Vec (.pair (.pair .st (.pair (.int .i64) (.pair (.int .i64) .st))) (.vec (.int .i64))) (gz H w wr Oz) (u2_0) (x1.1.2) ∧ Go.L.itr (law4_ShapesOpenMatchesSpec_bl4 a1 a2 a3 s17_483 x28) n (l679, l680, s18_681) = some e484) (fun ⟨l679, l680, s18_681, xsl679, xsl680, n⟩ => n) (l481, l482, (0 : Int), xsl481, xsl482, n682) (.cons rfl (.cons rfl (.cons rfl (.cons rfl (.cons rfl (.cons rfl (.cons rfl (.cons rfl (.cons rfl (.cons rfl (Sub.nil _))))))))))) ⟨hL620, (hf484_0.mono hG486), (hf484_1.mono hG486), (hel481.mono hG486), (hel482.mono hG486), (hf484_4.mono hG486), h⟩ ?_
           rintro ⟨l679, l680, s18_681, xsl679, xsl680, nn682⟩ wr682 ⟨hL682, hf682_0, hf682_1, hel679, hel680, hf682_4, h⟩;obtain ⟨n682, e682, rfl, h, hm682⟩ := Go.L.itr_some h;refine W_seq ?_;have hG684 := hL682.rG H;refine W_p 3 rfl ?_;obtain ⟨hk686, h⟩ := Go.L.chk_some h;refine S_index rfl rfl underlying68 zr52 (hf682_1.mono hG684) s17_483.toNat (Int.toNat_of_nonneg hk686.1).symm (idx_lt hk686) rfl ?_;rintro p685 _ ⟨e685v0, rfl, e685h0⟩ hp685;refine S_v (r_load1 rfl underlying52 rfl hp685 (gz_le hH hL682)) rfl ?_;refine S_v (r_len rfl underlying52 e685h0) rfl ?_;refine S_pz 1 rfl ?_;refine W_if rfl (fun hc687 => ?_) (fun hc687 => ?_)
           ·replace h := Go.L.ite_p hc687 h;refine W_skip ?_;refine At_seq ?_;refine W_seq ?_;refine W_block ?_;refine W_p 2 rfl ?_;obtain ⟨hk690, h⟩ := Go.L.chk_some h;refine S_index rfl rfl underlying68 zr52 (hf682_1.mono hG684) s17_483.toNat (Int.toNat_of_nonneg hk690.1).symm (idx_lt hk690) rfl ?_;rintro p689 _ ⟨e689v0, rfl, e689h0⟩ hp689;refine S_v (r_load1 rfl underlying52 rfl hp689 (gz_le hH hL682)) rfl ?_;refine S_pu 1 rfl ?_;obtain ⟨hk692, h⟩ := Go.L.chk_some h;refine S_index rfl rfl underlying52 zr3 e689h0 s18_681.toNat (Int.toNat_of_nonneg hk692.1).symm (idx_lt hk692) rfl ?_;rintro p691 _ rfl hp691;refine S_v (r_load1 rfl underlying3 rfl hp691 (gz_le hH hL682)) rfl ?_;refine S_pz 1 rfl ?_;refine W_p 3 rfl ?_;obtain ⟨hk694, h⟩ := Go.L.chk_some h;refine S_index rfl rfl underlying67 zr73 (hf682_0.mono hG684) s17_483.toNat (Int.toNat_of_nonneg hk694.1).symm (idx_lt hk694) rfl ?_;rintro p693 _ ⟨_, _, rfl, rfl, ⟨_, _, rfl, rfl, ⟨_, _, rfl, rfl, rfl⟩⟩⟩ hp693;refine S_v (r_field rfl underlying73 rfl zr9 (by decide)) rfl ?_;have hp695 := hp693.add 0;refine S_v (r_load1 rfl underlying9 rfl hp695 (gz_le hH hL682)) rfl ?_;obtain ⟨x696, hb696, h⟩ := Go.L.bind_some h;refine S_callL rfl rfl hL682 (ref4_Matches_ok _ _ (gz_le hH hL682) hb696) ?_;rintro _ w697 rfl hx697 hL697 hle697;replace hp693 := hp693.mono (gz_mono hH hle697);replace hp695 := hp695.mono (gz_mono hH hle697);replace hG684 := hG684.trans (gz_mono hH hle697);refine S_pz 1 rfl ?_;refine W_p 4 rfl ?_
            obtain ⟨hk699, h⟩ := Go.L.chk_some h;refine S_index rfl rfl underlying71 zr4 (hL697.vecN hH (i := 1) rfl (hel680.mono hG684)) (((x28.2.2.1.getD s17_483.toNat default).getD s18_681.toNat default).toNat) (Int.toNat_of_nonneg hk699.1).symm (idx_lt hk699) rfl ?_;rintro p698 _ rfl hp698;refine S_v (r_load1 rfl underlying4 rfl hp698 (Le.refl _)) rfl ?_;refine S_pu 1 rfl ?_;refine S_pickF 1 6 rfl rfl rfl rfl rfl rfl rfl ?_;obtain ⟨hk701, h⟩ := Go.L.chk_some h;refine S_indexR 1 rfl rfl underlying71 zr4 hL697 rfl (((x28.2.2.1.getD s17_483.toNat default).getD s18_681.toNat default).toNat) (Int.toNat_of_nonneg hk701.1).symm (idx_lt hk701) rfl ?_;intro p700 hp700;refine S_storeE (z := (bif l680.getD (((x28.2.2.1.getD s17_483.toNat default).getD s18_681.toNat default).toNat) default then true else x696)) (j := ((x28.2.2.1.getD s17_483.toNat default).getD s18_681.toNat default).toNat) 1 rfl rfl rfl zr4 hH hL697 rfl (hel680.mono hG684) hp700 rfl (idx_lt hk701) rfl ?_;intro w702 xs702 hL702 hle702 he702;replace hG684 := hG684.trans (gz_mono hH hle702);refine S_seqnil ?_;refine W_region ?_;refine S_pu 4 rfl ?_;obtain ⟨hk704, h⟩ := Go.L.chk_some h;refine S_index rfl rfl underlying71 zr4 (hL702.vecN hH (i := 0) rfl (hel679.mono hG684)) (((x28.2.2.1.getD s17_483.toNat default).getD s18_681.toNat default).toNat) (Int.toNat_of_nonneg hk704.1).symm (idx_lt hk704) rfl ?_;rintro p703 _ rfl hp703;refine S_v (r_load1 rfl underlying4 rfl hp703 (Le.refl _)) rfl ?_;refine S_pu 1 rfl ?_
            refine S_split (s := 146) rfl (fun hg705 => ?_) (fun hg705 => ?_)
            ·replace h := Go.L.ite_t hg705 h
             iterate 2 refine S_unwanted rfl rfl hg705 rfl ?_
             iterate 6 refine S_unwanted2 rfl rfl rfl ?_
             iterate 2 refine S_unwanted rfl rfl hg705 rfl ?_
             iterate 8 refine S_unwanted2 rfl rfl rfl ?_
             refine S_unwanted rfl rfl hg705 rfl ?_;refine S_v (r_pickT rfl hg705 rfl) rfl ?_;obtain ⟨hk708, h⟩ := Go.L.chk_some h;refine S_indexR 0 rfl rfl underlying71 zr4 hL702 rfl (((x28.2.2.1.getD s17_483.toNat default).getD s18_681.toNat default).toNat) (Int.toNat_of_nonneg hk708.1).symm (idx_lt hk708) rfl ?_;intro p707 hp707;refine S_storeE (z := true) (j := ((x28.2.2.1.getD s17_483.toNat default).getD s18_681.toNat default).toNat) 0 rfl rfl rfl zr4 hH hL702 rfl (hel679.mono hG684) hp707 rfl (idx_lt hk708) rfl ?_;intro w709 xs709 hL709 hle709 he709;replace he702 := he702.mono (gz_mono hH hle709);replace hG684 := hG684.trans (gz_mono hH hle709);refine S_nil ?_;refine At_block ?_;refine At_seq ?_;refine W_region ?_;refine S_pu 1 rfl ?_;obtain ⟨hk710, h⟩ := Go.L.chk_some h;refine S_v (r_ar64 rfl rfl rfl hk710) rfl ?_;refine S_pu 1 rfl ?_;refine S_nil ?_;have h := Go.L.Nxt.again h hm682
             refine At_round ((l679.set (((x28.2.2.1.getD s17_483.toNat default).getD s18_681.toNat default).toNat) true), (l680.set (((x28.2.2.1.getD s17_483.toNat default).getD s18_681.toNat default).toNat) (bif l680.getD (((x28.2.2.1.getD s17_483.toNat default).getD s18_681.toNat default).toNat) default then true else x696)), (s18_681 + (1 : Int)), xs709, xs702, n682) (.cons rfl (.cons rfl (.cons rfl (.cons rfl (.cons rfl (.cons rfl (.cons rfl (.cons rfl (.cons rfl (.cons rfl (Sub.nil _))))))))))) ⟨hL709, (hf682_0.mono hG684), (hf682_1.mono hG684), he709, he702, (hf682_4.mono hG684), h⟩ (Nat.lt_succ_self _)
            ·replace h := Go.L.ite_f hg705 h;refine S_guarded rfl rfl hg705 ?_;refine S_v (RunsAt_pu rfl) rfl ?_;refine S_guarded rfl rfl hg705 ?_;refine S_v (RunsAt_pu rfl) rfl ?_;refine S_split (s := 148) rfl (fun hg712 => ?_) (fun hg712 => ?_)
             ·replace h := Go.L.ite_t hg712 h;refine S_guarded rfl rfl hg712 ?_;refine S_v (RunsAt_pu rfl) rfl ?_;refine S_guarded rfl rfl hg712 ?_;refine S_v (RunsAt_pu rfl) rfl ?_;refine S_guarded rfl rfl hg712 ?_;obtain ⟨hk715, h⟩ := Go.L.chk_some h;refine S_index rfl rfl underlying67 zr73 (hf682_0.mono hG684) s17_483.toNat (Int.toNat_of_nonneg hk715.1).symm (idx_lt hk715) rfl ?_;rintro p714 _ ⟨_, _, rfl, rfl, ⟨_, _, rfl, rfl, ⟨_, _, rfl, rfl, rfl⟩⟩⟩ hp714;refine S_guarded rfl rfl hg712 ?_;refine S_v (r_field rfl underlying73 rfl zr3 (by decide)) rfl ?_;have hp716 := hp714.add 1;refine S_guarded rfl rfl hg712 ?_;refine S_v (r_load1 rfl underlying3 rfl hp716 (gz_le hH hL702)) rfl ?_;refine S_guarded rfl rfl hg712 ?_;refine S_v (RunsAt_pu rfl) rfl ?_;refine S_guarded rfl rfl hg705 ?_;refine S_v (r_pickT rfl hg712 rfl) rfl ?_;refine S_guarded rfl rfl hg705 ?_;refine S_v (RunsAt_pu rfl) rfl ?_;refine S_split (s := 156) rfl (fun hg717 => ?_) (fun hg717 => ?_)
              ·replace h := Go.L.ite_p (of_decide_eq_true hg717) h;refine S_guarded rfl rfl hg717 ?_;refine S_v (RunsAt_pu rfl) rfl ?_;refine S_guarded rfl rfl hg717 ?_;refine S_v (RunsAt_pu rfl) rfl ?_;refine S_guarded rfl rfl hg717 ?_;obtain ⟨hk720, h⟩ := Go.L.chk_some h;refine S_index rfl rfl underlying67 zr73 (hf682_0.mono hG684) s17_483.toNat (Int.toNat_of_nonneg hk720.1).symm (idx_lt hk720) rfl ?_;rintro p719 _ ⟨_, _, rfl, rfl, ⟨_, _, rfl, rfl, ⟨_, _, rfl, rfl, rfl⟩⟩⟩ hp719;refine S_guarded rfl rfl hg717 ?_;refine S_v (r_field rfl underlying73 rfl zr3 (by decide)) rfl ?_;have hp721 := hp719.add 2;refine S_guarded rfl rfl hg717 ?_;refine S_v (r_load1 rfl underlying3 rfl hp721 (gz_le hH hL702)) rfl ?_;refine S_guarded rfl rfl hg717 ?_;refine S_v (RunsAt_pu rfl) rfl ?_;refine S_guarded rfl rfl hg717 ?_;refine S_v (RunsAt_pu rfl) rfl ?_;refine S_guarded rfl rfl hg717 ?_;obtain ⟨x722, hb722, h⟩ := Go.L.bind_some h;refine S_callL rfl rfl hL702 (ref3_In_ok _ _ (gz_le hH hL702) hb722) ?_;rintro _ w723 rfl hx723 hL723 hle723;replace he702 := he702.mono (gz_mono hH hle723);replace hp714 := hp714.mono (gz_mono hH hle723);replace hp716 := hp716.mono (gz_mono hH hle723);replace hp719 := hp719.mono (gz_mono hH hle723);replace hp721 := hp721.mono (gz_mono hH hle723);replace hG684 := hG684.trans (gz_mono hH hle723);refine S_guarded rfl rfl hg705 ?_;refine S_v (r_pickT rfl hg717 rfl) rfl ?_;refine S_v (r_pickF rfl hg705 rfl) rfl ?_;obtain ⟨hk725, h⟩ := Go.L.chk_some h
               refine S_indexR 0 rfl rfl underlying71 zr4 hL723 rfl (((x28.2.2.1.getD s17_483.toNat default).getD s18_681.toNat default).toNat) (Int.toNat_of_nonneg hk725.1).symm (idx_lt hk725) rfl ?_;intro p724 hp724;refine S_storeE (z := x722) (j := ((x28.2.2.1.getD s17_483.toNat default).getD s18_681.toNat default).toNat) 0 rfl rfl rfl zr4 hH hL723 rfl (hel679.mono hG684) hp724 rfl (idx_lt hk725) rfl ?_;intro w726 xs726 hL726 hle726 he726;replace he702 := he702.mono (gz_mono hH hle726);replace hp714 := hp714.mono (gz_mono hH hle726);replace hp716 := hp716.mono (gz_mono hH hle726);replace hp719 := hp719.mono (gz_mono hH hle726);replace hp721 := hp721.mono (gz_mono hH hle726);replace hG684 := hG684.trans (gz_mono hH hle726);refine S_nil ?_;refine At_block ?_;refine At_seq ?_;refine W_region ?_;refine S_pu 1 rfl ?_;obtain ⟨hk727, h⟩ := Go.L.chk_some h;refine S_v (r_ar64 rfl rfl rfl hk727) rfl ?_;refine S_pu 1 rfl ?_;refine S_nil ?_;have h := Go.L.Nxt.again h hm682
               refine At_round ((l679.set (((x28.2.2.1.getD s17_483.toNat default).getD s18_681.toNat default).toNat) x722), (l680.set (((x28.2.2.1.getD s17_483.toNat default).getD s18_681.toNat default).toNat) (bif l680.getD (((x28.2.2.1.getD s17_483.toNat default).getD s18_681.toNat default).toNat) default then true else x696)), (s18_681 + (1 : Int)), xs726, xs702, n682) (.cons rfl (.cons rfl (.cons rfl (.cons rfl (.cons rfl (.cons rfl (.cons rfl (.cons rfl (.cons rfl (.cons rfl (Sub.nil _))))))))))) ⟨hL726, (hf682_0.mono hG684), (hf682_1.mono hG684), he726, he702, (hf682_4.mono hG684), h⟩ (Nat.lt_succ_self _)
              ·replace h := Go.L.ite_n (of_decide_eq_false hg717) h
               iterate 8 refine S_unwanted rfl rfl hg717 rfl ?_
               refine S_guarded rfl rfl hg705 ?_;refine S_v (r_pickF rfl hg717 rfl) rfl ?_;refine S_v (r_pickF rfl hg705 rfl) rfl ?_;obtain ⟨hk730, h⟩ := Go.L.chk_some h;refine S_indexR 0 rfl rfl underlying71 zr4 hL702 rfl (((x28.2.2.1.getD s17_483.toNat default).getD s18_681.toNat default).toNat) (Int.toNat_of_nonneg hk730.1).symm (idx_lt hk730) rfl ?_;intro p729 hp729;refine S_storeE (z := false) (j := ((x28.2.2.1.getD s17_483.toNat default).getD s18_681.toNat default).toNat) 0 rfl rfl rfl zr4 hH hL702 rfl (hel679.mono hG684) hp729 rfl (idx_lt hk730) rfl ?_;intro w731 xs731 hL731 hle731 he731;replace he702 := he702.mono (gz_mono hH hle731);replace hp714 := hp714.mono (gz_mono hH hle731);replace hp716 := hp716.mono (gz_mono hH hle731);replace hG684 := hG684.trans (gz_mono hH hle731);refine S_nil ?_;refine At_block ?_;refine At_seq ?_;refine W_region ?_;refine S_pu 1 rfl ?_;obtain ⟨hk732, h⟩ := Go.L.chk_some h;refine S_v (r_ar64 rfl rfl rfl hk732) rfl ?_;refine S_pu 1 rfl ?_;refine S_nil ?_;have h := Go.L.Nxt.again h hm682
               refine At_round ((l679.set (((x28.2.2.1.getD s17_483.toNat default).getD s18_681.toNat default).toNat) false), (l680.set (((x28.2.2.1.getD s17_483.toNat default).getD s18_681.toNat default).toNat) (bif l680.getD (((x28.2.2.1.getD s17_483.toNat default).getD s18_681.toNat default).toNat) default then true else x696)), (s18_681 + (1 : Int)), xs731, xs702, n682) (.cons rfl (.cons rfl (.cons rfl (.cons rfl (.cons rfl (.cons rfl (.cons rfl (.cons rfl (.cons rfl (.cons rfl (Sub.nil _))))))))))) ⟨hL731, (hf682_0.mono hG684), (hf682_1.mono hG684), he731, he702, (hf682_4.mono hG684), h⟩ (Nat.lt_succ_self _)
             ·replace h := Go.L.ite_f hg712 h
              iterate 6 refine S_unwanted rfl rfl hg712 rfl ?_
              refine S_guarded rfl rfl hg705 ?_;refine S_v (r_pickF rfl hg712 rfl) rfl ?_;refine S_guarded rfl rfl hg705 ?_;refine S_v (RunsAt_pu rfl) rfl ?_
              iterate 8 refine S_unwanted rfl rfl rfl rfl ?_
              refine S_guarded rfl rfl hg705 ?_;refine S_v (r_pickF rfl rfl rfl) rfl ?_;refine S_v (r_pickF rfl hg705 rfl) rfl ?_;obtain ⟨hk735, h⟩ := Go.L.chk_some h;refine S_indexR 0 rfl rfl underlying71 zr4 hL702 rfl (((x28.2.2.1.getD s17_483.toNat default).getD s18_681.toNat default).toNat) (Int.toNat_of_nonneg hk735.1).symm (idx_lt hk735) rfl ?_;intro p734 hp734;refine S_storeE (z := false) (j := ((x28.2.2.1.getD s17_483.toNat default).getD s18_681.toNat default).toNat) 0 rfl rfl rfl zr4 hH hL702 rfl (hel679.mono hG684) hp734 rfl (idx_lt hk735) rfl ?_;intro w736 xs736 hL736 hle736 he736;replace he702 := he702.mono (gz_mono hH hle736);replace hG684 := hG684.trans (gz_mono hH hle736);refine S_nil ?_;refine At_block ?_;refine At_seq ?_;refine W_region ?_;refine S_pu 1 rfl ?_;obtain ⟨hk737, h⟩ := Go.L.chk_some h;refine S_v (r_ar64 rfl rfl rfl hk737) rfl ?_;refine S_pu 1 rfl ?_;refine S_nil ?_;have h := Go.L.Nxt.again h hm682
              refine At_round ((l679.set (((x28.2.2.1.getD s17_483.toNat default).getD s18_681.toNat default).toNat) false), (l680.set (((x28.2.2.1.getD s17_483.toNat default).getD s18_681.toNat default).toNat) (bif l680.getD (((x28.2.2.1.getD s17_483.toNat default).getD s18_681.toNat default).toNat) default then true else x696)), (s18_681 + (1 : Int)), xs736, xs702, n682) (.cons rfl (.cons rfl (.cons rfl (.cons rfl (.cons rfl (.cons rfl (.cons rfl (.cons rfl (.cons rfl (.cons rfl (Sub.nil _))))))))))) ⟨hL736, (hf682_0.mono hG684), (hf682_1.mono hG684), he736, he702, (hf682_4.mono hG684), h⟩ (Nat.lt_succ_self _)
           ·replace h := Go.L.ite_n hc687 h;refine W_exit ?_;refine At_seq_exit ?_;refine At_loop_exit ?_;replace h := Go.L.Nxt.out h hm682;refine At_exit ?_;refine At_block ?_;refine At_cut (l679, l680, xsl679, xsl680) (.cons rfl (.cons rfl (.cons rfl (.cons rfl (.cons rfl (.cons rfl (.cons rfl (.cons rfl (.cons rfl (Sub.nil _)))))))))) ⟨hL682, (hf682_0.mono hG684), (hf682_1.mono hG684), (hel679.mono hG684), (hel680.mono hG684), (hf682_4.mono hG684), h⟩
         ·rintro ⟨l612, l613, xsl612, xsl613⟩ wr614 ⟨hL614, hf614_0, hf614_1, hel612, hel613, hf614_4, h⟩;have hG740 := hL614.rG H;refine W_region ?_;refine S_pu 1 rfl ?_;obtain ⟨hk741, h⟩ := Go.L.chk_some h;refine S_v (r_ar64 rfl rfl rfl hk741) rfl ?_;refine S_pu 1 rfl ?_;refine S_nil ?_;have h := Go.L.Nxt.again h hm484;refine At_round (l612, l613, (s17_483 + (1 : Int)), xsl612, xsl613, n484) (.cons rfl (.cons rfl (.cons rfl (.cons rfl (.cons rfl (.cons rfl (.cons rfl (.cons rfl (.cons rfl (Sub.nil _)))))))))) ⟨hL614, (hf614_0.mono hG740), (hf614_1.mono hG740), (hel612.mono hG740), (hel613.mono hG740), (hf614_4.mono hG740), h⟩ (Nat.lt_succ_self _)
        ·replace h := Go.L.ite_n hc487 h;refine W_exit ?_;refine At_seq_exit ?_;refine At_loop_exit ?_;replace h := Go.L.Nxt.out h hm484;refine At_exit ?_;refine At_cut (l481, l482, xsl481, xsl482) (.cons rfl (.cons rfl (.cons rfl (.cons rfl (.cons rfl (.cons rfl (Sub.nil _))))))) ⟨hL484, (hel481.mono hG486), (hel482.mono hG486), (hf484_4.mono hG486), h⟩
       ·rintro ⟨l346, l347, xsl346, xsl347⟩ wr348 ⟨hL348, hel346, hel347, hf348_2, h⟩;have hG744 := hL348.rG H;refine W_seqr ?_;refine S_v (r_loadBN 3 rfl underlying47 rfl zr47 hL348 rfl) rfl ?_;refine S_pu 1 rfl ?_;obtain ⟨x745, hb745, h⟩ := Go.L.bind_some h;refine S_callL rfl rfl hL348 (shapes_Index_Find_ok (a0 := (x1.1.1, x1.1.2)) _ _ (gz_le hH hL348) (hf348_2.mono hG744) hb745) ?_;rintro _ w746 ⟨u746_0, rfl, hR746_0⟩ hx746 hL746 hle746;have hv746_0 := hR746_0.vecG hH hL348 hx746;replace hG744 := hG744.trans (gz_mono hH hle746);refine S_pu 3 rfl ?_;refine S_alloc zr23 rfl rfl hL746 ?_;intro w747 b747 hL747 hle747 _;replace hv746_0 := hv746_0.mono (gz_mono hH hle747);replace hG744 := hG744.trans (gz_mono hH hle747);refine S_pu 1 rfl ?_;refine S_storeBN 0 rfl rfl rfl zr23 hL747 rfl rfl (onc rfl (onc rfl on0)) ?_;intro w748 hL748 hle748;replace hv746_0 := hv746_0.mono (gz_mono hH hle748);replace hG744 := hG744.trans (gz_mono hH hle748);refine S_seqnil ?_;refine W_seqr ?_;refine S_v (r_loadBN 4 rfl underlying47 rfl zr47 hL748 rfl) rfl ?_;refine S_pu 3 rfl ?_;obtain ⟨x749, hb749, h⟩ := Go.L.bind_some h;refine S_callL rfl rfl hL748 (shapes_Index_Number_ok (a0 := (x1.1.1, x1.1.2)) _ _ (gz_le hH hL748) (hf348_2.mono hG744) hb749) ?_;rintro _ w750 ⟨u750_0, rfl, hR750_0⟩ hx750 hL750 hle750;have hv750_0 := hR750_0.vecG hH hL748 hx750;replace hv746_0 := hv746_0.mono (gz_mono hH hle750);replace hG744 := hG744.trans (gz_mono hH hle750);refine S_pu 3 rfl ?_
        refine S_alloc zr23 rfl rfl hL750 ?_;intro w751 b751 hL751 hle751 _;replace hv746_0 := hv746_0.mono (gz_mono hH hle751);replace hv750_0 := hv750_0.mono (gz_mono hH hle751);replace hG744 := hG744.trans (gz_mono hH hle751);refine S_pu 1 rfl ?_;refine S_storeBN 0 rfl rfl rfl zr23 hL751 rfl rfl (onc rfl (onc rfl on0)) ?_;intro w752 hL752 hle752;replace hv746_0 := hv746_0.mono (gz_mono hH hle752);replace hv750_0 := hv750_0.mono (gz_mono hH hle752);replace hG744 := hG744.trans (gz_mono hH hle752);refine S_seqnil ?_;refine W_seqr ?_;refine S_v (r_field rfl underlying23 rfl zr3 (by decide)) rfl ?_;refine S_v (r_loadB1 1 rfl underlying3 rfl hL752 rfl rfl) rfl ?_;refine S_pu 2 rfl ?_;refine S_split (s := 185) rfl (fun hg753 => ?_) (fun hg753 => ?_)
        ·replace h := Go.L.ite_p (of_decide_eq_true hg753) h;refine S_guarded rfl rfl hg753 ?_;refine S_v (r_field rfl underlying23 rfl zr3 (by decide)) rfl ?_;refine S_guarded rfl rfl hg753 ?_;refine S_v (r_loadB1 0 rfl underlying3 rfl hL752 rfl rfl) rfl ?_;refine S_guarded rfl rfl hg753 ?_;refine S_v (RunsAt_pu rfl) rfl ?_;refine S_v (r_pickT rfl hg753 rfl) rfl ?_;refine S_pu 1 rfl ?_;refine S_split (s := 190) rfl (fun hg755 => ?_) (fun hg755 => ?_)
         ·replace h := Go.L.ite_p (of_decide_eq_true hg755) h;refine S_guarded rfl rfl hg755 ?_;refine S_v (RunsAt_pu rfl) rfl ?_;refine S_guarded rfl rfl hg755 ?_;refine S_v (RunsAt_pu rfl) rfl ?_;refine S_guarded rfl rfl hg755 ?_;obtain ⟨x757, hb757, h⟩ := Go.L.bind_some h;refine S_callL rfl rfl hL752 (law4_marked_ok _ _ (Le.refl _) (hv746_0.mono (gz_le hH hL752)) (hL752.vecN hH (i := 3) rfl (hel347.mono hG744)) hb757) ?_;rintro _ w758 rfl hx758 hL758 hle758;replace hv746_0 := hv746_0.mono (gz_mono hH hle758);replace hv750_0 := hv750_0.mono (gz_mono hH hle758);replace hG744 := hG744.trans (gz_mono hH hle758);refine S_v (r_pickT rfl hg755 rfl) rfl ?_;refine S_pu 1 rfl ?_;refine S_split (s := 195) rfl (fun hg759 => ?_) (fun hg759 => ?_)
          ·replace h := Go.L.ite_t hg759 h;refine S_guarded rfl rfl hg759 ?_;refine S_v (RunsAt_pu rfl) rfl ?_;refine S_guarded rfl rfl hg759 ?_;refine S_v (RunsAt_pu rfl) rfl ?_;refine S_guarded rfl rfl hg759 ?_;obtain ⟨x761, hb761, h⟩ := Go.L.bind_some h;refine S_callL rfl rfl hL758 (law4_marked_ok _ _ (Le.refl _) (hv750_0.mono (gz_le hH hL758)) (hL758.vecN hH (i := 2) rfl (hel346.mono hG744)) hb761) ?_;rintro _ w762 rfl hx762 hL762 hle762;replace hv746_0 := hv746_0.mono (gz_mono hH hle762);replace hv750_0 := hv750_0.mono (gz_mono hH hle762);replace hG744 := hG744.trans (gz_mono hH hle762);refine S_v (r_pickT rfl hg759 rfl) rfl ?_;refine S_pz 1 rfl ?_;refine W_ret ?_;obtain rfl := Option.some.inj h;refine At_body rfl rfl ?_;exact ⟨hL762.ext, rfl⟩
          ·replace h := Go.L.ite_f hg759 h
           iterate 3 refine S_unwanted rfl rfl hg759 rfl ?_
           refine S_v (r_pickF rfl hg759 rfl) rfl ?_;refine S_pz 1 rfl ?_;refine W_ret ?_;obtain rfl := Option.some.inj h;refine At_body rfl rfl ?_;exact ⟨hL758.ext, rfl⟩
         ·replace h := Go.L.ite_n (of_decide_eq_false hg755) h
          iterate 3 refine S_unwanted rfl rfl hg755 rfl ?_
          refine S_v (r_pickF rfl hg755 rfl) rfl ?_;refine S_pu 1 rfl ?_
          iterate 3 refine S_unwanted rfl rfl rfl rfl ?_
          refine S_v (r_pickF rfl rfl rfl) rfl ?_;refine S_pz 1 rfl ?_;refine W_ret ?_;obtain rfl := Option.some.inj h;refine At_body rfl rfl ?_;exact ⟨hL752.ext, rfl⟩
        ·replace h := Go.L.ite_n (of_decide_eq_false hg753) h
         iterate 3 refine S_unwanted rfl rfl hg753 rfl ?_
         refine S_v (r_pickF rfl hg753 rfl) rfl ?_;refine S_pu 1 rfl ?_
         iterate 3 refine S_unwanted rfl rfl rfl rfl ?_
         refine S_v (r_pickF rfl rfl rfl) rfl ?_;refine S_pu 1 rfl ?_
         iterate 3 refine S_unwanted rfl rfl rfl rfl ?_
         refine S_v (r_pickF rfl rfl rfl) rfl ?_;refine S_pz 1 rfl ?_;refine W_ret ?_;obtain rfl := Option.some.inj h;refine At_body rfl rfl ?_;exact ⟨hL752.ext, rfl⟩
end Go.Proofs.YtmfiaecglndldaaGreatDoor
end
section
namespace Go.Proofs.YtmfiaecglndldaaGreatDoor
open Go Go.L
theorem map_at {α β : Type} [Inhabited α] [Inhabited β] (f : α → β) {l : List α} {k : Nat} (h : k < l.length) : (l.map f).getD k default = f (l.getD k default) := by
  rw [List.getD_eq_getElem?_getD, List.getElem?_map, List.getD_eq_getElem?_getD, List.getElem?_eq_getElem h]; rfl
theorem bif_or (x y : Bool) : (bif x then true else y) = (x || y) := by cases x <;> rfl
theorem take_mem {l : List Int} {j : Nat} (h : j < l.length) (z : Int) : z ∈ l.take (j + 1) ↔ z ∈ l.take j ∨ z = l.getD j default := by
  have htk : l.take (j + 1) = l.take j ++ [l.getD j default] := by
    rw [List.take_add_one, List.getElem?_eq_getElem h]; simp only [List.getD_eq_getElem?_getD, List.getElem?_eq_getElem h, Option.toList_some, Option.getD_some]
  rw [htk, List.mem_append, List.mem_singleton]
theorem mark4 {pat : List UInt8} {lo hi n : Int} {es : List En} {k : Nat} (hk : k < es.length) (hG : GI n es) (hp : pat.length < 900) {Q1 Q2 : Int → Prop} :
    ∀ (d j : Nat) (N P : List Bool), j + d = (es.getD k default).2.length → Mk N n.toNat (fun z => Q1 z ∨ (qmE pat lo hi (es.getD k default) = true ∧ z ∈ (es.getD k default).2.take j)) → Mk P n.toNat (fun z => Q2 z ∨ (pmE pat (es.getD k default) = true ∧ z ∈ (es.getD k default).2.take j)) →
      ∃ N' P', Go.L.run (law4_ShapesOpenMatchesSpec_bl4 pat lo hi (k : Int) (n, es.map (·.1), es.map (·.2), true)) (N, P, (j : Int)) = some (.inl (N', P', ((k + 1 : Nat) : Int))) ∧
        Mk N' n.toNat (fun z => Q1 z ∨ (qmE pat lo hi (es.getD k default) = true ∧ z ∈ (es.getD k default).2)) ∧ Mk P' n.toNat (fun z => Q2 z ∨ (pmE pat (es.getD k default) = true ∧ z ∈ (es.getD k default).2)) := by
  have hl := hG.len;have h2 := map_at (fun e : En => e.2) hk;have h1 := map_at (fun e : En => e.1) hk;have hem := getD_mem hk;generalize es.getD k default = e at *;have hsz := (hG.sz e hem).2.2.2.2.2;have hit := (hG.ev e hem).items;have hpl := (hG.ev e hem).path.1;have h64 := hG.n64;intro d
  induction d with
  | zero =>
    intro j N P hj hN hP;rw [List.take_of_length_le (by omega)] at hN hP;refine ⟨N, P, run_inr (m := some (Sum.inl (N, P, ((k + 1 : Nat) : Int)))) ?_, hN, hP⟩;unfold law4_ShapesOpenMatchesSpec_bl4 law4_ShapesOpenMatchesSpec_k3;dsimp only;rw [chk_pos (by rw [List.length_map]; omega), Int.toNat_natCast, h2, if_neg (by omega), chk_pos (by unfold I64; omega)]
    rfl
  | succ d ih =>
    intro j N P hj hN hP;have hjl : j < e.2.length := by omega
    have hz := hit _ (getD_mem hjl);obtain ⟨a, ha⟩ : ∃ a : Nat, e.2.getD j default = (a : Int) := ⟨(e.2.getD j default).toNat, by omega⟩;rw [ha] at hz;have han : a < n.toNat := by omega
    have hm : ref4_Matches pat e.1.1 = some (pmE pat e) := rmatch_eq hp (by omega);have hNl := hN.1;have hPl := hP.1
    have hstep : law4_ShapesOpenMatchesSpec_bl4 pat lo hi (k : Int) (n, es.map (·.1), es.map (·.2), true) (N, P, (j : Int)) = some (.inl (N.set a (N.getD a default || qmE pat lo hi e), P.set a (P.getD a default || pmE pat e), ((j + 1 : Nat) : Int))) := by
      unfold law4_ShapesOpenMatchesSpec_bl4 ref3_In;dsimp only;rw [chk_pos (by rw [List.length_map]; omega), Int.toNat_natCast, h2, if_pos (by omega), chk_pos (by rw [List.length_map]; omega), chk_pos (by omega), chk_pos (by rw [List.length_map]; omega), h1, hm, Option.bind_some, Int.toNat_natCast, ha, chk_pos (by omega), chk_pos (by omega), chk_pos (by omega), Int.toNat_natCast];simp only [bif_or];have hq : qmE pat lo hi e = (pmE pat e && decide (e.1.2.1 = 1 ∧ lo ≤ e.1.2.2.1 ∧ e.1.2.2.1 ≤ hi)) := rfl;rw [hq]
      by_cases c1 : N.getD a default = true
      · rw [if_pos c1, chk_pos (by omega), chk_pos (by unfold I64; omega), c1, Bool.true_or]
        rfl
      · rw [if_neg c1];have c1' : N.getD a default = false := by simpa using c1
        rw [c1', Bool.false_or]
        by_cases c2 : pmE pat e = true
        · rw [if_pos c2, chk_pos (by rw [List.length_map]; omega), c2, Bool.true_and]
          by_cases c3 : e.1.2.1 = 1
          · rw [if_pos c3, chk_pos (by rw [List.length_map]; omega), Option.bind_some, chk_pos (by omega), chk_pos (by unfold I64; omega)]
            have : decide (e.1.2.1 = 1 ∧ lo ≤ e.1.2.2.1 ∧ e.1.2.2.1 ≤ hi) = decide (lo ≤ e.1.2.2.1 ∧ e.1.2.2.1 ≤ hi) := by
              rw [decide_eq_decide]; exact ⟨fun h => h.2, fun h => ⟨c3, h⟩⟩
            rw [this]
            rfl
          · rw [if_neg c3, chk_pos (by omega), chk_pos (by unfold I64; omega), decide_eq_false (fun h => c3 h.1)]
            rfl
        · have c2' : pmE pat e = false := by simpa using c2
          rw [if_neg c2, chk_pos (by omega), chk_pos (by unfold I64; omega), c2', Bool.false_and]
          rfl
    have hN' := (hN.set han (qmE pat lo hi e)).iff (R := fun z => Q1 z ∨ (qmE pat lo hi e = true ∧ z ∈ e.2.take (j + 1))) fun i hi' => by
      rw [take_mem hjl, ha]
      constructor
      · rintro ((h | h) | h)
        · exact .inl h
        · exact .inr ⟨h.1, .inl h.2⟩
        · exact .inr ⟨h.1, .inr h.2⟩
      · rintro (h | ⟨h, h' | h'⟩)
        · exact .inl (.inl h)
        · exact .inl (.inr ⟨h, h'⟩)
        · exact .inr ⟨h, h'⟩
    have hP' := (hP.set han (pmE pat e)).iff (R := fun z => Q2 z ∨ (pmE pat e = true ∧ z ∈ e.2.take (j + 1))) fun i hi' => by
      rw [take_mem hjl, ha]
      constructor
      · rintro ((h | h) | h)
        · exact .inl h
        · exact .inr ⟨h.1, .inl h.2⟩
        · exact .inr ⟨h.1, .inr h.2⟩
      · rintro (h | ⟨h, h' | h'⟩)
        · exact .inl (.inl h)
        · exact .inl (.inr ⟨h, h'⟩)
        · exact .inr ⟨h, h'⟩
    obtain ⟨N2, P2, g1, g2, g3⟩ := ih (j + 1) _ _ (by omega) hN' hP';exact ⟨N2, P2, by rw [run_inl hstep, g1], g2, g3⟩
theorem openm_run {pat : List UInt8} {lo hi n : Int} {es : List En} {x1 : (Int × List En) × (Int × Int)} (hx : x1 = ((n, es), (0, 0))) (hG : GI n es) (hpf : (pf pat).1 = 0) (hlo : ¬ hi < lo) :
    ∀ (d k : Nat) (N P : List Bool), k + d = es.length → Mk N n.toNat (fun z => ∃ e ∈ es.take k, qmE pat lo hi e = true ∧ z ∈ e.2) → Mk P n.toNat (fun z => ∃ e ∈ es.take k, pmE pat e = true ∧ z ∈ e.2) →
      Go.L.run (law4_ShapesOpenMatchesSpec_bl2 pat lo hi x1 (n, es.map (·.1), es.map (·.2), true)) (N, P, (k : Int)) = some true := by
  have hp := (pf_zero pat hpf).2;have hl := hG.len;have n64 := hG.n64;have n0 := hG.n0;intro d
  induction d with
  | zero =>
    intro k N P hk hN hP;rw [List.take_of_length_le (by omega)] at hN hP;refine run_inr (m := some true) ?_;unfold law4_ShapesOpenMatchesSpec_bl2 law4_ShapesOpenMatchesSpec_k1;dsimp only;have hpath : ∀ e ∈ es, e.1.1.length ≤ 330 := fun e he => (hG.ev e he).path.1
    have hmem : ∀ (f : En → Bool) (z : Int), z ∈ setI (collected f es) ↔ ∃ i : Nat, i < n.toNat ∧ z = (i : Int) ∧ ∃ e ∈ es, f e = true ∧ z ∈ e.2 := fun f z => by
      rw [(setI_spec _).2, collected_mem]
      constructor
      · rintro ⟨e, he, hf, hz⟩;have := (hG.ev e he).items z hz;exact ⟨z.toNat, by omega, by omega, e, he, hf, hz⟩
      · rintro ⟨_, _, _, h⟩;exact h
    have hfe := find_eq (n := n) hpf hl hG.few hpath;have hne := numb_eq (n := n) hpf hlo hl hG.few hpath;subst hx;dsimp only
    rw [if_neg (by rw [List.length_map]; omega), hfe, Option.bind_some, hne, Option.bind_some, if_pos rfl, if_pos rfl,
      marked_eq hP (by omega) (setI_spec _).1 (hmem _), Option.bind_some, if_pos rfl, marked_eq hN (by omega) (setI_spec _).1 (hmem _)]
    rfl
  | succ d ih =>
    intro k N P hk hN hP;have hkl : k < es.length := by omega
    have h1 := map_at (fun e : En => e.1) hkl;have hpl := (hG.ev _ (getD_mem hkl)).path.1;have hst : ref4_Steps (es.getD k default).1.1 = some (sl (es.getD k default).1.1) := ref_steps (by omega)
    by_cases h12 : 12 < (sl (es.getD k default).1.1).length
    · refine run_inr (m := some true) ?_;unfold law4_ShapesOpenMatchesSpec_bl2;dsimp only;rw [if_pos (by rw [List.length_map]; omega), chk_pos (by rw [List.length_map]; omega), Int.toNat_natCast, h1, hst, Option.bind_some, if_pos (by omega)]
    · obtain ⟨N', P', g1, g2, g3⟩ := mark4 (pat := pat) (lo := lo) (hi := hi) hkl hG (by omega) (Q1 := fun z => ∃ e ∈ es.take k, qmE pat lo hi e = true ∧ z ∈ e.2) (Q2 := fun z => ∃ e ∈ es.take k, pmE pat e = true ∧ z ∈ e.2) _ 0 N P (Nat.zero_add _) (hN.iff fun i _ => by simp) (hP.iff fun i _ => by simp)
      have hstep : law4_ShapesOpenMatchesSpec_bl2 pat lo hi x1 (n, es.map (·.1), es.map (·.2), true) (N, P, (k : Int)) = some (.inl (N', P', ((k + 1 : Nat) : Int))) := by
        unfold law4_ShapesOpenMatchesSpec_bl2 law4_ShapesOpenMatchesSpec_l4;dsimp only;rw [if_pos (by rw [List.length_map]; omega), chk_pos (by rw [List.length_map]; omega), Int.toNat_natCast, h1, hst, Option.bind_some, if_neg (by omega)];exact g1
      rw [run_inl hstep]
      have htk : es.take (k + 1) = es.take k ++ [es.getD k default] := by
        rw [List.take_add_one, List.getElem?_eq_getElem hkl]; simp [List.getD_eq_getElem?_getD, List.getElem?_eq_getElem hkl]
      have hq : ∀ (f : En → Bool) (z : Int), ((∃ e ∈ es.take k, f e = true ∧ z ∈ e.2) ∨ (f (es.getD k default) = true ∧ z ∈ (es.getD k default).2)) ↔ ∃ e ∈ es.take (k + 1), f e = true ∧ z ∈ e.2 := fun f z => by
        rw [htk]
        constructor
        · rintro (⟨e, h, h'⟩ | h)
          · exact ⟨e, List.mem_append_left _ h, h'⟩
          · exact ⟨_, List.mem_append_right _ (List.mem_singleton.2 rfl), h⟩
        · rintro ⟨e, h, h'⟩
          rcases List.mem_append.1 h with h | h
          · exact .inl ⟨e, h, h'⟩
          · rw [List.mem_singleton] at h; subst h; exact .inr h'
      exact ih (k + 1) N' P' (by omega) (g2.iff fun i _ => hq _ _) (g3.iff fun i _ => hq _ _)
theorem openm_law (b pat : List UInt8) (lo hi : Int) : law4_ShapesOpenMatchesSpec b pat lo hi = some true := by
  unfold law4_ShapesOpenMatchesSpec;obtain ⟨x, hx1, hx2⟩ := open_ex b;rw [hx1, Option.bind_some, shaped_true, Option.bind_some, if_neg (by decide)];unfold shapes_Index_Items ref3_At
  by_cases hlen : 16384 < b.length
  · rw [if_pos (by omega), Option.bind_some]
    rcases hx2 with ⟨rfl, _⟩ | ⟨_, h⟩ | ⟨n, es, _, h, _⟩
    · rfl
    · omega
    · omega
  · rw [if_neg (by omega)];obtain ⟨r, h1, h2⟩ := index4 (b := b) (by omega);rw [h1, Option.bind_some]
    rcases h2 with ⟨n, es, hG, hf, rfl⟩ | ⟨hf, hno⟩
    · have hop := open_good hG hG.few (by rw [hf]; omega) (iform_count n es);rw [hf, hx1] at hop;have hxe : x = ((n, es), (0, 0)) := Option.some.inj hop;have n0 := hG.n0;have n64 := hG.n64;subst hxe;dsimp only;rw [if_neg (by decide), if_pos rfl, Option.bind_some, if_pos rfl, pfault_eq, Option.bind_some]
      by_cases hc : (bif !decide ((pf pat).1 = (0 : Int)) then true else decide (hi < lo)) = true
      · rw [if_pos hc, if_pos rfl, Option.bind_some];simp
      · rw [if_neg hc, chk_pos (by omega), chk_pos (by omega)];have hpf : (pf pat).1 = 0 := Decidable.byContradiction fun h => hc (by rw [decide_eq_false h]; rfl);have hlo : ¬ hi < lo := fun h => hc (by rw [decide_eq_true hpf, decide_eq_true h]; rfl)
        have hM : ∀ Q : Int → Prop, (∀ z, ¬ Q z) → Mk (List.replicate n.toNat (false : Bool)) n.toNat Q := fun Q hQ => ⟨List.length_replicate, fun i hi => by
          rw [List.getD_eq_getElem?_getD, List.getElem?_replicate, if_pos hi];exact ⟨fun h => (by cases h), fun h => absurd h (hQ _)⟩⟩
        unfold law4_ShapesOpenMatchesSpec_l2;exact openm_run rfl hG hpf hlo es.length 0 _ _ (by omega) (hM _ fun z => by simp) (hM _ fun z => by simp)
    · rw [if_pos (by rw [hf]; rfl), Option.bind_some]
      rcases hx2 with ⟨_, h⟩ | ⟨rfl, _⟩ | ⟨n, es, _, _, hG, hfe⟩
      · omega
      · rfl
      · exact absurd hfe (hno n es hG)
end Go.Proofs.YtmfiaecglndldaaGreatDoor
end
section
namespace Go.E
open Go Go.RowKit Go.ChangeShapes Go.WideShapes
section
variable {H : Type} {enc : TypeId × Value → H} {P : Program} {w : World} {base : Nat} {spare : Nat → Bool} {held : Bool}
theorem wf_u8 {n : Int} (h : (Lit.int .u8 n).wf = true) : 0 ≤ n ∧ n ≤ 255 := by
  simpa [Lit.wf, IntKind.min, IntKind.max, IntKind.signed, IntKind.bits] using h
/-- Arguments read, behind a call that leaves old memory as it was, as they read before. -/
theorem trodAll_stays (hl : laidOutB P = true) {W W' : World} (hb : Below W.heap.size W W') : ∀ {ts : List TypeId} {vs : List Value} {ds : List (DataW H)} {ps : List MemPlace}, (∀ t ∈ ts, P.readableRec t = true ∧ t < P.types.size) →
    DataW.TrodAll enc P W 0 (fun _ => true) true ts vs ds ps → (∀ x ∈ ps, x.block < W.heap.size) → DataW.TrodAll enc P W' 0 (fun b => decide (b < W.heap.size)) true ts vs ds ps
  | [], [], [], ps, _, h, _ => h
  | t :: ts, v :: vs, d :: ds, ps, ht, h, hlt => by
    obtain ⟨p, q, h1, h2, rfl⟩ := h;have ht0 := ht t (.head _);exact ⟨p, q, Below.trod hl ht0.1 ht0.2 h1 hb (fun x hx => hlt x (List.mem_append.2 (.inl hx))), trodAll_stays hl hb (fun t' h' => ht t' (.tail _ h')) h2 (fun x hx => hlt x (List.mem_append.2 (.inr hx))), rfl⟩
  | [], [], _ :: _, _, _, h, _ => by cases h
  | [], _ :: _, _, _, _, h, _ => by cases h
  | _ :: _, [], _, _, _, h, _ => by cases h
  | _ :: _, _ :: _, [], _, _, h, _ => by cases h
end
end Go.E
namespace Go.E
open Go Go.RowKit Go.ChangeShapes Go.WideShapes Go.Deep
/-- What is read at a type lies in memory as plain data, of which something holds. -/
def Reads (P : Program) (t : TypeId) {α : Type} (r : Rp α) (ok : α → Prop) : Prop :=
  ∀ {H : Type} {enc : TypeId × Value → H} {w : World} {base : Nat} {spare : Nat → Bool} {held : Bool} {fuel : Nat} {cs : List Value} {x : DataW H × List MemPlace},
    DataW.trod enc P w base spare held fuel t cs = some x → ∃ a, r.rel (hp w) a cs ∧ ok a
section
variable {P : Program} {t e : TypeId}
theorem reads_byte (ht : P.underlying t = some (.int .u8)) : Reads P t .byte (fun _ => True) := fun h => by
  obtain ⟨n, rfl, _, hw⟩ := DataW.trod_int ht h;have hw' := wf_u8 hw;refine ⟨Go.L.u8 n, ?_, trivial⟩
  show [_] = [_]
  rw [Go.L.u8_toNat, Int.emod_eq_of_lt (by omega) (by omega)]
theorem reads_slice [Dr] {α : Type} {r : Rp α} {ok : α → Prop} (ht : P.underlying t = some (.slice e)) (hc : P.cellsOf e = r.sz) (hsz : 0 < r.sz) (hr : Reads P e r ok) : Reads P t (.vec r) (fun l => l.length ≤ 9223372036854775807 ∧ ∀ x ∈ l, ok x) := fun {H enc w base spare held fuel cs x} h => by
  rcases open_slice ht h with ⟨rfl, _⟩ | ⟨a, len, cap, m, n, D, Pl, rfl, hb, hl, hm, rfl, _, hel⟩
  · exact ⟨[], ⟨_, rfl, Vec.nil _ _⟩, by simp, by simp⟩
  · have hm2 : len ≤ (if spare a.block then cap else len) := by split <;> omega
    have hx : ∀ i, i < len → ∃ y, ok y ∧ ∃ c, r.rel (hp w) y c ∧ w.cells? base (a.add (i * r.sz)) r.sz = some c := fun i hi => by
      obtain ⟨cs', h1, h2⟩ := hel i (by omega);obtain ⟨y, h3, h4⟩ := hr h2;rw [hc] at h1;exact ⟨y, h4, cs', h3, h1⟩
    have key : ∀ k, k ≤ len → ∃ l : List α, l.length = k ∧ (∀ x ∈ l, ok x) ∧ ∀ i y, l[i]? = some y → ∃ c, r.rel (hp w) y c ∧ w.cells? base (a.add (i * r.sz)) r.sz = some c := by
      intro k
      induction k with
      | zero => intro _; exact ⟨[], rfl, by simp, by simp⟩
      | succ k ih =>
        intro hk;obtain ⟨l, h1, h2, h3⟩ := ih (by omega);obtain ⟨y, h4, c, h5, h6⟩ := hx k (by omega);refine ⟨l ++ [y], by simp [h1], fun z hz => ?_, fun i z hz => ?_⟩
        · rcases List.mem_append.1 hz with hz | hz
          · exact h2 z hz
          · simp at hz; subst hz; exact h4
        · rcases Nat.lt_or_ge i l.length with hi | hi
          · rw [List.getElem?_append_left hi] at hz; exact h3 i z hz
          · rw [List.getElem?_append_right hi] at hz
            have hi0 : i - l.length = 0 := by
              have := (List.getElem?_eq_some_iff.1 hz).1;simp at this; omega
            rw [hi0] at hz;simp at hz;subst hz;obtain rfl : i = k := by omega
            exact ⟨c, h5, h6⟩
    obtain ⟨l, h1, h2, h3⟩ := key len (Nat.le_refl _);have hlm : len ≤ 9223372036854775807 := by unfold maxLen at hm; omega
    refine ⟨l, ⟨_, rfl, some a, cap, by rw [h1], by omega, hm, (fun h => by cases h), fun A hA hne => ?_⟩, by omega, h2⟩
    cases hA
    have cell : ∀ i y, l[i]? = some y → ∃ c, r.rel (hp w) y c ∧ ∀ j u, c[j]? = some u → w.cell? ((a.add (i * r.sz)).add j) = some u := fun i y hy => by
      obtain ⟨c, h4, h5⟩ := h3 i y hy;obtain ⟨_, hlen, hcell⟩ := World.cells?_some h5;exact ⟨c, h4, fun j u hu => by rw [← hu]; exact hcell j (by rw [← hlen]; exact (List.getElem?_eq_some_iff.1 hu).1)⟩
    have hspot : a.spot = none := by
      obtain ⟨y, l', rfl⟩ := List.exists_cons_of_ne_nil hne;obtain ⟨c, h4, h5⟩ := cell 0 y rfl;have hc0 : 0 < c.length := by rw [r.len h4]; omega
      have := World.cell?_spot (h5 0 _ (List.getElem?_eq_getElem hc0))
      simpa [Addr.add] using this
    refine ⟨hspot, fun i y hy => ?_⟩;obtain ⟨c, h4, h5⟩ := cell i y hy;refine ⟨c, h4, fun j u hu => ?_⟩;rw [← addr_add_add hspot];exact h5 j u hu
end
end Go.E
end
section
namespace Go.Proofs.YtmfiaecglndldaaGreatDoor.bulks
open Go Go.E
theorem bound {H : Type} {l : List (DataW H)} (hk : Rows.uptoSmall H l = true) : Rows.uptoBulkAll l ≤ 1048576 := of_decide_eq_true hk
end Go.Proofs.YtmfiaecglndldaaGreatDoor.bulks
namespace Go.Proofs.YtmfiaecglndldaaGreatDoor.bulks
open Go Go.E Go.RowKit Go.ChangeShapes Go.WideShapes Go.Deep Go.L
section
variable {P : Program} {t e : TypeId} {k : Nat}
end
end Go.Proofs.YtmfiaecglndldaaGreatDoor.bulks
end
section
namespace Go.Proofs.YtmfiaecglndldaaGreatDoor
open Go Go.E Go.Lib
def laidU : List (String × DataW Unit) := [("unicode/utf8.acceptRanges", Rows.laid_unicode_utf8_acceptRanges), ("unicode/utf8.first", Rows.laid_unicode_utf8_first)]
noncomputable def laidWorld (os : Os) : World :=
  let w0 := World.holding Tryz.prog os ⟨#[], #[], []⟩
  let put (h : Array Obj) (g : Nat) (cs : Array Value) : Array Obj := h.modify g fun
    | .cells _ t frozen => .cells cs t frozen
    | o => o
  let h1 := put w0.heap 1 (Lib.firstTab.map fun z => Value.int .u8 z).toArray
  let h2 := put h1 2 ((List.range 16).flatMap fun i => [Value.int .u8 (Lib.accLo i), Value.int .u8 (Lib.accHi i)]).toArray
  { w0 with heap := h2 }
theorem door_met (os : Os) (args : Array Value) : laidMetH Tryz.prog laidU ((laidWorld os).forCall (fun _ _ => 0) ⟨#[], args, []⟩).memory :=
  laidMetH_of_parts3 (fuel := 8) (laidMet_of_run' 8 (by kernel_rfl) (by kernel_rfl)) (by kernel_rfl) (by kernel_rfl)
end Go.Proofs.YtmfiaecglndldaaGreatDoor
end
