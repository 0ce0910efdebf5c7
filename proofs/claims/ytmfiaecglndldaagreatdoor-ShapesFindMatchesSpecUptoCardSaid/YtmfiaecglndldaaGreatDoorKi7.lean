/- Texts of a claim, merged. -/
import Derived.Test.YtmfiaecglndldaaGreatDoorKi6
import Derived.KernelRfl
import Derived.ProofKit
import Derived.OpenShut
import Derived.Carry
import Derived.Deep.Slices
import Derived.Test.YtmfiaecglndldaaGreatDoorRows
import Derived.Lib.LaidU8T
import Derived.LaidMore
import Derived.MakeChecks
import Derived.LaidHandle
set_option linter.unusedVariables false
set_option linter.unusedSimpArgs false
section
namespace Go.Proofs.YtmfiaecglndldaaGreatDoor
open Go Go.E Go.RowKit
set_option maxHeartbeats 1000000
set_option maxRecDepth 10000
open _root_.Go.Proofs.Tryz
noncomputable def law4_ShapesFindMatchesSpec_k11 (a0 : List Go.L.Pv) (a1 : List UInt8) (a4 : List UInt8) (c187 : Int) (l499 : List Int) (l535 : List Int) (s25_502 : Int) (l565 : List Int) : Option (((List Int) × (List Int) × (List Int) × Int) ⊕ (Bool)) :=
 if c187 = (0 : Int) then Go.L.chk (0 ≤ s25_502 ∧ s25_502 < (a0.length : Int)) (Option.bind (ref4_HasBytes (a0.getD s25_502.toNat default) a1 a4) (fun x588 => if x588 then Go.L.chk (Go.E.Cap 8 (l499.length + ([s25_502]).length)) (Go.L.chk (Go.L.I64 (s25_502 + (1 : Int))) (some (Sum.inl ((l499 ++ [s25_502]), l565, l535, (s25_502 + (1 : Int)))))) else Go.L.chk (Go.L.I64 (s25_502 + (1 : Int))) (some (Sum.inl (l499, l565, l535, (s25_502 + (1 : Int))))))) else Go.L.chk (Go.L.I64 (s25_502 + (1 : Int))) (some (Sum.inl (l499, l565, l535, (s25_502 + (1 : Int)))))
noncomputable def law4_ShapesFindMatchesSpec_k10 (a0 : List Go.L.Pv) (a1 : List UInt8) (a2 : Int) (a3 : Int) (a4 : List UInt8) (c164 : Int) (c187 : Int) (l499 : List Int) (l500 : List Int) (s25_502 : Int) (l535 : List Int) : Option (((List Int) × (List Int) × (List Int) × Int) ⊕ (Bool)) :=
 if c164 = (0 : Int) then Go.L.chk (0 ≤ s25_502 ∧ s25_502 < (a0.length : Int)) (Option.bind (ref4_HasNumber (a0.getD s25_502.toNat default) a1 a2 a3) (fun x573 => if x573 then Go.L.chk (Go.E.Cap 8 (l500.length + ([s25_502]).length)) ((law4_ShapesFindMatchesSpec_k11 a0 a1 a4 c187 l499 l535 s25_502) (l500 ++ [s25_502])) else (law4_ShapesFindMatchesSpec_k11 a0 a1 a4 c187 l499 l535 s25_502) l500)) else (law4_ShapesFindMatchesSpec_k11 a0 a1 a4 c187 l499 l535 s25_502) l500
noncomputable def law4_ShapesFindMatchesSpec_k9 (a0 : List Go.L.Pv) (a1 : List UInt8) (a2 : Int) (a3 : Int) (a4 : List UInt8) (c164 : Int) (c187 : Int) (l499 : List Int) (l500 : List Int) (l501 : List Int) (s25_502 : Int) : Option (((List Int) × (List Int) × (List Int) × Int) ⊕ (Bool)) :=
 Go.L.chk (0 ≤ s25_502 ∧ s25_502 < (a0.length : Int)) (Option.bind (ref4_HasPath (a0.getD s25_502.toNat default) a1) (fun x541 => if x541 then Go.L.chk (Go.E.Cap 8 (l501.length + ([s25_502]).length)) ((law4_ShapesFindMatchesSpec_k10 a0 a1 a2 a3 a4 c164 c187 l499 l500 s25_502) (l501 ++ [s25_502])) else (law4_ShapesFindMatchesSpec_k10 a0 a1 a2 a3 a4 c164 c187 l499 l500 s25_502) l501))
noncomputable def law4_ShapesFindMatchesSpec_k7 (x107 : (List Int) × (Int × Int)) (x111 : (List Int) × (Int × Int)) (x116 : (List Int) × (Int × Int)) (l439 : List Int) (l440 : List Int) (l441 : List Int) : Option (Bool) :=
 Option.bind (ref3_Ints x107.1 l441) (fun x602 => if x602 then Option.bind (ref3_Ints x111.1 l440) (fun x606 => if x606 then Option.bind (ref3_Ints x116.1 l439) (fun x610 => some (x610)) else some (false)) else some (false))
noncomputable def law4_ShapesFindMatchesSpec_bl8 (a0 : List Go.L.Pv) (a1 : List UInt8) (a2 : Int) (a3 : Int) (a4 : List UInt8) (c164 : Int) (c187 : Int) (x107 : (List Int) × (Int × Int)) (x111 : (List Int) × (Int × Int)) (x116 : (List Int) × (Int × Int)) (x120 : (Int × Int)) : (List Int) × (List Int) × (List Int) × Int → Option (((List Int) × (List Int) × (List Int) × Int) ⊕ (Bool)) := fun ⟨l499, l500, l501, s25_502⟩ =>
 if s25_502 < (a0.length : Int) then if x120.1 = (0 : Int) then (law4_ShapesFindMatchesSpec_k9 a0 a1 a2 a3 a4 c164 c187 l499 l500 l501 s25_502) else Option.map Sum.inr ((law4_ShapesFindMatchesSpec_k7 x107 x111 x116) l499 l500 l501) else Option.map Sum.inr ((law4_ShapesFindMatchesSpec_k7 x107 x111 x116) l499 l500 l501)
noncomputable def law4_ShapesFindMatchesSpec_l8 (a0 : List Go.L.Pv) (a1 : List UInt8) (a2 : Int) (a3 : Int) (a4 : List UInt8) (c164 : Int) (c187 : Int) (x107 : (List Int) × (Int × Int)) (x111 : (List Int) × (Int × Int)) (x116 : (List Int) × (Int × Int)) (x120 : (Int × Int)) (s : (List Int) × (List Int) × (List Int) × Int) : Option (Bool) := Go.L.run (law4_ShapesFindMatchesSpec_bl8 a0 a1 a2 a3 a4 c164 c187 x107 x111 x116 x120) s
noncomputable def law4_ShapesFindMatchesSpec_k6 (a0 : List Go.L.Pv) (a1 : List UInt8) (a2 : Int) (a3 : Int) (a4 : List UInt8) (c164 : Int) (c187 : Int) (x107 : (List Int) × (Int × Int)) (x111 : (List Int) × (Int × Int)) (x116 : (List Int) × (Int × Int)) (x120 : (Int × Int)) : Option (Bool) :=
 (law4_ShapesFindMatchesSpec_l8 a0 a1 a2 a3 a4 c164 c187 x107 x111 x116 x120) (([] : List Int), ([] : List Int), ([] : List Int), (0 : Int))
noncomputable def law4_ShapesFindMatchesSpec_k5 (a0 : List Go.L.Pv) (a1 : List UInt8) (a2 : Int) (a3 : Int) (a4 : List UInt8) (c164 : Int) (c165 : Int) (x1 : (Int × (List (((List UInt8) × Int × Int × (List UInt8)) × (List Int)))) × (Int × Int)) (x107 : (List Int) × (Int × Int)) (x111 : (List Int) × (Int × Int)) (x116 : (List Int) × (Int × Int)) (x120 : (Int × Int)) (c187 : Int) (c188 : Int) : Option (Bool) :=
 Option.bind (shapes_Index_Items (x1.1.1, x1.1.2)) (fun x263 => if x263 = (a0.length : Int) then if x107.2.1 = x120.1 ∧ x107.2.2 = x120.2 then if x111.2.1 = c164 ∧ x111.2.2 = c165 then if x116.2.1 = c187 ∧ x116.2.2 = c188 then if x120.1 = (0 : Int) then if c164 = (0 : Int) then if c187 = (0 : Int) then (law4_ShapesFindMatchesSpec_k6 a0 a1 a2 a3 a4 c164 c187 x107 x111 x116 x120) else if (0 : Int) < (x116.1.length : Int) then some (false) else (law4_ShapesFindMatchesSpec_k6 a0 a1 a2 a3 a4 c164 c187 x107 x111 x116 x120) else if (0 : Int) < (x111.1.length : Int) then some (false) else if c187 = (0 : Int) then (law4_ShapesFindMatchesSpec_k6 a0 a1 a2 a3 a4 c164 c187 x107 x111 x116 x120) else if (0 : Int) < (x116.1.length : Int) then some (false) else (law4_ShapesFindMatchesSpec_k6 a0 a1 a2 a3 a4 c164 c187 x107 x111 x116 x120) else if (0 : Int) < (x107.1.length : Int) then some (false) else if c164 = (0 : Int) then if c187 = (0 : Int) then (law4_ShapesFindMatchesSpec_k6 a0 a1 a2 a3 a4 c164 c187 x107 x111 x116 x120) else if (0 : Int) < (x116.1.length : Int) then some (false) else (law4_ShapesFindMatchesSpec_k6 a0 a1 a2 a3 a4 c164 c187 x107 x111 x116 x120) else if (0 : Int) < (x111.1.length : Int) then some (false) else if c187 = (0 : Int) then (law4_ShapesFindMatchesSpec_k6 a0 a1 a2 a3 a4 c164 c187 x107 x111 x116 x120) else if (0 : Int) < (x116.1.length : Int) then some (false) else (law4_ShapesFindMatchesSpec_k6 a0 a1 a2 a3 a4 c164 c187 x107 x111 x116 x120) else some (false) else some (false) else some (false) else some (false))
noncomputable def law4_ShapesFindMatchesSpec_k4 (a0 : List Go.L.Pv) (a1 : List UInt8) (a2 : Int) (a3 : Int) (a4 : List UInt8) (c139 : Int) (c140 : Int) (x1 : (Int × (List (((List UInt8) × Int × Int × (List UInt8)) × (List Int)))) × (Int × Int)) (x107 : (List Int) × (Int × Int)) (x111 : (List Int) × (Int × Int)) (x116 : (List Int) × (Int × Int)) (x120 : (Int × Int)) (c164 : Int) (c165 : Int) : Option (Bool) :=
 if x120.1 = (0 : Int) then if (4000 : Int) < (a4.length : Int) then Option.bind (ref3_At (3 : Int) (-2 : Int)) (fun x196 => (law4_ShapesFindMatchesSpec_k5 a0 a1 a2 a3 a4 c164 c165 x1 x107 x111 x116 x120) x196.1 x196.2) else (law4_ShapesFindMatchesSpec_k5 a0 a1 a2 a3 a4 c164 c165 x1 x107 x111 x116 x120) c139 c140 else (law4_ShapesFindMatchesSpec_k5 a0 a1 a2 a3 a4 c164 c165 x1 x107 x111 x116 x120) c139 c140
noncomputable def law4_ShapesFindMatchesSpec_k3 (a0 : List Go.L.Pv) (a1 : List UInt8) (a2 : Int) (a3 : Int) (a4 : List UInt8) (x1 : (Int × (List (((List UInt8) × Int × Int × (List UInt8)) × (List Int)))) × (Int × Int)) (x107 : (List Int) × (Int × Int)) (x111 : (List Int) × (Int × Int)) (x116 : (List Int) × (Int × Int)) (x120 : (Int × Int)) (c136 : Int) (c137 : Int) (c139 : Int) (c140 : Int) : Option (Bool) :=
 if (x120.1 = (0 : Int)) ∧ (a3 < a2) then Option.bind (ref3_At (4 : Int) (-3 : Int)) (fun x171 => (law4_ShapesFindMatchesSpec_k4 a0 a1 a2 a3 a4 c139 c140 x1 x107 x111 x116 x120) x171.1 x171.2) else (law4_ShapesFindMatchesSpec_k4 a0 a1 a2 a3 a4 c139 c140 x1 x107 x111 x116 x120) c136 c137
noncomputable def law4_ShapesFindMatchesSpec_k2 (a0 : List Go.L.Pv) (a1 : List UInt8) (a2 : Int) (a3 : Int) (a4 : List UInt8) (x1 : (Int × (List (((List UInt8) × Int × Int × (List UInt8)) × (List Int)))) × (Int × Int)) : Option (Bool) :=
 Option.bind (shapes_Index_Find (x1.1.1, x1.1.2) a1) (fun x107 => Option.bind (shapes_Index_Number (x1.1.1, x1.1.2) a1 a2 a3) (fun x111 => Option.bind (shapes_Index_Text (x1.1.1, x1.1.2) a1 a4) (fun x116 => Option.bind (ref4_PatternFault a1) (fun x120 => (law4_ShapesFindMatchesSpec_k3 a0 a1 a2 a3 a4 x1 x107 x111 x116 x120) x120.1 x120.2 x120.1 x120.2))))
noncomputable def law4_ShapesFindMatchesSpec_k1 (a0 : List Go.L.Pv) (a1 : List UInt8) (a2 : Int) (a3 : Int) (a4 : List UInt8) (x1 : (Int × (List (((List UInt8) × Int × Int × (List UInt8)) × (List Int)))) × (Int × Int)) : Option (Bool) :=
 if x1.2.1 = (0 : Int) then (law4_ShapesFindMatchesSpec_k2 a0 a1 a2 a3 a4 x1) else Option.bind (ref3_At (14 : Int) (-1 : Int)) (fun x94 => if x1.2.1 = x94.1 ∧ x1.2.2 = x94.2 then Option.bind (shapes_Index_Items (x1.1.1, x1.1.2)) (fun x98 => some (decide (x98 = (0 : Int)))) else some (false))
noncomputable def law4_ShapesFindMatchesSpec (a0 : List Go.L.Pv) (a1 : List UInt8) (a2 : Int) (a3 : Int) (a4 : List UInt8) : Option (Bool) :=
 Option.bind (shapes_Build a0) (fun x1 => Option.bind (law4_valuesFault a0) (fun x7 => Option.bind (law4_shaped) (fun x42 => if !x42 then Option.bind (law4_shaped) (fun x46 => if x46 then if x1.2.1 = x7.1 ∧ x1.2.2 = x7.2 then Option.bind (shapes_Index_Items (x1.1.1, x1.1.2)) (fun x52 => some (decide (x52 = (0 : Int)))) else some (false) else some (false)) else if x7.1 = (0 : Int) then (law4_ShapesFindMatchesSpec_k1 a0 a1 a2 a3 a4 x1) else Option.bind (law4_shaped) (fun x59 => if x59 then if x1.2.1 = x7.1 ∧ x1.2.2 = x7.2 then Option.bind (shapes_Index_Items (x1.1.1, x1.1.2)) (fun x65 => some (decide (x65 = (0 : Int)))) else some (false) else some (false)))))
theorem law4_ShapesFindMatchesSpec_ok (w : World) (H : PH) (hH : Le H (hp w)) {a0 : List Go.L.Pv} {a1 : List UInt8} {a2 : Int} {a3 : Int} {a4 : List UInt8} {v0_0 : Value} {v4_0 : Value} (h0_0 : Vec .tree H v0_0 (a0)) (h4_0 : Vec .byte H v4_0 (a4)) {r : Bool} (h : law4_ShapesFindMatchesSpec a0 a1 a2 a3 a4 = some r) :
  Ok Tryz.prog 6 [v0_0, .string ⟨(a1).toArray⟩, .int .i64 a2, .int .i64 a3, v4_0] w (fun v w' => Ext w w' ∧ v = .bool r) := by
 refine Ok_enter (n := 222) [(0, v0_0), (1, .string ⟨(a1).toArray⟩), (2, .int .i64 a2), (3, .int .i64 a3), (4, v4_0)] func6 rfl rfl rfl rfl rfl ?_;have hL := Lcl.start w;refine W_pz 1 rfl ?_;refine W_p 1 rfl ?_;obtain ⟨x1, hb1, h⟩ := Go.L.bind_some h;refine S_callL rfl rfl hL (shapes_Build_ok _ _ (gz_le hH hL) (h0_0.mono (gz_left hH)) hb1) ?_;rintro _ w2 ⟨u2_0, rfl, hR2_0⟩ hx2 hL2 hle2;have hv2_0 := hR2_0.mono (gz_nw hH hL hx2);refine S_pu 3 rfl ?_;refine S_alloc zr47 rfl rfl hL2 ?_;intro w3 b3 hL3 hle3 _;replace hv2_0 := hv2_0.mono (gz_mono hH hle3);refine S_alloc zr23 rfl rfl hL3 ?_;intro w4 b4 hL4 hle4 _;replace hv2_0 := hv2_0.mono (gz_mono hH hle4);refine S_storeBN 1 rfl rfl rfl zr47 hL4 rfl rfl (onc rfl (onc hv2_0.one on0)) ?_;intro w5 hL5 hle5;replace hv2_0 := hv2_0.mono (gz_mono hH hle5);refine S_storeBN 0 rfl rfl rfl zr23 hL5 rfl rfl (onc rfl (onc rfl on0)) ?_;intro w6 hL6 hle6;replace hv2_0 := hv2_0.mono (gz_mono hH hle6);refine S_seqnil ?_;refine W_p 1 rfl ?_;obtain ⟨x7, hb7, h⟩ := Go.L.bind_some h;refine S_callL rfl rfl hL6 (law4_valuesFault_ok _ _ (gz_le hH hL6) (h0_0.mono (gz_left hH)) hb7) ?_;rintro _ w8 rfl hx8 hL8 hle8;replace hv2_0 := hv2_0.mono (gz_mono hH hle8);refine S_alloc zr23 rfl rfl hL8 ?_;intro w9 b9 hL9 hle9 _;replace hv2_0 := hv2_0.mono (gz_mono hH hle9);refine S_storeBN 0 rfl rfl rfl zr23 hL9 rfl rfl (onc rfl (onc rfl on0)) ?_;intro w10 hL10 hle10;replace hv2_0 := hv2_0.mono (gz_mono hH hle10);refine S_seqnil ?_
 refine W_cut (σ := Unit) (fun (_ : Unit) => [(0, v0_0), (1, .string ⟨(a1).toArray⟩), (2, .int .i64 a2), (3, .int .i64 a3), (4, v4_0), (11, .pointer (some ⟨b3, 0, none⟩)), (12, .pointer (some ⟨b4, 0, none⟩)), (13, .pointer (some ⟨b9, 0, none⟩))]) (fun (_ : Unit) wr => InO w [.box b9 [.int .i64 x7.1, .int .i64 x7.2] 23, .box b4 [.int .i64 x1.2.1, .int .i64 x1.2.2] 23, .box b3 [.int .i64 x1.1.1, u2_0] 47] wr fun Oz => Vec (.pair (.pair .st (.pair (.int .i64) (.pair (.int .i64) .st))) (.vec (.int .i64))) (gz H w wr Oz) (u2_0) (x1.1.2) ∧ (law4_ShapesFindMatchesSpec_k1 a0 a1 a2 a3 a4 x1) = some r) ?_ ?_
 ·refine W_seqr ?_;obtain ⟨x42, hb42, h⟩ := Go.L.bind_some h;refine S_callL rfl rfl hL10 (law4_shaped_ok _ _ (gz_le hH hL10) hb42) ?_;rintro _ w43 rfl hx43 hL43 hle43;replace hv2_0 := hv2_0.mono (gz_mono hH hle43);refine S_pu 2 rfl ?_;refine S_split (s := 35) rfl (fun hg44 => ?_) (fun hg44 => ?_)
  ·replace h := Go.L.ite_t hg44 h
   iterate 3 refine S_unwanted rfl rfl hg44 rfl ?_
   refine S_v (r_pickT rfl hg44 rfl) rfl ?_;refine S_seqnil ?_;refine W_true rfl ?_;refine W_seqr ?_;obtain ⟨x46, hb46, h⟩ := Go.L.bind_some h;refine S_callL rfl rfl hL43 (law4_shaped_ok _ _ (gz_le hH hL43) hb46) ?_;rintro _ w47 rfl hx47 hL47 hle47;replace hv2_0 := hv2_0.mono (gz_mono hH hle47);refine S_pu 1 rfl ?_;refine S_split (s := 41) rfl (fun hg48 => ?_) (fun hg48 => ?_)
   ·replace h := Go.L.ite_t hg48 h;refine S_guarded rfl rfl hg48 ?_;refine S_v (r_loadBN 1 rfl underlying23 rfl zr23 hL47 rfl) rfl ?_;refine S_guarded rfl rfl hg48 ?_;refine S_v (r_loadBN 0 rfl underlying23 rfl zr23 hL47 rfl) rfl ?_;refine S_guarded rfl rfl hg48 ?_;refine S_v (r_eqA rfl rfl eqg23 (eq23 _ _ _ _ )) rfl ?_;refine S_v (r_pickT rfl hg48 rfl) rfl ?_;refine S_pu 1 rfl ?_;refine S_split (s := 46) rfl (fun hg50 => ?_) (fun hg50 => ?_)
    ·replace h := Go.L.ite_p (of_decide_eq_true hg50) h;refine S_guarded rfl rfl hg50 ?_;refine S_v (r_loadBN 2 rfl underlying47 rfl zr47 hL47 rfl) rfl ?_;refine S_guarded rfl rfl hg50 ?_;obtain ⟨x52, hb52, h⟩ := Go.L.bind_some h;refine S_callL rfl rfl hL47 (shapes_Index_Items_ok (a0 := (x1.1.1, x1.1.2)) _ _ (gz_le hH hL47) hv2_0 hb52) ?_;rintro _ w53 rfl hx53 hL53 hle53;replace hv2_0 := hv2_0.mono (gz_mono hH hle53);refine S_guarded rfl rfl hg50 ?_;refine S_v (RunsAt_pu rfl) rfl ?_;refine S_v (r_pickT rfl hg50 rfl) rfl ?_;refine S_pz 1 rfl ?_;refine W_ret ?_;refine At_cut_ret ?_;obtain rfl := Option.some.inj h;refine At_body rfl rfl ?_;exact ⟨hL53.ext, rfl⟩
    ·replace h := Go.L.ite_n (of_decide_eq_false hg50) h
     iterate 3 refine S_unwanted rfl rfl hg50 rfl ?_
     refine S_v (r_pickF rfl hg50 rfl) rfl ?_;refine S_pz 1 rfl ?_;refine W_ret ?_;refine At_cut_ret ?_;obtain rfl := Option.some.inj h;refine At_body rfl rfl ?_;exact ⟨hL47.ext, rfl⟩
   ·replace h := Go.L.ite_f hg48 h
    iterate 3 refine S_unwanted rfl rfl hg48 rfl ?_
    refine S_v (r_pickF rfl hg48 rfl) rfl ?_;refine S_pu 1 rfl ?_
    iterate 3 refine S_unwanted rfl rfl rfl rfl ?_
    refine S_v (r_pickF rfl rfl rfl) rfl ?_;refine S_pz 1 rfl ?_;refine W_ret ?_;refine At_cut_ret ?_;obtain rfl := Option.some.inj h;refine At_body rfl rfl ?_;exact ⟨hL47.ext, rfl⟩
  ·replace h := Go.L.ite_f hg44 h;refine S_guarded rfl rfl hg44 ?_;refine S_v (r_field rfl underlying23 rfl zr3 (by decide)) rfl ?_;refine S_guarded rfl rfl hg44 ?_;refine S_v (r_loadB1 0 rfl underlying3 rfl hL43 rfl rfl) rfl ?_;refine S_guarded rfl rfl hg44 ?_;refine S_v (RunsAt_pu rfl) rfl ?_;refine S_v (r_pickF rfl hg44 rfl) rfl ?_;refine S_seqnil ?_;refine W_ifn rfl (fun hc57 => ?_) (fun hc57 => ?_)
   ·replace h := Go.L.ite_n hc57 h;refine W_seqr ?_;obtain ⟨x59, hb59, h⟩ := Go.L.bind_some h;refine S_callL rfl rfl hL43 (law4_shaped_ok _ _ (gz_le hH hL43) hb59) ?_;rintro _ w60 rfl hx60 hL60 hle60;replace hv2_0 := hv2_0.mono (gz_mono hH hle60);refine S_pu 1 rfl ?_;refine S_split (s := 41) rfl (fun hg61 => ?_) (fun hg61 => ?_)
    ·replace h := Go.L.ite_t hg61 h;refine S_guarded rfl rfl hg61 ?_;refine S_v (r_loadBN 1 rfl underlying23 rfl zr23 hL60 rfl) rfl ?_;refine S_guarded rfl rfl hg61 ?_;refine S_v (r_loadBN 0 rfl underlying23 rfl zr23 hL60 rfl) rfl ?_;refine S_guarded rfl rfl hg61 ?_;refine S_v (r_eqA rfl rfl eqg23 (eq23 _ _ _ _ )) rfl ?_;refine S_v (r_pickT rfl hg61 rfl) rfl ?_;refine S_pu 1 rfl ?_;refine S_split (s := 46) rfl (fun hg63 => ?_) (fun hg63 => ?_)
     ·replace h := Go.L.ite_p (of_decide_eq_true hg63) h;refine S_guarded rfl rfl hg63 ?_;refine S_v (r_loadBN 2 rfl underlying47 rfl zr47 hL60 rfl) rfl ?_;refine S_guarded rfl rfl hg63 ?_;obtain ⟨x65, hb65, h⟩ := Go.L.bind_some h;refine S_callL rfl rfl hL60 (shapes_Index_Items_ok (a0 := (x1.1.1, x1.1.2)) _ _ (gz_le hH hL60) hv2_0 hb65) ?_;rintro _ w66 rfl hx66 hL66 hle66;replace hv2_0 := hv2_0.mono (gz_mono hH hle66);refine S_guarded rfl rfl hg63 ?_;refine S_v (RunsAt_pu rfl) rfl ?_;refine S_v (r_pickT rfl hg63 rfl) rfl ?_;refine S_pz 1 rfl ?_;refine W_ret ?_;refine At_cut_ret ?_;obtain rfl := Option.some.inj h;refine At_body rfl rfl ?_;exact ⟨hL66.ext, rfl⟩
     ·replace h := Go.L.ite_n (of_decide_eq_false hg63) h
      iterate 3 refine S_unwanted rfl rfl hg63 rfl ?_
      refine S_v (r_pickF rfl hg63 rfl) rfl ?_;refine S_pz 1 rfl ?_;refine W_ret ?_;refine At_cut_ret ?_;obtain rfl := Option.some.inj h;refine At_body rfl rfl ?_;exact ⟨hL60.ext, rfl⟩
    ·replace h := Go.L.ite_f hg61 h
     iterate 3 refine S_unwanted rfl rfl hg61 rfl ?_
     refine S_v (r_pickF rfl hg61 rfl) rfl ?_;refine S_pu 1 rfl ?_
     iterate 3 refine S_unwanted rfl rfl rfl rfl ?_
     refine S_v (r_pickF rfl rfl rfl) rfl ?_;refine S_pz 1 rfl ?_;refine W_ret ?_;refine At_cut_ret ?_;obtain rfl := Option.some.inj h;refine At_body rfl rfl ?_;exact ⟨hL60.ext, rfl⟩
   ·replace h := Go.L.ite_p hc57 h;refine W_skip ?_;refine At_cut () (.cons rfl (.cons rfl (.cons rfl (.cons rfl (.cons rfl (.cons rfl (.cons rfl (.cons rfl (Sub.nil _))))))))) ⟨hL43, hv2_0, h⟩
 ·rintro _ wr40 ⟨hL40, hf40_0, h⟩;refine W_cut (σ := Unit) (fun (_ : Unit) => [(0, v0_0), (1, .string ⟨(a1).toArray⟩), (2, .int .i64 a2), (3, .int .i64 a3), (4, v4_0), (11, .pointer (some ⟨b3, 0, none⟩)), (13, .pointer (some ⟨b9, 0, none⟩))]) (fun (_ : Unit) wr => InO w [.box b9 [.int .i64 x7.1, .int .i64 x7.2] 23, .box b4 [.int .i64 x1.2.1, .int .i64 x1.2.2] 23, .box b3 [.int .i64 x1.1.1, u2_0] 47] wr fun Oz => Vec (.pair (.pair .st (.pair (.int .i64) (.pair (.int .i64) .st))) (.vec (.int .i64))) (gz H w wr Oz) (u2_0) (x1.1.2) ∧ (law4_ShapesFindMatchesSpec_k2 a0 a1 a2 a3 a4 x1) = some r) ?_ ?_
  ·refine W_seqr ?_;refine S_v (r_field rfl underlying23 rfl zr3 (by decide)) rfl ?_;refine S_v (r_loadB1 1 rfl underlying3 rfl hL40 rfl rfl) rfl ?_;refine S_pz 1 rfl ?_;refine W_ifn rfl (fun hc90 => ?_) (fun hc90 => ?_)
   ·replace h := Go.L.ite_n hc90 h;refine W_seqd (.q 0 (.q 1 (.q 2 (.q 3 (.q 4 (.q 5 (.q 6 (.q 7 (.q 8 (.tail 9)))))))))) mixed (by kernel_rfl) (fun w92 hx92 => ?_);have hL93 := hL40.call hx92;have hle93 := fz_ext hL40 hx92;replace hf40_0 := hf40_0.mono (gz_mono hH hle93);refine D_v (r_loadBN 1 rfl underlying23 rfl zr23 hL93 rfl) rfl rfl ?_;obtain ⟨x94, hb94, h⟩ := Go.L.bind_some h;refine D_call rfl rfl rfl (fun w95 hx95 => ref3_At_ok _ _ (Le.refl _) hb94) ?_;refine D_v (r_eqA rfl rfl eqg23 (eq23 _ _ _ _ )) rfl rfl ?_;refine D_pu 1 rfl ?_;refine D_split (s := 57) rfl (fun hg96 => ?_) (fun hg96 => ?_)
    ·replace h := Go.L.ite_p (of_decide_eq_true hg96) h;refine D_vg (r_loadBN 2 rfl underlying47 rfl zr47 hL93 rfl) rfl rfl rfl rfl hg96 rfl ?_;obtain ⟨x98, hb98, h⟩ := Go.L.bind_some h;have hok99 := (fun (w99 : World) (hx99 : Ext w92 w99) => shapes_Index_Items_ok w99 _ (Le.refl _) ((hf40_0.mono (gz_le hH hL93)).mono hx99.le) hb98);refine D_callg rfl rfl rfl rfl hg96 rfl rfl hok99 ?_;refine D_vg (RunsAt_pu rfl) rfl rfl rfl rfl hg96 rfl ?_;refine D_v (r_pickT rfl hg96 rfl) rfl rfl ?_;refine D_pu 1 rfl ?_;refine D_tail (fun w100 hx100 => ?_);have hL101 := hL93.call hx100;have hle101 := fz_ext hL93 hx100;replace hf40_0 := hf40_0.mono (gz_mono hH hle101);refine S_seqnil ?_;refine W_ret ?_;refine At_cut_ret ?_;obtain rfl := Option.some.inj h;refine At_body rfl rfl ?_;exact ⟨hL101.ext, rfl⟩
    ·replace h := Go.L.ite_n (of_decide_eq_false hg96) h
     iterate 3 refine D_no rfl rfl rfl rfl hg96 rfl ?_
     refine D_v (r_pickF rfl hg96 rfl) rfl rfl ?_;refine D_pu 1 rfl ?_;refine D_tail (fun w103 hx103 => ?_);have hL104 := hL93.call hx103;have hle104 := fz_ext hL93 hx103;replace hf40_0 := hf40_0.mono (gz_mono hH hle104);refine S_seqnil ?_;refine W_ret ?_;refine At_cut_ret ?_;obtain rfl := Option.some.inj h;refine At_body rfl rfl ?_;exact ⟨hL104.ext, rfl⟩
   ·replace h := Go.L.ite_p hc90 h;refine W_skip ?_;refine At_cut () (.cons rfl (.cons rfl (.cons rfl (.cons rfl (.cons rfl (.cons rfl (.cons rfl (Sub.nil _)))))))) ⟨hL40, hf40_0, h⟩
  ·rintro _ wr88 ⟨hL88, hf88_0, h⟩;refine W_seqr ?_;refine S_v (r_loadBN 2 rfl underlying47 rfl zr47 hL88 rfl) rfl ?_;refine S_pu 1 rfl ?_;obtain ⟨x107, hb107, h⟩ := Go.L.bind_some h;refine S_callL rfl rfl hL88 (shapes_Index_Find_ok (a0 := (x1.1.1, x1.1.2)) _ _ (gz_le hH hL88) hf88_0 hb107) ?_;rintro _ w108 ⟨u108_0, rfl, hR108_0⟩ hx108 hL108 hle108;have hv108_0 := hR108_0.vecG hH hL88 hx108;replace hf88_0 := hf88_0.mono (gz_mono hH hle108);refine S_pu 3 rfl ?_;refine S_alloc zr23 rfl rfl hL108 ?_;intro w109 b109 hL109 hle109 _;replace hf88_0 := hf88_0.mono (gz_mono hH hle109);replace hv108_0 := hv108_0.mono (gz_mono hH hle109);refine S_pu 1 rfl ?_;refine S_storeBN 0 rfl rfl rfl zr23 hL109 rfl rfl (onc rfl (onc rfl on0)) ?_;intro w110 hL110 hle110;replace hf88_0 := hf88_0.mono (gz_mono hH hle110);replace hv108_0 := hv108_0.mono (gz_mono hH hle110);refine S_seqnil ?_;refine W_seqr ?_;refine S_v (r_loadBN 3 rfl underlying47 rfl zr47 hL110 rfl) rfl ?_;refine S_pu 3 rfl ?_;obtain ⟨x111, hb111, h⟩ := Go.L.bind_some h;refine S_callL rfl rfl hL110 (shapes_Index_Number_ok (a0 := (x1.1.1, x1.1.2)) _ _ (gz_le hH hL110) hf88_0 hb111) ?_;rintro _ w112 ⟨u112_0, rfl, hR112_0⟩ hx112 hL112 hle112;have hv112_0 := hR112_0.vecG hH hL110 hx112;replace hf88_0 := hf88_0.mono (gz_mono hH hle112);replace hv108_0 := hv108_0.mono (gz_mono hH hle112);refine S_pu 3 rfl ?_;refine S_alloc zr23 rfl rfl hL112 ?_;intro w113 b113 hL113 hle113 _;replace hf88_0 := hf88_0.mono (gz_mono hH hle113)
   replace hv108_0 := hv108_0.mono (gz_mono hH hle113);replace hv112_0 := hv112_0.mono (gz_mono hH hle113);refine S_pu 1 rfl ?_;refine S_storeBN 0 rfl rfl rfl zr23 hL113 rfl rfl (onc rfl (onc rfl on0)) ?_;intro w114 hL114 hle114;replace hf88_0 := hf88_0.mono (gz_mono hH hle114);replace hv108_0 := hv108_0.mono (gz_mono hH hle114);replace hv112_0 := hv112_0.mono (gz_mono hH hle114);refine S_seqnil ?_;have hG115 := hL114.rG H;refine W_seqr ?_;refine S_v (r_loadBN 4 rfl underlying47 rfl zr47 hL114 rfl) rfl ?_;refine S_pu 2 rfl ?_;obtain ⟨x116, hb116, h⟩ := Go.L.bind_some h;refine S_callL rfl rfl hL114 (shapes_Index_Text_ok (a0 := (x1.1.1, x1.1.2)) _ _ (gz_le hH hL114) (hf88_0.mono hG115) (h4_0.mono (gz_left hH)) hb116) ?_;rintro _ w117 ⟨u117_0, rfl, hR117_0⟩ hx117 hL117 hle117;have hv117_0 := hR117_0.vecG hH hL114 hx117;replace hG115 := hG115.trans (gz_mono hH hle117);refine S_pu 3 rfl ?_;refine S_alloc zr23 rfl rfl hL117 ?_;intro w118 b118 hL118 hle118 _;replace hv117_0 := hv117_0.mono (gz_mono hH hle118);replace hG115 := hG115.trans (gz_mono hH hle118);refine S_pu 1 rfl ?_;refine S_storeBN 0 rfl rfl rfl zr23 hL118 rfl rfl (onc rfl (onc rfl on0)) ?_;intro w119 hL119 hle119;replace hv117_0 := hv117_0.mono (gz_mono hH hle119);replace hG115 := hG115.trans (gz_mono hH hle119);refine S_seqnil ?_;refine W_p 1 rfl ?_;obtain ⟨x120, hb120, h⟩ := Go.L.bind_some h;refine S_callL rfl rfl hL119 (ref4_PatternFault_ok _ _ (gz_le hH hL119) hb120) ?_;rintro _ w121 rfl hx121 hL121 hle121
   replace hv117_0 := hv117_0.mono (gz_mono hH hle121);replace hG115 := hG115.trans (gz_mono hH hle121);refine S_storeBN 3 rfl rfl rfl zr23 hL121 rfl rfl (onc rfl (onc rfl on0)) ?_;intro w122 hL122 hle122;replace hv117_0 := hv117_0.mono (gz_mono hH hle122);replace hG115 := hG115.trans (gz_mono hH hle122);refine S_seqnil ?_
   refine W_cut (σ := Int × Int × Int × Int × Nat × Nat) (fun ⟨c136, c137, c139, c140, bjb135, bjb138⟩ => [(0, v0_0), (1, .string ⟨(a1).toArray⟩), (2, .int .i64 a2), (3, .int .i64 a3), (4, v4_0), (11, .pointer (some ⟨b3, 0, none⟩)), (13, .pointer (some ⟨b9, 0, none⟩)), (14, u108_0), (15, .pointer (some ⟨b109, 0, none⟩)), (16, u112_0), (17, .pointer (some ⟨b113, 0, none⟩)), (18, u117_0), (19, .pointer (some ⟨b118, 0, none⟩)), (20, .pointer (some ⟨bjb135, 0, none⟩)), (21, .pointer (some ⟨bjb138, 0, none⟩))]) (fun ⟨c136, c137, c139, c140, bjb135, bjb138⟩ wr => InO w [.box bjb138 [.int .i64 c139, .int .i64 c140] 23, .box bjb135 [.int .i64 c136, .int .i64 c137] 23, .box b118 [.int .i64 x116.2.1, .int .i64 x116.2.2] 23, .box b113 [.int .i64 x111.2.1, .int .i64 x111.2.2] 23, .box b109 [.int .i64 x107.2.1, .int .i64 x107.2.2] 23, .box b9 [.int .i64 x120.1, .int .i64 x120.2] 23, .box b4 [.int .i64 x1.2.1, .int .i64 x1.2.2] 23, .box b3 [.int .i64 x1.1.1, u2_0] 47] wr fun Oz => Vec (.int .i64) (gz H w wr Oz) (u108_0) (x107.1) ∧ Vec (.int .i64) (gz H w wr Oz) (u112_0) (x111.1) ∧ Vec (.int .i64) (gz H w wr Oz) (u117_0) (x116.1) ∧ Vec (.pair (.pair .st (.pair (.int .i64) (.pair (.int .i64) .st))) (.vec (.int .i64))) (gz H w wr Oz) (u2_0) (x1.1.2) ∧ (law4_ShapesFindMatchesSpec_k3 a0 a1 a2 a3 a4 x1 x107 x111 x116 x120) c136 c137 c139 c140 = some r) ?_ ?_
   ·refine W_naiveI (fun z0 z => Le (gz H w z0 [.box b118 [.int .i64 x116.2.1, .int .i64 x116.2.2] 23, .box b113 [.int .i64 x111.2.1, .int .i64 x111.2.2] 23, .box b109 [.int .i64 x107.2.1, .int .i64 x107.2.2] 23, .box b9 [.int .i64 x120.1, .int .i64 x120.2] 23, .box b4 [.int .i64 x1.2.1, .int .i64 x1.2.2] 23, .box b3 [.int .i64 x1.1.1, u2_0] 47]) (hp z) ∧ z.heap[b118]? = some (.cells [.int .i64 x116.2.1, .int .i64 x116.2.2].toArray 23 (0, 0)) ∧ z.heap[b113]? = some (.cells [.int .i64 x111.2.1, .int .i64 x111.2.2].toArray 23 (0, 0)) ∧ z.heap[b109]? = some (.cells [.int .i64 x107.2.1, .int .i64 x107.2.2].toArray 23 (0, 0)) ∧ z.heap[b9]? = some (.cells [.int .i64 x120.1, .int .i64 x120.2].toArray 23 (0, 0)) ∧ z.heap[b4]? = some (.cells [.int .i64 x1.2.1, .int .i64 x1.2.2].toArray 23 (0, 0)) ∧ z.heap[b3]? = some (.cells [.int .i64 x1.1.1, u2_0].toArray 47 (0, 0))) mixed rfl (fun w143 hx143 => ?_);have hL144 := hL122.call hx143;have hle144 := fz_ext hL122 hx143;replace hv117_0 := hv117_0.mono (gz_mono hH hle144);replace hG115 := hG115.trans (gz_mono hH hle144);have hG145 := hL144.rG H;refine NI_hoist 0 (np_cut np_body) ⟨hG145.trans (gz_le hH hL144), hL144.at (i := 0) rfl, hL144.at (i := 1) rfl, hL144.at (i := 2) rfl, hL144.at (i := 3) rfl, hL144.at (i := 4) rfl, hL144.at (i := 5) rfl⟩ (by kernel_rfl) rfl (fun _ hI => r_loadHN rfl underlying23 rfl zr23 hI.2.2.2.2.1) rfl ?_
    refine NI_hoist 1 (np_cut np_body) ⟨hG145.trans (gz_le hH hL144), hL144.at (i := 0) rfl, hL144.at (i := 1) rfl, hL144.at (i := 2) rfl, hL144.at (i := 3) rfl, hL144.at (i := 4) rfl, hL144.at (i := 5) rfl⟩ (by kernel_rfl) rfl (fun _ hI => r_loadHN rfl underlying23 rfl zr23 hI.2.2.2.2.1) rfl ?_;refine NI2 (i := 2) (j := 3) (by kernel_rfl) rfl rfl ?_ ?_
    ·refine S_alloc zr23 rfl rfl hL144 ?_;intro w146 b146 hL146 hle146 _;replace hG145 := hG145.trans (gz_mono hH hle146);refine NI_nil ⟨hG145.trans (gz_le hH hL146), hL146.at (i := 1) rfl, hL146.at (i := 2) rfl, hL146.at (i := 3) rfl, hL146.at (i := 4) rfl, hL146.at (i := 5) rfl, hL146.at (i := 6) rfl⟩ ?_;refine NI1 (i := 3) (by kernel_rfl) rfl ?_;refine S_alloc zr23 rfl rfl hL146 ?_;intro w147 b147 hL147 hle147 _;replace hG145 := hG145.trans (gz_mono hH hle147);refine NI_nil ⟨hG145.trans (gz_le hH hL147), hL147.at (i := 2) rfl, hL147.at (i := 3) rfl, hL147.at (i := 4) rfl, hL147.at (i := 5) rfl, hL147.at (i := 6) rfl, hL147.at (i := 7) rfl⟩ ?_;refine NI1 (i := 4) (by kernel_rfl) rfl ?_;refine S_storeBN 1 rfl rfl rfl zr23 hL147 rfl rfl (onc rfl (onc rfl on0)) ?_;intro w148 hL148 hle148;replace hG145 := hG145.trans (gz_mono hH hle148);refine NI_nil ⟨hG145.trans (gz_le hH hL148), hL148.at (i := 2) rfl, hL148.at (i := 3) rfl, hL148.at (i := 4) rfl, hL148.at (i := 5) rfl, hL148.at (i := 6) rfl, hL148.at (i := 7) rfl⟩ ?_;refine NI1 (i := 5) (by kernel_rfl) rfl ?_;refine S_storeBN 0 rfl rfl rfl zr23 hL148 rfl rfl (onc rfl (onc rfl on0)) ?_;intro w149 hL149 hle149;replace hG145 := hG145.trans (gz_mono hH hle149);refine NI_last (by kernel_rfl) ?_;refine NI_end (by kernel_rfl) ?_
     refine At_cut (x120.1, x120.2, x120.1, x120.2, b146, b147) (.cons rfl (.cons rfl (.cons rfl (.cons rfl (.cons rfl (.cons rfl (.cons rfl (.cons rfl (.cons rfl (.cons rfl (.cons rfl (.cons rfl (.cons rfl (.cons rfl (.cons rfl (Sub.nil _)))))))))))))))) ⟨hL149, ((hv108_0.mono hG115).mono hG145), ((hv112_0.mono hG115).mono hG145), (hv117_0.mono hG145), ((hf88_0.mono hG115).mono hG145), h⟩
    ·refine S_alloc zr23 rfl rfl hL144 ?_;intro w150 b150 hL150 hle150 _;replace hG145 := hG145.trans (gz_mono hH hle150);refine NI_nil ⟨hG145.trans (gz_le hH hL150), hL150.at (i := 1) rfl, hL150.at (i := 2) rfl, hL150.at (i := 3) rfl, hL150.at (i := 4) rfl, hL150.at (i := 5) rfl, hL150.at (i := 6) rfl⟩ ?_;refine NI1 (i := 2) (by kernel_rfl) rfl ?_;refine S_alloc zr23 rfl rfl hL150 ?_;intro w151 b151 hL151 hle151 _;replace hG145 := hG145.trans (gz_mono hH hle151);refine NI_nil ⟨hG145.trans (gz_le hH hL151), hL151.at (i := 2) rfl, hL151.at (i := 3) rfl, hL151.at (i := 4) rfl, hL151.at (i := 5) rfl, hL151.at (i := 6) rfl, hL151.at (i := 7) rfl⟩ ?_;refine NI1 (i := 4) (by kernel_rfl) rfl ?_;refine S_storeBN 0 rfl rfl rfl zr23 hL151 rfl rfl (onc rfl (onc rfl on0)) ?_;intro w152 hL152 hle152;replace hG145 := hG145.trans (gz_mono hH hle152);refine NI_nil ⟨hG145.trans (gz_le hH hL152), hL152.at (i := 2) rfl, hL152.at (i := 3) rfl, hL152.at (i := 4) rfl, hL152.at (i := 5) rfl, hL152.at (i := 6) rfl, hL152.at (i := 7) rfl⟩ ?_;refine NI1 (i := 5) (by kernel_rfl) rfl ?_;refine S_storeBN 1 rfl rfl rfl zr23 hL152 rfl rfl (onc rfl (onc rfl on0)) ?_;intro w153 hL153 hle153;replace hG145 := hG145.trans (gz_mono hH hle153);refine NI_last (by kernel_rfl) ?_;refine NI_end (by kernel_rfl) ?_
     have hL154 : Lcl w [.box b150 [.int .i64 x120.1, .int .i64 x120.2] 23, .box b151 [.int .i64 x120.1, .int .i64 x120.2] 23, .box b118 [.int .i64 x116.2.1, .int .i64 x116.2.2] 23, .box b113 [.int .i64 x111.2.1, .int .i64 x111.2.2] 23, .box b109 [.int .i64 x107.2.1, .int .i64 x107.2.2] 23, .box b9 [.int .i64 x120.1, .int .i64 x120.2] 23, .box b4 [.int .i64 x1.2.1, .int .i64 x1.2.2] 23, .box b3 [.int .i64 x1.1.1, u2_0] 47] w153 := hL153.picks [1] rfl;have hle154 := fz_picks [1] hL153 hL154 rfl;replace hG145 := hG145.trans (gz_mono hH hle154);refine At_cut (x120.1, x120.2, x120.1, x120.2, b151, b150) (.cons rfl (.cons rfl (.cons rfl (.cons rfl (.cons rfl (.cons rfl (.cons rfl (.cons rfl (.cons rfl (.cons rfl (.cons rfl (.cons rfl (.cons rfl (.cons rfl (.cons rfl (Sub.nil _)))))))))))))))) ⟨hL154, ((hv108_0.mono hG115).mono hG145), ((hv112_0.mono hG115).mono hG145), (hv117_0.mono hG145), ((hf88_0.mono hG115).mono hG145), h⟩
   ·rintro ⟨c136, c137, c139, c140, bjb135, bjb138⟩ wr141 ⟨hL141, hf141_0, hf141_1, hf141_2, hf141_3, h⟩;refine W_cut (σ := Int × Int) (fun ⟨c164, c165⟩ => [(0, v0_0), (1, .string ⟨(a1).toArray⟩), (2, .int .i64 a2), (3, .int .i64 a3), (4, v4_0), (11, .pointer (some ⟨b3, 0, none⟩)), (13, .pointer (some ⟨b9, 0, none⟩)), (14, u108_0), (15, .pointer (some ⟨b109, 0, none⟩)), (16, u112_0), (17, .pointer (some ⟨b113, 0, none⟩)), (18, u117_0), (19, .pointer (some ⟨b118, 0, none⟩)), (20, .pointer (some ⟨bjb135, 0, none⟩)), (21, .pointer (some ⟨bjb138, 0, none⟩))]) (fun ⟨c164, c165⟩ wr => InO w [.box bjb138 [.int .i64 c139, .int .i64 c140] 23, .box bjb135 [.int .i64 c164, .int .i64 c165] 23, .box b118 [.int .i64 x116.2.1, .int .i64 x116.2.2] 23, .box b113 [.int .i64 x111.2.1, .int .i64 x111.2.2] 23, .box b109 [.int .i64 x107.2.1, .int .i64 x107.2.2] 23, .box b9 [.int .i64 x120.1, .int .i64 x120.2] 23, .box b4 [.int .i64 x1.2.1, .int .i64 x1.2.2] 23, .box b3 [.int .i64 x1.1.1, u2_0] 47] wr fun Oz => Vec (.int .i64) (gz H w wr Oz) (u108_0) (x107.1) ∧ Vec (.int .i64) (gz H w wr Oz) (u112_0) (x111.1) ∧ Vec (.int .i64) (gz H w wr Oz) (u117_0) (x116.1) ∧ Vec (.pair (.pair .st (.pair (.int .i64) (.pair (.int .i64) .st))) (.vec (.int .i64))) (gz H w wr Oz) (u2_0) (x1.1.2) ∧ (law4_ShapesFindMatchesSpec_k4 a0 a1 a2 a3 a4 c139 c140 x1 x107 x111 x116 x120) c164 c165 = some r) ?_ ?_
    ·have hG168 := hL141.rG H;refine W_seqr ?_;refine S_v (r_field rfl underlying23 rfl zr3 (by decide)) rfl ?_;refine S_v (r_loadB1 5 rfl underlying3 rfl hL141 rfl rfl) rfl ?_;refine S_pu 2 rfl ?_;refine S_and 3 3 rfl rfl rfl rfl rfl rfl ?_;refine S_seqnil ?_;refine W_if rfl (fun hc169 => ?_) (fun hc169 => ?_)
     ·replace h := Go.L.ite_p hc169 h;refine W_region ?_;obtain ⟨x171, hb171, h⟩ := Go.L.bind_some h;refine S_callL rfl rfl hL141 (ref3_At_ok _ _ (gz_le hH hL141) hb171) ?_;rintro _ w172 rfl hx172 hL172 hle172;replace hG168 := hG168.trans (gz_mono hH hle172);refine S_storeBN 1 rfl rfl rfl zr23 hL172 rfl rfl (onc rfl (onc rfl on0)) ?_;intro w173 hL173 hle173;replace hG168 := hG168.trans (gz_mono hH hle173);refine S_nil ?_;refine At_cut (x171.1, x171.2) (.cons rfl (.cons rfl (.cons rfl (.cons rfl (.cons rfl (.cons rfl (.cons rfl (.cons rfl (.cons rfl (.cons rfl (.cons rfl (.cons rfl (.cons rfl (.cons rfl (.cons rfl (Sub.nil _)))))))))))))))) ⟨hL173, (hf141_0.mono hG168), (hf141_1.mono hG168), (hf141_2.mono hG168), (hf141_3.mono hG168), h⟩
     ·replace h := Go.L.ite_n hc169 h;refine W_skip ?_;refine At_cut (c136, c137) (.cons rfl (.cons rfl (.cons rfl (.cons rfl (.cons rfl (.cons rfl (.cons rfl (.cons rfl (.cons rfl (.cons rfl (.cons rfl (.cons rfl (.cons rfl (.cons rfl (.cons rfl (Sub.nil _)))))))))))))))) ⟨hL141, (hf141_0.mono hG168), (hf141_1.mono hG168), (hf141_2.mono hG168), (hf141_3.mono hG168), h⟩
    ·rintro ⟨c164, c165⟩ wr166 ⟨hL166, hf166_0, hf166_1, hf166_2, hf166_3, h⟩;refine W_cut (σ := Int × Int) (fun ⟨c187, c188⟩ => [(0, v0_0), (1, .string ⟨(a1).toArray⟩), (2, .int .i64 a2), (3, .int .i64 a3), (4, v4_0), (11, .pointer (some ⟨b3, 0, none⟩)), (13, .pointer (some ⟨b9, 0, none⟩)), (14, u108_0), (15, .pointer (some ⟨b109, 0, none⟩)), (16, u112_0), (17, .pointer (some ⟨b113, 0, none⟩)), (18, u117_0), (19, .pointer (some ⟨b118, 0, none⟩)), (20, .pointer (some ⟨bjb135, 0, none⟩)), (21, .pointer (some ⟨bjb138, 0, none⟩))]) (fun ⟨c187, c188⟩ wr => InO w [.box bjb138 [.int .i64 c187, .int .i64 c188] 23, .box bjb135 [.int .i64 c164, .int .i64 c165] 23, .box b118 [.int .i64 x116.2.1, .int .i64 x116.2.2] 23, .box b113 [.int .i64 x111.2.1, .int .i64 x111.2.2] 23, .box b109 [.int .i64 x107.2.1, .int .i64 x107.2.2] 23, .box b9 [.int .i64 x120.1, .int .i64 x120.2] 23, .box b4 [.int .i64 x1.2.1, .int .i64 x1.2.2] 23, .box b3 [.int .i64 x1.1.1, u2_0] 47] wr fun Oz => Vec (.int .i64) (gz H w wr Oz) (u108_0) (x107.1) ∧ Vec (.int .i64) (gz H w wr Oz) (u112_0) (x111.1) ∧ Vec (.int .i64) (gz H w wr Oz) (u117_0) (x116.1) ∧ Vec (.pair (.pair .st (.pair (.int .i64) (.pair (.int .i64) .st))) (.vec (.int .i64))) (gz H w wr Oz) (u2_0) (x1.1.2) ∧ (law4_ShapesFindMatchesSpec_k5 a0 a1 a2 a3 a4 c164 c165 x1 x107 x111 x116 x120) c187 c188 = some r) ?_ ?_
     ·have hG191 := hL166.rG H;refine W_seqr ?_;refine S_v (r_field rfl underlying23 rfl zr3 (by decide)) rfl ?_;refine S_v (r_loadB1 5 rfl underlying3 rfl hL166 rfl rfl) rfl ?_;refine S_pu 2 rfl ?_;refine S_split (s := 99) rfl (fun hg192 => ?_) (fun hg192 => ?_)
      ·replace h := Go.L.ite_p (of_decide_eq_true hg192) h;refine S_guarded rfl rfl hg192 ?_;refine S_v (RunsAt_pu rfl) rfl ?_;refine S_guarded rfl rfl hg192 ?_;refine S_v (r_len rfl underlying35 h4_0) rfl ?_;refine S_guarded rfl rfl hg192 ?_;refine S_v (RunsAt_pu rfl) rfl ?_;refine S_v (r_pickT rfl hg192 rfl) rfl ?_;refine S_seqnil ?_;refine W_if rfl (fun hc194 => ?_) (fun hc194 => ?_)
       ·replace h := Go.L.ite_p hc194 h;refine W_region ?_;obtain ⟨x196, hb196, h⟩ := Go.L.bind_some h;refine S_callL rfl rfl hL166 (ref3_At_ok _ _ (gz_le hH hL166) hb196) ?_;rintro _ w197 rfl hx197 hL197 hle197;replace hG191 := hG191.trans (gz_mono hH hle197);refine S_storeBN 0 rfl rfl rfl zr23 hL197 rfl rfl (onc rfl (onc rfl on0)) ?_;intro w198 hL198 hle198;replace hG191 := hG191.trans (gz_mono hH hle198);refine S_nil ?_;refine At_cut (x196.1, x196.2) (.cons rfl (.cons rfl (.cons rfl (.cons rfl (.cons rfl (.cons rfl (.cons rfl (.cons rfl (.cons rfl (.cons rfl (.cons rfl (.cons rfl (.cons rfl (.cons rfl (.cons rfl (Sub.nil _)))))))))))))))) ⟨hL198, (hf166_0.mono hG191), (hf166_1.mono hG191), (hf166_2.mono hG191), (hf166_3.mono hG191), h⟩
       ·replace h := Go.L.ite_n hc194 h;refine W_skip ?_;refine At_cut (c139, c140) (.cons rfl (.cons rfl (.cons rfl (.cons rfl (.cons rfl (.cons rfl (.cons rfl (.cons rfl (.cons rfl (.cons rfl (.cons rfl (.cons rfl (.cons rfl (.cons rfl (.cons rfl (Sub.nil _)))))))))))))))) ⟨hL166, (hf166_0.mono hG191), (hf166_1.mono hG191), (hf166_2.mono hG191), (hf166_3.mono hG191), h⟩
      ·replace h := Go.L.ite_n (of_decide_eq_false hg192) h
       iterate 3 refine S_unwanted rfl rfl hg192 rfl ?_
       refine S_v (r_pickF rfl hg192 rfl) rfl ?_;refine S_seqnil ?_;refine W_false rfl ?_;refine W_skip ?_;refine At_cut (c139, c140) (.cons rfl (.cons rfl (.cons rfl (.cons rfl (.cons rfl (.cons rfl (.cons rfl (.cons rfl (.cons rfl (.cons rfl (.cons rfl (.cons rfl (.cons rfl (.cons rfl (.cons rfl (Sub.nil _)))))))))))))))) ⟨hL166, (hf166_0.mono hG191), (hf166_1.mono hG191), (hf166_2.mono hG191), (hf166_3.mono hG191), h⟩
     ·rintro ⟨c187, c188⟩ wr189 ⟨hL189, hf189_0, hf189_1, hf189_2, hf189_3, h⟩;refine W_cut (σ := Unit) (fun (_ : Unit) => [(0, v0_0), (1, .string ⟨(a1).toArray⟩), (2, .int .i64 a2), (3, .int .i64 a3), (4, v4_0), (13, .pointer (some ⟨b9, 0, none⟩)), (14, u108_0), (16, u112_0), (18, u117_0), (20, .pointer (some ⟨bjb135, 0, none⟩)), (21, .pointer (some ⟨bjb138, 0, none⟩))]) (fun (_ : Unit) wr => InO w [.box bjb138 [.int .i64 c187, .int .i64 c188] 23, .box bjb135 [.int .i64 c164, .int .i64 c165] 23, .box b118 [.int .i64 x116.2.1, .int .i64 x116.2.2] 23, .box b113 [.int .i64 x111.2.1, .int .i64 x111.2.2] 23, .box b109 [.int .i64 x107.2.1, .int .i64 x107.2.2] 23, .box b9 [.int .i64 x120.1, .int .i64 x120.2] 23, .box b4 [.int .i64 x1.2.1, .int .i64 x1.2.2] 23, .box b3 [.int .i64 x1.1.1, u2_0] 47] wr fun Oz => Vec (.int .i64) (gz H w wr Oz) (u108_0) (x107.1) ∧ Vec (.int .i64) (gz H w wr Oz) (u112_0) (x111.1) ∧ Vec (.int .i64) (gz H w wr Oz) (u117_0) (x116.1) ∧ Vec (.pair (.pair .st (.pair (.int .i64) (.pair (.int .i64) .st))) (.vec (.int .i64))) (gz H w wr Oz) (u2_0) (x1.1.2) ∧ (law4_ShapesFindMatchesSpec_k6 a0 a1 a2 a3 a4 c164 c187 x107 x111 x116 x120) = some r) ?_ ?_
      ·have hG262 := hL189.rG H;refine W_seqr ?_;refine S_v (r_loadBN 7 rfl underlying47 rfl zr47 hL189 rfl) rfl ?_;obtain ⟨x263, hb263, h⟩ := Go.L.bind_some h;refine S_callL rfl rfl hL189 (shapes_Index_Items_ok (a0 := (x1.1.1, x1.1.2)) _ _ (gz_le hH hL189) (hf189_3.mono hG262) hb263) ?_;rintro _ w264 rfl hx264 hL264 hle264;replace hG262 := hG262.trans (gz_mono hH hle264);refine S_pu 1 rfl ?_;refine S_v (r_len rfl underlying36 h0_0) rfl ?_;refine S_pu 2 rfl ?_;refine S_split (s := 110) rfl (fun hg265 => ?_) (fun hg265 => ?_)
       ·replace h := Go.L.ite_n (not_dec_t hg265) h
        iterate 3 refine S_unwanted rfl rfl hg265 rfl ?_
        refine S_v (r_pickT rfl hg265 rfl) rfl ?_;refine S_pu 1 rfl ?_
        iterate 3 refine S_unwanted rfl rfl rfl rfl ?_
        refine S_v (r_pickT rfl rfl rfl) rfl ?_;refine S_pu 1 rfl ?_
        iterate 3 refine S_unwanted rfl rfl rfl rfl ?_
        refine S_v (r_pickT rfl rfl rfl) rfl ?_;refine S_pu 1 rfl ?_
        iterate 4 refine S_unwanted rfl rfl rfl rfl ?_
        iterate 3 refine S_unwanted2 rfl rfl rfl ?_
        refine S_unwanted rfl rfl rfl rfl ?_;refine S_v (r_pickT rfl rfl rfl) rfl ?_;refine S_pu 1 rfl ?_
        iterate 4 refine S_unwanted rfl rfl rfl rfl ?_
        iterate 3 refine S_unwanted2 rfl rfl rfl ?_
        refine S_unwanted rfl rfl rfl rfl ?_;refine S_v (r_pickT rfl rfl rfl) rfl ?_;refine S_pu 1 rfl ?_
        iterate 4 refine S_unwanted rfl rfl rfl rfl ?_
        iterate 3 refine S_unwanted2 rfl rfl rfl ?_
        refine S_unwanted rfl rfl rfl rfl ?_;refine S_v (r_pickT rfl rfl rfl) rfl ?_;refine S_seqnil ?_;refine W_true rfl ?_;refine W_pz 1 rfl ?_;refine W_ret ?_;refine At_cut_ret ?_;obtain rfl := Option.some.inj h;refine At_body rfl rfl ?_;exact ⟨hL264.ext, rfl⟩
       ·replace h := Go.L.ite_p (not_dec_f hg265) h;refine S_guarded rfl rfl hg265 ?_;refine S_v (r_loadBN 4 rfl underlying23 rfl zr23 hL264 rfl) rfl ?_;refine S_guarded rfl rfl hg265 ?_;refine S_v (r_loadBN 5 rfl underlying23 rfl zr23 hL264 rfl) rfl ?_;refine S_guarded rfl rfl hg265 ?_;refine S_v (r_neA rfl rfl eqg23 (eq23 _ _ _ _ )) rfl ?_;refine S_v (r_pickF rfl hg265 rfl) rfl ?_;refine S_pu 1 rfl ?_;refine S_split (s := 115) rfl (fun hg268 => ?_) (fun hg268 => ?_)
        ·replace h := Go.L.ite_n (not_dec_t hg268) h
         iterate 3 refine S_unwanted rfl rfl hg268 rfl ?_
         refine S_v (r_pickT rfl hg268 rfl) rfl ?_;refine S_pu 1 rfl ?_
         iterate 3 refine S_unwanted rfl rfl rfl rfl ?_
         refine S_v (r_pickT rfl rfl rfl) rfl ?_;refine S_pu 1 rfl ?_
         iterate 4 refine S_unwanted rfl rfl rfl rfl ?_
         iterate 3 refine S_unwanted2 rfl rfl rfl ?_
         refine S_unwanted rfl rfl rfl rfl ?_;refine S_v (r_pickT rfl rfl rfl) rfl ?_;refine S_pu 1 rfl ?_
         iterate 4 refine S_unwanted rfl rfl rfl rfl ?_
         iterate 3 refine S_unwanted2 rfl rfl rfl ?_
         refine S_unwanted rfl rfl rfl rfl ?_;refine S_v (r_pickT rfl rfl rfl) rfl ?_;refine S_pu 1 rfl ?_
         iterate 4 refine S_unwanted rfl rfl rfl rfl ?_
         iterate 3 refine S_unwanted2 rfl rfl rfl ?_
         refine S_unwanted rfl rfl rfl rfl ?_;refine S_v (r_pickT rfl rfl rfl) rfl ?_;refine S_seqnil ?_;refine W_true rfl ?_;refine W_pz 1 rfl ?_;refine W_ret ?_;refine At_cut_ret ?_;obtain rfl := Option.some.inj h;refine At_body rfl rfl ?_;exact ⟨hL264.ext, rfl⟩
        ·replace h := Go.L.ite_p (not_dec_f hg268) h;refine S_guarded rfl rfl hg268 ?_;refine S_v (r_loadBN 3 rfl underlying23 rfl zr23 hL264 rfl) rfl ?_;refine S_guarded rfl rfl hg268 ?_;refine S_v (r_loadBN 1 rfl underlying23 rfl zr23 hL264 rfl) rfl ?_;refine S_guarded rfl rfl hg268 ?_;refine S_v (r_neA rfl rfl eqg23 (eq23 _ _ _ _ )) rfl ?_;refine S_v (r_pickF rfl hg268 rfl) rfl ?_;refine S_pu 1 rfl ?_;refine S_split (s := 120) rfl (fun hg271 => ?_) (fun hg271 => ?_)
         ·replace h := Go.L.ite_n (not_dec_t hg271) h
          iterate 3 refine S_unwanted rfl rfl hg271 rfl ?_
          refine S_v (r_pickT rfl hg271 rfl) rfl ?_;refine S_pu 1 rfl ?_
          iterate 4 refine S_unwanted rfl rfl rfl rfl ?_
          iterate 3 refine S_unwanted2 rfl rfl rfl ?_
          refine S_unwanted rfl rfl rfl rfl ?_;refine S_v (r_pickT rfl rfl rfl) rfl ?_;refine S_pu 1 rfl ?_
          iterate 4 refine S_unwanted rfl rfl rfl rfl ?_
          iterate 3 refine S_unwanted2 rfl rfl rfl ?_
          refine S_unwanted rfl rfl rfl rfl ?_;refine S_v (r_pickT rfl rfl rfl) rfl ?_;refine S_pu 1 rfl ?_
          iterate 4 refine S_unwanted rfl rfl rfl rfl ?_
          iterate 3 refine S_unwanted2 rfl rfl rfl ?_
          refine S_unwanted rfl rfl rfl rfl ?_;refine S_v (r_pickT rfl rfl rfl) rfl ?_;refine S_seqnil ?_;refine W_true rfl ?_;refine W_pz 1 rfl ?_;refine W_ret ?_;refine At_cut_ret ?_;obtain rfl := Option.some.inj h;refine At_body rfl rfl ?_;exact ⟨hL264.ext, rfl⟩
         ·replace h := Go.L.ite_p (not_dec_f hg271) h;refine S_guarded rfl rfl hg271 ?_;refine S_v (r_loadBN 2 rfl underlying23 rfl zr23 hL264 rfl) rfl ?_;refine S_guarded rfl rfl hg271 ?_;refine S_v (r_loadBN 0 rfl underlying23 rfl zr23 hL264 rfl) rfl ?_;refine S_guarded rfl rfl hg271 ?_;refine S_v (r_neA rfl rfl eqg23 (eq23 _ _ _ _ )) rfl ?_;refine S_v (r_pickF rfl hg271 rfl) rfl ?_;refine S_pu 1 rfl ?_;refine S_split (s := 125) rfl (fun hg274 => ?_) (fun hg274 => ?_)
          ·replace h := Go.L.ite_n (not_dec_t hg274) h
           iterate 4 refine S_unwanted rfl rfl hg274 rfl ?_
           iterate 3 refine S_unwanted2 rfl rfl rfl ?_
           refine S_unwanted rfl rfl hg274 rfl ?_;refine S_v (r_pickT rfl hg274 rfl) rfl ?_;refine S_pu 1 rfl ?_
           iterate 4 refine S_unwanted rfl rfl rfl rfl ?_
           iterate 3 refine S_unwanted2 rfl rfl rfl ?_
           refine S_unwanted rfl rfl rfl rfl ?_;refine S_v (r_pickT rfl rfl rfl) rfl ?_;refine S_pu 1 rfl ?_
           iterate 4 refine S_unwanted rfl rfl rfl rfl ?_
           iterate 3 refine S_unwanted2 rfl rfl rfl ?_
           refine S_unwanted rfl rfl rfl rfl ?_;refine S_v (r_pickT rfl rfl rfl) rfl ?_;refine S_seqnil ?_;refine W_true rfl ?_;refine W_pz 1 rfl ?_;refine W_ret ?_;refine At_cut_ret ?_;obtain rfl := Option.some.inj h;refine At_body rfl rfl ?_;exact ⟨hL264.ext, rfl⟩
          ·replace h := Go.L.ite_p (not_dec_f hg274) h;refine S_guarded rfl rfl hg274 ?_;refine S_v (r_field rfl underlying23 rfl zr3 (by decide)) rfl ?_;refine S_guarded rfl rfl hg274 ?_;refine S_v (r_loadB1 5 rfl underlying3 rfl hL264 rfl rfl) rfl ?_;refine S_guarded rfl rfl hg274 ?_;refine S_v (RunsAt_pu rfl) rfl ?_;refine S_guarded rfl rfl hg274 ?_;refine S_v (RunsAt_pu rfl) rfl ?_;refine S_split (s := 129) rfl (fun hg277 => ?_) (fun hg277 => ?_)
           ·replace h := Go.L.ite_n (not_dec_t hg277) h;refine S_guarded rfl rfl hg277 ?_;refine S_v (RunsAt_pu rfl) rfl ?_;refine S_guarded rfl rfl hg277 ?_;refine S_v (r_len rfl underlying52 (hf189_0.mono hG262)) rfl ?_;refine S_guarded rfl rfl hg277 ?_;refine S_v (RunsAt_pu rfl) rfl ?_;refine S_guarded rfl rfl hg274 ?_;refine S_v (r_pickT rfl hg277 rfl) rfl ?_;refine S_v (r_pickF rfl hg274 rfl) rfl ?_;refine S_pu 1 rfl ?_;refine S_split (s := 135) rfl (fun hg279 => ?_) (fun hg279 => ?_)
            ·replace h := Go.L.ite_p (of_decide_eq_true hg279) h
             iterate 4 refine S_unwanted rfl rfl hg279 rfl ?_
             iterate 3 refine S_unwanted2 rfl rfl rfl ?_
             refine S_unwanted rfl rfl hg279 rfl ?_;refine S_v (r_pickT rfl hg279 rfl) rfl ?_;refine S_pu 1 rfl ?_
             iterate 4 refine S_unwanted rfl rfl rfl rfl ?_
             iterate 3 refine S_unwanted2 rfl rfl rfl ?_
             refine S_unwanted rfl rfl rfl rfl ?_;refine S_v (r_pickT rfl rfl rfl) rfl ?_;refine S_seqnil ?_;refine W_true rfl ?_;refine W_pz 1 rfl ?_;refine W_ret ?_;refine At_cut_ret ?_;obtain rfl := Option.some.inj h;refine At_body rfl rfl ?_;exact ⟨hL264.ext, rfl⟩
            ·replace h := Go.L.ite_n (of_decide_eq_false hg279) h;refine S_guarded rfl rfl hg279 ?_;refine S_v (r_field rfl underlying23 rfl zr3 (by decide)) rfl ?_;refine S_guarded rfl rfl hg279 ?_;refine S_v (r_loadB1 1 rfl underlying3 rfl hL264 rfl rfl) rfl ?_;refine S_guarded rfl rfl hg279 ?_;refine S_v (RunsAt_pu rfl) rfl ?_;refine S_guarded rfl rfl hg279 ?_;refine S_v (RunsAt_pu rfl) rfl ?_;refine S_split (s := 139) rfl (fun hg282 => ?_) (fun hg282 => ?_)
             ·replace h := Go.L.ite_n (not_dec_t hg282) h;refine S_guarded rfl rfl hg282 ?_;refine S_v (RunsAt_pu rfl) rfl ?_;refine S_guarded rfl rfl hg282 ?_;refine S_v (r_len rfl underlying52 (hf189_1.mono hG262)) rfl ?_;refine S_guarded rfl rfl hg282 ?_;refine S_v (RunsAt_pu rfl) rfl ?_;refine S_guarded rfl rfl hg279 ?_;refine S_v (r_pickT rfl hg282 rfl) rfl ?_;refine S_v (r_pickF rfl hg279 rfl) rfl ?_;refine S_pu 1 rfl ?_;refine S_split (s := 145) rfl (fun hg284 => ?_) (fun hg284 => ?_)
              ·replace h := Go.L.ite_p (of_decide_eq_true hg284) h
               iterate 4 refine S_unwanted rfl rfl hg284 rfl ?_
               iterate 3 refine S_unwanted2 rfl rfl rfl ?_
               refine S_unwanted rfl rfl hg284 rfl ?_;refine S_v (r_pickT rfl hg284 rfl) rfl ?_;refine S_seqnil ?_;refine W_true rfl ?_;refine W_pz 1 rfl ?_;refine W_ret ?_;refine At_cut_ret ?_;obtain rfl := Option.some.inj h;refine At_body rfl rfl ?_;exact ⟨hL264.ext, rfl⟩
              ·replace h := Go.L.ite_n (of_decide_eq_false hg284) h;refine S_guarded rfl rfl hg284 ?_;refine S_v (r_field rfl underlying23 rfl zr3 (by decide)) rfl ?_;refine S_guarded rfl rfl hg284 ?_;refine S_v (r_loadB1 0 rfl underlying3 rfl hL264 rfl rfl) rfl ?_;refine S_guarded rfl rfl hg284 ?_;refine S_v (RunsAt_pu rfl) rfl ?_;refine S_guarded rfl rfl hg284 ?_;refine S_v (RunsAt_pu rfl) rfl ?_;refine S_split (s := 149) rfl (fun hg287 => ?_) (fun hg287 => ?_)
               ·replace h := Go.L.ite_n (not_dec_t hg287) h;refine S_guarded rfl rfl hg287 ?_;refine S_v (RunsAt_pu rfl) rfl ?_;refine S_guarded rfl rfl hg287 ?_;refine S_v (r_len rfl underlying52 (hf189_2.mono hG262)) rfl ?_;refine S_guarded rfl rfl hg287 ?_;refine S_v (RunsAt_pu rfl) rfl ?_;refine S_guarded rfl rfl hg284 ?_;refine S_v (r_pickT rfl hg287 rfl) rfl ?_;refine S_v (r_pickF rfl hg284 rfl) rfl ?_;refine S_seqnil ?_;refine W_if rfl (fun hc289 => ?_) (fun hc289 => ?_)
                ·replace h := Go.L.ite_p hc289 h;refine W_pz 1 rfl ?_;refine W_ret ?_;refine At_cut_ret ?_;obtain rfl := Option.some.inj h;refine At_body rfl rfl ?_;exact ⟨hL264.ext, rfl⟩
                ·replace h := Go.L.ite_n hc289 h;refine W_skip ?_;refine At_cut () (.cons rfl (.cons rfl (.cons rfl (.cons rfl (.cons rfl (.cons rfl (.cons rfl (.cons rfl (.cons rfl (.cons rfl (.cons rfl (Sub.nil _)))))))))))) ⟨hL264, (hf189_0.mono hG262), (hf189_1.mono hG262), (hf189_2.mono hG262), (hf189_3.mono hG262), h⟩
               ·replace h := Go.L.ite_p (not_dec_f hg287) h
                iterate 3 refine S_unwanted rfl rfl hg287 rfl ?_
                refine S_guarded rfl rfl hg284 ?_;refine S_v (r_pickF rfl hg287 rfl) rfl ?_;refine S_v (r_pickF rfl hg284 rfl) rfl ?_;refine S_seqnil ?_;refine W_false rfl ?_;refine W_skip ?_;refine At_cut () (.cons rfl (.cons rfl (.cons rfl (.cons rfl (.cons rfl (.cons rfl (.cons rfl (.cons rfl (.cons rfl (.cons rfl (.cons rfl (Sub.nil _)))))))))))) ⟨hL264, (hf189_0.mono hG262), (hf189_1.mono hG262), (hf189_2.mono hG262), (hf189_3.mono hG262), h⟩
             ·replace h := Go.L.ite_p (not_dec_f hg282) h
              iterate 3 refine S_unwanted rfl rfl hg282 rfl ?_
              refine S_guarded rfl rfl hg279 ?_;refine S_v (r_pickF rfl hg282 rfl) rfl ?_;refine S_v (r_pickF rfl hg279 rfl) rfl ?_;refine S_pu 1 rfl ?_;refine S_guarded rfl rfl rfl ?_;refine S_v (r_field rfl underlying23 rfl zr3 (by decide)) rfl ?_;refine S_guarded rfl rfl rfl ?_;refine S_v (r_loadB1 0 rfl underlying3 rfl hL264 rfl rfl) rfl ?_;refine S_guarded rfl rfl rfl ?_;refine S_v (RunsAt_pu rfl) rfl ?_;refine S_guarded rfl rfl rfl ?_;refine S_v (RunsAt_pu rfl) rfl ?_;refine S_split (s := 149) rfl (fun hg294 => ?_) (fun hg294 => ?_)
              ·replace h := Go.L.ite_n (not_dec_t hg294) h;refine S_guarded rfl rfl hg294 ?_;refine S_v (RunsAt_pu rfl) rfl ?_;refine S_guarded rfl rfl hg294 ?_;refine S_v (r_len rfl underlying52 (hf189_2.mono hG262)) rfl ?_;refine S_guarded rfl rfl hg294 ?_;refine S_v (RunsAt_pu rfl) rfl ?_;refine S_guarded rfl rfl rfl ?_;refine S_v (r_pickT rfl hg294 rfl) rfl ?_;refine S_v (r_pickF rfl rfl rfl) rfl ?_;refine S_seqnil ?_;refine W_if rfl (fun hc296 => ?_) (fun hc296 => ?_)
               ·replace h := Go.L.ite_p hc296 h;refine W_pz 1 rfl ?_;refine W_ret ?_;refine At_cut_ret ?_;obtain rfl := Option.some.inj h;refine At_body rfl rfl ?_;exact ⟨hL264.ext, rfl⟩
               ·replace h := Go.L.ite_n hc296 h;refine W_skip ?_;refine At_cut () (.cons rfl (.cons rfl (.cons rfl (.cons rfl (.cons rfl (.cons rfl (.cons rfl (.cons rfl (.cons rfl (.cons rfl (.cons rfl (Sub.nil _)))))))))))) ⟨hL264, (hf189_0.mono hG262), (hf189_1.mono hG262), (hf189_2.mono hG262), (hf189_3.mono hG262), h⟩
              ·replace h := Go.L.ite_p (not_dec_f hg294) h
               iterate 3 refine S_unwanted rfl rfl hg294 rfl ?_
               refine S_guarded rfl rfl rfl ?_;refine S_v (r_pickF rfl hg294 rfl) rfl ?_;refine S_v (r_pickF rfl rfl rfl) rfl ?_;refine S_seqnil ?_;refine W_false rfl ?_;refine W_skip ?_;refine At_cut () (.cons rfl (.cons rfl (.cons rfl (.cons rfl (.cons rfl (.cons rfl (.cons rfl (.cons rfl (.cons rfl (.cons rfl (.cons rfl (Sub.nil _)))))))))))) ⟨hL264, (hf189_0.mono hG262), (hf189_1.mono hG262), (hf189_2.mono hG262), (hf189_3.mono hG262), h⟩
           ·replace h := Go.L.ite_p (not_dec_f hg277) h
            iterate 3 refine S_unwanted rfl rfl hg277 rfl ?_
            refine S_guarded rfl rfl hg274 ?_;refine S_v (r_pickF rfl hg277 rfl) rfl ?_;refine S_v (r_pickF rfl hg274 rfl) rfl ?_;refine S_pu 1 rfl ?_;refine S_guarded rfl rfl rfl ?_;refine S_v (r_field rfl underlying23 rfl zr3 (by decide)) rfl ?_;refine S_guarded rfl rfl rfl ?_;refine S_v (r_loadB1 1 rfl underlying3 rfl hL264 rfl rfl) rfl ?_;refine S_guarded rfl rfl rfl ?_;refine S_v (RunsAt_pu rfl) rfl ?_;refine S_guarded rfl rfl rfl ?_;refine S_v (RunsAt_pu rfl) rfl ?_;refine S_split (s := 139) rfl (fun hg301 => ?_) (fun hg301 => ?_)
            ·replace h := Go.L.ite_n (not_dec_t hg301) h;refine S_guarded rfl rfl hg301 ?_;refine S_v (RunsAt_pu rfl) rfl ?_;refine S_guarded rfl rfl hg301 ?_;refine S_v (r_len rfl underlying52 (hf189_1.mono hG262)) rfl ?_;refine S_guarded rfl rfl hg301 ?_;refine S_v (RunsAt_pu rfl) rfl ?_;refine S_guarded rfl rfl rfl ?_;refine S_v (r_pickT rfl hg301 rfl) rfl ?_;refine S_v (r_pickF rfl rfl rfl) rfl ?_;refine S_pu 1 rfl ?_;refine S_split (s := 145) rfl (fun hg303 => ?_) (fun hg303 => ?_)
             ·replace h := Go.L.ite_p (of_decide_eq_true hg303) h
              iterate 4 refine S_unwanted rfl rfl hg303 rfl ?_
              iterate 3 refine S_unwanted2 rfl rfl rfl ?_
              refine S_unwanted rfl rfl hg303 rfl ?_;refine S_v (r_pickT rfl hg303 rfl) rfl ?_;refine S_seqnil ?_;refine W_true rfl ?_;refine W_pz 1 rfl ?_;refine W_ret ?_;refine At_cut_ret ?_;obtain rfl := Option.some.inj h;refine At_body rfl rfl ?_;exact ⟨hL264.ext, rfl⟩
             ·replace h := Go.L.ite_n (of_decide_eq_false hg303) h;refine S_guarded rfl rfl hg303 ?_;refine S_v (r_field rfl underlying23 rfl zr3 (by decide)) rfl ?_;refine S_guarded rfl rfl hg303 ?_;refine S_v (r_loadB1 0 rfl underlying3 rfl hL264 rfl rfl) rfl ?_;refine S_guarded rfl rfl hg303 ?_;refine S_v (RunsAt_pu rfl) rfl ?_;refine S_guarded rfl rfl hg303 ?_;refine S_v (RunsAt_pu rfl) rfl ?_;refine S_split (s := 149) rfl (fun hg306 => ?_) (fun hg306 => ?_)
              ·replace h := Go.L.ite_n (not_dec_t hg306) h;refine S_guarded rfl rfl hg306 ?_;refine S_v (RunsAt_pu rfl) rfl ?_;refine S_guarded rfl rfl hg306 ?_;refine S_v (r_len rfl underlying52 (hf189_2.mono hG262)) rfl ?_;refine S_guarded rfl rfl hg306 ?_;refine S_v (RunsAt_pu rfl) rfl ?_;refine S_guarded rfl rfl hg303 ?_;refine S_v (r_pickT rfl hg306 rfl) rfl ?_;refine S_v (r_pickF rfl hg303 rfl) rfl ?_;refine S_seqnil ?_;refine W_if rfl (fun hc308 => ?_) (fun hc308 => ?_)
               ·replace h := Go.L.ite_p hc308 h;refine W_pz 1 rfl ?_;refine W_ret ?_;refine At_cut_ret ?_;obtain rfl := Option.some.inj h;refine At_body rfl rfl ?_;exact ⟨hL264.ext, rfl⟩
               ·replace h := Go.L.ite_n hc308 h;refine W_skip ?_;refine At_cut () (.cons rfl (.cons rfl (.cons rfl (.cons rfl (.cons rfl (.cons rfl (.cons rfl (.cons rfl (.cons rfl (.cons rfl (.cons rfl (Sub.nil _)))))))))))) ⟨hL264, (hf189_0.mono hG262), (hf189_1.mono hG262), (hf189_2.mono hG262), (hf189_3.mono hG262), h⟩
              ·replace h := Go.L.ite_p (not_dec_f hg306) h
               iterate 3 refine S_unwanted rfl rfl hg306 rfl ?_
               refine S_guarded rfl rfl hg303 ?_;refine S_v (r_pickF rfl hg306 rfl) rfl ?_;refine S_v (r_pickF rfl hg303 rfl) rfl ?_;refine S_seqnil ?_;refine W_false rfl ?_;refine W_skip ?_;refine At_cut () (.cons rfl (.cons rfl (.cons rfl (.cons rfl (.cons rfl (.cons rfl (.cons rfl (.cons rfl (.cons rfl (.cons rfl (.cons rfl (Sub.nil _)))))))))))) ⟨hL264, (hf189_0.mono hG262), (hf189_1.mono hG262), (hf189_2.mono hG262), (hf189_3.mono hG262), h⟩
            ·replace h := Go.L.ite_p (not_dec_f hg301) h
             iterate 3 refine S_unwanted rfl rfl hg301 rfl ?_
             refine S_guarded rfl rfl rfl ?_;refine S_v (r_pickF rfl hg301 rfl) rfl ?_;refine S_v (r_pickF rfl rfl rfl) rfl ?_;refine S_pu 1 rfl ?_;refine S_guarded rfl rfl rfl ?_;refine S_v (r_field rfl underlying23 rfl zr3 (by decide)) rfl ?_;refine S_guarded rfl rfl rfl ?_;refine S_v (r_loadB1 0 rfl underlying3 rfl hL264 rfl rfl) rfl ?_;refine S_guarded rfl rfl rfl ?_;refine S_v (RunsAt_pu rfl) rfl ?_;refine S_guarded rfl rfl rfl ?_;refine S_v (RunsAt_pu rfl) rfl ?_;refine S_split (s := 149) rfl (fun hg313 => ?_) (fun hg313 => ?_)
             ·replace h := Go.L.ite_n (not_dec_t hg313) h;refine S_guarded rfl rfl hg313 ?_;refine S_v (RunsAt_pu rfl) rfl ?_;refine S_guarded rfl rfl hg313 ?_;refine S_v (r_len rfl underlying52 (hf189_2.mono hG262)) rfl ?_;refine S_guarded rfl rfl hg313 ?_;refine S_v (RunsAt_pu rfl) rfl ?_;refine S_guarded rfl rfl rfl ?_;refine S_v (r_pickT rfl hg313 rfl) rfl ?_;refine S_v (r_pickF rfl rfl rfl) rfl ?_;refine S_seqnil ?_;refine W_if rfl (fun hc315 => ?_) (fun hc315 => ?_)
              ·replace h := Go.L.ite_p hc315 h;refine W_pz 1 rfl ?_;refine W_ret ?_;refine At_cut_ret ?_;obtain rfl := Option.some.inj h;refine At_body rfl rfl ?_;exact ⟨hL264.ext, rfl⟩
              ·replace h := Go.L.ite_n hc315 h;refine W_skip ?_;refine At_cut () (.cons rfl (.cons rfl (.cons rfl (.cons rfl (.cons rfl (.cons rfl (.cons rfl (.cons rfl (.cons rfl (.cons rfl (.cons rfl (Sub.nil _)))))))))))) ⟨hL264, (hf189_0.mono hG262), (hf189_1.mono hG262), (hf189_2.mono hG262), (hf189_3.mono hG262), h⟩
             ·replace h := Go.L.ite_p (not_dec_f hg313) h
              iterate 3 refine S_unwanted rfl rfl hg313 rfl ?_
              refine S_guarded rfl rfl rfl ?_;refine S_v (r_pickF rfl hg313 rfl) rfl ?_;refine S_v (r_pickF rfl rfl rfl) rfl ?_;refine S_seqnil ?_;refine W_false rfl ?_;refine W_skip ?_;refine At_cut () (.cons rfl (.cons rfl (.cons rfl (.cons rfl (.cons rfl (.cons rfl (.cons rfl (.cons rfl (.cons rfl (.cons rfl (.cons rfl (Sub.nil _)))))))))))) ⟨hL264, (hf189_0.mono hG262), (hf189_1.mono hG262), (hf189_2.mono hG262), (hf189_3.mono hG262), h⟩
      ·rintro _ wr260 ⟨hL260, hf260_0, hf260_1, hf260_2, hf260_3, h⟩;have hG320 := hL260.rG H;refine W_p 1 rfl ?_;obtain ⟨hL321, hle321, he321⟩ := row_nilE (.int .i64) H 3 hL260;replace hG320 := hG320.trans (gz_mono hH hle321);refine S_pu 1 rfl ?_;obtain ⟨hL322, hle322, he322⟩ := row_nilE (.int .i64) H 3 hL321;replace he321 := he321.mono (gz_mono hH hle322);replace hG320 := hG320.trans (gz_mono hH hle322);refine S_pu 1 rfl ?_;obtain ⟨hL323, hle323, he323⟩ := row_nilE (.int .i64) H 3 hL322;replace he321 := he321.mono (gz_mono hH hle323);replace he322 := he322.mono (gz_mono hH hle323);replace hG320 := hG320.trans (gz_mono hH hle323);refine S_seqnil ?_
       refine W_cut (σ := (List Int) × (List Int) × (List Int) × Value × (List Value) × Value × (List Value) × Value × (List Value)) (fun ⟨l439, l440, l441, vl439, xsl439, vl440, xsl440, vl441, xsl441⟩ => [(14, u108_0), (16, u112_0), (18, u117_0), (22, vl441), (23, vl440), (24, vl439)]) (fun ⟨l439, l440, l441, vl439, xsl439, vl440, xsl440, vl441, xsl441⟩ wr => InO w [.row (vl439) 3 1 (l439).length (xsl439), .row (vl440) 3 1 (l440).length (xsl440), .row (vl441) 3 1 (l441).length (xsl441), .box bjb138 [.int .i64 c187, .int .i64 c188] 23, .box bjb135 [.int .i64 c164, .int .i64 c165] 23, .box b118 [.int .i64 x116.2.1, .int .i64 x116.2.2] 23, .box b113 [.int .i64 x111.2.1, .int .i64 x111.2.2] 23, .box b109 [.int .i64 x107.2.1, .int .i64 x107.2.2] 23, .box b9 [.int .i64 x120.1, .int .i64 x120.2] 23, .box b4 [.int .i64 x1.2.1, .int .i64 x1.2.2] 23, .box b3 [.int .i64 x1.1.1, u2_0] 47] wr fun Oz => Vec (.int .i64) (gz H w wr Oz) (u108_0) (x107.1) ∧ Vec (.int .i64) (gz H w wr Oz) (u112_0) (x111.1) ∧ Vec (.int .i64) (gz H w wr Oz) (u117_0) (x116.1) ∧ Elems (.int .i64) (gz H w wr Oz) (l439) (xsl439) ∧ Elems (.int .i64) (gz H w wr Oz) (l440) (xsl440) ∧ Elems (.int .i64) (gz H w wr Oz) (l441) (xsl441) ∧ Vec (.pair (.pair .st (.pair (.int .i64) (.pair (.int .i64) .st))) (.vec (.int .i64))) (gz H w wr Oz) (u2_0) (x1.1.2) ∧ (law4_ShapesFindMatchesSpec_k7 x107 x111 x116) l439 l440 l441 = some r) ?_ ?_
       ·have hG444 := hL323.rG H;refine W_pz 1 rfl ?_;refine W_block ?_;obtain ⟨n503, h⟩ := Go.L.run_some h
        refine W_loop (σ := (List Int) × (List Int) × (List Int) × Int × Value × (List Value) × Value × (List Value) × Value × (List Value) × Nat) (fun ⟨l499, l500, l501, s25_502, vl499, xsl499, vl500, xsl500, vl501, xsl501, n⟩ => [(0, v0_0), (1, .string ⟨(a1).toArray⟩), (2, .int .i64 a2), (3, .int .i64 a3), (4, v4_0), (13, .pointer (some ⟨b9, 0, none⟩)), (14, u108_0), (16, u112_0), (18, u117_0), (20, .pointer (some ⟨bjb135, 0, none⟩)), (21, .pointer (some ⟨bjb138, 0, none⟩)), (22, vl501), (23, vl500), (24, vl499), (25, .int .i64 s25_502)]) (fun ⟨l499, l500, l501, s25_502, vl499, xsl499, vl500, xsl500, vl501, xsl501, n⟩ wr => InO w [.row (vl499) 3 1 (l499).length (xsl499), .row (vl500) 3 1 (l500).length (xsl500), .row (vl501) 3 1 (l501).length (xsl501), .box bjb138 [.int .i64 c187, .int .i64 c188] 23, .box bjb135 [.int .i64 c164, .int .i64 c165] 23, .box b118 [.int .i64 x116.2.1, .int .i64 x116.2.2] 23, .box b113 [.int .i64 x111.2.1, .int .i64 x111.2.2] 23, .box b109 [.int .i64 x107.2.1, .int .i64 x107.2.2] 23, .box b9 [.int .i64 x120.1, .int .i64 x120.2] 23, .box b4 [.int .i64 x1.2.1, .int .i64 x1.2.2] 23, .box b3 [.int .i64 x1.1.1, u2_0] 47] wr fun Oz => Vec (.int .i64) (gz H w wr Oz) (u108_0) (x107.1) ∧ Vec (.int .i64) (gz H w wr Oz) (u112_0) (x111.1) ∧ Vec (.int .i64) (gz H w wr Oz) (u117_0) (x116.1) ∧ Elems (.int .i64) (gz H w wr Oz) (l499) (xsl499) ∧ Elems (.int .i64) (gz H w wr Oz) (l500) (xsl500) ∧ Elems (.int .i64) (gz H w wr Oz) (l501) (xsl501) ∧ Vec (.pair (.pair .st (.pair (.int .i64) (.pair (.int .i64) .st))) (.vec (.int .i64))) (gz H w wr Oz) (u2_0) (x1.1.2) ∧ Go.L.itr (law4_ShapesFindMatchesSpec_bl8 a0 a1 a2 a3 a4 c164 c187 x107 x111 x116 x120) n (l499, l500, l501, s25_502) = some r) (fun ⟨l499, l500, l501, s25_502, vl499, xsl499, vl500, xsl500, vl501, xsl501, n⟩ => n) (([] : List Int), ([] : List Int), ([] : List Int), (0 : Int), .slice none 0 0, [], .slice none 0 0, [], .slice none 0 0, [], n503) (.cons rfl (.cons rfl (.cons rfl (.cons rfl (.cons rfl (.cons rfl (.cons rfl (.cons rfl (.cons rfl (.cons rfl (.cons rfl (.cons rfl (.cons rfl (.cons rfl (.cons rfl (Sub.nil _)))))))))))))))) ⟨hL323, ((hf260_0.mono hG320).mono hG444), ((hf260_1.mono hG320).mono hG444), ((hf260_2.mono hG320).mono hG444), (he323.mono hG444), (he322.mono hG444), (he321.mono hG444), ((hf260_3.mono hG320).mono hG444), h⟩ ?_
        rintro ⟨l499, l500, l501, s25_502, vl499, xsl499, vl500, xsl500, vl501, xsl501, nn503⟩ wr503 ⟨hL503, hf503_0, hf503_1, hf503_2, hel499, hel500, hel501, hf503_6, h⟩;obtain ⟨n503, e503, rfl, h, hm503⟩ := Go.L.itr_some h
        refine W_cut (σ := Unit) (fun (_ : Unit) => [(0, v0_0), (1, .string ⟨(a1).toArray⟩), (2, .int .i64 a2), (3, .int .i64 a3), (4, v4_0), (13, .pointer (some ⟨b9, 0, none⟩)), (14, u108_0), (16, u112_0), (18, u117_0), (20, .pointer (some ⟨bjb135, 0, none⟩)), (21, .pointer (some ⟨bjb138, 0, none⟩)), (22, vl501), (23, vl500), (24, vl499), (25, .int .i64 s25_502)]) (fun (_ : Unit) wr => InO w [.row (vl499) 3 1 (l499).length (xsl499), .row (vl500) 3 1 (l500).length (xsl500), .row (vl501) 3 1 (l501).length (xsl501), .box bjb138 [.int .i64 c187, .int .i64 c188] 23, .box bjb135 [.int .i64 c164, .int .i64 c165] 23, .box b118 [.int .i64 x116.2.1, .int .i64 x116.2.2] 23, .box b113 [.int .i64 x111.2.1, .int .i64 x111.2.2] 23, .box b109 [.int .i64 x107.2.1, .int .i64 x107.2.2] 23, .box b9 [.int .i64 x120.1, .int .i64 x120.2] 23, .box b4 [.int .i64 x1.2.1, .int .i64 x1.2.2] 23, .box b3 [.int .i64 x1.1.1, u2_0] 47] wr fun Oz => Vec (.int .i64) (gz H w wr Oz) (u108_0) (x107.1) ∧ Vec (.int .i64) (gz H w wr Oz) (u112_0) (x111.1) ∧ Vec (.int .i64) (gz H w wr Oz) (u117_0) (x116.1) ∧ Elems (.int .i64) (gz H w wr Oz) (l499) (xsl499) ∧ Elems (.int .i64) (gz H w wr Oz) (l500) (xsl500) ∧ Elems (.int .i64) (gz H w wr Oz) (l501) (xsl501) ∧ Vec (.pair (.pair .st (.pair (.int .i64) (.pair (.int .i64) .st))) (.vec (.int .i64))) (gz H w wr Oz) (u2_0) (x1.1.2) ∧ (law4_ShapesFindMatchesSpec_k9 a0 a1 a2 a3 a4 c164 c187 l499 l500 l501 s25_502) = some e503) ?_ ?_
        ·have hG515 := hL503.rG H;refine W_p 2 rfl ?_;refine S_v (r_len rfl underlying36 h0_0) rfl ?_;refine S_pu 2 rfl ?_;refine S_split (s := 159) rfl (fun hg516 => ?_) (fun hg516 => ?_)
         ·replace h := Go.L.ite_p (of_decide_eq_true hg516) h;refine S_guarded rfl rfl hg516 ?_;refine S_v (r_field rfl underlying23 rfl zr3 (by decide)) rfl ?_;refine S_guarded rfl rfl hg516 ?_;refine S_v (r_loadB1 8 rfl underlying3 rfl hL503 rfl rfl) rfl ?_;refine S_guarded rfl rfl hg516 ?_;refine S_v (RunsAt_pu rfl) rfl ?_;refine S_v (r_pickT rfl hg516 rfl) rfl ?_;refine S_seqnil ?_;refine W_if rfl (fun hc518 => ?_) (fun hc518 => ?_)
          ·replace h := Go.L.ite_p hc518 h;refine W_skip ?_;refine At_cut () (.cons rfl (.cons rfl (.cons rfl (.cons rfl (.cons rfl (.cons rfl (.cons rfl (.cons rfl (.cons rfl (.cons rfl (.cons rfl (.cons rfl (.cons rfl (.cons rfl (.cons rfl (Sub.nil _)))))))))))))))) ⟨hL503, (hf503_0.mono hG515), (hf503_1.mono hG515), (hf503_2.mono hG515), (hel499.mono hG515), (hel500.mono hG515), (hel501.mono hG515), (hf503_6.mono hG515), h⟩
          ·replace h := Go.L.ite_n hc518 h;refine W_exit ?_;refine At_cut_exit ?_;refine At_loop_exit ?_;replace h := Go.L.Nxt.out h hm503;refine At_exit ?_;refine At_cut (l499, l500, l501, vl499, xsl499, vl500, xsl500, vl501, xsl501) (.cons rfl (.cons rfl (.cons rfl (.cons rfl (.cons rfl (.cons rfl (Sub.nil _))))))) ⟨hL503, (hf503_0.mono hG515), (hf503_1.mono hG515), (hf503_2.mono hG515), (hel499.mono hG515), (hel500.mono hG515), (hel501.mono hG515), (hf503_6.mono hG515), h⟩
         ·replace h := Go.L.ite_n (of_decide_eq_false hg516) h
          iterate 3 refine S_unwanted rfl rfl hg516 rfl ?_
          refine S_v (r_pickF rfl hg516 rfl) rfl ?_;refine S_seqnil ?_;refine W_false rfl ?_;refine W_exit ?_;refine At_cut_exit ?_;refine At_loop_exit ?_;replace h := Go.L.Nxt.out h hm503;refine At_exit ?_;refine At_cut (l499, l500, l501, vl499, xsl499, vl500, xsl500, vl501, xsl501) (.cons rfl (.cons rfl (.cons rfl (.cons rfl (.cons rfl (.cons rfl (Sub.nil _))))))) ⟨hL503, (hf503_0.mono hG515), (hf503_1.mono hG515), (hf503_2.mono hG515), (hel499.mono hG515), (hel500.mono hG515), (hel501.mono hG515), (hf503_6.mono hG515), h⟩
        ·rintro _ wr513 ⟨hL513, hf513_0, hf513_1, hf513_2, hel499, hel500, hel501, hf513_6, h⟩;refine W_seq ?_;refine W_block ?_
         refine W_cut (σ := (List Int) × Value × (List Value)) (fun ⟨l535, vl535, xsl535⟩ => [(0, v0_0), (1, .string ⟨(a1).toArray⟩), (2, .int .i64 a2), (3, .int .i64 a3), (4, v4_0), (13, .pointer (some ⟨b9, 0, none⟩)), (14, u108_0), (16, u112_0), (18, u117_0), (20, .pointer (some ⟨bjb135, 0, none⟩)), (21, .pointer (some ⟨bjb138, 0, none⟩)), (22, vl535), (23, vl500), (24, vl499), (25, .int .i64 s25_502)]) (fun ⟨l535, vl535, xsl535⟩ wr => InO w [.row (vl499) 3 1 (l499).length (xsl499), .row (vl500) 3 1 (l500).length (xsl500), .row (vl535) 3 1 (l535).length (xsl535), .box bjb138 [.int .i64 c187, .int .i64 c188] 23, .box bjb135 [.int .i64 c164, .int .i64 c165] 23, .box b118 [.int .i64 x116.2.1, .int .i64 x116.2.2] 23, .box b113 [.int .i64 x111.2.1, .int .i64 x111.2.2] 23, .box b109 [.int .i64 x107.2.1, .int .i64 x107.2.2] 23, .box b9 [.int .i64 x120.1, .int .i64 x120.2] 23, .box b4 [.int .i64 x1.2.1, .int .i64 x1.2.2] 23, .box b3 [.int .i64 x1.1.1, u2_0] 47] wr fun Oz => Vec (.int .i64) (gz H w wr Oz) (u108_0) (x107.1) ∧ Vec (.int .i64) (gz H w wr Oz) (u112_0) (x111.1) ∧ Vec (.int .i64) (gz H w wr Oz) (u117_0) (x116.1) ∧ Elems (.int .i64) (gz H w wr Oz) (l499) (xsl499) ∧ Elems (.int .i64) (gz H w wr Oz) (l500) (xsl500) ∧ Elems (.int .i64) (gz H w wr Oz) (l535) (xsl535) ∧ Vec (.pair (.pair .st (.pair (.int .i64) (.pair (.int .i64) .st))) (.vec (.int .i64))) (gz H w wr Oz) (u2_0) (x1.1.2) ∧ (law4_ShapesFindMatchesSpec_k10 a0 a1 a2 a3 a4 c164 c187 l499 l500 s25_502) l535 = some e503) ?_ ?_
         ·have hG538 := hL513.rG H;refine W_p 2 rfl ?_;obtain ⟨hk540, h⟩ := Go.L.chk_some h;refine S_index rfl rfl underlying36 zr38 h0_0 s25_502.toNat (Int.toNat_of_nonneg hk540.1).symm (idx_lt hk540) rfl ?_;rintro p539 _ e539t0 hp539;obtain ⟨_, _, rfl, rfl, ⟨_, _, rfl, rfl, ⟨_, _, rfl, ⟨e539v2, rfl, e539h2⟩, ⟨_, _, rfl, ⟨e539v3, rfl, e539h3⟩, ⟨e539v4, rfl, e539h4⟩⟩⟩⟩⟩ := Go.E.Rp.tree_open e539t0;refine S_v (r_loadN rfl underlying38 rfl zr38 hp539 (hH.trans hL513.arg)) rfl ?_;refine S_pu 1 rfl ?_;obtain ⟨x541, hb541, h⟩ := Go.L.bind_some h;refine S_callL rfl rfl hL513 (ref4_HasPath_ok (a0 := (a0.getD s25_502.toNat default)) _ _ (gz_le hH hL513) (e539h2.mono (gz_left hH)) (e539h3.mono (gz_left hH)) (e539h4.mono (gz_left hH)) hb541) ?_;rintro _ w542 rfl hx542 hL542 hle542;replace hG538 := hG538.trans (gz_mono hH hle542);refine S_seqnil ?_;refine W_cond rfl (fun hc543 => ?_) (fun hc543 => ?_)
          ·replace h := Go.L.ite_t hc543 h;refine W_region ?_;refine S_pu 2 rfl ?_;refine S_litE (r := (.int .i64)) (l := [s25_502]) rfl (fun _ => bsl52_1 _ _) rfl (show 1 ≤ 9223372036854775807 by decide) hH hL542 (.c1 rfl .nil) ?_;intro v545 w545 hx545 hL545 hle545 hv545;replace hG538 := hG538.trans (gz_mono hH hle545);obtain ⟨hk547, h⟩ := Go.L.chk_some h;refine S_appE (r := (.int .i64)) (l := l501) (m := [s25_502]) 2 rfl rfl underlying52 zr3 rfl (by decide) rfl hH hL545 rfl (hel501.mono hG538) hv545 hk547 ?_;intro v546 w546 xs546 hL546 hle546 he546;replace hv545 := hv545.mono (gz_mono hH hle546);replace hG538 := hG538.trans (gz_mono hH hle546);refine S_pu 1 rfl ?_;refine S_nil ?_;refine At_cut ((l501 ++ [s25_502]), v546, xs546) (.cons rfl (.cons rfl (.cons rfl (.cons rfl (.cons rfl (.cons rfl (.cons rfl (.cons rfl (.cons rfl (.cons rfl (.cons rfl (.cons rfl (.cons rfl (.cons rfl (.cons rfl (Sub.nil _)))))))))))))))) ⟨hL546, (hf513_0.mono hG538), (hf513_1.mono hG538), (hf513_2.mono hG538), (hel499.mono hG538), (hel500.mono hG538), he546, (hf513_6.mono hG538), h⟩
          ·replace h := Go.L.ite_f hc543 h;refine W_skip ?_;refine At_cut (l501, vl501, xsl501) (.cons rfl (.cons rfl (.cons rfl (.cons rfl (.cons rfl (.cons rfl (.cons rfl (.cons rfl (.cons rfl (.cons rfl (.cons rfl (.cons rfl (.cons rfl (.cons rfl (.cons rfl (Sub.nil _)))))))))))))))) ⟨hL542, (hf513_0.mono hG538), (hf513_1.mono hG538), (hf513_2.mono hG538), (hel499.mono hG538), (hel500.mono hG538), (hel501.mono hG538), (hf513_6.mono hG538), h⟩
         ·rintro ⟨l535, vl535, xsl535⟩ wr536 ⟨hL536, hf536_0, hf536_1, hf536_2, hel499, hel500, hel535, hf536_6, h⟩
          refine W_cut (σ := (List Int) × Value × (List Value)) (fun ⟨l565, vl565, xsl565⟩ => [(0, v0_0), (1, .string ⟨(a1).toArray⟩), (2, .int .i64 a2), (3, .int .i64 a3), (4, v4_0), (13, .pointer (some ⟨b9, 0, none⟩)), (14, u108_0), (16, u112_0), (18, u117_0), (20, .pointer (some ⟨bjb135, 0, none⟩)), (21, .pointer (some ⟨bjb138, 0, none⟩)), (22, vl535), (23, vl565), (24, vl499), (25, .int .i64 s25_502)]) (fun ⟨l565, vl565, xsl565⟩ wr => InO w [.row (vl499) 3 1 (l499).length (xsl499), .row (vl565) 3 1 (l565).length (xsl565), .row (vl535) 3 1 (l535).length (xsl535), .box bjb138 [.int .i64 c187, .int .i64 c188] 23, .box bjb135 [.int .i64 c164, .int .i64 c165] 23, .box b118 [.int .i64 x116.2.1, .int .i64 x116.2.2] 23, .box b113 [.int .i64 x111.2.1, .int .i64 x111.2.2] 23, .box b109 [.int .i64 x107.2.1, .int .i64 x107.2.2] 23, .box b9 [.int .i64 x120.1, .int .i64 x120.2] 23, .box b4 [.int .i64 x1.2.1, .int .i64 x1.2.2] 23, .box b3 [.int .i64 x1.1.1, u2_0] 47] wr fun Oz => Vec (.int .i64) (gz H w wr Oz) (u108_0) (x107.1) ∧ Vec (.int .i64) (gz H w wr Oz) (u112_0) (x111.1) ∧ Vec (.int .i64) (gz H w wr Oz) (u117_0) (x116.1) ∧ Elems (.int .i64) (gz H w wr Oz) (l499) (xsl499) ∧ Elems (.int .i64) (gz H w wr Oz) (l565) (xsl565) ∧ Elems (.int .i64) (gz H w wr Oz) (l535) (xsl535) ∧ Vec (.pair (.pair .st (.pair (.int .i64) (.pair (.int .i64) .st))) (.vec (.int .i64))) (gz H w wr Oz) (u2_0) (x1.1.2) ∧ (law4_ShapesFindMatchesSpec_k11 a0 a1 a4 c187 l499 l535 s25_502) l565 = some e503) ?_ ?_
          ·have hG568 := hL536.rG H;refine W_seqr ?_;refine S_v (r_field rfl underlying23 rfl zr3 (by decide)) rfl ?_;refine S_v (r_loadB1 4 rfl underlying3 rfl hL536 rfl rfl) rfl ?_;refine S_pu 2 rfl ?_;refine S_split (s := 179) rfl (fun hg569 => ?_) (fun hg569 => ?_)
           ·replace h := Go.L.ite_p (of_decide_eq_true hg569) h;refine S_guarded rfl rfl hg569 ?_;refine S_v (RunsAt_pu rfl) rfl ?_;refine S_guarded rfl rfl hg569 ?_;refine S_v (RunsAt_pu rfl) rfl ?_;refine S_guarded rfl rfl hg569 ?_;obtain ⟨hk572, h⟩ := Go.L.chk_some h;refine S_index rfl rfl underlying36 zr38 h0_0 s25_502.toNat (Int.toNat_of_nonneg hk572.1).symm (idx_lt hk572) rfl ?_;rintro p571 _ e571t0 hp571;obtain ⟨_, _, rfl, rfl, ⟨_, _, rfl, rfl, ⟨_, _, rfl, ⟨e571v2, rfl, e571h2⟩, ⟨_, _, rfl, ⟨e571v3, rfl, e571h3⟩, ⟨e571v4, rfl, e571h4⟩⟩⟩⟩⟩ := Go.E.Rp.tree_open e571t0;refine S_guarded rfl rfl hg569 ?_;refine S_v (r_loadN rfl underlying38 rfl zr38 hp571 (hH.trans hL536.arg)) rfl ?_;refine S_guarded rfl rfl hg569 ?_;refine S_v (RunsAt_pu rfl) rfl ?_;refine S_guarded rfl rfl hg569 ?_;refine S_v (RunsAt_pu rfl) rfl ?_;refine S_guarded rfl rfl hg569 ?_;refine S_v (RunsAt_pu rfl) rfl ?_;refine S_guarded rfl rfl hg569 ?_;obtain ⟨x573, hb573, h⟩ := Go.L.bind_some h;refine S_callL rfl rfl hL536 (ref4_HasNumber_ok (a0 := (a0.getD s25_502.toNat default)) _ _ (gz_le hH hL536) (e571h2.mono (gz_left hH)) (e571h3.mono (gz_left hH)) (e571h4.mono (gz_left hH)) hb573) ?_;rintro _ w574 rfl hx574 hL574 hle574;replace hG568 := hG568.trans (gz_mono hH hle574);refine S_v (r_pickT rfl hg569 rfl) rfl ?_;refine S_seqnil ?_;refine W_cond rfl (fun hc575 => ?_) (fun hc575 => ?_)
            ·replace h := Go.L.ite_t hc575 h;refine W_region ?_;refine S_pu 2 rfl ?_;refine S_litE (r := (.int .i64)) (l := [s25_502]) rfl (fun _ => bsl52_1 _ _) rfl (show 1 ≤ 9223372036854775807 by decide) hH hL574 (.c1 rfl .nil) ?_;intro v577 w577 hx577 hL577 hle577 hv577;replace hG568 := hG568.trans (gz_mono hH hle577);obtain ⟨hk579, h⟩ := Go.L.chk_some h;refine S_appE (r := (.int .i64)) (l := l500) (m := [s25_502]) 1 rfl rfl underlying52 zr3 rfl (by decide) rfl hH hL577 rfl (hel500.mono hG568) hv577 hk579 ?_;intro v578 w578 xs578 hL578 hle578 he578;replace hv577 := hv577.mono (gz_mono hH hle578);replace hG568 := hG568.trans (gz_mono hH hle578);refine S_pu 1 rfl ?_;refine S_nil ?_;refine At_cut ((l500 ++ [s25_502]), v578, xs578) (.cons rfl (.cons rfl (.cons rfl (.cons rfl (.cons rfl (.cons rfl (.cons rfl (.cons rfl (.cons rfl (.cons rfl (.cons rfl (.cons rfl (.cons rfl (.cons rfl (.cons rfl (Sub.nil _)))))))))))))))) ⟨hL578, (hf536_0.mono hG568), (hf536_1.mono hG568), (hf536_2.mono hG568), (hel499.mono hG568), he578, (hel535.mono hG568), (hf536_6.mono hG568), h⟩
            ·replace h := Go.L.ite_f hc575 h;refine W_skip ?_;refine At_cut (l500, vl500, xsl500) (.cons rfl (.cons rfl (.cons rfl (.cons rfl (.cons rfl (.cons rfl (.cons rfl (.cons rfl (.cons rfl (.cons rfl (.cons rfl (.cons rfl (.cons rfl (.cons rfl (.cons rfl (Sub.nil _)))))))))))))))) ⟨hL574, (hf536_0.mono hG568), (hf536_1.mono hG568), (hf536_2.mono hG568), (hel499.mono hG568), (hel500.mono hG568), (hel535.mono hG568), (hf536_6.mono hG568), h⟩
           ·replace h := Go.L.ite_n (of_decide_eq_false hg569) h
            iterate 8 refine S_unwanted rfl rfl hg569 rfl ?_
            refine S_v (r_pickF rfl hg569 rfl) rfl ?_;refine S_seqnil ?_;refine W_false rfl ?_;refine W_skip ?_;refine At_cut (l500, vl500, xsl500) (.cons rfl (.cons rfl (.cons rfl (.cons rfl (.cons rfl (.cons rfl (.cons rfl (.cons rfl (.cons rfl (.cons rfl (.cons rfl (.cons rfl (.cons rfl (.cons rfl (.cons rfl (Sub.nil _)))))))))))))))) ⟨hL536, (hf536_0.mono hG568), (hf536_1.mono hG568), (hf536_2.mono hG568), (hel499.mono hG568), (hel500.mono hG568), (hel535.mono hG568), (hf536_6.mono hG568), h⟩
          ·rintro ⟨l565, vl565, xsl565⟩ wr566 ⟨hL566, hf566_0, hf566_1, hf566_2, hel499, hel565, hel535, hf566_6, h⟩;have hG583 := hL566.rG H;refine W_seqr ?_;refine S_v (r_field rfl underlying23 rfl zr3 (by decide)) rfl ?_;refine S_v (r_loadB1 3 rfl underlying3 rfl hL566 rfl rfl) rfl ?_;refine S_pu 2 rfl ?_;refine S_split (s := 196) rfl (fun hg584 => ?_) (fun hg584 => ?_)
           ·replace h := Go.L.ite_p (of_decide_eq_true hg584) h;refine S_guarded rfl rfl hg584 ?_;refine S_v (RunsAt_pu rfl) rfl ?_;refine S_guarded rfl rfl hg584 ?_;refine S_v (RunsAt_pu rfl) rfl ?_;refine S_guarded rfl rfl hg584 ?_;obtain ⟨hk587, h⟩ := Go.L.chk_some h;refine S_index rfl rfl underlying36 zr38 h0_0 s25_502.toNat (Int.toNat_of_nonneg hk587.1).symm (idx_lt hk587) rfl ?_;rintro p586 _ e586t0 hp586;obtain ⟨_, _, rfl, rfl, ⟨_, _, rfl, rfl, ⟨_, _, rfl, ⟨e586v2, rfl, e586h2⟩, ⟨_, _, rfl, ⟨e586v3, rfl, e586h3⟩, ⟨e586v4, rfl, e586h4⟩⟩⟩⟩⟩ := Go.E.Rp.tree_open e586t0;refine S_guarded rfl rfl hg584 ?_;refine S_v (r_loadN rfl underlying38 rfl zr38 hp586 (hH.trans hL566.arg)) rfl ?_;refine S_guarded rfl rfl hg584 ?_;refine S_v (RunsAt_pu rfl) rfl ?_;refine S_guarded rfl rfl hg584 ?_;refine S_v (RunsAt_pu rfl) rfl ?_;refine S_guarded rfl rfl hg584 ?_;obtain ⟨x588, hb588, h⟩ := Go.L.bind_some h;refine S_callL rfl rfl hL566 (ref4_HasBytes_ok (a0 := (a0.getD s25_502.toNat default)) _ _ (gz_le hH hL566) (e586h2.mono (gz_left hH)) (e586h3.mono (gz_left hH)) (e586h4.mono (gz_left hH)) (h4_0.mono (gz_left hH)) hb588) ?_;rintro _ w589 rfl hx589 hL589 hle589;replace hG583 := hG583.trans (gz_mono hH hle589);refine S_v (r_pickT rfl hg584 rfl) rfl ?_;refine S_seqnil ?_;refine W_cond rfl (fun hc590 => ?_) (fun hc590 => ?_)
            ·replace h := Go.L.ite_t hc590 h;refine W_region ?_;refine S_pu 2 rfl ?_;refine S_litE (r := (.int .i64)) (l := [s25_502]) rfl (fun _ => bsl52_1 _ _) rfl (show 1 ≤ 9223372036854775807 by decide) hH hL589 (.c1 rfl .nil) ?_;intro v592 w592 hx592 hL592 hle592 hv592;replace hG583 := hG583.trans (gz_mono hH hle592);obtain ⟨hk594, h⟩ := Go.L.chk_some h;refine S_appE (r := (.int .i64)) (l := l499) (m := [s25_502]) 0 rfl rfl underlying52 zr3 rfl (by decide) rfl hH hL592 rfl (hel499.mono hG583) hv592 hk594 ?_;intro v593 w593 xs593 hL593 hle593 he593;replace hv592 := hv592.mono (gz_mono hH hle593);replace hG583 := hG583.trans (gz_mono hH hle593);refine S_pu 1 rfl ?_;refine S_nil ?_;refine At_block ?_;refine At_seq ?_;refine W_region ?_;refine S_pu 1 rfl ?_;obtain ⟨hk595, h⟩ := Go.L.chk_some h;refine S_v (r_ar64 rfl rfl rfl hk595) rfl ?_;refine S_pu 1 rfl ?_;refine S_nil ?_;have h := Go.L.Nxt.again h hm503;refine At_round ((l499 ++ [s25_502]), l565, l535, (s25_502 + (1 : Int)), v593, xs593, vl565, xsl565, vl535, xsl535, n503) (.cons rfl (.cons rfl (.cons rfl (.cons rfl (.cons rfl (.cons rfl (.cons rfl (.cons rfl (.cons rfl (.cons rfl (.cons rfl (.cons rfl (.cons rfl (.cons rfl (.cons rfl (Sub.nil _)))))))))))))))) ⟨hL593, (hf566_0.mono hG583), (hf566_1.mono hG583), (hf566_2.mono hG583), he593, (hel565.mono hG583), (hel535.mono hG583), (hf566_6.mono hG583), h⟩ (Nat.lt_succ_self _)
            ·replace h := Go.L.ite_f hc590 h;refine W_skip ?_;refine At_block ?_;refine At_seq ?_;refine W_region ?_;refine S_pu 1 rfl ?_;obtain ⟨hk597, h⟩ := Go.L.chk_some h;refine S_v (r_ar64 rfl rfl rfl hk597) rfl ?_;refine S_pu 1 rfl ?_;refine S_nil ?_;have h := Go.L.Nxt.again h hm503;refine At_round (l499, l565, l535, (s25_502 + (1 : Int)), vl499, xsl499, vl565, xsl565, vl535, xsl535, n503) (.cons rfl (.cons rfl (.cons rfl (.cons rfl (.cons rfl (.cons rfl (.cons rfl (.cons rfl (.cons rfl (.cons rfl (.cons rfl (.cons rfl (.cons rfl (.cons rfl (.cons rfl (Sub.nil _)))))))))))))))) ⟨hL589, (hf566_0.mono hG583), (hf566_1.mono hG583), (hf566_2.mono hG583), (hel499.mono hG583), (hel565.mono hG583), (hel535.mono hG583), (hf566_6.mono hG583), h⟩ (Nat.lt_succ_self _)
           ·replace h := Go.L.ite_n (of_decide_eq_false hg584) h
            iterate 7 refine S_unwanted rfl rfl hg584 rfl ?_
            refine S_v (r_pickF rfl hg584 rfl) rfl ?_;refine S_seqnil ?_;refine W_false rfl ?_;refine W_skip ?_;refine At_block ?_;refine At_seq ?_;refine W_region ?_;refine S_pu 1 rfl ?_;obtain ⟨hk599, h⟩ := Go.L.chk_some h;refine S_v (r_ar64 rfl rfl rfl hk599) rfl ?_;refine S_pu 1 rfl ?_;refine S_nil ?_;have h := Go.L.Nxt.again h hm503;refine At_round (l499, l565, l535, (s25_502 + (1 : Int)), vl499, xsl499, vl565, xsl565, vl535, xsl535, n503) (.cons rfl (.cons rfl (.cons rfl (.cons rfl (.cons rfl (.cons rfl (.cons rfl (.cons rfl (.cons rfl (.cons rfl (.cons rfl (.cons rfl (.cons rfl (.cons rfl (.cons rfl (Sub.nil _)))))))))))))))) ⟨hL566, (hf566_0.mono hG583), (hf566_1.mono hG583), (hf566_2.mono hG583), (hel499.mono hG583), (hel565.mono hG583), (hel535.mono hG583), (hf566_6.mono hG583), h⟩ (Nat.lt_succ_self _)
       ·rintro ⟨l439, l440, l441, vl439, xsl439, vl440, xsl440, vl441, xsl441⟩ wr442 ⟨hL442, hf442_0, hf442_1, hf442_2, hel439, hel440, hel441, hf442_6, h⟩;have hG601 := hL442.rG H;refine W_p 2 rfl ?_;obtain ⟨x602, hb602, h⟩ := Go.L.bind_some h;refine S_callL rfl rfl hL442 (ref3_Ints_ok _ _ (Le.refl _) ((hf442_0.mono hG601).mono (gz_le hH hL442)) (hL442.vecN hH (i := 2) rfl (hel441.mono hG601)) hb602) ?_;rintro _ w603 rfl hx603 hL603 hle603;replace hG601 := hG601.trans (gz_mono hH hle603);refine S_pu 1 rfl ?_;refine S_split (s := 212) rfl (fun hg604 => ?_) (fun hg604 => ?_)
        ·replace h := Go.L.ite_t hg604 h;refine S_guarded rfl rfl hg604 ?_;refine S_v (RunsAt_pu rfl) rfl ?_;refine S_guarded rfl rfl hg604 ?_;refine S_v (RunsAt_pu rfl) rfl ?_;refine S_guarded rfl rfl hg604 ?_;obtain ⟨x606, hb606, h⟩ := Go.L.bind_some h;refine S_callL rfl rfl hL603 (ref3_Ints_ok _ _ (Le.refl _) ((hf442_1.mono hG601).mono (gz_le hH hL603)) (hL603.vecN hH (i := 1) rfl (hel440.mono hG601)) hb606) ?_;rintro _ w607 rfl hx607 hL607 hle607;replace hG601 := hG601.trans (gz_mono hH hle607);refine S_v (r_pickT rfl hg604 rfl) rfl ?_;refine S_pu 1 rfl ?_;refine S_split (s := 217) rfl (fun hg608 => ?_) (fun hg608 => ?_)
         ·replace h := Go.L.ite_t hg608 h;refine S_guarded rfl rfl hg608 ?_;refine S_v (RunsAt_pu rfl) rfl ?_;refine S_guarded rfl rfl hg608 ?_;refine S_v (RunsAt_pu rfl) rfl ?_;refine S_guarded rfl rfl hg608 ?_;obtain ⟨x610, hb610, h⟩ := Go.L.bind_some h;refine S_callL rfl rfl hL607 (ref3_Ints_ok _ _ (Le.refl _) ((hf442_2.mono hG601).mono (gz_le hH hL607)) (hL607.vecN hH (i := 0) rfl (hel439.mono hG601)) hb610) ?_;rintro _ w611 rfl hx611 hL611 hle611;replace hG601 := hG601.trans (gz_mono hH hle611);refine S_v (r_pickT rfl hg608 rfl) rfl ?_;refine S_pz 1 rfl ?_;refine W_ret ?_;obtain rfl := Option.some.inj h;refine At_body rfl rfl ?_;exact ⟨hL611.ext, rfl⟩
         ·replace h := Go.L.ite_f hg608 h
          iterate 3 refine S_unwanted rfl rfl hg608 rfl ?_
          refine S_v (r_pickF rfl hg608 rfl) rfl ?_;refine S_pz 1 rfl ?_;refine W_ret ?_;obtain rfl := Option.some.inj h;refine At_body rfl rfl ?_;exact ⟨hL607.ext, rfl⟩
        ·replace h := Go.L.ite_f hg604 h
         iterate 3 refine S_unwanted rfl rfl hg604 rfl ?_
         refine S_v (r_pickF rfl hg604 rfl) rfl ?_;refine S_pu 1 rfl ?_
         iterate 3 refine S_unwanted rfl rfl rfl rfl ?_
         refine S_v (r_pickF rfl rfl rfl) rfl ?_;refine S_pz 1 rfl ?_;refine W_ret ?_;obtain rfl := Option.some.inj h;refine At_body rfl rfl ?_;exact ⟨hL603.ext, rfl⟩
end Go.Proofs.YtmfiaecglndldaaGreatDoor
end
section
namespace Go.Proofs.YtmfiaecglndldaaGreatDoor
open Go Go.L
/-! ### Leaves that fit -/
def pmL (pat : List UInt8) (x : Lf) : Bool := fits (col (sl pat)) (sl x.1)
def qmL (pat : List UInt8) (lo hi : Int) (x : Lf) : Bool := pmL pat x && decide (x.2.1 = 1 ∧ lo ≤ x.2.2.1 ∧ x.2.2.1 ≤ hi)
def tmL (pat dat : List UInt8) (x : Lf) : Bool := pmL pat x && decide (x.2.1 = 2 ∧ x.2.2.2 = dat)
/-- A loop that looks for a leaf. -/
theorem any_run {b : Int → Option (Int ⊕ Bool)} {l : List Lf} {g : Lf → Bool} (hstep : ∀ i, i < l.length → b (i : Int) = if g (l.getD i default) = true then some (.inr true) else some (.inl ((i + 1 : Nat) : Int))) (hend : b (l.length : Int) = some (.inr false)) : Go.L.run b 0 = some (l.any g) := by
  have key : ∀ (d i : Nat), i + d = l.length → Go.L.run b (i : Int) = some ((l.drop i).any g) := by
    intro d
    induction d with
    | zero =>
      intro i hi;have : i = l.length := by omega
      subst this;rw [List.drop_length];exact run_inr (m := some false) hend
    | succ d ih =>
      intro i hi;have hil : i < l.length := by omega
      have hb := hstep i hil;rw [drop_cons hil, List.any_cons]
      by_cases h : g (l.getD i default) = true
      · rw [if_pos h] at hb;rw [run_inr (m := some true) hb, h]
        rfl
      · rw [if_neg h] at hb;have h' : g (l.getD i default) = false := by simpa using h
        rw [run_inl hb, ih (i + 1) (by omega), h', Bool.false_or]
  have := key l.length 0 (by omega)
  rwa [List.drop_zero] at this
/-- A valid value's leaves: few, their paths not long. -/
theorem lvs_path {v : Pv} (hv : Vd 10 v) {x : Lf} (hx : x ∈ lvs 10 v []) : x.1.length ≤ 330 := by
  obtain ⟨q, u, rfl, h2, h3, h4, h5⟩ := lvs_mem 10 v [] hv (fun y hy => by cases hy) hx;have := h2.jn_len;simp only [List.length_nil] at h3
  show (jn q).length ≤ 330
  omega
theorem hasPath_eq {v : Pv} {pat : List UInt8} (hv : Vd 10 v) (hn : nodes 10 v ≤ 600) (hp : pat.length < 900) : ref4_HasPath v pat = some ((lvs 10 v []).any (pmL pat)) := by
  unfold ref4_HasPath ref4_HasPath_l2;rw [ref_leaves hv (by omega), Option.bind_some];have hlen : (lvs 10 v []).length ≤ 600 := by rw [lvs_len]; exact hn
  have hpth := fun x (hx : x ∈ lvs 10 v []) => lvs_path hv hx;generalize lvs 10 v [] = l at *;refine any_run (fun i hi => ?_) ?_
  · have hm : ref4_Matches pat (l.getD i default).1 = some (pmL pat (l.getD i default)) := rmatch_eq hp (by have := hpth _ (getD_mem hi); omega);unfold ref4_HasPath_bl2;rw [if_pos (by omega), chk_pos (by omega), Int.toNat_natCast, hm, Option.bind_some, chk_pos (by unfold I64; omega)]
    rfl
  · unfold ref4_HasPath_bl2 ref4_HasPath_k1;rw [if_neg (by omega)]
    rfl
theorem hasNumber_eq {v : Pv} {pat : List UInt8} {lo hi : Int} (hv : Vd 10 v) (hn : nodes 10 v ≤ 600) (hp : pat.length < 900) : ref4_HasNumber v pat lo hi = some ((lvs 10 v []).any (qmL pat lo hi)) := by
  unfold ref4_HasNumber ref4_HasNumber_l2;rw [ref_leaves hv (by omega), Option.bind_some];have hlen : (lvs 10 v []).length ≤ 600 := by rw [lvs_len]; exact hn
  have hpth := fun x (hx : x ∈ lvs 10 v []) => lvs_path hv hx;generalize lvs 10 v [] = l at *;refine any_run (fun i hi' => ?_) ?_
  · have hm : ref4_Matches pat (l.getD i default).1 = some (pmL pat (l.getD i default)) := rmatch_eq hp (by have := hpth _ (getD_mem hi'); omega);have hq : qmL pat lo hi (l.getD i default) = (pmL pat (l.getD i default) && decide ((l.getD i default).2.1 = 1 ∧ lo ≤ (l.getD i default).2.2.1 ∧ (l.getD i default).2.2.1 ≤ hi)) := rfl;unfold ref4_HasNumber_bl2 ref3_In;rw [if_pos (by omega), chk_pos (by omega), Int.toNat_natCast, chk_pos (by omega), hm, Option.bind_some, chk_pos (by omega), Option.bind_some, chk_pos (by unfold I64; omega), hq]
    by_cases c1 : (l.getD i default).2.1 = 1
    · by_cases c2 : lo ≤ (l.getD i default).2.2.1 ∧ (l.getD i default).2.2.1 ≤ hi
      · rw [if_pos c1, decide_eq_true c2, if_pos rfl, decide_eq_true (⟨c1, c2⟩ : _ ∧ _), Bool.and_true]
        rfl
      · rw [if_pos c1, decide_eq_false c2, if_neg Bool.false_ne_true, decide_eq_false (fun h => c2 h.2), Bool.and_false, if_neg Bool.false_ne_true]
        rfl
    · rw [if_neg c1, decide_eq_false (fun h => c1 h.1), Bool.and_false, if_neg Bool.false_ne_true]
      rfl
  · unfold ref4_HasNumber_bl2 ref4_HasNumber_k1;rw [if_neg (by omega)]
    rfl
theorem hasBytes_eq {v : Pv} {pat dat : List UInt8} (hv : Vd 10 v) (hn : nodes 10 v ≤ 600) (hp : pat.length < 900) : ref4_HasBytes v pat dat = some ((lvs 10 v []).any (tmL pat dat)) := by
  unfold ref4_HasBytes ref4_HasBytes_l2;rw [ref_leaves hv (by omega), Option.bind_some];have hlen : (lvs 10 v []).length ≤ 600 := by rw [lvs_len]; exact hn
  have hpth := fun x (hx : x ∈ lvs 10 v []) => lvs_path hv hx;generalize lvs 10 v [] = l at *;refine any_run (fun i hi' => ?_) ?_
  · have hm : ref4_Matches pat (l.getD i default).1 = some (pmL pat (l.getD i default)) := rmatch_eq hp (by have := hpth _ (getD_mem hi'); omega);have hq : tmL pat dat (l.getD i default) = (pmL pat (l.getD i default) && decide ((l.getD i default).2.1 = 2 ∧ (l.getD i default).2.2.2 = dat)) := rfl;unfold ref4_HasBytes_bl2;rw [if_pos (by omega), chk_pos (by omega), Int.toNat_natCast, chk_pos (by omega), chk_pos (by omega), hm, Option.bind_some, chk_pos (by unfold I64; omega), hq]
    by_cases c1 : (l.getD i default).2.1 = 2
    · by_cases c2 : (l.getD i default).2.2.2 = dat
      · rw [if_pos c1, if_pos c2, decide_eq_true (⟨c1, c2⟩ : _ ∧ _), Bool.and_true]
        rfl
      · rw [if_pos c1, if_neg c2, decide_eq_false (fun h => c2 h.2), Bool.and_false, if_neg Bool.false_ne_true]
        rfl
    · rw [if_neg c1, decide_eq_false (fun h => c1 h.1), Bool.and_false, if_neg Bool.false_ne_true]
      rfl
  · unfold ref4_HasBytes_bl2 ref4_HasBytes_k1;rw [if_neg (by omega)]
    rfl
/-! ### Text -/
def tmE (pat dat : List UInt8) (e : En) : Bool := pmE pat e && decide (e.1.2.1 = 2 ∧ e.1.2.2.2 = dat)
theorem text1_eq (e : En) (dat : List UInt8) : shapes_Index_Text_1 e dat = some (decide (e.1.2.1 = 2 ∧ e.1.2.2.2 = dat), dat) := by
  unfold shapes_Index_Text_1
  by_cases h1 : e.1.2.1 = 2
  · rw [if_pos h1]; simp [h1]
  · rw [if_neg h1]; simp [h1]
theorem collect3_eq {n : Int} {es : List En} {pat dat : List UInt8} (hp : pat.length < 900) (hl : es.length ≤ 1000000) (h64 : ∀ e ∈ es, e.2.length ≤ 64) (hpath : ∀ e ∈ es, e.1.1.length ≤ 330) : shapes_Index_collect_s3 (n, es) pat dat = some (setI (collected (tmE pat dat) es), dat) := by
  unfold shapes_Index_collect_s3 shapes_Index_collect_s3_l2;refine run_count (fun i => (collected (tmE pat dat) (es.take i), dat, ((i : Nat) : Int))) es.length (fun i hi' => ?_) ?_ 0 (Nat.zero_le _)
  · have hlen := collected_len (tmE pat dat) (es := es.take i) fun e he => h64 e (List.mem_of_mem_take he);rw [List.length_take] at hlen;have h1 := h64 _ (getD_mem hi');have h2 := hpath _ (getD_mem hi');have hm : shapes_matches pat (es.getD i default).1.1 = some (pmE pat (es.getD i default)) := matches_eq hp (by omega);have hn : shapes_Index_Text_1 (((es.getD i default).1.1, (es.getD i default).1.2.1, (es.getD i default).1.2.2.1, (es.getD i default).1.2.2.2), (es.getD i default).2) dat = _ := text1_eq (es.getD i default) dat;have hqe : tmE pat dat (es.getD i default) = (pmE pat (es.getD i default) && decide ((es.getD i default).1.2.1 = 2 ∧ (es.getD i default).1.2.2.2 = dat)) := rfl;unfold shapes_Index_collect_s3_bl2;dsimp only;rw [if_pos (by omega), chk_pos (by omega), Int.toNat_natCast, hn, Option.bind_some, collected_take _ hi', hqe]
    by_cases hq : (es.getD i default).1.2.1 = 2 ∧ (es.getD i default).1.2.2.2 = dat
    · rw [decide_eq_true hq, if_pos rfl, hm, Option.bind_some, Bool.and_true]
      by_cases hf : pmE pat (es.getD i default) = true
      · rw [if_pos hf, if_pos hf, chk_pos (by unfold Go.E.Cap; omega), chk_pos (by unfold I64; omega)]
        rfl
      · rw [if_neg hf, if_neg hf, chk_pos (by unfold I64; omega), List.append_nil]
        rfl
    · rw [decide_eq_false hq, Bool.and_false, if_neg Bool.false_ne_true, if_neg Bool.false_ne_true, chk_pos (by unfold I64; omega), List.append_nil]
      rfl
  · have hlen := collected_len (tmE pat dat) h64;unfold shapes_Index_collect_s3_bl2 shapes_Index_collect_s3_k1;dsimp only;rw [if_neg (by omega), List.take_length, chk_pos (by omega), chk_pos (by rw [srtI_len]; omega)]
    rfl
/-! ### The law -/
/-- Items in which g finds a leaf. -/
def Ix (a : List Pv) (g : Lf → Bool) (i : Nat) (L : List Int) : Prop := L.Pairwise (fun x y => x ≤ y ∧ x ≠ y) ∧ (∀ z, z ∈ L ↔ ∃ j : Nat, j < i ∧ z = (j : Int) ∧ (lvs 10 (a.getD j default) []).any g = true) ∧ L.length ≤ i
theorem Ix.step {a : List Pv} {g : Lf → Bool} {i : Nat} {L : List Int} (h : Ix a g i L) : Ix a g (i + 1) (if (lvs 10 (a.getD i default) []).any g = true then L ++ [(i : Int)] else L) := by
  obtain ⟨h1, h2, h3⟩ := h
  by_cases c : (lvs 10 (a.getD i default) []).any g = true
  · rw [if_pos c];refine ⟨List.pairwise_append.2 ⟨h1, List.pairwise_singleton _ _, fun x hx y hy => ?_⟩, fun z => ?_, by simp; omega⟩
    · rw [List.mem_singleton] at hy;obtain ⟨j, j1, j2, _⟩ := (h2 x).1 hx;omega
    · rw [List.mem_append, List.mem_singleton, h2]
      constructor
      · rintro (⟨j, j1, j2, j3⟩ | h)
        · exact ⟨j, by omega, j2, j3⟩
        · exact ⟨i, by omega, h, c⟩
      · rintro ⟨j, j1, j2, j3⟩
        by_cases hj : j = i
        · subst hj; exact .inr j2
        · exact .inl ⟨j, by omega, j2, j3⟩
  · rw [if_neg c];refine ⟨h1, fun z => ?_, by omega⟩;rw [h2]
    constructor
    · rintro ⟨j, j1, j2, j3⟩;exact ⟨j, by omega, j2, j3⟩
    · rintro ⟨j, j1, j2, j3⟩
      by_cases hj : j = i
      · subst hj; exact absurd j3 c
      · exact ⟨j, by omega, j2, j3⟩
theorem coll_ix {a : List Pv} {f : En → Bool} {g : Lf → Bool} (hfg : ∀ e : En, f e = g e.1) {L : List Int} (h : Ix a g a.length L) : setI (collected f (kIdx (adds (prB 0 a) []))) = L := by
  refine setI_eq h.1 fun z => ?_;rw [h.2.1, collected_mem]
  constructor
  · rintro ⟨j, j1, j2, j3⟩;obtain ⟨x, hx, hg⟩ := List.any_eq_true.1 j3;have hpr : (x, z) ∈ prB 0 a := prB_mem.2 ⟨j, j1, by show z = 0 + (j : Int); omega, hx⟩;refine ⟨(x, setI (mget [] x (adds (prB 0 a) []))), kIdx_mem.2 ⟨⟨z, hpr⟩, rfl⟩, by rw [hfg]; exact hg, ?_⟩;rw [(setI_spec _).2, adds_mem];exact .inr hpr
  · rintro ⟨e, he, hf, hz⟩;obtain ⟨_, h2⟩ := kIdx_mem.1 he;rw [h2, (setI_spec _).2, adds_mem] at hz
    have hpr : (e.1, z) ∈ prB 0 a := by
      rcases hz with hz | hz
      · simp [mget] at hz
      · exact hz
    obtain ⟨j, j1, j2, j3⟩ := prB_mem.1 hpr;have j2' : z = 0 + (j : Int) := j2;exact ⟨j, j1, by omega, List.any_eq_true.2 ⟨e.1, j3, by rw [← hfg]; exact hf⟩⟩
theorem ints_self (l : List Int) (h : l.length ≤ 1000000) : ref3_Ints l l = some true := by
  unfold ref3_Ints ref3_Ints_l2;rw [if_pos rfl];refine run_count (b := ref3_Ints_bl2 l l) (m := some true) (fun i => ((i : Nat) : Int)) l.length (fun i hi => ?_) ?_ 0 (by omega)
  · unfold ref3_Ints_bl2;rw [if_pos (by omega), chk_pos (by omega), chk_pos (by omega), if_pos rfl, chk_pos (by unfold I64; omega)]
    rfl
  · unfold ref3_Ints_bl2 ref3_Ints_k1;rw [if_neg (by omega)]
theorem find_run {a : List Pv} {pat dat : List UInt8} {lo hi c164 c187 : Int} {x107 x111 x116 : List Int × (Int × Int)} {x120 : Int × Int} (hl : a.length ≤ 64) (hv : AllV a) (hp : pat.length ≤ 64) (hx : x120.1 = 0)
    (h7 : x107.1 = setI (collected (pmE pat) (kIdx (adds (prB 0 a) [])))) (h1 : x111.1 = if c164 = 0 then setI (collected (qmE pat lo hi) (kIdx (adds (prB 0 a) []))) else []) (h6 : x116.1 = if c187 = 0 then setI (collected (tmE pat dat) (kIdx (adds (prB 0 a) []))) else []) :
    ∀ (d i : Nat) (T N P : List Int), i + d = a.length → Ix a (pmL pat) i P → (if c164 = 0 then Ix a (qmL pat lo hi) i N else N = []) → (if c187 = 0 then Ix a (tmL pat dat) i T else T = []) →
      Go.L.run (law4_ShapesFindMatchesSpec_bl8 a pat lo hi dat c164 c187 x107 x111 x116 x120) (T, N, P, (i : Int)) = some true := by
  intro d
  induction d with
  | zero =>
    intro i T N P hi' hP hN hT;have : i = a.length := by omega
    subst this;refine run_inr (m := some true) ?_;unfold law4_ShapesFindMatchesSpec_bl8 law4_ShapesFindMatchesSpec_k7;dsimp only;have e7 : x107.1 = P := h7.trans (coll_ix (f := pmE pat) (g := pmL pat) (fun _ => rfl) hP)
    have e1 : x111.1 = N := by
      rw [h1]
      by_cases c : c164 = 0
      · rw [if_pos c] at hN ⊢; exact coll_ix (f := qmE pat lo hi) (g := qmL pat lo hi) (fun _ => rfl) hN
      · rw [if_neg c] at hN ⊢; exact hN.symm
    have e6 : x116.1 = T := by
      rw [h6]
      by_cases c : c187 = 0
      · rw [if_pos c] at hT ⊢; exact coll_ix (f := tmE pat dat) (g := tmL pat dat) (fun _ => rfl) hT
      · rw [if_neg c] at hT ⊢; exact hT.symm
    have lP := hP.2.2
    have lN : N.length ≤ 64 := by
      by_cases c : c164 = 0
      · rw [if_pos c] at hN; have := hN.2.2; omega
      · rw [if_neg c] at hN; rw [hN]; simp
    have lT : T.length ≤ 64 := by
      by_cases c : c187 = 0
      · rw [if_pos c] at hT; have := hT.2.2; omega
      · rw [if_neg c] at hT; rw [hT]; simp
    rw [if_neg (by omega), e7, e1, e6, ints_self P (by omega), Option.bind_some, if_pos rfl, ints_self N (by omega), Option.bind_some, if_pos rfl, ints_self T (by omega)]
    rfl
  | succ d ih =>
    intro i T N P hi' hP hN hT;have hil : i < a.length := by omega
    obtain ⟨v1, v2, v3⟩ := hv _ (getD_mem hil);have lP := hP.2.2
    have lN : N.length ≤ 64 := by
      by_cases c : c164 = 0
      · rw [if_pos c] at hN; have := hN.2.2; omega
      · rw [if_neg c] at hN; rw [hN]; simp
    have lT : T.length ≤ 64 := by
      by_cases c : c187 = 0
      · rw [if_pos c] at hT; have := hT.2.2; omega
      · rw [if_neg c] at hT; rw [hT]; simp
    have hcap : ∀ L : List Int, L.length ≤ 64 → Go.E.Cap 8 (L.length + ([(i : Int)]).length) := fun L hL => by unfold Go.E.Cap; simp; omega
    have s11 : ∀ N' P', law4_ShapesFindMatchesSpec_k11 a pat dat c187 T P' (i : Int) N' = some (.inl ((if c187 = 0 ∧ (lvs 10 (a.getD i default) []).any (tmL pat dat) = true then T ++ [(i : Int)] else T), N', P', ((i + 1 : Nat) : Int))) := fun N' P' => by
      unfold law4_ShapesFindMatchesSpec_k11
      by_cases c : c187 = 0
      · rw [if_pos c, chk_pos (by omega), Int.toNat_natCast, hasBytes_eq v2 v3 (by omega), Option.bind_some]
        by_cases g : (lvs 10 (a.getD i default) []).any (tmL pat dat) = true
        · rw [if_pos g, if_pos ⟨c, g⟩, chk_pos (hcap T lT), chk_pos (by unfold I64; omega)]; rfl
        · rw [if_neg g, if_neg (fun h => g h.2), chk_pos (by unfold I64; omega)]; rfl
      · rw [if_neg c, if_neg (fun h => c h.1), chk_pos (by unfold I64; omega)]; rfl
    have s10 : ∀ P', law4_ShapesFindMatchesSpec_k10 a pat lo hi dat c164 c187 T N (i : Int) P' = law4_ShapesFindMatchesSpec_k11 a pat dat c187 T P' (i : Int) (if c164 = 0 ∧ (lvs 10 (a.getD i default) []).any (qmL pat lo hi) = true then N ++ [(i : Int)] else N) := fun P' => by
      unfold law4_ShapesFindMatchesSpec_k10
      by_cases c : c164 = 0
      · rw [if_pos c, chk_pos (by omega), Int.toNat_natCast, hasNumber_eq v2 v3 (by omega), Option.bind_some, chk_pos (hcap N lN)]
        by_cases g : (lvs 10 (a.getD i default) []).any (qmL pat lo hi) = true
        · rw [if_pos g, if_pos ⟨c, g⟩]
        · rw [if_neg g, if_neg (fun h => g h.2)]
      · rw [if_neg c, if_neg (fun h => c h.1)]
    have hstep : law4_ShapesFindMatchesSpec_bl8 a pat lo hi dat c164 c187 x107 x111 x116 x120 (T, N, P, (i : Int)) = some (.inl ((if c187 = 0 ∧ (lvs 10 (a.getD i default) []).any (tmL pat dat) = true then T ++ [(i : Int)] else T), (if c164 = 0 ∧ (lvs 10 (a.getD i default) []).any (qmL pat lo hi) = true then N ++ [(i : Int)] else N), (if (lvs 10 (a.getD i default) []).any (pmL pat) = true then P ++ [(i : Int)] else P), ((i + 1 : Nat) : Int))) := by
      unfold law4_ShapesFindMatchesSpec_bl8 law4_ShapesFindMatchesSpec_k9;dsimp only;rw [if_pos (by omega), if_pos hx, chk_pos (by omega), Int.toNat_natCast, hasPath_eq v2 v3 (by omega), Option.bind_some, chk_pos (hcap P (by omega)), s10, s10, s11, s11]
      by_cases g : (lvs 10 (a.getD i default) []).any (pmL pat) = true
      · rw [if_pos g, if_pos g]
      · rw [if_neg g, if_neg g]
    rw [run_inl hstep];refine ih (i + 1) _ _ _ (by omega) hP.step ?_ ?_
    · by_cases c : c164 = 0
      · rw [if_pos c] at hN ⊢;simp only [c, true_and];exact hN.step
      · rw [if_neg c] at hN ⊢;rw [if_neg (fun h => c h.1)]; exact hN
    · by_cases c : c187 = 0
      · rw [if_pos c] at hT ⊢;simp only [c, true_and];exact hT.step
      · rw [if_neg c] at hT ⊢;rw [if_neg (fun h => c h.1)]; exact hT
theorem find_law {a : List Pv} {pat dat : List UInt8} {lo hi : Int} (hs : ∀ v ∈ a, Sm 1048576 10 v) : law4_ShapesFindMatchesSpec a pat lo hi dat = some true := by
  unfold law4_ShapesFindMatchesSpec;obtain ⟨x, hx1, hx2⟩ := build_ex hs
  have fin : ∀ (c i : Int) (w : Int × Int), c ≠ 0 → x = ((0, []), (c, i)) → w = (c, i) → (Option.bind law4_shaped (fun x42 => if !x42 then Option.bind (law4_shaped) (fun x46 => if x46 then if x.2.1 = w.1 ∧ x.2.2 = w.2 then Option.bind (shapes_Index_Items (x.1.1, x.1.2)) (fun x52 => some (decide (x52 = (0 : Int)))) else some (false) else some (false)) else if w.1 = (0 : Int) then (law4_ShapesFindMatchesSpec_k1 a pat lo hi dat x) else Option.bind (law4_shaped) (fun x59 => if x59 then if x.2.1 = w.1 ∧ x.2.2 = w.2 then Option.bind (shapes_Index_Items (x.1.1, x.1.2)) (fun x65 => some (decide (x65 = (0 : Int)))) else some (false) else some (false)))) = some true := by
    rintro c i w hc rfl rfl;unfold shapes_Index_Items;rw [shaped_true, Option.bind_some, if_neg (by decide), if_neg hc, Option.bind_some, if_pos rfl, if_pos ⟨rfl, rfl⟩]
    rfl
  rw [hx1, Option.bind_some]
  rcases hx2 with ⟨h1, rfl⟩ | ⟨h1, j, f, hj, hf, hf0, hvj, rfl⟩ | ⟨h1, hv, rfl⟩
  · have hvf : law4_valuesFault a = some (2, -1) := by
      unfold law4_valuesFault ref3_At;rw [if_pos (by omega)]
      rfl
    rw [hvf, Option.bind_some];exact fin _ _ _ (by decide) rfl rfl
  · rcases values_fault h1 hs with ⟨i, g, gi, hg, hg0, hvi, hvf⟩ | ⟨hv, _⟩
    · have hij := fault_uniq hf hg hf0 hg0 hj gi hvj hvi;subst hij;rw [hf] at hg
      cases hg
      rw [hvf, Option.bind_some];exact fin _ _ _ hf0 rfl rfl
    · rw [(hv _ (getD_mem hj)).1] at hf
      cases hf
      exact absurd rfl hf0
  · rcases values_fault h1 hs with ⟨i, g, gi, hg, hg0, hvi, hvf⟩ | ⟨_, hvf⟩
    · rw [(hv _ (getD_mem gi)).1] at hg
      cases hg
      exact absurd rfl hg0
    · rw [hvf, Option.bind_some, shaped_true, Option.bind_some, if_neg (by decide), if_pos rfl];obtain ⟨hG, hms⟩ := gi_build h1 hv hs;unfold law4_ShapesFindMatchesSpec_k1 ref3_At shapes_Index_Items
      rcases bres_cases (a.length : Int) (adds (prB 0 a) []) with ⟨_, hb⟩ | ⟨_, hb⟩
      · rw [hb]
        rfl
      · rw [hb];dsimp only;rw [if_pos rfl];have hpath : ∀ e ∈ kIdx (adds (prB 0 a) []), e.1.1.length ≤ 330 := fun e he => (hG.ev e he).path.1
        have hend : ∀ (c164 c187 : Int) (x107 x111 x116 : List Int × (Int × Int)), (pf pat).1 = 0 →
            x107.1 = setI (collected (pmE pat) (kIdx (adds (prB 0 a) []))) → (x111.1 = if c164 = 0 then setI (collected (qmE pat lo hi) (kIdx (adds (prB 0 a) []))) else []) → (x116.1 = if c187 = 0 then setI (collected (tmE pat dat) (kIdx (adds (prB 0 a) []))) else []) →
            law4_ShapesFindMatchesSpec_k6 a pat lo hi dat c164 c187 x107 x111 x116 (pf pat) = some true := fun c164 c187 x107 x111 x116 hpf h7 h11 h16 => by
          unfold law4_ShapesFindMatchesSpec_k6 law4_ShapesFindMatchesSpec_l8;have hix : ∀ g, Ix a g 0 [] := fun g => ⟨.nil, fun z => by simp, by simp⟩;refine find_run h1 hv (pf_zero pat hpf).2 hpf h7 h11 h16 a.length 0 _ _ _ (by omega) (hix _) ?_ ?_
          · by_cases c : c164 = 0
            · rw [if_pos c]; exact hix _
            · rw [if_neg c]
          · by_cases c : c187 = 0
            · rw [if_pos c]; exact hix _
            · rw [if_neg c]
        unfold law4_ShapesFindMatchesSpec_k2;dsimp only
        by_cases hpf : (pf pat).1 = 0
        · obtain ⟨hpz, hp64⟩ := pf_zero pat hpf;have hfe := find_eq (n := (a.length : Int)) hpf hG.len hG.few hpath;rw [hfe, Option.bind_some]
          have hnum : ∃ x111 : List Int × (Int × Int), shapes_Index_Number ((a.length : Int), kIdx (adds (prB 0 a) [])) pat lo hi = some x111 ∧ ((hi < lo ∧ x111 = ([], (4, -3))) ∨ (¬ hi < lo ∧ x111 = (setI (collected (qmE pat lo hi) (kIdx (adds (prB 0 a) []))), (0, 0)))) := by
            by_cases hlo : hi < lo
            · refine ⟨_, ?_, .inl ⟨hlo, rfl⟩⟩;unfold shapes_Index_Number shapes_fault;rw [check_eq, Option.bind_some, hpz, if_pos ⟨rfl, rfl⟩, if_pos hlo]
              rfl
            · exact ⟨_, numb_eq hpf hlo hG.len hG.few hpath, .inr ⟨hlo, rfl⟩⟩
          have htxt : ∃ x116 : List Int × (Int × Int), shapes_Index_Text ((a.length : Int), kIdx (adds (prB 0 a) [])) pat dat = some x116 ∧ ((4000 < dat.length ∧ x116 = ([], (3, -2))) ∨ (¬ 4000 < dat.length ∧ x116 = (setI (collected (tmE pat dat) (kIdx (adds (prB 0 a) []))), (0, 0)))) := by
            unfold shapes_Index_Text;rw [check_eq, Option.bind_some, hpz, if_pos ⟨rfl, rfl⟩]
            by_cases hlo : 4000 < dat.length
            · refine ⟨_, ?_, .inl ⟨hlo, rfl⟩⟩;unfold shapes_fault;rw [if_pos (by omega)]
              rfl
            · refine ⟨_, ?_, .inr ⟨hlo, rfl⟩⟩;rw [if_neg (by omega), collect3_eq (by omega) hG.len hG.few hpath]
              rfl
          obtain ⟨x111, hn1, hn2⟩ := hnum;obtain ⟨x116, ht1, ht2⟩ := htxt;rw [hn1, Option.bind_some, ht1, Option.bind_some, pfault_eq, Option.bind_some];unfold law4_ShapesFindMatchesSpec_k3 law4_ShapesFindMatchesSpec_k4 law4_ShapesFindMatchesSpec_k5 shapes_Index_Items ref3_At
          have he0 := hend (if hi < lo then 4 else 0) (if 4000 < dat.length then 3 else 0) (setI (collected (pmE pat) (kIdx (adds (prB 0 a) []))), (0, 0)) x111 x116 hpf rfl (by
            rcases hn2 with ⟨c, rfl⟩ | ⟨c, rfl⟩
            · rw [if_pos c]; rfl
            · rw [if_neg c]; rfl) (by
            rcases ht2 with ⟨c, rfl⟩ | ⟨c, rfl⟩
            · rw [if_pos c]; rfl
            · rw [if_neg c]; rfl)
          rw [hpz] at he0 ⊢
          rcases hn2 with ⟨c1, rfl⟩ | ⟨c1, rfl⟩ <;> rcases ht2 with ⟨c2, rfl⟩ | ⟨c2, rfl⟩
          · rw [if_pos c1, if_pos c2] at he0;have c2' : (4000 : Int) < (dat.length : Int) := by omega
            simpa [c1, c2'] using he0
          · rw [if_pos c1, if_neg c2] at he0;have c2' : ¬ (4000 : Int) < (dat.length : Int) := by omega
            simpa [c1, c2'] using he0
          · rw [if_neg c1, if_pos c2] at he0;have c2' : (4000 : Int) < (dat.length : Int) := by omega
            simpa [c1, c2'] using he0
          · rw [if_neg c1, if_neg c2] at he0;have c2' : ¬ (4000 : Int) < (dat.length : Int) := by omega
            simpa [c1, c2'] using he0
        · have hne : ¬ ((pf pat).1 = 0 ∧ (pf pat).2 = 0) := fun h => hpf h.1;unfold shapes_Index_Find shapes_Index_Number shapes_Index_Text;rw [check_eq, Option.bind_some, if_neg hne, Option.bind_some, Option.bind_some, if_neg hne, Option.bind_some, Option.bind_some, if_neg hne, Option.bind_some, pfault_eq, Option.bind_some]
          have he : law4_ShapesFindMatchesSpec_k6 a pat lo hi dat (pf pat).1 (pf pat).1 ([], ((pf pat).1, (pf pat).2)) ([], ((pf pat).1, (pf pat).2)) ([], ((pf pat).1, (pf pat).2)) (pf pat) = some true := by
            unfold law4_ShapesFindMatchesSpec_k6 law4_ShapesFindMatchesSpec_l8;refine run_inr (m := some true) ?_;unfold law4_ShapesFindMatchesSpec_bl8 law4_ShapesFindMatchesSpec_k7;dsimp only;rw [if_neg hpf, ints_self [] (by simp), Option.bind_some, if_pos rfl, Option.bind_some, if_pos rfl]
            split <;> rfl
          unfold law4_ShapesFindMatchesSpec_k3 law4_ShapesFindMatchesSpec_k4 law4_ShapesFindMatchesSpec_k5 shapes_Index_Items
          simpa [hpf] using he
end Go.Proofs.YtmfiaecglndldaaGreatDoor
end
section
namespace Go.E
open Go Go.RowKit Go.ChangeShapes Go.WideShapes
section
variable {H : Type} {enc : TypeId × Value → H} {P : Program} {w : World} {base : Nat} {spare : Nat → Bool} {held : Bool}
theorem wf_u8 {n : Int} (h : (Lit.int .u8 n).wf = true) : 0 ≤ n ∧ n ≤ 255 := by
  simpa [Lit.wf, IntKind.min, IntKind.max, IntKind.signed, IntKind.bits] using h
theorem wf_i64 {n : Int} (h : (Lit.int .i64 n).wf = true) : -9223372036854775808 ≤ n ∧ n ≤ 9223372036854775807 := by
  simpa [Lit.wf, IntKind.min, IntKind.max, IntKind.signed, IntKind.bits] using h
/-- Arguments read, behind a call that leaves old memory as it was, as they read before. -/
theorem trodAll_stays (hl : laidOutB P = true) {W W' : World} (hb : Below W.heap.size W W') : ∀ {ts : List TypeId} {vs : List Value} {ds : List (DataW H)} {ps : List MemPlace}, (∀ t ∈ ts, P.readableRec t = true ∧ t < P.types.size) →
    DataW.TrodAll enc P W 0 (fun _ => true) true ts vs ds ps → (∀ x ∈ ps, x.block < W.heap.size) → DataW.TrodAll enc P W' 0 (fun b => decide (b < W.heap.size)) true ts vs ds ps
  | [], [], [], ps, _, h, _ => h
  | t :: ts, v :: vs, d :: ds, ps, ht, h, hlt => by
    obtain ⟨p, q, h1, h2, rfl⟩ := h;have ht0 := ht t (.head _);exact ⟨p, q, Below.trod hl ht0.1 ht0.2 h1 hb (fun x hx => hlt x (List.mem_append.2 (.inl hx))), trodAll_stays hl hb (fun t' h' => ht t' (.tail _ h')) h2 (fun x hx => hlt x (List.mem_append.2 (.inr hx))), rfl⟩
  | [], [], _ :: _, _, _, h, _ => by cases h
  | [], _ :: _, _, _, _, h, _ => by cases h
  | _ :: _, [], _, _, _, h, _ => by cases h
  | _ :: _, _ :: _, [], _, _, h, _ => by cases h
end
end Go.E
namespace Go.E
open Go Go.RowKit Go.ChangeShapes Go.WideShapes Go.Deep
/-- What is read at a type lies in memory as plain data, of which something holds. -/
def Reads (P : Program) (t : TypeId) {α : Type} (r : Rp α) (ok : α → Prop) : Prop :=
  ∀ {H : Type} {enc : TypeId × Value → H} {w : World} {base : Nat} {spare : Nat → Bool} {held : Bool} {fuel : Nat} {cs : List Value} {x : DataW H × List MemPlace},
    DataW.trod enc P w base spare held fuel t cs = some x → ∃ a, r.rel (hp w) a cs ∧ ok a
section
variable {P : Program} {t e : TypeId}
theorem reads_i64 (ht : P.underlying t = some (.int .i64)) : Reads P t (.int .i64) (fun n => Go.L.I64 n) := fun h => by
  obtain ⟨n, rfl, _, hw⟩ := DataW.trod_int ht h;exact ⟨n, rfl, wf_i64 hw⟩
theorem reads_byte (ht : P.underlying t = some (.int .u8)) : Reads P t .byte (fun _ => True) := fun h => by
  obtain ⟨n, rfl, _, hw⟩ := DataW.trod_int ht h;have hw' := wf_u8 hw;refine ⟨Go.L.u8 n, ?_, trivial⟩
  show [_] = [_]
  rw [Go.L.u8_toNat, Int.emod_eq_of_lt (by omega) (by omega)]
theorem reads_slice [Dr] {α : Type} {r : Rp α} {ok : α → Prop} (ht : P.underlying t = some (.slice e)) (hc : P.cellsOf e = r.sz) (hsz : 0 < r.sz) (hr : Reads P e r ok) : Reads P t (.vec r) (fun l => l.length ≤ 9223372036854775807 ∧ ∀ x ∈ l, ok x) := fun {H enc w base spare held fuel cs x} h => by
  rcases open_slice ht h with ⟨rfl, _⟩ | ⟨a, len, cap, m, n, D, Pl, rfl, hb, hl, hm, rfl, _, hel⟩
  · exact ⟨[], ⟨_, rfl, Vec.nil _ _⟩, by simp, by simp⟩
  · have hm2 : len ≤ (if spare a.block then cap else len) := by split <;> omega
    have hx : ∀ i, i < len → ∃ y, ok y ∧ ∃ c, r.rel (hp w) y c ∧ w.cells? base (a.add (i * r.sz)) r.sz = some c := fun i hi => by
      obtain ⟨cs', h1, h2⟩ := hel i (by omega);obtain ⟨y, h3, h4⟩ := hr h2;rw [hc] at h1;exact ⟨y, h4, cs', h3, h1⟩
    have key : ∀ k, k ≤ len → ∃ l : List α, l.length = k ∧ (∀ x ∈ l, ok x) ∧ ∀ i y, l[i]? = some y → ∃ c, r.rel (hp w) y c ∧ w.cells? base (a.add (i * r.sz)) r.sz = some c := by
      intro k
      induction k with
      | zero => intro _; exact ⟨[], rfl, by simp, by simp⟩
      | succ k ih =>
        intro hk;obtain ⟨l, h1, h2, h3⟩ := ih (by omega);obtain ⟨y, h4, c, h5, h6⟩ := hx k (by omega);refine ⟨l ++ [y], by simp [h1], fun z hz => ?_, fun i z hz => ?_⟩
        · rcases List.mem_append.1 hz with hz | hz
          · exact h2 z hz
          · simp at hz; subst hz; exact h4
        · rcases Nat.lt_or_ge i l.length with hi | hi
          · rw [List.getElem?_append_left hi] at hz; exact h3 i z hz
          · rw [List.getElem?_append_right hi] at hz
            have hi0 : i - l.length = 0 := by
              have := (List.getElem?_eq_some_iff.1 hz).1;simp at this; omega
            rw [hi0] at hz;simp at hz;subst hz;obtain rfl : i = k := by omega
            exact ⟨c, h5, h6⟩
    obtain ⟨l, h1, h2, h3⟩ := key len (Nat.le_refl _);have hlm : len ≤ 9223372036854775807 := by unfold maxLen at hm; omega
    refine ⟨l, ⟨_, rfl, some a, cap, by rw [h1], by omega, hm, (fun h => by cases h), fun A hA hne => ?_⟩, by omega, h2⟩
    cases hA
    have cell : ∀ i y, l[i]? = some y → ∃ c, r.rel (hp w) y c ∧ ∀ j u, c[j]? = some u → w.cell? ((a.add (i * r.sz)).add j) = some u := fun i y hy => by
      obtain ⟨c, h4, h5⟩ := h3 i y hy;obtain ⟨_, hlen, hcell⟩ := World.cells?_some h5;exact ⟨c, h4, fun j u hu => by rw [← hu]; exact hcell j (by rw [← hlen]; exact (List.getElem?_eq_some_iff.1 hu).1)⟩
    have hspot : a.spot = none := by
      obtain ⟨y, l', rfl⟩ := List.exists_cons_of_ne_nil hne;obtain ⟨c, h4, h5⟩ := cell 0 y rfl;have hc0 : 0 < c.length := by rw [r.len h4]; omega
      have := World.cell?_spot (h5 0 _ (List.getElem?_eq_getElem hc0))
      simpa [Addr.add] using this
    refine ⟨hspot, fun i y hy => ?_⟩;obtain ⟨c, h4, h5⟩ := cell i y hy;refine ⟨c, h4, fun j u hu => ?_⟩;rw [← addr_add_add hspot];exact h5 j u hu
end
end Go.E
end
section
namespace Go.Proofs.YtmfiaecglndldaaGreatDoor.bulks
open Go Go.E
theorem one_le {H : Type} (d : DataW H) : 1 ≤ Rows.uptoBulk d := by
  cases d with
  | lit l => cases l <;> simp [Rows.uptoBulk]
  | nil => simp [Rows.uptoBulk]
  | ptr d => simp [Rows.uptoBulk]
  | slice elems spare => simp [Rows.uptoBulk]
  | agg parts => simp [Rows.uptoBulk]
  | iface t d => simp [Rows.uptoBulk]
  | map entries => simp [Rows.uptoBulk]
  | held h => simp [Rows.uptoBulk]
theorem length_le {H : Type} (l : List (DataW H)) : l.length ≤ Rows.uptoBulkAll l := by
  induction l with
  | nil => simp [Rows.uptoBulkAll]
  | cons x r ih => have := one_le x; simp only [Rows.uptoBulkAll, List.length_cons]; omega
theorem bound {H : Type} {l : List (DataW H)} (hk : Rows.uptoSmall H l = true) : Rows.uptoBulkAll l ≤ 1048576 := of_decide_eq_true hk
theorem slice_bulk {H : Type} {enc : TypeId × Value → H} {P : Program} {w : World} {base : Nat} {spare : Nat → Bool} {held : Bool} {fuel : Nat} {t e : TypeId} {b : Option Addr} {len cap : Nat} {x : DataW H × List MemPlace}
    (ht : P.underlying t = some (.slice e)) (h : DataW.trod enc P w base spare held fuel t [.slice b len cap] = some x) : len + 1 ≤ Rows.uptoBulk x.1 := by
  rcases Deep.open_slice ht h with ⟨h1, rfl⟩ | ⟨a, len', cap', m, n, D, Pl, h1, _, _, _, _, rfl, _⟩
  · simp only [List.cons.injEq, Value.slice.injEq, and_true] at h1;obtain ⟨_, rfl, _⟩ := h1;exact Nat.le_refl _
  · simp only [List.cons.injEq, Value.slice.injEq, and_true] at h1;obtain ⟨_, rfl, _⟩ := h1;have h2 := length_le ((List.range len).map D);rw [List.length_map, List.length_range] at h2;simp only [Rows.uptoBulk];omega
theorem vec_len {α : Type} {r : Rp α} {H : PH} {b : Option Addr} {len cap : Nat} {l : List α} (h : Vec r H (.slice b len cap) l) : l.length = len := by
  obtain ⟨_, _, h1, _⟩ := h.ex;simp only [Value.slice.injEq] at h1;exact h1.2.1.symm
end Go.Proofs.YtmfiaecglndldaaGreatDoor.bulks
namespace Go.Proofs.YtmfiaecglndldaaGreatDoor.bulks
open Go Go.E Go.RowKit Go.ChangeShapes Go.WideShapes Go.Deep Go.L
theorem all_mem {H : Type} {l : List (DataW H)} {x : DataW H} (h : x ∈ l) : Rows.uptoBulk x ≤ Rows.uptoBulkAll l := by
  induction l with
  | nil => cases h
  | cons y l ih =>
    simp only [Rows.uptoBulkAll]
    rcases List.mem_cons.1 h with rfl | h
    · omega
    · have := ih h; omega
/-- What is read at a type with so much bulk lies in memory as plain data that is small. -/
def RB (P : Program) (t : TypeId) {α : Type} (r : Rp α) (ok : α → Prop) (k : Nat) : Prop :=
  ∀ {H : Type} {enc : TypeId × Value → H} {w : World} {base : Nat} {spare : Nat → Bool} {held : Bool} {fuel : Nat} {cs : List Value} {x : DataW H × List MemPlace},
    Rows.uptoBulk x.1 ≤ k → DataW.trod enc P w base spare held fuel t cs = some x → ∃ a, r.rel (hp w) a cs ∧ ok a
section
variable {P : Program} {t e : TypeId} {k : Nat}
theorem RB.use {α : Type} {r : Rp α} {ok : α → Prop} (h : RB P t r ok k) {H : Type} {enc : TypeId × Value → H} {w : World} {base : Nat} {spare : Nat → Bool} {held : Bool} {fuel : Nat} {cs : List Value} {d : DataW H} {p : List MemPlace}
    (hk : Rows.uptoBulk d ≤ k) (hx : DataW.trod enc P w base spare held fuel t cs = some (d, p)) : ∃ a, r.rel (hp w) a cs ∧ ok a := @h H enc w base spare held fuel cs (d, p) hk hx
theorem rb_of {α : Type} {r : Rp α} {ok : α → Prop} (h : Reads P t r ok) : RB P t r ok k := fun _ hx => h hx
theorem rb_str (ht : P.underlying t = some .string) : RB P t .st (fun l => l.length ≤ k) k := fun hk h => by
  obtain ⟨s, rfl, rfl, hs⟩ := DataW.trod_string ht h;simp only [Rows.uptoBulk] at hk;exact ⟨s.data.toList, by show [_] = [_]; simp, by omega⟩
theorem rb_slice {α : Type} {r : Rp α} {ok : α → Prop} (ht : P.underlying t = some (.slice e)) (hc : P.cellsOf e = r.sz) (hsz : 0 < r.sz) (hr : RB P e r ok k) : RB P t (.vec r) (fun l => l.length ≤ k ∧ ∀ x ∈ l, ok x) k := fun {H enc w base spare held fuel cs x} hk h => by
  rcases open_slice ht h with ⟨rfl, _⟩ | ⟨a, len, cap, m, n, D, Pl, rfl, hb, hl, hm, rfl, rfl, hel⟩
  · exact ⟨[], ⟨_, rfl, Vec.nil _ _⟩, by simp, by simp⟩
  · have hm2 : len ≤ (if spare a.block then cap else len) := by split <;> omega
    simp only [Rows.uptoBulk] at hk;have hlk := length_le ((List.range len).map D);rw [List.length_map, List.length_range] at hlk
    have hx : ∀ i, i < len → ∃ y, ok y ∧ ∃ c, r.rel (hp w) y c ∧ w.cells? base (a.add (i * r.sz)) r.sz = some c := fun i hi => by
      obtain ⟨cs', h1, h2⟩ := hel i (by omega);have hDi := all_mem (List.mem_map_of_mem (f := D) (List.mem_range.2 hi));obtain ⟨y, h3, h4⟩ := hr (x := (D i, Pl i)) (by show Rows.uptoBulk (D i) ≤ k; omega) h2;rw [hc] at h1;exact ⟨y, h4, cs', h3, h1⟩
    have key : ∀ k, k ≤ len → ∃ l : List α, l.length = k ∧ (∀ x ∈ l, ok x) ∧ ∀ i y, l[i]? = some y → ∃ c, r.rel (hp w) y c ∧ w.cells? base (a.add (i * r.sz)) r.sz = some c := by
      intro k
      induction k with
      | zero => intro _; exact ⟨[], rfl, by simp, by simp⟩
      | succ k ih =>
        intro hk;obtain ⟨l, h1, h2, h3⟩ := ih (by omega);obtain ⟨y, h4, c, h5, h6⟩ := hx k (by omega);refine ⟨l ++ [y], by simp [h1], fun z hz => ?_, fun i z hz => ?_⟩
        · rcases List.mem_append.1 hz with hz | hz
          · exact h2 z hz
          · simp at hz; subst hz; exact h4
        · rcases Nat.lt_or_ge i l.length with hi | hi
          · rw [List.getElem?_append_left hi] at hz; exact h3 i z hz
          · rw [List.getElem?_append_right hi] at hz
            have hi0 : i - l.length = 0 := by
              have := (List.getElem?_eq_some_iff.1 hz).1;simp at this; omega
            rw [hi0] at hz;simp at hz;subst hz;obtain rfl : i = k := by omega
            exact ⟨c, h5, h6⟩
    obtain ⟨l, h1, h2, h3⟩ := key len (Nat.le_refl _);refine ⟨l, ⟨_, rfl, some a, cap, by rw [h1], by omega, hm, (fun h => by cases h), fun A hA hne => ?_⟩, by omega, h2⟩
    cases hA
    have cell : ∀ i y, l[i]? = some y → ∃ c, r.rel (hp w) y c ∧ ∀ j u, c[j]? = some u → w.cell? ((a.add (i * r.sz)).add j) = some u := fun i y hy => by
      obtain ⟨c, h4, h5⟩ := h3 i y hy;obtain ⟨_, hlen, hcell⟩ := World.cells?_some h5;exact ⟨c, h4, fun j u hu => by rw [← hu]; exact hcell j (by rw [← hlen]; exact (List.getElem?_eq_some_iff.1 hu).1)⟩
    have hspot : a.spot = none := by
      obtain ⟨y, l', rfl⟩ := List.exists_cons_of_ne_nil hne;obtain ⟨c, h4, h5⟩ := cell 0 y rfl;have hc0 : 0 < c.length := by rw [r.len h4]; omega
      have := World.cell?_spot (h5 0 _ (List.getElem?_eq_getElem hc0))
      simpa [Addr.add] using this
    refine ⟨hspot, fun i y hy => ?_⟩;obtain ⟨c, h4, h5⟩ := cell i y hy;refine ⟨c, h4, fun j u hu => ?_⟩;rw [← addr_add_add hspot];exact h5 j u hu
/-- A value of package api. -/
theorem rb_tree {f0 f1 f2 f3 f4 : Field} {tb ts tp te : TypeId} (ht : P.underlying t = some (.struct #[f0, f1, f2, f3, f4])) (hc : P.cellsOf t = 5)
    (o0 : f0.offset = 0) (o1 : f1.offset = 1) (o2 : f2.offset = 2) (o3 : f3.offset = 3) (o4 : f4.offset = 4)
    (u0 : P.underlying f0.type = some (.int .i64)) (u1 : P.underlying f1.type = some (.int .i64)) (e2 : f2.type = tb) (e3 : f3.type = ts) (e4 : f4.type = tp)
    (c0 : P.cellsOf f0.type = 1) (c1 : P.cellsOf f1.type = 1) (c2 : P.cellsOf tb = 1) (c3 : P.cellsOf ts = 1) (c4 : P.cellsOf tp = 1)
    (ub : P.underlying tb = some (.slice te)) (ue : P.underlying te = some (.int .u8)) (ce : P.cellsOf te = 1) {tg : TypeId} (us : P.underlying ts = some (.slice tg)) (ug : P.underlying tg = some .string) (cg : P.cellsOf tg = 1) (up : P.underlying tp = some (.slice t)) (B : Nat) (k : Nat) (hB : k ≤ B) : RB P t .tree (fun v => ∀ d, Sm B d v) k := by
  induction k with
  | zero =>
    intro H enc w base spare held fuel cs x hk h;have := one_le x.1;omega
  | succ k ih0 =>
    intro H enc w base spare held fuel cs x hk h;subst e2; subst e3; subst e4;obtain ⟨xs, n, rfl, rfl, hl, hlen, hfs⟩ := DataW.trod_struct ht h;have ih : RB P t .tree (fun v => ∀ d, Sm B d v) k := @ih0 (by omega);simp only [Rows.uptoBulk] at hk
    have hb : ∀ y ∈ xs, Rows.uptoBulk y.1 ≤ k := fun y hy => by
      have := all_mem (List.mem_map_of_mem (f := fun z : DataW H × List MemPlace => z.1) hy);omega
    have hx5 : xs.length = 5 := by simpa using hlen
    have get : ∀ (i : Nat) (f : Field), (#[f0, f1, f2, f3, f4] : Array Field)[i]? = some f → i < 5 → P.cellsOf f.type = 1 → f.offset = i → ∃ y : DataW H × List MemPlace, Rows.uptoBulk y.1 ≤ k ∧ DataW.trod enc P w base spare held n f.type ((cs.drop i).take 1) = some y := fun i f hf hi hcf hof => by
      have h1 := hfs i f hf;rw [hcf, hof, List.getElem?_eq_getElem (by omega : i < xs.length)] at h1;exact ⟨_, hb _ (List.getElem_mem _), h1⟩
    obtain ⟨y0, b0, t0⟩ := get 0 f0 rfl (by omega) c0 o0;obtain ⟨y1, b1, t1⟩ := get 1 f1 rfl (by omega) c1 o1;obtain ⟨y2, b2, t2⟩ := get 2 f2 rfl (by omega) c2 o2;obtain ⟨y3, b3, t3⟩ := get 3 f3 rfl (by omega) c3 o3;obtain ⟨y4, b4, t4⟩ := get 4 f4 rfl (by omega) c4 o4;obtain ⟨a0, r0, q0⟩ := rb_of (k := k) (reads_i64 u0) b0 t0;obtain ⟨a1, r1, q1⟩ := rb_of (k := k) (reads_i64 u1) b1 t1;obtain ⟨a2, r2, q2, _⟩ := rb_slice ub ce (by decide) (rb_of (k := k) (reads_byte ue)) b2 t2;obtain ⟨a3, r3, q3, q3'⟩ := rb_slice us cg (by decide) (rb_str (k := k) ug) b3 t3;obtain ⟨a4, r4, q4, q4'⟩ := rb_slice up (r := .tree) hc (by decide) ih b4 t4;refine ⟨.mk a0 a1 a2 a3 a4, Rp.tree_close ?_, fun d => ?_⟩
    · have hcs : cs = (cs.drop 0).take 1 ++ ((cs.drop 1).take 1 ++ ((cs.drop 2).take 1 ++ ((cs.drop 3).take 1 ++ (cs.drop 4).take 1))) := by
        have h5 : cs.length = 5 := by rw [hl, hc]
        match cs, h5 with
        | [_, _, _, _, _], _ => rfl
      exact ⟨_, _, hcs, r0, _, _, rfl, r1, _, _, rfl, r2, _, _, rfl, r3, r4⟩
    · cases d with
      | zero => exact trivial
      | succ d => exact ⟨by show a2.length ≤ B; omega, by show a3.length ≤ B; omega, by show a4.length ≤ B; omega, fun x hx => by have := q3' x hx; omega, q0, q1, fun p hp => q4' p hp d⟩
end
end Go.Proofs.YtmfiaecglndldaaGreatDoor.bulks
end
section
namespace Go.Proofs.YtmfiaecglndldaaGreatDoor
open Go Go.E Go.Lib
def laidU : List (String × DataW Unit) := [("unicode/utf8.acceptRanges", Rows.laid_unicode_utf8_acceptRanges), ("unicode/utf8.first", Rows.laid_unicode_utf8_first)]
noncomputable def laidWorld (os : Os) : World :=
  let w0 := World.holding Tryz.prog os ⟨#[], #[], []⟩
  let put (h : Array Obj) (g : Nat) (cs : Array Value) : Array Obj := h.modify g fun
    | .cells _ t frozen => .cells cs t frozen
    | o => o
  let h1 := put w0.heap 1 (Lib.firstTab.map fun z => Value.int .u8 z).toArray
  let h2 := put h1 2 ((List.range 16).flatMap fun i => [Value.int .u8 (Lib.accLo i), Value.int .u8 (Lib.accHi i)]).toArray
  { w0 with heap := h2 }
theorem door_met (os : Os) (args : Array Value) : laidMetH Tryz.prog laidU ((laidWorld os).forCall (fun _ _ => 0) ⟨#[], args, []⟩).memory :=
  laidMetH_of_parts3 (fuel := 8) (laidMet_of_run' 8 (by kernel_rfl) (by kernel_rfl)) (by kernel_rfl) (by kernel_rfl)
end Go.Proofs.YtmfiaecglndldaaGreatDoor
end
