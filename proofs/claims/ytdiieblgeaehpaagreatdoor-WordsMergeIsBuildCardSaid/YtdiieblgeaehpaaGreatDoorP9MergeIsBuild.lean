/- Generated walk: a law of words. -/
import Derived.Test.YtdiieblgeaehpaaGreatDoorP8M
import Derived.KernelRfl
namespace Go.Proofs.YtdiieblgeaehpaaGreatDoor
open Go Go.E Go.RowKit
set_option maxHeartbeats 1000000
set_option maxRecDepth 10000
open _root_.Go.Proofs.Tryz
noncomputable def law4_WordsMergeIsBuild_k1 (s4_135 : Bool) : Option (Bool) :=
 some (s4_135)
noncomputable def law4_WordsMergeIsBuild (a0 : List (List UInt8)) (a1 : List (List UInt8)) : Option (Bool) :=
 Option.bind (words_Build a0) (fun x1 => Option.bind (words_Build a1) (fun x7 => Option.bind (law4_speaks) (fun x13 => if !x13 then Option.bind (law4_speaks) (fun x17 => if x17 then if x1.2.1 = (0 : Int) then some (true) else Option.bind (words_Index_Items (x1.1.1, x1.1.2)) (fun x24 => some (decide (x24 = (0 : Int)))) else some (false)) else if x1.2.1 = (0 : Int) then if x7.2.1 = (0 : Int) then Go.L.chk (Go.E.Cap 24 (([] : List (List UInt8)).length + a0.length)) (Go.L.chk (Go.E.Cap 24 ((([] : List (List UInt8)) ++ a0).length + a1.length)) (Option.bind (words_Merge (x1.1.1, x1.1.2) (x7.1.1, x7.1.2)) (fun x60 => Option.bind (words_Build ((([] : List (List UInt8)) ++ a0) ++ a1)) (fun x67 => if (64 : Int) < (((([] : List (List UInt8)) ++ a0) ++ a1).length : Int) then Option.bind (ref3_At (2 : Int) (-1 : Int)) (fun x78 => if x60.2.1 = x78.1 ∧ x60.2.2 = x78.2 then Option.bind (words_Index_Items (x60.1.1, x60.1.2)) (fun x82 => some (decide (x82 = (0 : Int)))) else some (false)) else (if x60.2.1 = x67.2.1 ∧ x60.2.2 = x67.2.2 then if x67.2.1 = (0 : Int) then Option.bind (words_Index_Items (x60.1.1, x60.1.2)) (fun x141 => if x141 = (((([] : List (List UInt8)) ++ a0) ++ a1).length : Int) then Option.bind (words_Index_Bytes (x60.1.1, x60.1.2)) (fun x145 => Option.bind (words_Index_Bytes (x67.1.1, x67.1.2)) (fun x147 => Option.bind (ref3_SameBytes x145 x147) (fun x149 => if x149 then Option.bind (ref3_Total ((([] : List (List UInt8)) ++ a0) ++ a1) (200 : Int)) (fun x153 => if (200 : Int) < x153 then law4_WordsMergeIsBuild_k1 true else Option.bind (words_Index_Bytes (x67.1.1, x67.1.2)) (fun x158 => Option.bind (ref4_WordsForm ((([] : List (List UInt8)) ++ a0) ++ a1)) (fun x160 => Option.bind (ref3_SameBytes x158 x160) (fun x162 => law4_WordsMergeIsBuild_k1 x162)))) else law4_WordsMergeIsBuild_k1 false))) else law4_WordsMergeIsBuild_k1 false) else (if x60.2.1 = x67.2.1 ∧ x60.2.2 = x67.2.2 then Option.bind (words_Index_Items (x60.1.1, x60.1.2)) (fun x102 => some (decide (x102 = (0 : Int)))) else some (false)) else if x60.2.1 = x67.2.1 ∧ x60.2.2 = x67.2.2 then Option.bind (words_Index_Items (x60.1.1, x60.1.2)) (fun x94 => some (decide (x94 = (0 : Int)))) else some (false)))))) else Option.bind (law4_speaks) (fun x43 => if x43 then if x1.2.1 = (0 : Int) then some (true) else Option.bind (words_Index_Items (x1.1.1, x1.1.2)) (fun x50 => some (decide (x50 = (0 : Int)))) else some (false)) else Option.bind (law4_speaks) (fun x30 => if x30 then if x1.2.1 = (0 : Int) then some (true) else Option.bind (words_Index_Items (x1.1.1, x1.1.2)) (fun x37 => some (decide (x37 = (0 : Int)))) else some (false)))))

theorem law4_WordsMergeIsBuild_ok (w : World) (H : PH) (hH : Le H (hp w)) (hU : Utab H) {a0 : List (List UInt8)} {a1 : List (List UInt8)} {v0_0 : Value} {v1_0 : Value} (h0_0 : Vec (.vec .byte) H v0_0 (a0)) (h1_0 : Vec (.vec .byte) H v1_0 (a1)) {r : Bool} (h : law4_WordsMergeIsBuild a0 a1 = some r) :
  Ok Tryz.prog 4 [v0_0, v1_0] w (fun v w' => Ext w w' ∧ v = .bool r) := by
 refine Ok_enter (n := 115) [(0, v0_0), (1, v1_0)] func4 rfl rfl rfl rfl rfl ?_
 have hL := Lcl.start w
 refine W_pz 1 rfl ?_
 refine W_p 1 rfl ?_
 obtain ⟨x1, hb1, h⟩ := Go.L.bind_some h
 refine S_callL rfl rfl hL (words_Build_ok _ _ (gz_le hH hL) (hU.mono (gz_left hH)) (h0_0.mono (gz_left hH)) hb1) ?_
 rintro _ w2 ⟨u2_0, rfl, hR2_0⟩ hx2 hL2 hle2
 have hv2_0 := hR2_0.mono (gz_nw hH hL hx2)
 refine S_pu 3 rfl ?_
 refine S_alloc zr25 rfl rfl hL2 ?_
 intro w3 b3 hL3 hle3 _
 replace hv2_0 := hv2_0.mono (gz_mono hH hle3)
 refine S_alloc zr27 rfl rfl hL3 ?_
 intro w4 b4 hL4 hle4 _
 replace hv2_0 := hv2_0.mono (gz_mono hH hle4)
 refine S_storeBN 1 rfl rfl rfl zr25 hL4 rfl rfl (onc rfl (onc hv2_0.one on0)) ?_
 intro w5 hL5 hle5
 replace hv2_0 := hv2_0.mono (gz_mono hH hle5)
 refine S_storeBN 0 rfl rfl rfl zr27 hL5 rfl rfl (onc rfl (onc rfl on0)) ?_
 intro w6 hL6 hle6
 replace hv2_0 := hv2_0.mono (gz_mono hH hle6)
 refine S_seqnil ?_
 refine W_p 1 rfl ?_
 obtain ⟨x7, hb7, h⟩ := Go.L.bind_some h
 refine S_callL rfl rfl hL6 (words_Build_ok _ _ (gz_le hH hL6) (hU.mono (gz_left hH)) (h1_0.mono (gz_left hH)) hb7) ?_
 rintro _ w8 ⟨u8_0, rfl, hR8_0⟩ hx8 hL8 hle8
 have hv8_0 := hR8_0.mono (gz_nw hH hL6 hx8)
 replace hv2_0 := hv2_0.mono (gz_mono hH hle8)
 refine S_pu 3 rfl ?_
 refine S_alloc zr25 rfl rfl hL8 ?_
 intro w9 b9 hL9 hle9 _
 replace hv2_0 := hv2_0.mono (gz_mono hH hle9)
 replace hv8_0 := hv8_0.mono (gz_mono hH hle9)
 refine S_alloc zr27 rfl rfl hL9 ?_
 intro w10 b10 hL10 hle10 _
 replace hv2_0 := hv2_0.mono (gz_mono hH hle10)
 replace hv8_0 := hv8_0.mono (gz_mono hH hle10)
 refine S_storeBN 1 rfl rfl rfl zr25 hL10 rfl rfl (onc rfl (onc hv8_0.one on0)) ?_
 intro w11 hL11 hle11
 replace hv2_0 := hv2_0.mono (gz_mono hH hle11)
 replace hv8_0 := hv8_0.mono (gz_mono hH hle11)
 refine S_storeBN 0 rfl rfl rfl zr27 hL11 rfl rfl (onc rfl (onc rfl on0)) ?_
 intro w12 hL12 hle12
 replace hv2_0 := hv2_0.mono (gz_mono hH hle12)
 replace hv8_0 := hv8_0.mono (gz_mono hH hle12)
 refine S_seqnil ?_
 refine W_seq ?_
 refine W_seqr ?_
 obtain ⟨x13, hb13, h⟩ := Go.L.bind_some h
 refine S_callL rfl rfl hL12 (law4_speaks_ok _ _ (gz_le hH hL12) (hU.mono (gz_left hH)) hb13) ?_
 rintro _ w14 rfl hx14 hL14 hle14
 replace hv2_0 := hv2_0.mono (gz_mono hH hle14)
 replace hv8_0 := hv8_0.mono (gz_mono hH hle14)
 refine S_pu 2 rfl ?_
 refine S_split (s := 26) rfl (fun hg15 => ?_) (fun hg15 => ?_)
 ·replace h := Go.L.ite_t hg15 h
  iterate 3 refine S_unwanted rfl rfl hg15 rfl ?_
  refine S_v (r_pickT rfl hg15 rfl) rfl ?_
  refine S_pu 1 rfl ?_
  iterate 3 refine S_unwanted rfl rfl rfl rfl ?_
  refine S_v (r_pickT rfl rfl rfl) rfl ?_
  refine S_seqnil ?_
  refine W_true rfl ?_
  refine W_seqr ?_
  obtain ⟨x17, hb17, h⟩ := Go.L.bind_some h
  refine S_callL rfl rfl hL14 (law4_speaks_ok _ _ (gz_le hH hL14) (hU.mono (gz_left hH)) hb17) ?_
  rintro _ w18 rfl hx18 hL18 hle18
  replace hv2_0 := hv2_0.mono (gz_mono hH hle18)
  replace hv8_0 := hv8_0.mono (gz_mono hH hle18)
  refine S_pu 1 rfl ?_
  refine S_split (s := 37) rfl (fun hg19 => ?_) (fun hg19 => ?_)
  ·replace h := Go.L.ite_t hg19 h
   refine S_guarded rfl rfl hg19 ?_
   refine S_v (r_field rfl underlying27 rfl zr3 (by decide)) rfl ?_
   refine S_guarded rfl rfl hg19 ?_
   refine S_v (r_loadB1 2 rfl underlying3 rfl hL18 rfl rfl) rfl ?_
   refine S_guarded rfl rfl hg19 ?_
   refine S_v (RunsAt_pu rfl) rfl ?_
   refine S_guarded rfl rfl hg19 ?_
   refine S_v (RunsAt_pu rfl) rfl ?_
   refine S_split (s := 41) rfl (fun hg21 => ?_) (fun hg21 => ?_)
   ·replace h := Go.L.ite_p (of_decide_eq_true hg21) h
    iterate 3 refine S_unwanted rfl rfl hg21 rfl ?_
    refine S_guarded rfl rfl hg19 ?_
    refine S_v (r_pickT rfl hg21 rfl) rfl ?_
    refine S_v (r_pickT rfl hg19 rfl) rfl ?_
    refine S_pz 1 rfl ?_
    refine W_ret ?_
    refine At_seq_ret ?_
    obtain rfl := Option.some.inj h
    refine At_body rfl rfl ?_
    exact ⟨hL18.ext, rfl⟩
   ·replace h := Go.L.ite_n (of_decide_eq_false hg21) h
    refine S_guarded rfl rfl hg21 ?_
    refine S_v (r_loadBN 3 rfl underlying25 rfl zr25 hL18 rfl) rfl ?_
    refine S_guarded rfl rfl hg21 ?_
    obtain ⟨x24, hb24, h⟩ := Go.L.bind_some h
    refine S_callL rfl rfl hL18 (words_Index_Items_ok _ _ (gz_le hH hL18) hv2_0 hb24) ?_
    rintro _ w25 rfl hx25 hL25 hle25
    replace hv2_0 := hv2_0.mono (gz_mono hH hle25)
    replace hv8_0 := hv8_0.mono (gz_mono hH hle25)
    refine S_guarded rfl rfl hg21 ?_
    refine S_v (RunsAt_pu rfl) rfl ?_
    refine S_guarded rfl rfl hg19 ?_
    refine S_v (r_pickF rfl hg21 rfl) rfl ?_
    refine S_v (r_pickT rfl hg19 rfl) rfl ?_
    refine S_pz 1 rfl ?_
    refine W_ret ?_
    refine At_seq_ret ?_
    obtain rfl := Option.some.inj h
    refine At_body rfl rfl ?_
    exact ⟨hL25.ext, rfl⟩
  ·replace h := Go.L.ite_f hg19 h
   iterate 4 refine S_unwanted rfl rfl hg19 rfl ?_
   iterate 3 refine S_unwanted2 rfl rfl rfl ?_
   refine S_unwanted rfl rfl hg19 rfl ?_
   refine S_v (r_pickF rfl hg19 rfl) rfl ?_
   refine S_pz 1 rfl ?_
   refine W_ret ?_
   refine At_seq_ret ?_
   obtain rfl := Option.some.inj h
   refine At_body rfl rfl ?_
   exact ⟨hL18.ext, rfl⟩
 ·replace h := Go.L.ite_f hg15 h
  refine S_guarded rfl rfl hg15 ?_
  refine S_v (r_field rfl underlying27 rfl zr3 (by decide)) rfl ?_
  refine S_guarded rfl rfl hg15 ?_
  refine S_v (r_loadB1 2 rfl underlying3 rfl hL14 rfl rfl) rfl ?_
  refine S_guarded rfl rfl hg15 ?_
  refine S_v (RunsAt_pu rfl) rfl ?_
  refine S_v (r_pickF rfl hg15 rfl) rfl ?_
  refine S_pu 1 rfl ?_
  refine S_split (s := 31) rfl (fun hg28 => ?_) (fun hg28 => ?_)
  ·replace h := Go.L.ite_n (not_dec_t hg28) h
   iterate 3 refine S_unwanted rfl rfl hg28 rfl ?_
   refine S_v (r_pickT rfl hg28 rfl) rfl ?_
   refine S_seqnil ?_
   refine W_true rfl ?_
   refine W_seqr ?_
   obtain ⟨x30, hb30, h⟩ := Go.L.bind_some h
   refine S_callL rfl rfl hL14 (law4_speaks_ok _ _ (gz_le hH hL14) (hU.mono (gz_left hH)) hb30) ?_
   rintro _ w31 rfl hx31 hL31 hle31
   replace hv2_0 := hv2_0.mono (gz_mono hH hle31)
   replace hv8_0 := hv8_0.mono (gz_mono hH hle31)
   refine S_pu 1 rfl ?_
   refine S_split (s := 37) rfl (fun hg32 => ?_) (fun hg32 => ?_)
   ·replace h := Go.L.ite_t hg32 h
    refine S_guarded rfl rfl hg32 ?_
    refine S_v (r_field rfl underlying27 rfl zr3 (by decide)) rfl ?_
    refine S_guarded rfl rfl hg32 ?_
    refine S_v (r_loadB1 2 rfl underlying3 rfl hL31 rfl rfl) rfl ?_
    refine S_guarded rfl rfl hg32 ?_
    refine S_v (RunsAt_pu rfl) rfl ?_
    refine S_guarded rfl rfl hg32 ?_
    refine S_v (RunsAt_pu rfl) rfl ?_
    refine S_split (s := 41) rfl (fun hg34 => ?_) (fun hg34 => ?_)
    ·replace h := Go.L.ite_p (of_decide_eq_true hg34) h
     iterate 3 refine S_unwanted rfl rfl hg34 rfl ?_
     refine S_guarded rfl rfl hg32 ?_
     refine S_v (r_pickT rfl hg34 rfl) rfl ?_
     refine S_v (r_pickT rfl hg32 rfl) rfl ?_
     refine S_pz 1 rfl ?_
     refine W_ret ?_
     refine At_seq_ret ?_
     obtain rfl := Option.some.inj h
     refine At_body rfl rfl ?_
     exact ⟨hL31.ext, rfl⟩
    ·replace h := Go.L.ite_n (of_decide_eq_false hg34) h
     refine S_guarded rfl rfl hg34 ?_
     refine S_v (r_loadBN 3 rfl underlying25 rfl zr25 hL31 rfl) rfl ?_
     refine S_guarded rfl rfl hg34 ?_
     obtain ⟨x37, hb37, h⟩ := Go.L.bind_some h
     refine S_callL rfl rfl hL31 (words_Index_Items_ok _ _ (gz_le hH hL31) hv2_0 hb37) ?_
     rintro _ w38 rfl hx38 hL38 hle38
     replace hv2_0 := hv2_0.mono (gz_mono hH hle38)
     replace hv8_0 := hv8_0.mono (gz_mono hH hle38)
     refine S_guarded rfl rfl hg34 ?_
     refine S_v (RunsAt_pu rfl) rfl ?_
     refine S_guarded rfl rfl hg32 ?_
     refine S_v (r_pickF rfl hg34 rfl) rfl ?_
     refine S_v (r_pickT rfl hg32 rfl) rfl ?_
     refine S_pz 1 rfl ?_
     refine W_ret ?_
     refine At_seq_ret ?_
     obtain rfl := Option.some.inj h
     refine At_body rfl rfl ?_
     exact ⟨hL38.ext, rfl⟩
   ·replace h := Go.L.ite_f hg32 h
    iterate 4 refine S_unwanted rfl rfl hg32 rfl ?_
    iterate 3 refine S_unwanted2 rfl rfl rfl ?_
    refine S_unwanted rfl rfl hg32 rfl ?_
    refine S_v (r_pickF rfl hg32 rfl) rfl ?_
    refine S_pz 1 rfl ?_
    refine W_ret ?_
    refine At_seq_ret ?_
    obtain rfl := Option.some.inj h
    refine At_body rfl rfl ?_
    exact ⟨hL31.ext, rfl⟩
  ·replace h := Go.L.ite_p (not_dec_f hg28) h
   refine S_guarded rfl rfl hg28 ?_
   refine S_v (r_field rfl underlying27 rfl zr3 (by decide)) rfl ?_
   refine S_guarded rfl rfl hg28 ?_
   refine S_v (r_loadB1 0 rfl underlying3 rfl hL14 rfl rfl) rfl ?_
   refine S_guarded rfl rfl hg28 ?_
   refine S_v (RunsAt_pu rfl) rfl ?_
   refine S_v (r_pickF rfl hg28 rfl) rfl ?_
   refine S_seqnil ?_
   refine W_ifn rfl (fun hc41 => ?_) (fun hc41 => ?_)
   ·replace h := Go.L.ite_n hc41 h
    refine W_seqr ?_
    obtain ⟨x43, hb43, h⟩ := Go.L.bind_some h
    refine S_callL rfl rfl hL14 (law4_speaks_ok _ _ (gz_le hH hL14) (hU.mono (gz_left hH)) hb43) ?_
    rintro _ w44 rfl hx44 hL44 hle44
    replace hv2_0 := hv2_0.mono (gz_mono hH hle44)
    replace hv8_0 := hv8_0.mono (gz_mono hH hle44)
    refine S_pu 1 rfl ?_
    refine S_split (s := 37) rfl (fun hg45 => ?_) (fun hg45 => ?_)
    ·replace h := Go.L.ite_t hg45 h
     refine S_guarded rfl rfl hg45 ?_
     refine S_v (r_field rfl underlying27 rfl zr3 (by decide)) rfl ?_
     refine S_guarded rfl rfl hg45 ?_
     refine S_v (r_loadB1 2 rfl underlying3 rfl hL44 rfl rfl) rfl ?_
     refine S_guarded rfl rfl hg45 ?_
     refine S_v (RunsAt_pu rfl) rfl ?_
     refine S_guarded rfl rfl hg45 ?_
     refine S_v (RunsAt_pu rfl) rfl ?_
     refine S_split (s := 41) rfl (fun hg47 => ?_) (fun hg47 => ?_)
     ·replace h := Go.L.ite_p (of_decide_eq_true hg47) h
      iterate 3 refine S_unwanted rfl rfl hg47 rfl ?_
      refine S_guarded rfl rfl hg45 ?_
      refine S_v (r_pickT rfl hg47 rfl) rfl ?_
      refine S_v (r_pickT rfl hg45 rfl) rfl ?_
      refine S_pz 1 rfl ?_
      refine W_ret ?_
      refine At_seq_ret ?_
      obtain rfl := Option.some.inj h
      refine At_body rfl rfl ?_
      exact ⟨hL44.ext, rfl⟩
     ·replace h := Go.L.ite_n (of_decide_eq_false hg47) h
      refine S_guarded rfl rfl hg47 ?_
      refine S_v (r_loadBN 3 rfl underlying25 rfl zr25 hL44 rfl) rfl ?_
      refine S_guarded rfl rfl hg47 ?_
      obtain ⟨x50, hb50, h⟩ := Go.L.bind_some h
      refine S_callL rfl rfl hL44 (words_Index_Items_ok _ _ (gz_le hH hL44) hv2_0 hb50) ?_
      rintro _ w51 rfl hx51 hL51 hle51
      replace hv2_0 := hv2_0.mono (gz_mono hH hle51)
      replace hv8_0 := hv8_0.mono (gz_mono hH hle51)
      refine S_guarded rfl rfl hg47 ?_
      refine S_v (RunsAt_pu rfl) rfl ?_
      refine S_guarded rfl rfl hg45 ?_
      refine S_v (r_pickF rfl hg47 rfl) rfl ?_
      refine S_v (r_pickT rfl hg45 rfl) rfl ?_
      refine S_pz 1 rfl ?_
      refine W_ret ?_
      refine At_seq_ret ?_
      obtain rfl := Option.some.inj h
      refine At_body rfl rfl ?_
      exact ⟨hL51.ext, rfl⟩
    ·replace h := Go.L.ite_f hg45 h
     iterate 4 refine S_unwanted rfl rfl hg45 rfl ?_
     iterate 3 refine S_unwanted2 rfl rfl rfl ?_
     refine S_unwanted rfl rfl hg45 rfl ?_
     refine S_v (r_pickF rfl hg45 rfl) rfl ?_
     refine S_pz 1 rfl ?_
     refine W_ret ?_
     refine At_seq_ret ?_
     obtain rfl := Option.some.inj h
     refine At_body rfl rfl ?_
     exact ⟨hL44.ext, rfl⟩
   ·replace h := Go.L.ite_p hc41 h
    refine W_skip ?_
    refine At_seq ?_
    refine W_p 1 rfl ?_
    obtain ⟨hL54, hle54, he54⟩ := row_nilE (.vec .byte) H 22 hL14
    replace hv2_0 := hv2_0.mono (gz_mono hH hle54)
    replace hv8_0 := hv8_0.mono (gz_mono hH hle54)
    refine S_seqnil ?_
    have hG55 := hL54.rG H
    refine W_p 2 rfl ?_
    obtain ⟨hk57, h⟩ := Go.L.chk_some h
    refine S_appE (r := (.vec .byte)) (l := ([] : List (List UInt8))) (m := a0) 0 rfl rfl underlying47 zr22 rfl (by decide) rfl hH hL54 rfl (he54.mono hG55) (h0_0.mono (gz_left hH)) hk57 ?_
    intro v56 w56 xs56 hL56 hle56 he56
    replace hG55 := hG55.trans (gz_mono hH hle56)
    refine S_pz 1 rfl ?_
    refine W_p 2 rfl ?_
    obtain ⟨hk59, h⟩ := Go.L.chk_some h
    refine S_appE (r := (.vec .byte)) (l := (([] : List (List UInt8)) ++ a0)) (m := a1) 0 rfl rfl underlying47 zr22 rfl (by decide) rfl hH hL56 rfl he56 (h1_0.mono (gz_left hH)) hk59 ?_
    intro v58 w58 xs58 hL58 hle58 he58
    replace hG55 := hG55.trans (gz_mono hH hle58)
    refine S_pz 1 rfl ?_
    refine W_seqr ?_
    refine S_v (r_loadBN 4 rfl underlying25 rfl zr25 hL58 rfl) rfl ?_
    refine S_v (r_loadBN 2 rfl underlying25 rfl zr25 hL58 rfl) rfl ?_
    obtain ⟨x60, hb60, h⟩ := Go.L.bind_some h
    refine S_callL rfl rfl hL58 (words_Merge_ok _ _ (gz_le hH hL58) (hv2_0.mono hG55) (hv8_0.mono hG55) hb60) ?_
    rintro _ w61 ⟨u61_0, rfl, hR61_0⟩ hx61 hL61 hle61
    have hv61_0 := hR61_0.mono (gz_nw hH hL58 hx61)
    replace he58 := he58.mono (gz_mono hH hle61)
    replace hG55 := hG55.trans (gz_mono hH hle61)
    refine S_pu 3 rfl ?_
    refine S_alloc zr25 rfl rfl hL61 ?_
    intro w62 b62 hL62 hle62 _
    replace he58 := he58.mono (gz_mono hH hle62)
    replace hv61_0 := hv61_0.mono (gz_mono hH hle62)
    replace hG55 := hG55.trans (gz_mono hH hle62)
    refine S_alloc zr27 rfl rfl hL62 ?_
    intro w63 b63 hL63 hle63 _
    replace he58 := he58.mono (gz_mono hH hle63)
    replace hv61_0 := hv61_0.mono (gz_mono hH hle63)
    replace hG55 := hG55.trans (gz_mono hH hle63)
    refine S_storeBN 1 rfl rfl rfl zr25 hL63 rfl rfl (onc rfl (onc hv61_0.one on0)) ?_
    intro w64 hL64 hle64
    replace he58 := he58.mono (gz_mono hH hle64)
    replace hv61_0 := hv61_0.mono (gz_mono hH hle64)
    replace hG55 := hG55.trans (gz_mono hH hle64)
    refine S_storeBN 0 rfl rfl rfl zr27 hL64 rfl rfl (onc rfl (onc rfl on0)) ?_
    intro w65 hL65 hle65
    replace he58 := he58.mono (gz_mono hH hle65)
    replace hv61_0 := hv61_0.mono (gz_mono hH hle65)
    replace hG55 := hG55.trans (gz_mono hH hle65)
    refine S_seqnil ?_
    refine W_p 1 rfl ?_
    have hv66 := hL65.vecG hH (i := 2) rfl he58
    have hL66 := hL65.dropAt (i := 2) rfl
    replace hv61_0 := hv61_0.mono (gz_mono hH (fz_dropAt (i := 2) rfl))
    replace hG55 := hG55.trans (gz_mono hH (fz_dropAt (i := 2) rfl))
    obtain ⟨x67, hb67, h⟩ := Go.L.bind_some h
    refine S_callL rfl rfl hL66 (words_Build_ok _ _ (gz_le hH hL66) (hU.mono (gz_left hH)) hv66 hb67) ?_
    rintro _ w68 ⟨u68_0, rfl, hR68_0⟩ hx68 hL68 hle68
    have hv68_0 := hR68_0.mono (gz_nw hH hL66 hx68)
    replace hv61_0 := hv61_0.mono (gz_mono hH hle68)
    replace hv66 := hv66.mono (gz_mono hH hle68)
    replace hG55 := hG55.trans (gz_mono hH hle68)
    refine S_pu 3 rfl ?_
    refine S_alloc zr25 rfl rfl hL68 ?_
    intro w69 b69 hL69 hle69 _
    replace hv61_0 := hv61_0.mono (gz_mono hH hle69)
    replace hv66 := hv66.mono (gz_mono hH hle69)
    replace hv68_0 := hv68_0.mono (gz_mono hH hle69)
    replace hG55 := hG55.trans (gz_mono hH hle69)
    refine S_alloc zr27 rfl rfl hL69 ?_
    intro w70 b70 hL70 hle70 _
    replace hv61_0 := hv61_0.mono (gz_mono hH hle70)
    replace hv66 := hv66.mono (gz_mono hH hle70)
    replace hv68_0 := hv68_0.mono (gz_mono hH hle70)
    replace hG55 := hG55.trans (gz_mono hH hle70)
    refine S_storeBN 1 rfl rfl rfl zr25 hL70 rfl rfl (onc rfl (onc hv68_0.one on0)) ?_
    intro w71 hL71 hle71
    replace hv61_0 := hv61_0.mono (gz_mono hH hle71)
    replace hv66 := hv66.mono (gz_mono hH hle71)
    replace hv68_0 := hv68_0.mono (gz_mono hH hle71)
    replace hG55 := hG55.trans (gz_mono hH hle71)
    refine S_storeBN 0 rfl rfl rfl zr27 hL71 rfl rfl (onc rfl (onc rfl on0)) ?_
    intro w72 hL72 hle72
    replace hv61_0 := hv61_0.mono (gz_mono hH hle72)
    replace hv66 := hv66.mono (gz_mono hH hle72)
    replace hv68_0 := hv68_0.mono (gz_mono hH hle72)
    replace hG55 := hG55.trans (gz_mono hH hle72)
    refine S_seqnil ?_
    refine W_seq ?_
    have hG73 := hL72.rG H
    refine W_p 1 rfl ?_
    refine S_v (r_len rfl underlying47 (hv66.mono hG73)) rfl ?_
    refine S_pz 1 rfl ?_
    refine W_if rfl (fun hc74 => ?_) (fun hc74 => ?_)
    ·replace h := Go.L.ite_p hc74 h
     refine W_seqd (.q 0 (.q 1 (.q 2 (.q 3 (.q 4 (.q 5 (.q 6 (.q 7 (.q 8 (.tail 9)))))))))) mixed (by kernel_rfl) (fun w76 hx76 => ?_)
     have hL77 := hL72.call hx76
     have hle77 := fz_ext hL72 hx76
     replace hG73 := hG73.trans (gz_mono hH hle77)
     refine D_v (r_loadBN 2 rfl underlying27 rfl zr27 hL77 rfl) rfl rfl ?_
     obtain ⟨x78, hb78, h⟩ := Go.L.bind_some h
     refine D_call rfl rfl rfl (fun w79 hx79 => ref3_At_ok _ _ (Le.refl _) hb78) ?_
     refine D_v (r_eqA rfl rfl eqg27 (eq27 _ _ _ _ )) rfl rfl ?_
     refine D_pu 1 rfl ?_
     refine D_split (s := 70) rfl (fun hg80 => ?_) (fun hg80 => ?_)
     ·replace h := Go.L.ite_p (of_decide_eq_true hg80) h
      refine D_vg (r_loadBN 3 rfl underlying25 rfl zr25 hL77 rfl) rfl rfl rfl rfl hg80 rfl ?_
      obtain ⟨x82, hb82, h⟩ := Go.L.bind_some h
      have hok83 := (fun (w83 : World) (hx83 : Ext _ w83) => words_Index_Items_ok w83 _ (Le.refl _) (((hv61_0.mono hG73).mono (gz_le hH hL77)).mono hx83.le) hb82)
      refine D_callg rfl rfl rfl rfl hg80 rfl rfl hok83 ?_
      refine D_vg (RunsAt_pu rfl) rfl rfl rfl rfl hg80 rfl ?_
      refine D_v (r_pickT rfl hg80 rfl) rfl rfl ?_
      refine D_pu 1 rfl ?_
      refine D_tail (fun w84 hx84 => ?_)
      have hL85 := hL77.call hx84
      have hle85 := fz_ext hL77 hx84
      replace hG73 := hG73.trans (gz_mono hH hle85)
      refine S_seqnil ?_
      refine W_ret ?_
      refine At_seq_ret ?_
      obtain rfl := Option.some.inj h
      refine At_body rfl rfl ?_
      exact ⟨hL85.ext, rfl⟩
     ·replace h := Go.L.ite_n (of_decide_eq_false hg80) h
      iterate 3 refine D_no rfl rfl rfl rfl hg80 rfl ?_
      refine D_v (r_pickF rfl hg80 rfl) rfl rfl ?_
      refine D_pu 1 rfl ?_
      refine D_tail (fun w87 hx87 => ?_)
      have hL88 := hL77.call hx87
      have hle88 := fz_ext hL77 hx87
      replace hG73 := hG73.trans (gz_mono hH hle88)
      refine S_seqnil ?_
      refine W_ret ?_
      refine At_seq_ret ?_
      obtain rfl := Option.some.inj h
      refine At_body rfl rfl ?_
      exact ⟨hL88.ext, rfl⟩
    ·replace h := Go.L.ite_n hc74 h
     refine W_skip ?_
     refine At_seq ?_
     refine W_seq ?_
     refine W_seqr ?_
     refine S_v (r_loadBN 2 rfl underlying27 rfl zr27 hL72 rfl) rfl ?_
     refine S_v (r_loadBN 0 rfl underlying27 rfl zr27 hL72 rfl) rfl ?_
     refine S_v (r_neA rfl rfl eqg27 (eq27 _ _ _ _ )) rfl ?_
     refine S_pu 1 rfl ?_
     refine S_split (s := 78) rfl (fun hg90 => ?_) (fun hg90 => ?_)
     ·replace h := Go.L.ite_n (not_dec_t hg90) h
      iterate 3 refine S_unwanted rfl rfl hg90 rfl ?_
      refine S_v (r_pickT rfl hg90 rfl) rfl ?_
      refine S_seqnil ?_
      refine W_true rfl ?_
      refine W_seqr ?_
      refine S_v (r_loadBN 2 rfl underlying27 rfl zr27 hL72 rfl) rfl ?_
      refine S_v (r_loadBN 0 rfl underlying27 rfl zr27 hL72 rfl) rfl ?_
      refine S_v (r_eqA rfl rfl eqg27 (eq27 _ _ _ _ )) rfl ?_
      refine S_pu 1 rfl ?_
      refine S_split (s := 86) rfl (fun hg92 => ?_) (fun hg92 => ?_)
      ·replace h := Go.L.ite_p (of_decide_eq_true hg92) h
       refine S_guarded rfl rfl hg92 ?_
       refine S_v (r_loadBN 3 rfl underlying25 rfl zr25 hL72 rfl) rfl ?_
       refine S_guarded rfl rfl hg92 ?_
       obtain ⟨x94, hb94, h⟩ := Go.L.bind_some h
       refine S_callL rfl rfl hL72 (words_Index_Items_ok _ _ (gz_le hH hL72) (hv61_0.mono hG73) hb94) ?_
       rintro _ w95 rfl hx95 hL95 hle95
       replace hG73 := hG73.trans (gz_mono hH hle95)
       refine S_guarded rfl rfl hg92 ?_
       refine S_v (RunsAt_pu rfl) rfl ?_
       refine S_v (r_pickT rfl hg92 rfl) rfl ?_
       refine S_pz 1 rfl ?_
       refine W_ret ?_
       refine At_seq_ret ?_
       obtain rfl := Option.some.inj h
       refine At_body rfl rfl ?_
       exact ⟨hL95.ext, rfl⟩
      ·replace h := Go.L.ite_n (of_decide_eq_false hg92) h
       iterate 3 refine S_unwanted rfl rfl hg92 rfl ?_
       refine S_v (r_pickF rfl hg92 rfl) rfl ?_
       refine S_pz 1 rfl ?_
       refine W_ret ?_
       refine At_seq_ret ?_
       obtain rfl := Option.some.inj h
       refine At_body rfl rfl ?_
       exact ⟨hL72.ext, rfl⟩
     ·replace h := Go.L.ite_p (not_dec_f hg90) h
      refine S_guarded rfl rfl hg90 ?_
      refine S_v (r_field rfl underlying27 rfl zr3 (by decide)) rfl ?_
      refine S_guarded rfl rfl hg90 ?_
      refine S_v (r_loadB1 0 rfl underlying3 rfl hL72 rfl rfl) rfl ?_
      refine S_guarded rfl rfl hg90 ?_
      refine S_v (RunsAt_pu rfl) rfl ?_
      refine S_v (r_pickF rfl hg90 rfl) rfl ?_
      refine S_seqnil ?_
      refine W_ifn rfl (fun hc98 => ?_) (fun hc98 => ?_)
      ·replace h := Go.L.ite_n hc98 h
       refine W_seqr ?_
       refine S_v (r_loadBN 2 rfl underlying27 rfl zr27 hL72 rfl) rfl ?_
       refine S_v (r_loadBN 0 rfl underlying27 rfl zr27 hL72 rfl) rfl ?_
       refine S_v (r_eqA rfl rfl eqg27 (eq27 _ _ _ _ )) rfl ?_
       refine S_pu 1 rfl ?_
       refine S_split (s := 86) rfl (fun hg100 => ?_) (fun hg100 => ?_)
       ·replace h := Go.L.ite_p (of_decide_eq_true hg100) h
        refine S_guarded rfl rfl hg100 ?_
        refine S_v (r_loadBN 3 rfl underlying25 rfl zr25 hL72 rfl) rfl ?_
        refine S_guarded rfl rfl hg100 ?_
        obtain ⟨x102, hb102, h⟩ := Go.L.bind_some h
        refine S_callL rfl rfl hL72 (words_Index_Items_ok _ _ (gz_le hH hL72) (hv61_0.mono hG73) hb102) ?_
        rintro _ w103 rfl hx103 hL103 hle103
        replace hG73 := hG73.trans (gz_mono hH hle103)
        refine S_guarded rfl rfl hg100 ?_
        refine S_v (RunsAt_pu rfl) rfl ?_
        refine S_v (r_pickT rfl hg100 rfl) rfl ?_
        refine S_pz 1 rfl ?_
        refine W_ret ?_
        refine At_seq_ret ?_
        obtain rfl := Option.some.inj h
        refine At_body rfl rfl ?_
        exact ⟨hL103.ext, rfl⟩
       ·replace h := Go.L.ite_n (of_decide_eq_false hg100) h
        iterate 3 refine S_unwanted rfl rfl hg100 rfl ?_
        refine S_v (r_pickF rfl hg100 rfl) rfl ?_
        refine S_pz 1 rfl ?_
        refine W_ret ?_
        refine At_seq_ret ?_
        obtain rfl := Option.some.inj h
        refine At_body rfl rfl ?_
        exact ⟨hL72.ext, rfl⟩
      ·replace h := Go.L.ite_p hc98 h
       refine W_skip ?_
       refine At_seq ?_
       refine W_cut (σ := Bool) (fun s4_135 => [(4, .bool s4_135)]) (fun s4_135 wr => InO w [.box b70 [.int .i64 x67.2.1, .int .i64 x67.2.2] 27, .box b69 [.int .i64 x67.1.1, u68_0] 25, .box b63 [.int .i64 x60.2.1, .int .i64 x60.2.2] 27, .box b62 [.int .i64 x60.1.1, u61_0] 25, .box b10 [.int .i64 x7.2.1, .int .i64 x7.2.2] 27, .box b9 [.int .i64 x7.1.1, u8_0] 25, .box b4 [.int .i64 x1.2.1, .int .i64 x1.2.2] 27, .box b3 [.int .i64 x1.1.1, u2_0] 25] wr fun Oz => Vec (.pair .st (.vec (.pair (.int .i64) (.int .i64)))) (gz H w wr Oz) (u68_0) (x67.1.2) ∧ Vec (.pair .st (.vec (.pair (.int .i64) (.int .i64)))) (gz H w wr Oz) (u61_0) (x60.1.2) ∧ Vec (.pair .st (.vec (.pair (.int .i64) (.int .i64)))) (gz H w wr Oz) (u8_0) (x7.1.2) ∧ Vec (.pair .st (.vec (.pair (.int .i64) (.int .i64)))) (gz H w wr Oz) (u2_0) (x1.1.2) ∧ law4_WordsMergeIsBuild_k1 s4_135 = some r) ?_ ?_
       ·refine W_naiveI (fun z0 z => Le (gz H w z0 [.box b70 [.int .i64 x67.2.1, .int .i64 x67.2.2] 27, .box b69 [.int .i64 x67.1.1, u68_0] 25, .box b63 [.int .i64 x60.2.1, .int .i64 x60.2.2] 27, .box b62 [.int .i64 x60.1.1, u61_0] 25, .box b10 [.int .i64 x7.2.1, .int .i64 x7.2.2] 27, .box b9 [.int .i64 x7.1.1, u8_0] 25, .box b4 [.int .i64 x1.2.1, .int .i64 x1.2.2] 27, .box b3 [.int .i64 x1.1.1, u2_0] 25]) (hp z) ∧ z.heap[b70]? = some (.cells [.int .i64 x67.2.1, .int .i64 x67.2.2].toArray 27 (0, 0)) ∧ z.heap[b69]? = some (.cells [.int .i64 x67.1.1, u68_0].toArray 25 (0, 0)) ∧ z.heap[b63]? = some (.cells [.int .i64 x60.2.1, .int .i64 x60.2.2].toArray 27 (0, 0)) ∧ z.heap[b62]? = some (.cells [.int .i64 x60.1.1, u61_0].toArray 25 (0, 0)) ∧ z.heap[b10]? = some (.cells [.int .i64 x7.2.1, .int .i64 x7.2.2].toArray 27 (0, 0)) ∧ z.heap[b9]? = some (.cells [.int .i64 x7.1.1, u8_0].toArray 25 (0, 0)) ∧ z.heap[b4]? = some (.cells [.int .i64 x1.2.1, .int .i64 x1.2.2].toArray 27 (0, 0)) ∧ z.heap[b3]? = some (.cells [.int .i64 x1.1.1, u2_0].toArray 25 (0, 0))) mixed rfl (fun w138 hx138 => ?_)
        have hL139 := hL72.call hx138
        have hle139 := fz_ext hL72 hx138
        replace hG73 := hG73.trans (gz_mono hH hle139)
        have hG140 := hL139.rG H
        refine NI_hoist 0 (np_cut np_body) ⟨hG140.trans (gz_le hH hL139), hL139.at (i := 0) rfl, hL139.at (i := 1) rfl, hL139.at (i := 2) rfl, hL139.at (i := 3) rfl, hL139.at (i := 4) rfl, hL139.at (i := 5) rfl, hL139.at (i := 6) rfl, hL139.at (i := 7) rfl⟩ (by kernel_rfl) rfl (fun _ hI => r_loadHN rfl underlying25 rfl zr25 hI.2.2.2.2.1) rfl ?_
        refine NI_hoist 2 (np_cut np_body) ⟨hG140.trans (gz_le hH hL139), hL139.at (i := 0) rfl, hL139.at (i := 1) rfl, hL139.at (i := 2) rfl, hL139.at (i := 3) rfl, hL139.at (i := 4) rfl, hL139.at (i := 5) rfl, hL139.at (i := 6) rfl, hL139.at (i := 7) rfl⟩ (by kernel_rfl) rfl (fun _ _ => RunsAt_pu rfl) rfl ?_
        refine NI_hoist 3 (np_cut np_body) ⟨hG140.trans (gz_le hH hL139), hL139.at (i := 0) rfl, hL139.at (i := 1) rfl, hL139.at (i := 2) rfl, hL139.at (i := 3) rfl, hL139.at (i := 4) rfl, hL139.at (i := 5) rfl, hL139.at (i := 6) rfl, hL139.at (i := 7) rfl⟩ (by kernel_rfl) rfl (fun _ _ => r_len rfl underlying47 ((hv66.mono hG73).mono hG140)) rfl ?_
        refine NI1 (i := 1) (by kernel_rfl) rfl ?_
        obtain ⟨x141, hb141, h⟩ := Go.L.bind_some h
        refine S_callL rfl rfl hL139 (words_Index_Items_ok _ _ (gz_le hH hL139) ((hv61_0.mono hG73).mono hG140) hb141) ?_
        rintro _ w142 rfl hx142 hL142 hle142
        replace hG140 := hG140.trans (gz_mono hH hle142)
        refine NI_nil ⟨hG140.trans (gz_le hH hL142), hL142.at (i := 0) rfl, hL142.at (i := 1) rfl, hL142.at (i := 2) rfl, hL142.at (i := 3) rfl, hL142.at (i := 4) rfl, hL142.at (i := 5) rfl, hL142.at (i := 6) rfl, hL142.at (i := 7) rfl⟩ ?_
        refine NI_hoist 4 (np_cut np_body) ⟨hG140.trans (gz_le hH hL142), hL142.at (i := 0) rfl, hL142.at (i := 1) rfl, hL142.at (i := 2) rfl, hL142.at (i := 3) rfl, hL142.at (i := 4) rfl, hL142.at (i := 5) rfl, hL142.at (i := 6) rfl, hL142.at (i := 7) rfl⟩ (by kernel_rfl) rfl (fun _ _ => RunsAt_pu rfl) rfl ?_
        refine NI_hoist 5 (np_cut np_body) ⟨hG140.trans (gz_le hH hL142), hL142.at (i := 0) rfl, hL142.at (i := 1) rfl, hL142.at (i := 2) rfl, hL142.at (i := 3) rfl, hL142.at (i := 4) rfl, hL142.at (i := 5) rfl, hL142.at (i := 6) rfl, hL142.at (i := 7) rfl⟩ (by kernel_rfl) rfl (fun _ _ => RunsAt_pu rfl) rfl ?_
        refine NI_split (s := 96) rfl (fun hg143 => ?_) (fun hg143 => ?_)
        ·replace h := Go.L.ite_p (of_decide_eq_true hg143) h
         refine NI_hoistg 6 (np_cut np_body) ⟨hG140.trans (gz_le hH hL142), hL142.at (i := 0) rfl, hL142.at (i := 1) rfl, hL142.at (i := 2) rfl, hL142.at (i := 3) rfl, hL142.at (i := 4) rfl, hL142.at (i := 5) rfl, hL142.at (i := 6) rfl, hL142.at (i := 7) rfl⟩ (by kernel_rfl) rfl rfl rfl rfl hg143 (fun _ hI => r_loadHN rfl underlying25 rfl zr25 hI.2.2.2.2.1) rfl ?_
         refine NI_hoistg 8 (np_cut np_body) ⟨hG140.trans (gz_le hH hL142), hL142.at (i := 0) rfl, hL142.at (i := 1) rfl, hL142.at (i := 2) rfl, hL142.at (i := 3) rfl, hL142.at (i := 4) rfl, hL142.at (i := 5) rfl, hL142.at (i := 6) rfl, hL142.at (i := 7) rfl⟩ (by kernel_rfl) rfl rfl rfl rfl hg143 (fun _ hI => r_loadHN rfl underlying25 rfl zr25 hI.2.2.1) rfl ?_
         refine NI1 (i := 7) (by kernel_rfl) rfl ?_
         refine S_guarded rfl rfl hg143 ?_
         obtain ⟨x145, hb145, h⟩ := Go.L.bind_some h
         refine S_callL rfl rfl hL142 (words_Index_Bytes_ok _ _ (gz_le hH hL142) ((hv61_0.mono hG73).mono hG140) hb145) ?_
         rintro u146_0 w146 ⟨_, rfl, hR146_0⟩ hx146 hL146 hle146
         have hv146_0 := hR146_0.mono (gz_nw hH hL142 hx146)
         replace hG140 := hG140.trans (gz_mono hH hle146)
         refine NI_nil ⟨hG140.trans (gz_le hH hL146), hL146.at (i := 0) rfl, hL146.at (i := 1) rfl, hL146.at (i := 2) rfl, hL146.at (i := 3) rfl, hL146.at (i := 4) rfl, hL146.at (i := 5) rfl, hL146.at (i := 6) rfl, hL146.at (i := 7) rfl⟩ ?_
         refine NI1 (i := 9) (by kernel_rfl) rfl ?_
         refine S_guarded rfl rfl hg143 ?_
         obtain ⟨x147, hb147, h⟩ := Go.L.bind_some h
         refine S_callL rfl rfl hL146 (words_Index_Bytes_ok _ _ (gz_le hH hL146) ((hv68_0.mono hG73).mono hG140) hb147) ?_
         rintro u148_0 w148 ⟨_, rfl, hR148_0⟩ hx148 hL148 hle148
         have hv148_0 := hR148_0.mono (gz_nw hH hL146 hx148)
         replace hv146_0 := hv146_0.mono (gz_mono hH hle148)
         replace hG140 := hG140.trans (gz_mono hH hle148)
         refine NI_nil ⟨hG140.trans (gz_le hH hL148), hL148.at (i := 0) rfl, hL148.at (i := 1) rfl, hL148.at (i := 2) rfl, hL148.at (i := 3) rfl, hL148.at (i := 4) rfl, hL148.at (i := 5) rfl, hL148.at (i := 6) rfl, hL148.at (i := 7) rfl⟩ ?_
         refine NI1 (i := 10) (by kernel_rfl) rfl ?_
         refine S_guarded rfl rfl hg143 ?_
         obtain ⟨x149, hb149, h⟩ := Go.L.bind_some h
         refine S_callL rfl rfl hL148 (ref3_SameBytes_ok _ _ (gz_le hH hL148) hv146_0 hv148_0 hb149) ?_
         rintro _ w150 rfl hx150 hL150 hle150
         replace hv146_0 := hv146_0.mono (gz_mono hH hle150)
         replace hv148_0 := hv148_0.mono (gz_mono hH hle150)
         replace hG140 := hG140.trans (gz_mono hH hle150)
         refine NI_nil ⟨hG140.trans (gz_le hH hL150), hL150.at (i := 0) rfl, hL150.at (i := 1) rfl, hL150.at (i := 2) rfl, hL150.at (i := 3) rfl, hL150.at (i := 4) rfl, hL150.at (i := 5) rfl, hL150.at (i := 6) rfl, hL150.at (i := 7) rfl⟩ ?_
         refine NI_hoist 11 (np_cut np_body) ⟨hG140.trans (gz_le hH hL150), hL150.at (i := 0) rfl, hL150.at (i := 1) rfl, hL150.at (i := 2) rfl, hL150.at (i := 3) rfl, hL150.at (i := 4) rfl, hL150.at (i := 5) rfl, hL150.at (i := 6) rfl, hL150.at (i := 7) rfl⟩ (by kernel_rfl) rfl (fun _ _ => r_pickT rfl hg143 rfl) rfl ?_
         refine NI_hoist 12 (np_cut np_body) ⟨hG140.trans (gz_le hH hL150), hL150.at (i := 0) rfl, hL150.at (i := 1) rfl, hL150.at (i := 2) rfl, hL150.at (i := 3) rfl, hL150.at (i := 4) rfl, hL150.at (i := 5) rfl, hL150.at (i := 6) rfl, hL150.at (i := 7) rfl⟩ (by kernel_rfl) rfl (fun _ _ => RunsAt_pu rfl) rfl ?_
         refine NI_split (s := 103) rfl (fun hg151 => ?_) (fun hg151 => ?_)
         ·replace h := Go.L.ite_t hg151 h
          refine NI_hoistg 13 (np_cut np_body) ⟨hG140.trans (gz_le hH hL150), hL150.at (i := 0) rfl, hL150.at (i := 1) rfl, hL150.at (i := 2) rfl, hL150.at (i := 3) rfl, hL150.at (i := 4) rfl, hL150.at (i := 5) rfl, hL150.at (i := 6) rfl, hL150.at (i := 7) rfl⟩ (by kernel_rfl) rfl rfl rfl rfl hg151 (fun _ _ => RunsAt_pu rfl) rfl ?_
          refine NI1 (i := 14) (by kernel_rfl) rfl ?_
          refine S_guarded rfl rfl hg151 ?_
          obtain ⟨x153, hb153, h⟩ := Go.L.bind_some h
          refine S_callL rfl rfl hL150 (ref3_Total_ok _ _ (gz_le hH hL150) ((hv66.mono hG73).mono hG140) hb153) ?_
          rintro _ w154 rfl hx154 hL154 hle154
          replace hv146_0 := hv146_0.mono (gz_mono hH hle154)
          replace hv148_0 := hv148_0.mono (gz_mono hH hle154)
          replace hG140 := hG140.trans (gz_mono hH hle154)
          refine NI_nil ⟨hG140.trans (gz_le hH hL154), hL154.at (i := 0) rfl, hL154.at (i := 1) rfl, hL154.at (i := 2) rfl, hL154.at (i := 3) rfl, hL154.at (i := 4) rfl, hL154.at (i := 5) rfl, hL154.at (i := 6) rfl, hL154.at (i := 7) rfl⟩ ?_
          refine NI_hoistg 15 (np_cut np_body) ⟨hG140.trans (gz_le hH hL154), hL154.at (i := 0) rfl, hL154.at (i := 1) rfl, hL154.at (i := 2) rfl, hL154.at (i := 3) rfl, hL154.at (i := 4) rfl, hL154.at (i := 5) rfl, hL154.at (i := 6) rfl, hL154.at (i := 7) rfl⟩ (by kernel_rfl) rfl rfl rfl rfl hg151 (fun _ _ => RunsAt_pu rfl) rfl ?_
          refine NI_hoistg 16 (np_cut np_body) ⟨hG140.trans (gz_le hH hL154), hL154.at (i := 0) rfl, hL154.at (i := 1) rfl, hL154.at (i := 2) rfl, hL154.at (i := 3) rfl, hL154.at (i := 4) rfl, hL154.at (i := 5) rfl, hL154.at (i := 6) rfl, hL154.at (i := 7) rfl⟩ (by kernel_rfl) rfl rfl rfl rfl hg151 (fun _ _ => RunsAt_pu rfl) rfl ?_
          refine NI_split (s := 107) rfl (fun hg155 => ?_) (fun hg155 => ?_)
          ·replace h := Go.L.ite_p (of_decide_eq_true hg155) h
           refine NI_no 17 (np_cut np_body) ⟨hG140.trans (gz_le hH hL154), hL154.at (i := 0) rfl, hL154.at (i := 1) rfl, hL154.at (i := 2) rfl, hL154.at (i := 3) rfl, hL154.at (i := 4) rfl, hL154.at (i := 5) rfl, hL154.at (i := 6) rfl, hL154.at (i := 7) rfl⟩ (by kernel_rfl) rfl rfl rfl rfl hg155 rfl ?_
           refine NI_no 18 (np_cut np_body) ⟨hG140.trans (gz_le hH hL154), hL154.at (i := 0) rfl, hL154.at (i := 1) rfl, hL154.at (i := 2) rfl, hL154.at (i := 3) rfl, hL154.at (i := 4) rfl, hL154.at (i := 5) rfl, hL154.at (i := 6) rfl, hL154.at (i := 7) rfl⟩ (by kernel_rfl) rfl rfl rfl rfl hg155 rfl ?_
           refine NI_no 19 (np_cut np_body) ⟨hG140.trans (gz_le hH hL154), hL154.at (i := 0) rfl, hL154.at (i := 1) rfl, hL154.at (i := 2) rfl, hL154.at (i := 3) rfl, hL154.at (i := 4) rfl, hL154.at (i := 5) rfl, hL154.at (i := 6) rfl, hL154.at (i := 7) rfl⟩ (by kernel_rfl) rfl rfl rfl rfl hg155 rfl ?_
           refine NI_no 20 (np_cut np_body) ⟨hG140.trans (gz_le hH hL154), hL154.at (i := 0) rfl, hL154.at (i := 1) rfl, hL154.at (i := 2) rfl, hL154.at (i := 3) rfl, hL154.at (i := 4) rfl, hL154.at (i := 5) rfl, hL154.at (i := 6) rfl, hL154.at (i := 7) rfl⟩ (by kernel_rfl) rfl rfl rfl rfl hg155 rfl ?_
           refine NI_no 21 (np_cut np_body) ⟨hG140.trans (gz_le hH hL154), hL154.at (i := 0) rfl, hL154.at (i := 1) rfl, hL154.at (i := 2) rfl, hL154.at (i := 3) rfl, hL154.at (i := 4) rfl, hL154.at (i := 5) rfl, hL154.at (i := 6) rfl, hL154.at (i := 7) rfl⟩ (by kernel_rfl) rfl rfl rfl rfl hg155 rfl ?_
           refine NI_hoistg 22 (np_cut np_body) ⟨hG140.trans (gz_le hH hL154), hL154.at (i := 0) rfl, hL154.at (i := 1) rfl, hL154.at (i := 2) rfl, hL154.at (i := 3) rfl, hL154.at (i := 4) rfl, hL154.at (i := 5) rfl, hL154.at (i := 6) rfl, hL154.at (i := 7) rfl⟩ (by kernel_rfl) rfl rfl rfl rfl hg151 (fun _ _ => r_pickT rfl hg155 rfl) rfl ?_
           refine NI_hoist 23 (np_cut np_body) ⟨hG140.trans (gz_le hH hL154), hL154.at (i := 0) rfl, hL154.at (i := 1) rfl, hL154.at (i := 2) rfl, hL154.at (i := 3) rfl, hL154.at (i := 4) rfl, hL154.at (i := 5) rfl, hL154.at (i := 6) rfl, hL154.at (i := 7) rfl⟩ (by kernel_rfl) rfl (fun _ _ => r_pickT rfl hg151 rfl) rfl ?_
           refine NI_hoist 24 (np_cut np_body) ⟨hG140.trans (gz_le hH hL154), hL154.at (i := 0) rfl, hL154.at (i := 1) rfl, hL154.at (i := 2) rfl, hL154.at (i := 3) rfl, hL154.at (i := 4) rfl, hL154.at (i := 5) rfl, hL154.at (i := 6) rfl, hL154.at (i := 7) rfl⟩ (by kernel_rfl) rfl (fun _ _ => RunsAt_pu rfl) rfl ?_
           refine NI_end (by kernel_rfl) ?_
           refine At_cut true (.cons rfl (Sub.nil _)) ⟨hL154, ((hv68_0.mono hG73).mono hG140), ((hv61_0.mono hG73).mono hG140), (((hv8_0.mono hG55).mono hG73).mono hG140), (((hv2_0.mono hG55).mono hG73).mono hG140), h⟩
          ·replace h := Go.L.ite_n (of_decide_eq_false hg155) h
           refine NI_hoistg 17 (np_cut np_body) ⟨hG140.trans (gz_le hH hL154), hL154.at (i := 0) rfl, hL154.at (i := 1) rfl, hL154.at (i := 2) rfl, hL154.at (i := 3) rfl, hL154.at (i := 4) rfl, hL154.at (i := 5) rfl, hL154.at (i := 6) rfl, hL154.at (i := 7) rfl⟩ (by kernel_rfl) rfl rfl rfl rfl hg155 (fun _ hI => r_loadHN rfl underlying25 rfl zr25 hI.2.2.1) rfl ?_
           refine NI_hoistg 19 (np_cut np_body) ⟨hG140.trans (gz_le hH hL154), hL154.at (i := 0) rfl, hL154.at (i := 1) rfl, hL154.at (i := 2) rfl, hL154.at (i := 3) rfl, hL154.at (i := 4) rfl, hL154.at (i := 5) rfl, hL154.at (i := 6) rfl, hL154.at (i := 7) rfl⟩ (by kernel_rfl) rfl rfl rfl rfl hg155 (fun _ _ => RunsAt_pu rfl) rfl ?_
           refine NI1 (i := 18) (by kernel_rfl) rfl ?_
           refine S_guarded rfl rfl hg155 ?_
           obtain ⟨x158, hb158, h⟩ := Go.L.bind_some h
           refine S_callL rfl rfl hL154 (words_Index_Bytes_ok _ _ (gz_le hH hL154) ((hv68_0.mono hG73).mono hG140) hb158) ?_
           rintro u159_0 w159 ⟨_, rfl, hR159_0⟩ hx159 hL159 hle159
           have hv159_0 := hR159_0.mono (gz_nw hH hL154 hx159)
           replace hv146_0 := hv146_0.mono (gz_mono hH hle159)
           replace hv148_0 := hv148_0.mono (gz_mono hH hle159)
           replace hG140 := hG140.trans (gz_mono hH hle159)
           refine NI_nil ⟨hG140.trans (gz_le hH hL159), hL159.at (i := 0) rfl, hL159.at (i := 1) rfl, hL159.at (i := 2) rfl, hL159.at (i := 3) rfl, hL159.at (i := 4) rfl, hL159.at (i := 5) rfl, hL159.at (i := 6) rfl, hL159.at (i := 7) rfl⟩ ?_
           refine NI1 (i := 20) (by kernel_rfl) rfl ?_
           refine S_guarded rfl rfl hg155 ?_
           obtain ⟨x160, hb160, h⟩ := Go.L.bind_some h
           refine S_callL rfl rfl hL159 (ref4_WordsForm_ok _ _ (gz_le hH hL159) ((hv66.mono hG73).mono hG140) hb160) ?_
           rintro u161_0 w161 ⟨_, rfl, hR161_0⟩ hx161 hL161 hle161
           have hv161_0 := hR161_0.mono (gz_nw hH hL159 hx161)
           replace hv146_0 := hv146_0.mono (gz_mono hH hle161)
           replace hv148_0 := hv148_0.mono (gz_mono hH hle161)
           replace hv159_0 := hv159_0.mono (gz_mono hH hle161)
           replace hG140 := hG140.trans (gz_mono hH hle161)
           refine NI_nil ⟨hG140.trans (gz_le hH hL161), hL161.at (i := 0) rfl, hL161.at (i := 1) rfl, hL161.at (i := 2) rfl, hL161.at (i := 3) rfl, hL161.at (i := 4) rfl, hL161.at (i := 5) rfl, hL161.at (i := 6) rfl, hL161.at (i := 7) rfl⟩ ?_
           refine NI1 (i := 21) (by kernel_rfl) rfl ?_
           refine S_guarded rfl rfl hg155 ?_
           obtain ⟨x162, hb162, h⟩ := Go.L.bind_some h
           refine S_callL rfl rfl hL161 (ref3_SameBytes_ok _ _ (gz_le hH hL161) hv159_0 hv161_0 hb162) ?_
           rintro _ w163 rfl hx163 hL163 hle163
           replace hv146_0 := hv146_0.mono (gz_mono hH hle163)
           replace hv148_0 := hv148_0.mono (gz_mono hH hle163)
           replace hv159_0 := hv159_0.mono (gz_mono hH hle163)
           replace hv161_0 := hv161_0.mono (gz_mono hH hle163)
           replace hG140 := hG140.trans (gz_mono hH hle163)
           refine NI_nil ⟨hG140.trans (gz_le hH hL163), hL163.at (i := 0) rfl, hL163.at (i := 1) rfl, hL163.at (i := 2) rfl, hL163.at (i := 3) rfl, hL163.at (i := 4) rfl, hL163.at (i := 5) rfl, hL163.at (i := 6) rfl, hL163.at (i := 7) rfl⟩ ?_
           refine NI_hoistg 22 (np_cut np_body) ⟨hG140.trans (gz_le hH hL163), hL163.at (i := 0) rfl, hL163.at (i := 1) rfl, hL163.at (i := 2) rfl, hL163.at (i := 3) rfl, hL163.at (i := 4) rfl, hL163.at (i := 5) rfl, hL163.at (i := 6) rfl, hL163.at (i := 7) rfl⟩ (by kernel_rfl) rfl rfl rfl rfl hg151 (fun _ _ => r_pickF rfl hg155 rfl) rfl ?_
           refine NI_hoist 23 (np_cut np_body) ⟨hG140.trans (gz_le hH hL163), hL163.at (i := 0) rfl, hL163.at (i := 1) rfl, hL163.at (i := 2) rfl, hL163.at (i := 3) rfl, hL163.at (i := 4) rfl, hL163.at (i := 5) rfl, hL163.at (i := 6) rfl, hL163.at (i := 7) rfl⟩ (by kernel_rfl) rfl (fun _ _ => r_pickT rfl hg151 rfl) rfl ?_
           refine NI_hoist 24 (np_cut np_body) ⟨hG140.trans (gz_le hH hL163), hL163.at (i := 0) rfl, hL163.at (i := 1) rfl, hL163.at (i := 2) rfl, hL163.at (i := 3) rfl, hL163.at (i := 4) rfl, hL163.at (i := 5) rfl, hL163.at (i := 6) rfl, hL163.at (i := 7) rfl⟩ (by kernel_rfl) rfl (fun _ _ => RunsAt_pu rfl) rfl ?_
           refine NI_end (by kernel_rfl) ?_
           refine At_cut x162 (.cons rfl (Sub.nil _)) ⟨hL163, ((hv68_0.mono hG73).mono hG140), ((hv61_0.mono hG73).mono hG140), (((hv8_0.mono hG55).mono hG73).mono hG140), (((hv2_0.mono hG55).mono hG73).mono hG140), h⟩
         ·replace h := Go.L.ite_f hg151 h
          refine NI_no 13 (np_cut np_body) ⟨hG140.trans (gz_le hH hL150), hL150.at (i := 0) rfl, hL150.at (i := 1) rfl, hL150.at (i := 2) rfl, hL150.at (i := 3) rfl, hL150.at (i := 4) rfl, hL150.at (i := 5) rfl, hL150.at (i := 6) rfl, hL150.at (i := 7) rfl⟩ (by kernel_rfl) rfl rfl rfl rfl hg151 rfl ?_
          refine NI_no 14 (np_cut np_body) ⟨hG140.trans (gz_le hH hL150), hL150.at (i := 0) rfl, hL150.at (i := 1) rfl, hL150.at (i := 2) rfl, hL150.at (i := 3) rfl, hL150.at (i := 4) rfl, hL150.at (i := 5) rfl, hL150.at (i := 6) rfl, hL150.at (i := 7) rfl⟩ (by kernel_rfl) rfl rfl rfl rfl hg151 rfl ?_
          refine NI_no 15 (np_cut np_body) ⟨hG140.trans (gz_le hH hL150), hL150.at (i := 0) rfl, hL150.at (i := 1) rfl, hL150.at (i := 2) rfl, hL150.at (i := 3) rfl, hL150.at (i := 4) rfl, hL150.at (i := 5) rfl, hL150.at (i := 6) rfl, hL150.at (i := 7) rfl⟩ (by kernel_rfl) rfl rfl rfl rfl hg151 rfl ?_
          refine NI_no 16 (np_cut np_body) ⟨hG140.trans (gz_le hH hL150), hL150.at (i := 0) rfl, hL150.at (i := 1) rfl, hL150.at (i := 2) rfl, hL150.at (i := 3) rfl, hL150.at (i := 4) rfl, hL150.at (i := 5) rfl, hL150.at (i := 6) rfl, hL150.at (i := 7) rfl⟩ (by kernel_rfl) rfl rfl rfl rfl hg151 rfl ?_
          refine NI_no2 17 (np_cut np_body) ⟨hG140.trans (gz_le hH hL150), hL150.at (i := 0) rfl, hL150.at (i := 1) rfl, hL150.at (i := 2) rfl, hL150.at (i := 3) rfl, hL150.at (i := 4) rfl, hL150.at (i := 5) rfl, hL150.at (i := 6) rfl, hL150.at (i := 7) rfl⟩ (by kernel_rfl) rfl rfl rfl rfl rfl ?_
          refine NI_no2 18 (np_cut np_body) ⟨hG140.trans (gz_le hH hL150), hL150.at (i := 0) rfl, hL150.at (i := 1) rfl, hL150.at (i := 2) rfl, hL150.at (i := 3) rfl, hL150.at (i := 4) rfl, hL150.at (i := 5) rfl, hL150.at (i := 6) rfl, hL150.at (i := 7) rfl⟩ (by kernel_rfl) rfl rfl rfl rfl rfl ?_
          refine NI_no2 19 (np_cut np_body) ⟨hG140.trans (gz_le hH hL150), hL150.at (i := 0) rfl, hL150.at (i := 1) rfl, hL150.at (i := 2) rfl, hL150.at (i := 3) rfl, hL150.at (i := 4) rfl, hL150.at (i := 5) rfl, hL150.at (i := 6) rfl, hL150.at (i := 7) rfl⟩ (by kernel_rfl) rfl rfl rfl rfl rfl ?_
          refine NI_no2 20 (np_cut np_body) ⟨hG140.trans (gz_le hH hL150), hL150.at (i := 0) rfl, hL150.at (i := 1) rfl, hL150.at (i := 2) rfl, hL150.at (i := 3) rfl, hL150.at (i := 4) rfl, hL150.at (i := 5) rfl, hL150.at (i := 6) rfl, hL150.at (i := 7) rfl⟩ (by kernel_rfl) rfl rfl rfl rfl rfl ?_
          refine NI_no2 21 (np_cut np_body) ⟨hG140.trans (gz_le hH hL150), hL150.at (i := 0) rfl, hL150.at (i := 1) rfl, hL150.at (i := 2) rfl, hL150.at (i := 3) rfl, hL150.at (i := 4) rfl, hL150.at (i := 5) rfl, hL150.at (i := 6) rfl, hL150.at (i := 7) rfl⟩ (by kernel_rfl) rfl rfl rfl rfl rfl ?_
          refine NI_no 22 (np_cut np_body) ⟨hG140.trans (gz_le hH hL150), hL150.at (i := 0) rfl, hL150.at (i := 1) rfl, hL150.at (i := 2) rfl, hL150.at (i := 3) rfl, hL150.at (i := 4) rfl, hL150.at (i := 5) rfl, hL150.at (i := 6) rfl, hL150.at (i := 7) rfl⟩ (by kernel_rfl) rfl rfl rfl rfl hg151 rfl ?_
          refine NI_hoist 23 (np_cut np_body) ⟨hG140.trans (gz_le hH hL150), hL150.at (i := 0) rfl, hL150.at (i := 1) rfl, hL150.at (i := 2) rfl, hL150.at (i := 3) rfl, hL150.at (i := 4) rfl, hL150.at (i := 5) rfl, hL150.at (i := 6) rfl, hL150.at (i := 7) rfl⟩ (by kernel_rfl) rfl (fun _ _ => r_pickF rfl hg151 rfl) rfl ?_
          refine NI_hoist 24 (np_cut np_body) ⟨hG140.trans (gz_le hH hL150), hL150.at (i := 0) rfl, hL150.at (i := 1) rfl, hL150.at (i := 2) rfl, hL150.at (i := 3) rfl, hL150.at (i := 4) rfl, hL150.at (i := 5) rfl, hL150.at (i := 6) rfl, hL150.at (i := 7) rfl⟩ (by kernel_rfl) rfl (fun _ _ => RunsAt_pu rfl) rfl ?_
          refine NI_end (by kernel_rfl) ?_
          refine At_cut false (.cons rfl (Sub.nil _)) ⟨hL150, ((hv68_0.mono hG73).mono hG140), ((hv61_0.mono hG73).mono hG140), (((hv8_0.mono hG55).mono hG73).mono hG140), (((hv2_0.mono hG55).mono hG73).mono hG140), h⟩
        ·replace h := Go.L.ite_n (of_decide_eq_false hg143) h
         refine NI_no 6 (np_cut np_body) ⟨hG140.trans (gz_le hH hL142), hL142.at (i := 0) rfl, hL142.at (i := 1) rfl, hL142.at (i := 2) rfl, hL142.at (i := 3) rfl, hL142.at (i := 4) rfl, hL142.at (i := 5) rfl, hL142.at (i := 6) rfl, hL142.at (i := 7) rfl⟩ (by kernel_rfl) rfl rfl rfl rfl hg143 rfl ?_
         refine NI_no 7 (np_cut np_body) ⟨hG140.trans (gz_le hH hL142), hL142.at (i := 0) rfl, hL142.at (i := 1) rfl, hL142.at (i := 2) rfl, hL142.at (i := 3) rfl, hL142.at (i := 4) rfl, hL142.at (i := 5) rfl, hL142.at (i := 6) rfl, hL142.at (i := 7) rfl⟩ (by kernel_rfl) rfl rfl rfl rfl hg143 rfl ?_
         refine NI_no 8 (np_cut np_body) ⟨hG140.trans (gz_le hH hL142), hL142.at (i := 0) rfl, hL142.at (i := 1) rfl, hL142.at (i := 2) rfl, hL142.at (i := 3) rfl, hL142.at (i := 4) rfl, hL142.at (i := 5) rfl, hL142.at (i := 6) rfl, hL142.at (i := 7) rfl⟩ (by kernel_rfl) rfl rfl rfl rfl hg143 rfl ?_
         refine NI_no 9 (np_cut np_body) ⟨hG140.trans (gz_le hH hL142), hL142.at (i := 0) rfl, hL142.at (i := 1) rfl, hL142.at (i := 2) rfl, hL142.at (i := 3) rfl, hL142.at (i := 4) rfl, hL142.at (i := 5) rfl, hL142.at (i := 6) rfl, hL142.at (i := 7) rfl⟩ (by kernel_rfl) rfl rfl rfl rfl hg143 rfl ?_
         refine NI_no 10 (np_cut np_body) ⟨hG140.trans (gz_le hH hL142), hL142.at (i := 0) rfl, hL142.at (i := 1) rfl, hL142.at (i := 2) rfl, hL142.at (i := 3) rfl, hL142.at (i := 4) rfl, hL142.at (i := 5) rfl, hL142.at (i := 6) rfl, hL142.at (i := 7) rfl⟩ (by kernel_rfl) rfl rfl rfl rfl hg143 rfl ?_
         refine NI_hoist 11 (np_cut np_body) ⟨hG140.trans (gz_le hH hL142), hL142.at (i := 0) rfl, hL142.at (i := 1) rfl, hL142.at (i := 2) rfl, hL142.at (i := 3) rfl, hL142.at (i := 4) rfl, hL142.at (i := 5) rfl, hL142.at (i := 6) rfl, hL142.at (i := 7) rfl⟩ (by kernel_rfl) rfl (fun _ _ => r_pickF rfl hg143 rfl) rfl ?_
         refine NI_hoist 12 (np_cut np_body) ⟨hG140.trans (gz_le hH hL142), hL142.at (i := 0) rfl, hL142.at (i := 1) rfl, hL142.at (i := 2) rfl, hL142.at (i := 3) rfl, hL142.at (i := 4) rfl, hL142.at (i := 5) rfl, hL142.at (i := 6) rfl, hL142.at (i := 7) rfl⟩ (by kernel_rfl) rfl (fun _ _ => RunsAt_pu rfl) rfl ?_
         refine NI_no 13 (np_cut np_body) ⟨hG140.trans (gz_le hH hL142), hL142.at (i := 0) rfl, hL142.at (i := 1) rfl, hL142.at (i := 2) rfl, hL142.at (i := 3) rfl, hL142.at (i := 4) rfl, hL142.at (i := 5) rfl, hL142.at (i := 6) rfl, hL142.at (i := 7) rfl⟩ (by kernel_rfl) rfl rfl rfl rfl rfl rfl ?_
         refine NI_no 14 (np_cut np_body) ⟨hG140.trans (gz_le hH hL142), hL142.at (i := 0) rfl, hL142.at (i := 1) rfl, hL142.at (i := 2) rfl, hL142.at (i := 3) rfl, hL142.at (i := 4) rfl, hL142.at (i := 5) rfl, hL142.at (i := 6) rfl, hL142.at (i := 7) rfl⟩ (by kernel_rfl) rfl rfl rfl rfl rfl rfl ?_
         refine NI_no 15 (np_cut np_body) ⟨hG140.trans (gz_le hH hL142), hL142.at (i := 0) rfl, hL142.at (i := 1) rfl, hL142.at (i := 2) rfl, hL142.at (i := 3) rfl, hL142.at (i := 4) rfl, hL142.at (i := 5) rfl, hL142.at (i := 6) rfl, hL142.at (i := 7) rfl⟩ (by kernel_rfl) rfl rfl rfl rfl rfl rfl ?_
         refine NI_no 16 (np_cut np_body) ⟨hG140.trans (gz_le hH hL142), hL142.at (i := 0) rfl, hL142.at (i := 1) rfl, hL142.at (i := 2) rfl, hL142.at (i := 3) rfl, hL142.at (i := 4) rfl, hL142.at (i := 5) rfl, hL142.at (i := 6) rfl, hL142.at (i := 7) rfl⟩ (by kernel_rfl) rfl rfl rfl rfl rfl rfl ?_
         refine NI_no2 17 (np_cut np_body) ⟨hG140.trans (gz_le hH hL142), hL142.at (i := 0) rfl, hL142.at (i := 1) rfl, hL142.at (i := 2) rfl, hL142.at (i := 3) rfl, hL142.at (i := 4) rfl, hL142.at (i := 5) rfl, hL142.at (i := 6) rfl, hL142.at (i := 7) rfl⟩ (by kernel_rfl) rfl rfl rfl rfl rfl ?_
         refine NI_no2 18 (np_cut np_body) ⟨hG140.trans (gz_le hH hL142), hL142.at (i := 0) rfl, hL142.at (i := 1) rfl, hL142.at (i := 2) rfl, hL142.at (i := 3) rfl, hL142.at (i := 4) rfl, hL142.at (i := 5) rfl, hL142.at (i := 6) rfl, hL142.at (i := 7) rfl⟩ (by kernel_rfl) rfl rfl rfl rfl rfl ?_
         refine NI_no2 19 (np_cut np_body) ⟨hG140.trans (gz_le hH hL142), hL142.at (i := 0) rfl, hL142.at (i := 1) rfl, hL142.at (i := 2) rfl, hL142.at (i := 3) rfl, hL142.at (i := 4) rfl, hL142.at (i := 5) rfl, hL142.at (i := 6) rfl, hL142.at (i := 7) rfl⟩ (by kernel_rfl) rfl rfl rfl rfl rfl ?_
         refine NI_no2 20 (np_cut np_body) ⟨hG140.trans (gz_le hH hL142), hL142.at (i := 0) rfl, hL142.at (i := 1) rfl, hL142.at (i := 2) rfl, hL142.at (i := 3) rfl, hL142.at (i := 4) rfl, hL142.at (i := 5) rfl, hL142.at (i := 6) rfl, hL142.at (i := 7) rfl⟩ (by kernel_rfl) rfl rfl rfl rfl rfl ?_
         refine NI_no2 21 (np_cut np_body) ⟨hG140.trans (gz_le hH hL142), hL142.at (i := 0) rfl, hL142.at (i := 1) rfl, hL142.at (i := 2) rfl, hL142.at (i := 3) rfl, hL142.at (i := 4) rfl, hL142.at (i := 5) rfl, hL142.at (i := 6) rfl, hL142.at (i := 7) rfl⟩ (by kernel_rfl) rfl rfl rfl rfl rfl ?_
         refine NI_no 22 (np_cut np_body) ⟨hG140.trans (gz_le hH hL142), hL142.at (i := 0) rfl, hL142.at (i := 1) rfl, hL142.at (i := 2) rfl, hL142.at (i := 3) rfl, hL142.at (i := 4) rfl, hL142.at (i := 5) rfl, hL142.at (i := 6) rfl, hL142.at (i := 7) rfl⟩ (by kernel_rfl) rfl rfl rfl rfl rfl rfl ?_
         refine NI_hoist 23 (np_cut np_body) ⟨hG140.trans (gz_le hH hL142), hL142.at (i := 0) rfl, hL142.at (i := 1) rfl, hL142.at (i := 2) rfl, hL142.at (i := 3) rfl, hL142.at (i := 4) rfl, hL142.at (i := 5) rfl, hL142.at (i := 6) rfl, hL142.at (i := 7) rfl⟩ (by kernel_rfl) rfl (fun _ _ => r_pickF rfl rfl rfl) rfl ?_
         refine NI_hoist 24 (np_cut np_body) ⟨hG140.trans (gz_le hH hL142), hL142.at (i := 0) rfl, hL142.at (i := 1) rfl, hL142.at (i := 2) rfl, hL142.at (i := 3) rfl, hL142.at (i := 4) rfl, hL142.at (i := 5) rfl, hL142.at (i := 6) rfl, hL142.at (i := 7) rfl⟩ (by kernel_rfl) rfl (fun _ _ => RunsAt_pu rfl) rfl ?_
         refine NI_end (by kernel_rfl) ?_
         refine At_cut false (.cons rfl (Sub.nil _)) ⟨hL142, ((hv68_0.mono hG73).mono hG140), ((hv61_0.mono hG73).mono hG140), (((hv8_0.mono hG55).mono hG73).mono hG140), (((hv2_0.mono hG55).mono hG73).mono hG140), h⟩
       ·rintro s4_135 wr136 ⟨hL136, hf136_0, hf136_1, hf136_2, hf136_3, h⟩
        refine W_ret ?_
        obtain rfl := Option.some.inj h
        refine At_body rfl rfl ?_
        exact ⟨hL136.ext, rfl⟩
end Go.Proofs.YtdiieblgeaehpaaGreatDoor
