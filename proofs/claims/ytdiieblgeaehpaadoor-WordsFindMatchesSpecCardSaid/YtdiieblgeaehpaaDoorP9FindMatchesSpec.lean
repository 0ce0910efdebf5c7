/- Generated walk: a law of words. -/
import Derived.Test.YtdiieblgeaehpaaDoorP8
import Derived.KernelRfl
namespace Go.Proofs.YtdiieblgeaehpaaDoor
open Go Go.E Go.RowKit
noncomputable def law4_WordsFindMatchesSpec (a0 : List (List UInt8)) (a1 : List UInt8) : Option (Bool) :=
 Option.bind (words_Build a0) (fun x1 => Option.bind (ref4_ItemsFault a0) (fun x7 => Option.bind (law4_speaks) (fun x11 => if !x11 then Option.bind (law4_speaks) (fun x15 => if x15 then if x1.2.1 = x7.1 ∧ x1.2.2 = x7.2 then Option.bind (words_Index_Items (x1.1.1, x1.1.2)) (fun x21 => some (decide (x21 = (0 : Int)))) else some (false) else some (false)) else if x7.1 = (0 : Int) then (if x1.2.1 = (0 : Int) then Option.bind (words_Index_Find (x1.1.1, x1.1.2) a1) (fun x55 => Option.bind (ref4_WordFault a1) (fun x59 => if x55.2.1 = x59.1 ∧ x55.2.2 = x59.2 then Option.bind (words_Index_Items (x1.1.1, x1.1.2)) (fun x65 => if x65 = (a0.length : Int) then Option.bind (words_Index_Words (x1.1.1, x1.1.2)) (fun x70 => Option.bind (ref4_Vocabulary a0) (fun x72 => Option.bind (ref4_Texts x70 x72) (fun x74 => if !x74 then some (false) else (if x59.1 = (0 : Int) then if x59.1 = (0 : Int) then Option.bind (ref4_Hits a0 ([a1])) (fun x96 => Option.bind (ref4_SameHits x55.1 x96) (fun x98 => some (x98))) else some (false) else if (x55.1.length : Int) = (0 : Int) then some (true) else if x59.1 = (0 : Int) then Option.bind (ref4_Hits a0 ([a1])) (fun x87 => Option.bind (ref4_SameHits x55.1 x87) (fun x89 => some (x89))) else some (false))))) else some (false)) else some (false))) else Option.bind (ref3_At (14 : Int) (-1 : Int)) (fun x43 => if x1.2.1 = x43.1 ∧ x1.2.2 = x43.2 then Option.bind (ref3_Total a0 (1000 : Int)) (fun x47 => some (decide ((1000 : Int) < x47))) else some (false))) else Option.bind (law4_speaks) (fun x28 => if x28 then if x1.2.1 = x7.1 ∧ x1.2.2 = x7.2 then Option.bind (words_Index_Items (x1.1.1, x1.1.2)) (fun x34 => some (decide (x34 = (0 : Int)))) else some (false) else some (false)))))

set_option maxHeartbeats 1000000 in
set_option maxRecDepth 10000 in
theorem law4_WordsFindMatchesSpec_ok (w : World) (H : PH) (hH : Le H (hp w)) (hU : Utab H) {a0 : List (List UInt8)} {a1 : List UInt8} {v0_0 : Value} (h0_0 : Vec (.vec .byte) H v0_0 (a0)) {r : Bool} (h : law4_WordsFindMatchesSpec a0 a1 = some r) :
  Ok Tryd.prog 8 [v0_0, .string ⟨(a1).toArray⟩] w (fun v w' => Ext w w' ∧ v = .bool r) := by
 refine Ok_enter (n := 93) [(0, v0_0), (1, .string ⟨(a1).toArray⟩)] Tryd.func8 rfl rfl rfl rfl rfl ?_
 have hL := Lcl.start w
 refine W_seqr ?_
 refine S_pu 1 rfl ?_
 refine S_seqnil ?_
 refine W_seqr ?_
 refine S_pu 1 rfl ?_
 obtain ⟨x1, hb1, h⟩ := Go.L.bind_some h
 refine S_callL rfl rfl hL (words_Build_ok _ _ (gz_le hH hL) (hU.mono (gz_left hH)) (h0_0.mono (gz_left hH)) hb1) ?_
 rintro _ w2 ⟨u2_0, rfl, hR2_0⟩ hx2 hL2 hle2
 have hv2_0 := hR2_0.mono (gz_nw hH hL hx2)
 refine S_pu 3 rfl ?_
 refine S_alloc zr41 rfl rfl hL2 ?_
 intro w3 b3 hL3 hle3 _
 replace hv2_0 := hv2_0.mono (gz_mono hH hle3)
 refine S_alloc zr25 rfl rfl hL3 ?_
 intro w4 b4 hL4 hle4 _
 replace hv2_0 := hv2_0.mono (gz_mono hH hle4)
 refine S_storeBN 1 rfl rfl rfl zr41 hL4 rfl rfl (onc rfl (onc hv2_0.one on0)) ?_
 intro w5 hL5 hle5
 replace hv2_0 := hv2_0.mono (gz_mono hH hle5)
 refine S_storeBN 0 rfl rfl rfl zr25 hL5 rfl rfl (onc rfl (onc rfl on0)) ?_
 intro w6 hL6 hle6
 replace hv2_0 := hv2_0.mono (gz_mono hH hle6)
 refine S_seqnil ?_
 refine W_seqr ?_
 refine S_pu 1 rfl ?_
 obtain ⟨x7, hb7, h⟩ := Go.L.bind_some h
 refine S_callL rfl rfl hL6 (ref4_ItemsFault_ok _ _ (gz_le hH hL6) (h0_0.mono (gz_left hH)) hb7) ?_
 rintro _ w8 rfl hx8 hL8 hle8
 replace hv2_0 := hv2_0.mono (gz_mono hH hle8)
 refine S_alloc zr25 rfl rfl hL8 ?_
 intro w9 b9 hL9 hle9 _
 replace hv2_0 := hv2_0.mono (gz_mono hH hle9)
 refine S_storeBN 0 rfl rfl rfl zr25 hL9 rfl rfl (onc rfl (onc rfl on0)) ?_
 intro w10 hL10 hle10
 replace hv2_0 := hv2_0.mono (gz_mono hH hle10)
 refine S_seqnil ?_
 refine W_seq ?_
 refine W_seqr ?_
 obtain ⟨x11, hb11, h⟩ := Go.L.bind_some h
 refine S_callL rfl rfl hL10 (law4_speaks_ok _ _ (gz_le hH hL10) (hU.mono (gz_left hH)) hb11) ?_
 rintro _ w12 rfl hx12 hL12 hle12
 replace hv2_0 := hv2_0.mono (gz_mono hH hle12)
 refine S_pu 2 rfl ?_
 refine S_split (s := 19) rfl (fun hg13 => ?_) (fun hg13 => ?_)
 ·replace h := Go.L.ite_t hg13 h
  refine S_unwanted rfl rfl hg13 rfl ?_
  refine S_unwanted rfl rfl hg13 rfl ?_
  refine S_unwanted rfl rfl hg13 rfl ?_
  refine S_v (r_pickT rfl hg13 rfl) rfl ?_
  refine S_seqnil ?_
  refine W_true rfl ?_
  refine W_seqr ?_
  obtain ⟨x15, hb15, h⟩ := Go.L.bind_some h
  refine S_callL rfl rfl hL12 (law4_speaks_ok _ _ (gz_le hH hL12) (hU.mono (gz_left hH)) hb15) ?_
  rintro _ w16 rfl hx16 hL16 hle16
  replace hv2_0 := hv2_0.mono (gz_mono hH hle16)
  refine S_pu 1 rfl ?_
  refine S_split (s := 25) rfl (fun hg17 => ?_) (fun hg17 => ?_)
  ·replace h := Go.L.ite_t hg17 h
   refine S_guarded rfl rfl hg17 ?_
   refine S_v (r_loadBN 1 rfl Tryd.underlying25 rfl zr25 hL16 rfl) rfl ?_
   refine S_guarded rfl rfl hg17 ?_
   refine S_v (r_loadBN 0 rfl Tryd.underlying25 rfl zr25 hL16 rfl) rfl ?_
   refine S_guarded rfl rfl hg17 ?_
   refine S_v (r_eqA rfl rfl eqg25 (eq25 _ _ _ _ )) rfl ?_
   refine S_v (r_pickT rfl hg17 rfl) rfl ?_
   refine S_pu 1 rfl ?_
   refine S_split (s := 30) rfl (fun hg19 => ?_) (fun hg19 => ?_)
   ·replace h := Go.L.ite_p (of_decide_eq_true hg19) h
    refine S_guarded rfl rfl hg19 ?_
    refine S_v (r_loadBN 2 rfl Tryd.underlying41 rfl zr41 hL16 rfl) rfl ?_
    refine S_guarded rfl rfl hg19 ?_
    obtain ⟨x21, hb21, h⟩ := Go.L.bind_some h
    refine S_callL rfl rfl hL16 (words_Index_Items_ok _ _ (gz_le hH hL16) hv2_0 hb21) ?_
    rintro _ w22 rfl hx22 hL22 hle22
    replace hv2_0 := hv2_0.mono (gz_mono hH hle22)
    refine S_guarded rfl rfl hg19 ?_
    refine S_v (RunsAt_pu rfl) rfl ?_
    refine S_v (r_pickT rfl hg19 rfl) rfl ?_
    refine S_pu 1 rfl ?_
    refine S_seqnil ?_
    refine W_ret ?_
    refine At_seq_ret ?_
    obtain rfl := Option.some.inj h
    refine At_body rfl rfl ?_
    exact ⟨hL22.ext, rfl⟩
   ·replace h := Go.L.ite_n (of_decide_eq_false hg19) h
    refine S_unwanted rfl rfl hg19 rfl ?_
    refine S_unwanted rfl rfl hg19 rfl ?_
    refine S_unwanted rfl rfl hg19 rfl ?_
    refine S_v (r_pickF rfl hg19 rfl) rfl ?_
    refine S_pu 1 rfl ?_
    refine S_seqnil ?_
    refine W_ret ?_
    refine At_seq_ret ?_
    obtain rfl := Option.some.inj h
    refine At_body rfl rfl ?_
    exact ⟨hL16.ext, rfl⟩
  ·replace h := Go.L.ite_f hg17 h
   refine S_unwanted rfl rfl hg17 rfl ?_
   refine S_unwanted rfl rfl hg17 rfl ?_
   refine S_unwanted rfl rfl hg17 rfl ?_
   refine S_v (r_pickF rfl hg17 rfl) rfl ?_
   refine S_pu 1 rfl ?_
   refine S_unwanted rfl rfl rfl rfl ?_
   refine S_unwanted rfl rfl rfl rfl ?_
   refine S_unwanted rfl rfl rfl rfl ?_
   refine S_v (r_pickF rfl rfl rfl) rfl ?_
   refine S_pu 1 rfl ?_
   refine S_seqnil ?_
   refine W_ret ?_
   refine At_seq_ret ?_
   obtain rfl := Option.some.inj h
   refine At_body rfl rfl ?_
   exact ⟨hL16.ext, rfl⟩
 ·replace h := Go.L.ite_f hg13 h
  refine S_guarded rfl rfl hg13 ?_
  refine S_v (r_field rfl Tryd.underlying25 rfl zr3 (by decide)) rfl ?_
  refine S_guarded rfl rfl hg13 ?_
  refine S_v (r_loadB1 0 rfl Tryd.underlying3 rfl hL12 rfl rfl) rfl ?_
  refine S_guarded rfl rfl hg13 ?_
  refine S_v (RunsAt_pu rfl) rfl ?_
  refine S_v (r_pickF rfl hg13 rfl) rfl ?_
  refine S_seqnil ?_
  refine W_ifn rfl (fun hc26 => ?_) (fun hc26 => ?_)
  ·replace h := Go.L.ite_n hc26 h
   refine W_seqr ?_
   obtain ⟨x28, hb28, h⟩ := Go.L.bind_some h
   refine S_callL rfl rfl hL12 (law4_speaks_ok _ _ (gz_le hH hL12) (hU.mono (gz_left hH)) hb28) ?_
   rintro _ w29 rfl hx29 hL29 hle29
   replace hv2_0 := hv2_0.mono (gz_mono hH hle29)
   refine S_pu 1 rfl ?_
   refine S_split (s := 25) rfl (fun hg30 => ?_) (fun hg30 => ?_)
   ·replace h := Go.L.ite_t hg30 h
    refine S_guarded rfl rfl hg30 ?_
    refine S_v (r_loadBN 1 rfl Tryd.underlying25 rfl zr25 hL29 rfl) rfl ?_
    refine S_guarded rfl rfl hg30 ?_
    refine S_v (r_loadBN 0 rfl Tryd.underlying25 rfl zr25 hL29 rfl) rfl ?_
    refine S_guarded rfl rfl hg30 ?_
    refine S_v (r_eqA rfl rfl eqg25 (eq25 _ _ _ _ )) rfl ?_
    refine S_v (r_pickT rfl hg30 rfl) rfl ?_
    refine S_pu 1 rfl ?_
    refine S_split (s := 30) rfl (fun hg32 => ?_) (fun hg32 => ?_)
    ·replace h := Go.L.ite_p (of_decide_eq_true hg32) h
     refine S_guarded rfl rfl hg32 ?_
     refine S_v (r_loadBN 2 rfl Tryd.underlying41 rfl zr41 hL29 rfl) rfl ?_
     refine S_guarded rfl rfl hg32 ?_
     obtain ⟨x34, hb34, h⟩ := Go.L.bind_some h
     refine S_callL rfl rfl hL29 (words_Index_Items_ok _ _ (gz_le hH hL29) hv2_0 hb34) ?_
     rintro _ w35 rfl hx35 hL35 hle35
     replace hv2_0 := hv2_0.mono (gz_mono hH hle35)
     refine S_guarded rfl rfl hg32 ?_
     refine S_v (RunsAt_pu rfl) rfl ?_
     refine S_v (r_pickT rfl hg32 rfl) rfl ?_
     refine S_pu 1 rfl ?_
     refine S_seqnil ?_
     refine W_ret ?_
     refine At_seq_ret ?_
     obtain rfl := Option.some.inj h
     refine At_body rfl rfl ?_
     exact ⟨hL35.ext, rfl⟩
    ·replace h := Go.L.ite_n (of_decide_eq_false hg32) h
     refine S_unwanted rfl rfl hg32 rfl ?_
     refine S_unwanted rfl rfl hg32 rfl ?_
     refine S_unwanted rfl rfl hg32 rfl ?_
     refine S_v (r_pickF rfl hg32 rfl) rfl ?_
     refine S_pu 1 rfl ?_
     refine S_seqnil ?_
     refine W_ret ?_
     refine At_seq_ret ?_
     obtain rfl := Option.some.inj h
     refine At_body rfl rfl ?_
     exact ⟨hL29.ext, rfl⟩
   ·replace h := Go.L.ite_f hg30 h
    refine S_unwanted rfl rfl hg30 rfl ?_
    refine S_unwanted rfl rfl hg30 rfl ?_
    refine S_unwanted rfl rfl hg30 rfl ?_
    refine S_v (r_pickF rfl hg30 rfl) rfl ?_
    refine S_pu 1 rfl ?_
    refine S_unwanted rfl rfl rfl rfl ?_
    refine S_unwanted rfl rfl rfl rfl ?_
    refine S_unwanted rfl rfl rfl rfl ?_
    refine S_v (r_pickF rfl rfl rfl) rfl ?_
    refine S_pu 1 rfl ?_
    refine S_seqnil ?_
    refine W_ret ?_
    refine At_seq_ret ?_
    obtain rfl := Option.some.inj h
    refine At_body rfl rfl ?_
    exact ⟨hL29.ext, rfl⟩
  ·replace h := Go.L.ite_p hc26 h
   refine W_skip ?_
   refine At_seq ?_
   refine W_seq ?_
   refine W_seqr ?_
   refine S_v (r_field rfl Tryd.underlying25 rfl zr3 (by decide)) rfl ?_
   refine S_v (r_loadB1 1 rfl Tryd.underlying3 rfl hL12 rfl rfl) rfl ?_
   refine S_pu 1 rfl ?_
   refine S_seqnil ?_
   refine W_ifn rfl (fun hc39 => ?_) (fun hc39 => ?_)
   ·replace h := Go.L.ite_n hc39 h
    refine W_seqd (.q 0 (.q 1 (.q 2 (.q 3 (.q 4 (.q 5 (.q 6 (.q 7 (.q 8 (.tail 9)))))))))) mixed (by kernel_rfl) (fun w41 hx41 => ?_)
    have hL42 := hL12.call hx41
    have hle42 := fz_ext hL12 hx41
    replace hv2_0 := hv2_0.mono (gz_mono hH hle42)
    refine D_v (r_loadBN 1 rfl Tryd.underlying25 rfl zr25 hL42 rfl) rfl rfl ?_
    obtain ⟨x43, hb43, h⟩ := Go.L.bind_some h
    refine D_call rfl rfl rfl (fun w44 hx44 => ref3_At_ok _ _ (Le.refl _) hb43) ?_
    refine D_v (r_eqA rfl rfl eqg25 (eq25 _ _ _ _ )) rfl rfl ?_
    refine D_pu 1 rfl ?_
    refine D_split (s := 41) rfl (fun hg45 => ?_) (fun hg45 => ?_)
    ·replace h := Go.L.ite_p (of_decide_eq_true hg45) h
     refine D_vg (RunsAt_pu rfl) rfl rfl rfl rfl hg45 rfl ?_
     obtain ⟨x47, hb47, h⟩ := Go.L.bind_some h
     refine D_callg rfl rfl rfl rfl hg45 rfl rfl (fun w48 hx48 => ref3_Total_ok _ _ (Le.refl _) ((h0_0.mono (hH.trans hL42.arg)).mono hx48.le) hb47) ?_
     refine D_vg (RunsAt_pu rfl) rfl rfl rfl rfl hg45 rfl ?_
     refine D_v (r_pickT rfl hg45 rfl) rfl rfl ?_
     refine D_pu 1 rfl ?_
     refine D_tail (fun w49 hx49 => ?_)
     have hL50 := hL42.call hx49
     have hle50 := fz_ext hL42 hx49
     replace hv2_0 := hv2_0.mono (gz_mono hH hle50)
     refine S_seqnil ?_
     refine W_ret ?_
     refine At_seq_ret ?_
     obtain rfl := Option.some.inj h
     refine At_body rfl rfl ?_
     exact ⟨hL50.ext, rfl⟩
    ·replace h := Go.L.ite_n (of_decide_eq_false hg45) h
     refine D_no rfl rfl rfl rfl hg45 rfl ?_
     refine D_no rfl rfl rfl rfl hg45 rfl ?_
     refine D_no rfl rfl rfl rfl hg45 rfl ?_
     refine D_v (r_pickF rfl hg45 rfl) rfl rfl ?_
     refine D_pu 1 rfl ?_
     refine D_tail (fun w52 hx52 => ?_)
     have hL53 := hL42.call hx52
     have hle53 := fz_ext hL42 hx52
     replace hv2_0 := hv2_0.mono (gz_mono hH hle53)
     refine S_seqnil ?_
     refine W_ret ?_
     refine At_seq_ret ?_
     obtain rfl := Option.some.inj h
     refine At_body rfl rfl ?_
     exact ⟨hL53.ext, rfl⟩
   ·replace h := Go.L.ite_p hc39 h
    refine W_skip ?_
    refine At_seq ?_
    refine W_seqr ?_
    refine S_v (r_loadBN 2 rfl Tryd.underlying41 rfl zr41 hL12 rfl) rfl ?_
    refine S_pu 1 rfl ?_
    obtain ⟨x55, hb55, h⟩ := Go.L.bind_some h
    refine S_callL rfl rfl hL12 (words_Index_Find_ok _ _ (gz_le hH hL12) (hU.mono (gz_left hH)) hv2_0 hb55) ?_
    rintro _ w56 ⟨u56_0, rfl, hR56_0⟩ hx56 hL56 hle56
    have hv56_0 := hR56_0.vecG hH hL12 hx56
    replace hv2_0 := hv2_0.mono (gz_mono hH hle56)
    refine S_pu 3 rfl ?_
    refine S_alloc zr25 rfl rfl hL56 ?_
    intro w57 b57 hL57 hle57 _
    replace hv2_0 := hv2_0.mono (gz_mono hH hle57)
    replace hv56_0 := hv56_0.mono (gz_mono hH hle57)
    refine S_pu 1 rfl ?_
    refine S_storeBN 0 rfl rfl rfl zr25 hL57 rfl rfl (onc rfl (onc rfl on0)) ?_
    intro w58 hL58 hle58
    replace hv2_0 := hv2_0.mono (gz_mono hH hle58)
    replace hv56_0 := hv56_0.mono (gz_mono hH hle58)
    refine S_seqnil ?_
    refine W_seqr ?_
    refine S_pu 1 rfl ?_
    obtain ⟨x59, hb59, h⟩ := Go.L.bind_some h
    refine S_callL rfl rfl hL58 (ref4_WordFault_ok _ _ (gz_le hH hL58) hb59) ?_
    rintro _ w60 rfl hx60 hL60 hle60
    replace hv2_0 := hv2_0.mono (gz_mono hH hle60)
    replace hv56_0 := hv56_0.mono (gz_mono hH hle60)
    refine S_storeBN 1 rfl rfl rfl zr25 hL60 rfl rfl (onc rfl (onc rfl on0)) ?_
    intro w61 hL61 hle61
    replace hv2_0 := hv2_0.mono (gz_mono hH hle61)
    replace hv56_0 := hv56_0.mono (gz_mono hH hle61)
    refine S_seqnil ?_
    refine W_seq ?_
    refine W_seqr ?_
    refine S_v (r_loadBN 0 rfl Tryd.underlying25 rfl zr25 hL61 rfl) rfl ?_
    refine S_v (r_loadBN 1 rfl Tryd.underlying25 rfl zr25 hL61 rfl) rfl ?_
    refine S_v (r_neA rfl rfl eqg25 (eq25 _ _ _ _ )) rfl ?_
    refine S_pu 1 rfl ?_
    refine S_split (s := 57) rfl (fun hg62 => ?_) (fun hg62 => ?_)
    ·replace h := Go.L.ite_n (not_dec_t hg62) h
     refine S_unwanted rfl rfl hg62 rfl ?_
     refine S_unwanted rfl rfl hg62 rfl ?_
     refine S_unwanted rfl rfl hg62 rfl ?_
     refine S_unwanted rfl rfl hg62 rfl ?_
     refine S_unwanted rfl rfl hg62 rfl ?_
     refine S_v (r_pickT rfl hg62 rfl) rfl ?_
     refine S_pu 1 rfl ?_
     refine S_unwanted rfl rfl rfl rfl ?_
     refine S_unwanted rfl rfl rfl rfl ?_
     refine S_unwanted rfl rfl rfl rfl ?_
     refine S_unwanted rfl rfl rfl rfl ?_
     refine S_unwanted rfl rfl rfl rfl ?_
     refine S_unwanted rfl rfl rfl rfl ?_
     refine S_v (r_pickT rfl rfl rfl) rfl ?_
     refine S_seqnil ?_
     refine W_true rfl ?_
     refine W_seqr ?_
     refine S_pu 1 rfl ?_
     refine S_seqnil ?_
     refine W_ret ?_
     refine At_seq_ret ?_
     obtain rfl := Option.some.inj h
     refine At_body rfl rfl ?_
     exact ⟨hL61.ext, rfl⟩
    ·replace h := Go.L.ite_p (not_dec_f hg62) h
     refine S_guarded rfl rfl hg62 ?_
     refine S_v (r_loadBN 3 rfl Tryd.underlying41 rfl zr41 hL61 rfl) rfl ?_
     refine S_guarded rfl rfl hg62 ?_
     obtain ⟨x65, hb65, h⟩ := Go.L.bind_some h
     refine S_callL rfl rfl hL61 (words_Index_Items_ok _ _ (gz_le hH hL61) hv2_0 hb65) ?_
     rintro _ w66 rfl hx66 hL66 hle66
     replace hv2_0 := hv2_0.mono (gz_mono hH hle66)
     replace hv56_0 := hv56_0.mono (gz_mono hH hle66)
     refine S_guarded rfl rfl hg62 ?_
     refine S_v (RunsAt_pu rfl) rfl ?_
     refine S_guarded rfl rfl hg62 ?_
     refine S_v (r_len rfl Tryd.underlying37 h0_0) rfl ?_
     refine S_guarded rfl rfl hg62 ?_
     refine S_v (RunsAt_pu rfl) rfl ?_
     refine S_v (r_pickF rfl hg62 rfl) rfl ?_
     refine S_pu 1 rfl ?_
     refine S_split (s := 64) rfl (fun hg67 => ?_) (fun hg67 => ?_)
     ·replace h := Go.L.ite_n (not_dec_t hg67) h
      refine S_unwanted rfl rfl hg67 rfl ?_
      refine S_unwanted rfl rfl hg67 rfl ?_
      refine S_unwanted rfl rfl hg67 rfl ?_
      refine S_unwanted rfl rfl hg67 rfl ?_
      refine S_unwanted rfl rfl hg67 rfl ?_
      refine S_unwanted rfl rfl hg67 rfl ?_
      refine S_v (r_pickT rfl hg67 rfl) rfl ?_
      refine S_seqnil ?_
      refine W_true rfl ?_
      refine W_seqr ?_
      refine S_pu 1 rfl ?_
      refine S_seqnil ?_
      refine W_ret ?_
      refine At_seq_ret ?_
      obtain rfl := Option.some.inj h
      refine At_body rfl rfl ?_
      exact ⟨hL66.ext, rfl⟩
     ·replace h := Go.L.ite_p (not_dec_f hg67) h
      refine S_guarded rfl rfl hg67 ?_
      refine S_v (r_loadBN 3 rfl Tryd.underlying41 rfl zr41 hL66 rfl) rfl ?_
      refine S_guarded rfl rfl hg67 ?_
      obtain ⟨x70, hb70, h⟩ := Go.L.bind_some h
      refine S_callL rfl rfl hL66 (words_Index_Words_ok _ _ (gz_le hH hL66) hv2_0 hb70) ?_
      rintro u71_0 w71 ⟨_, rfl, hR71_0⟩ hx71 hL71 hle71
      have hv71_0 := hR71_0.vecG hH hL66 hx71
      replace hv2_0 := hv2_0.mono (gz_mono hH hle71)
      replace hv56_0 := hv56_0.mono (gz_mono hH hle71)
      refine S_guarded rfl rfl hg67 ?_
      refine S_v (RunsAt_pu rfl) rfl ?_
      refine S_guarded rfl rfl hg67 ?_
      obtain ⟨x72, hb72, h⟩ := Go.L.bind_some h
      refine S_callL rfl rfl hL71 (ref4_Vocabulary_ok _ _ (gz_le hH hL71) (h0_0.mono (gz_left hH)) hb72) ?_
      rintro u73_0 w73 ⟨_, rfl, hR73_0⟩ hx73 hL73 hle73
      have hv73_0 := hR73_0.vecG hH hL71 hx73
      replace hv2_0 := hv2_0.mono (gz_mono hH hle73)
      replace hv56_0 := hv56_0.mono (gz_mono hH hle73)
      replace hv71_0 := hv71_0.mono (gz_mono hH hle73)
      refine S_guarded rfl rfl hg67 ?_
      obtain ⟨x74, hb74, h⟩ := Go.L.bind_some h
      refine S_callL rfl rfl hL73 (ref4_Texts_ok _ _ (gz_le hH hL73) hv71_0 hv73_0 hb74) ?_
      rintro _ w75 rfl hx75 hL75 hle75
      replace hv2_0 := hv2_0.mono (gz_mono hH hle75)
      replace hv56_0 := hv56_0.mono (gz_mono hH hle75)
      replace hv71_0 := hv71_0.mono (gz_mono hH hle75)
      replace hv73_0 := hv73_0.mono (gz_mono hH hle75)
      refine S_guarded rfl rfl hg67 ?_
      refine S_v (RunsAt_pu rfl) rfl ?_
      refine S_v (r_pickF rfl hg67 rfl) rfl ?_
      refine S_seqnil ?_
      refine W_cond rfl (fun hc76 => ?_) (fun hc76 => ?_)
      ·replace h := Go.L.ite_t hc76 h
       refine W_seqr ?_
       refine S_pu 1 rfl ?_
       refine S_seqnil ?_
       refine W_ret ?_
       refine At_seq_ret ?_
       obtain rfl := Option.some.inj h
       refine At_body rfl rfl ?_
       exact ⟨hL75.ext, rfl⟩
      ·replace h := Go.L.ite_f hc76 h
       refine W_skip ?_
       refine At_seq ?_
       refine W_seqr ?_
       refine S_v (r_field rfl Tryd.underlying25 rfl zr3 (by decide)) rfl ?_
       refine S_v (r_loadB1 1 rfl Tryd.underlying3 rfl hL75 rfl rfl) rfl ?_
       refine S_pu 2 rfl ?_
       refine S_split (s := 75) rfl (fun hg79 => ?_) (fun hg79 => ?_)
       ·replace h := Go.L.ite_n (not_dec_t hg79) h
        refine S_guarded rfl rfl hg79 ?_
        refine S_v (RunsAt_pu rfl) rfl ?_
        refine S_guarded rfl rfl hg79 ?_
        refine S_v (r_len rfl Tryd.underlying45 hv56_0) rfl ?_
        refine S_guarded rfl rfl hg79 ?_
        refine S_v (RunsAt_pu rfl) rfl ?_
        refine S_v (r_pickT rfl hg79 rfl) rfl ?_
        refine S_pu 1 rfl ?_
        refine S_split (s := 80) rfl (fun hg81 => ?_) (fun hg81 => ?_)
        ·replace h := Go.L.ite_p (of_decide_eq_true hg81) h
         refine S_unwanted rfl rfl hg81 rfl ?_
         refine S_unwanted rfl rfl hg81 rfl ?_
         refine S_unwanted rfl rfl hg81 rfl ?_
         refine S_unwanted rfl rfl hg81 rfl ?_
         refine S_unwanted2 rfl rfl rfl ?_
         refine S_unwanted2 rfl rfl rfl ?_
         refine S_unwanted2 rfl rfl rfl ?_
         refine S_unwanted2 rfl rfl rfl ?_
         refine S_unwanted2 rfl rfl rfl ?_
         refine S_unwanted2 rfl rfl rfl ?_
         refine S_unwanted rfl rfl hg81 rfl ?_
         refine S_v (r_pickT rfl hg81 rfl) rfl ?_
         refine S_pu 1 rfl ?_
         refine S_seqnil ?_
         refine W_ret ?_
         obtain rfl := Option.some.inj h
         refine At_body rfl rfl ?_
         exact ⟨hL75.ext, rfl⟩
        ·replace h := Go.L.ite_n (of_decide_eq_false hg81) h
         refine S_guarded rfl rfl hg81 ?_
         refine S_v (r_field rfl Tryd.underlying25 rfl zr3 (by decide)) rfl ?_
         refine S_guarded rfl rfl hg81 ?_
         refine S_v (r_loadB1 1 rfl Tryd.underlying3 rfl hL75 rfl rfl) rfl ?_
         refine S_guarded rfl rfl hg81 ?_
         refine S_v (RunsAt_pu rfl) rfl ?_
         refine S_guarded rfl rfl hg81 ?_
         refine S_v (RunsAt_pu rfl) rfl ?_
         refine S_split (s := 84) rfl (fun hg84 => ?_) (fun hg84 => ?_)
         ·replace h := Go.L.ite_p (of_decide_eq_true hg84) h
          refine S_guarded rfl rfl hg84 ?_
          refine S_v (RunsAt_pu rfl) rfl ?_
          refine S_guarded rfl rfl hg84 ?_
          refine S_v (RunsAt_pu rfl) rfl ?_
          refine S_guarded rfl rfl hg84 ?_
          refine S_v (RunsAt_pu rfl) rfl ?_
          refine S_guarded rfl rfl hg84 ?_
          refine S_litE (r := .st) (l := [a1]) rfl (fun _ => bsl38_1 _ rfl _) rfl (show 1 ≤ 9223372036854775807 by decide) hH hL75 (.c1 rfl .nil) ?_
          intro v86 w86 hx86 hL86 hle86 hv86
          replace hv2_0 := hv2_0.mono (gz_mono hH hle86)
          replace hv56_0 := hv56_0.mono (gz_mono hH hle86)
          refine S_guarded rfl rfl hg84 ?_
          obtain ⟨x87, hb87, h⟩ := Go.L.bind_some h
          refine S_callL rfl rfl hL86 (ref4_Hits_ok _ _ (gz_le hH hL86) (h0_0.mono (gz_left hH)) hv86 hb87) ?_
          rintro u88_0 w88 ⟨_, rfl, hR88_0⟩ hx88 hL88 hle88
          have hv88_0 := hR88_0.vecG hH hL86 hx88
          replace hv2_0 := hv2_0.mono (gz_mono hH hle88)
          replace hv56_0 := hv56_0.mono (gz_mono hH hle88)
          replace hv86 := hv86.mono (gz_mono hH hle88)
          refine S_guarded rfl rfl hg84 ?_
          obtain ⟨x89, hb89, h⟩ := Go.L.bind_some h
          refine S_callL rfl rfl hL88 (ref4_SameHits_ok _ _ (gz_le hH hL88) hv56_0 hv88_0 hb89) ?_
          rintro _ w90 rfl hx90 hL90 hle90
          replace hv2_0 := hv2_0.mono (gz_mono hH hle90)
          replace hv56_0 := hv56_0.mono (gz_mono hH hle90)
          replace hv86 := hv86.mono (gz_mono hH hle90)
          replace hv88_0 := hv88_0.mono (gz_mono hH hle90)
          refine S_guarded rfl rfl hg81 ?_
          refine S_v (r_pickT rfl hg84 rfl) rfl ?_
          refine S_v (r_pickF rfl hg81 rfl) rfl ?_
          refine S_pu 1 rfl ?_
          refine S_seqnil ?_
          refine W_ret ?_
          obtain rfl := Option.some.inj h
          refine At_body rfl rfl ?_
          exact ⟨hL90.ext, rfl⟩
         ·replace h := Go.L.ite_n (of_decide_eq_false hg84) h
          refine S_unwanted rfl rfl hg84 rfl ?_
          refine S_unwanted rfl rfl hg84 rfl ?_
          refine S_unwanted rfl rfl hg84 rfl ?_
          refine S_unwanted rfl rfl hg84 rfl ?_
          refine S_unwanted rfl rfl hg84 rfl ?_
          refine S_unwanted rfl rfl hg84 rfl ?_
          refine S_guarded rfl rfl hg81 ?_
          refine S_v (r_pickF rfl hg84 rfl) rfl ?_
          refine S_v (r_pickF rfl hg81 rfl) rfl ?_
          refine S_pu 1 rfl ?_
          refine S_seqnil ?_
          refine W_ret ?_
          obtain rfl := Option.some.inj h
          refine At_body rfl rfl ?_
          exact ⟨hL75.ext, rfl⟩
       ·replace h := Go.L.ite_p (not_dec_f hg79) h
        refine S_unwanted rfl rfl hg79 rfl ?_
        refine S_unwanted rfl rfl hg79 rfl ?_
        refine S_unwanted rfl rfl hg79 rfl ?_
        refine S_v (r_pickF rfl hg79 rfl) rfl ?_
        refine S_pu 1 rfl ?_
        refine S_guarded rfl rfl rfl ?_
        refine S_v (r_field rfl Tryd.underlying25 rfl zr3 (by decide)) rfl ?_
        refine S_guarded rfl rfl rfl ?_
        refine S_v (r_loadB1 1 rfl Tryd.underlying3 rfl hL75 rfl rfl) rfl ?_
        refine S_guarded rfl rfl rfl ?_
        refine S_v (RunsAt_pu rfl) rfl ?_
        refine S_guarded rfl rfl rfl ?_
        refine S_v (RunsAt_pu rfl) rfl ?_
        refine S_split (s := 84) rfl (fun hg93 => ?_) (fun hg93 => ?_)
        ·replace h := Go.L.ite_p (of_decide_eq_true hg93) h
         refine S_guarded rfl rfl hg93 ?_
         refine S_v (RunsAt_pu rfl) rfl ?_
         refine S_guarded rfl rfl hg93 ?_
         refine S_v (RunsAt_pu rfl) rfl ?_
         refine S_guarded rfl rfl hg93 ?_
         refine S_v (RunsAt_pu rfl) rfl ?_
         refine S_guarded rfl rfl hg93 ?_
         refine S_litE (r := .st) (l := [a1]) rfl (fun _ => bsl38_1 _ rfl _) rfl (show 1 ≤ 9223372036854775807 by decide) hH hL75 (.c1 rfl .nil) ?_
         intro v95 w95 hx95 hL95 hle95 hv95
         replace hv2_0 := hv2_0.mono (gz_mono hH hle95)
         replace hv56_0 := hv56_0.mono (gz_mono hH hle95)
         refine S_guarded rfl rfl hg93 ?_
         obtain ⟨x96, hb96, h⟩ := Go.L.bind_some h
         refine S_callL rfl rfl hL95 (ref4_Hits_ok _ _ (gz_le hH hL95) (h0_0.mono (gz_left hH)) hv95 hb96) ?_
         rintro u97_0 w97 ⟨_, rfl, hR97_0⟩ hx97 hL97 hle97
         have hv97_0 := hR97_0.vecG hH hL95 hx97
         replace hv2_0 := hv2_0.mono (gz_mono hH hle97)
         replace hv56_0 := hv56_0.mono (gz_mono hH hle97)
         replace hv95 := hv95.mono (gz_mono hH hle97)
         refine S_guarded rfl rfl hg93 ?_
         obtain ⟨x98, hb98, h⟩ := Go.L.bind_some h
         refine S_callL rfl rfl hL97 (ref4_SameHits_ok _ _ (gz_le hH hL97) hv56_0 hv97_0 hb98) ?_
         rintro _ w99 rfl hx99 hL99 hle99
         replace hv2_0 := hv2_0.mono (gz_mono hH hle99)
         replace hv56_0 := hv56_0.mono (gz_mono hH hle99)
         replace hv95 := hv95.mono (gz_mono hH hle99)
         replace hv97_0 := hv97_0.mono (gz_mono hH hle99)
         refine S_guarded rfl rfl rfl ?_
         refine S_v (r_pickT rfl hg93 rfl) rfl ?_
         refine S_v (r_pickF rfl rfl rfl) rfl ?_
         refine S_pu 1 rfl ?_
         refine S_seqnil ?_
         refine W_ret ?_
         obtain rfl := Option.some.inj h
         refine At_body rfl rfl ?_
         exact ⟨hL99.ext, rfl⟩
        ·replace h := Go.L.ite_n (of_decide_eq_false hg93) h
         refine S_unwanted rfl rfl hg93 rfl ?_
         refine S_unwanted rfl rfl hg93 rfl ?_
         refine S_unwanted rfl rfl hg93 rfl ?_
         refine S_unwanted rfl rfl hg93 rfl ?_
         refine S_unwanted rfl rfl hg93 rfl ?_
         refine S_unwanted rfl rfl hg93 rfl ?_
         refine S_guarded rfl rfl rfl ?_
         refine S_v (r_pickF rfl hg93 rfl) rfl ?_
         refine S_v (r_pickF rfl rfl rfl) rfl ?_
         refine S_pu 1 rfl ?_
         refine S_seqnil ?_
         refine W_ret ?_
         obtain rfl := Option.some.inj h
         refine At_body rfl rfl ?_
         exact ⟨hL75.ext, rfl⟩
end Go.Proofs.YtdiieblgeaehpaaDoor
