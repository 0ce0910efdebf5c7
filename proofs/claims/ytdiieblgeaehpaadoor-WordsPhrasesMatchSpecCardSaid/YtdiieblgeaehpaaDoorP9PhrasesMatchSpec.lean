/- Generated walk: a law of words. -/
import Derived.Test.YtdiieblgeaehpaaDoorP8
import Derived.KernelRfl
namespace Go.Proofs.YtdiieblgeaehpaaDoor
open Go Go.E Go.RowKit
set_option maxHeartbeats 1000000
set_option maxRecDepth 10000
open _root_.Go.Proofs.Tryd
noncomputable def law4_WordsPhrasesMatchSpec_k9 (s6_407 : Bool) : Option (Bool) :=
 some (s6_407)
noncomputable def law4_WordsPhrasesMatchSpec_k8 (a0 : List (List UInt8)) (a1 : List (List UInt8)) (a2 : Int) (c264 : Int) (c265 : Int) (s13_266 : List Int) (c348 : Int) (c349 : Int) : Option (Bool) :=
 if c264 = c348 ∧ c265 = c349 then if c348 = (0 : Int) then if c348 = (0 : Int) then Go.L.chk (0 ≤ (0 : Int) ∧ (0 : Int) < (a1.length : Int)) (Go.L.chk (0 ≤ (1 : Int) ∧ (1 : Int) < (a1.length : Int)) (Option.bind (ref4_Near a0 (a1.getD ((0 : Int).toNat) default) (a1.getD ((1 : Int).toNat) default) a2) (fun x442 => Option.bind (ref3_Ints s13_266 x442) (fun x444 => law4_WordsPhrasesMatchSpec_k9 x444)))) else law4_WordsPhrasesMatchSpec_k9 false else if (s13_266.length : Int) = (0 : Int) then law4_WordsPhrasesMatchSpec_k9 true else if c348 = (0 : Int) then Go.L.chk (0 ≤ (0 : Int) ∧ (0 : Int) < (a1.length : Int)) (Go.L.chk (0 ≤ (1 : Int) ∧ (1 : Int) < (a1.length : Int)) (Option.bind (ref4_Near a0 (a1.getD ((0 : Int).toNat) default) (a1.getD ((1 : Int).toNat) default) a2) (fun x426 => Option.bind (ref3_Ints s13_266 x426) (fun x428 => law4_WordsPhrasesMatchSpec_k9 x428)))) else law4_WordsPhrasesMatchSpec_k9 false else law4_WordsPhrasesMatchSpec_k9 false
noncomputable def law4_WordsPhrasesMatchSpec_k7 (a0 : List (List UInt8)) (a1 : List (List UInt8)) (a2 : Int) (c264 : Int) (c265 : Int) (s13_266 : List Int) (c314 : Int) (c315 : Int) : Option (Bool) :=
 if c314 = (0 : Int) then Option.bind (ref3_In a2 (1 : Int) (2048 : Int)) (fun x354 => if !x354 then Option.bind (ref3_At (4 : Int) (-3 : Int)) (fun x358 => (law4_WordsPhrasesMatchSpec_k8 a0 a1 a2 c264 c265 s13_266) x358.1 x358.2) else (law4_WordsPhrasesMatchSpec_k8 a0 a1 a2 c264 c265 s13_266) c314 c315) else (law4_WordsPhrasesMatchSpec_k8 a0 a1 a2 c264 c265 s13_266) c314 c315
noncomputable def law4_WordsPhrasesMatchSpec_k6 (a0 : List (List UInt8)) (a1 : List (List UInt8)) (a2 : Int) (c264 : Int) (c265 : Int) (s13_266 : List Int) : Option (Bool) :=
 Go.L.chk (0 ≤ (0 : Int) ∧ (0 : Int) < (a1.length : Int)) (Option.bind (ref4_WordFault (a1.getD ((0 : Int).toNat) default)) (fun x293 => if x293.1 = (0 : Int) then Go.L.chk (0 ≤ (1 : Int) ∧ (1 : Int) < (a1.length : Int)) (Option.bind (ref4_WordFault (a1.getD ((1 : Int).toNat) default)) (fun x322 => if x322.1 = (0 : Int) then (law4_WordsPhrasesMatchSpec_k7 a0 a1 a2 c264 c265 s13_266) x293.1 x293.2 else Go.L.chk (0 ≤ (1 : Int) ∧ (1 : Int) < (a1.length : Int)) (Option.bind (ref4_WordFault (a1.getD ((1 : Int).toNat) default)) (fun x328 => Option.bind (ref3_At x328.1 (-2 : Int)) (fun x330 => (law4_WordsPhrasesMatchSpec_k7 a0 a1 a2 c264 c265 s13_266) x330.1 x330.2))))) else (law4_WordsPhrasesMatchSpec_k7 a0 a1 a2 c264 c265 s13_266) x293.1 x293.2))
noncomputable def law4_WordsPhrasesMatchSpec_k5 (a0 : List (List UInt8)) (a1 : List (List UInt8)) (a2 : Int) (x1 : (Int × (List ((List UInt8) × (List (Int × Int))))) × (Int × Int)) : Option (Bool) :=
 if (a1.length : Int) < (2 : Int) then some (true) else Go.L.chk (0 ≤ (0 : Int) ∧ (0 : Int) < (a1.length : Int)) (Go.L.chk (0 ≤ (1 : Int) ∧ (1 : Int) < (a1.length : Int)) (Option.bind (words_Index_Near (x1.1.1, x1.1.2) (a1.getD ((0 : Int).toNat) default) (a1.getD ((1 : Int).toNat) default) a2) (fun x275 => (law4_WordsPhrasesMatchSpec_k6 a0 a1 a2) x275.2.1 x275.2.2 x275.1)))
noncomputable def law4_WordsPhrasesMatchSpec_k3 (a0 : List (List UInt8)) (a1 : List (List UInt8)) (a2 : Int) (x1 : (Int × (List ((List UInt8) × (List (Int × Int))))) × (Int × Int)) (x55 : (List (Int × Int)) × (Int × Int)) (c131 : Int) (c132 : Int) : Option (Bool) :=
 if x55.2.1 = c131 ∧ x55.2.2 = c132 then if c131 = (0 : Int) then if c131 = (0 : Int) then Option.bind (ref4_Hits a0 a1) (fun x229 => Option.bind (ref4_SameHits x55.1 x229) (fun x231 => if !x231 then some (false) else (law4_WordsPhrasesMatchSpec_k5 a0 a1 a2 x1))) else (law4_WordsPhrasesMatchSpec_k5 a0 a1 a2 x1) else if (0 : Int) < (x55.1.length : Int) then some (false) else if c131 = (0 : Int) then Option.bind (ref4_Hits a0 a1) (fun x218 => Option.bind (ref4_SameHits x55.1 x218) (fun x220 => if !x220 then some (false) else (law4_WordsPhrasesMatchSpec_k5 a0 a1 a2 x1))) else (law4_WordsPhrasesMatchSpec_k5 a0 a1 a2 x1) else some (false)
noncomputable def law4_WordsPhrasesMatchSpec_bl4 (a0 : List (List UInt8)) (a1 : List (List UInt8)) (a2 : Int) (x1 : (Int × (List ((List UInt8) × (List (Int × Int))))) × (Int × Int)) (x55 : (List (Int × Int)) × (Int × Int)) : Int × Int × Int → Option ((Int × Int × Int) ⊕ (Bool)) := fun ⟨c153, c154, s12_155⟩ =>
 if s12_155 < (a1.length : Int) then if c153 = (0 : Int) then Go.L.chk (0 ≤ s12_155 ∧ s12_155 < (a1.length : Int)) (Option.bind (ref4_WordFault (a1.getD s12_155.toNat default)) (fun x164 => if x164.1 = (0 : Int) then Go.L.chk (Go.L.I64 (s12_155 + (1 : Int))) (some (Sum.inl (x164.1, c154, (s12_155 + (1 : Int))))) else Go.L.chk (Go.L.I64 (s12_155 + (1 : Int))) (some (Sum.inl (x164.1, s12_155, (s12_155 + (1 : Int))))))) else Option.map Sum.inr ((law4_WordsPhrasesMatchSpec_k3 a0 a1 a2 x1 x55) c153 c154) else Option.map Sum.inr ((law4_WordsPhrasesMatchSpec_k3 a0 a1 a2 x1 x55) c153 c154)
noncomputable def law4_WordsPhrasesMatchSpec_l4 (a0 : List (List UInt8)) (a1 : List (List UInt8)) (a2 : Int) (x1 : (Int × (List ((List UInt8) × (List (Int × Int))))) × (Int × Int)) (x55 : (List (Int × Int)) × (Int × Int)) (s : Int × Int × Int) : Option (Bool) := Go.L.run (law4_WordsPhrasesMatchSpec_bl4 a0 a1 a2 x1 x55) s
noncomputable def law4_WordsPhrasesMatchSpec_k2 (a0 : List (List UInt8)) (a1 : List (List UInt8)) (a2 : Int) (x1 : (Int × (List ((List UInt8) × (List (Int × Int))))) × (Int × Int)) (x55 : (List (Int × Int)) × (Int × Int)) (c74 : Int) (c75 : Int) : Option (Bool) :=
 (law4_WordsPhrasesMatchSpec_l4 a0 a1 a2 x1 x55) (c74, c75, (0 : Int))
noncomputable def law4_WordsPhrasesMatchSpec_k1 (a0 : List (List UInt8)) (a1 : List (List UInt8)) (a2 : Int) (x1 : (Int × (List ((List UInt8) × (List (Int × Int))))) × (Int × Int)) : Option (Bool) :=
 Option.bind (words_Index_Phrase (x1.1.1, x1.1.2) a1) (fun x55 => if (a1.length : Int) = (0 : Int) then Option.bind (ref3_At (10 : Int) (-1 : Int)) (fun x80 => (law4_WordsPhrasesMatchSpec_k2 a0 a1 a2 x1 x55) x80.1 x80.2) else (if (16 : Int) < (a1.length : Int) then Option.bind (ref3_At (2 : Int) (-1 : Int)) (fun x86 => (law4_WordsPhrasesMatchSpec_k2 a0 a1 a2 x1 x55) x86.1 x86.2) else (law4_WordsPhrasesMatchSpec_k2 a0 a1 a2 x1 x55) (0 : Int) (0 : Int)))
noncomputable def law4_WordsPhrasesMatchSpec (a0 : List (List UInt8)) (a1 : List (List UInt8)) (a2 : Int) : Option (Bool) :=
 Option.bind (words_Build a0) (fun x1 => Option.bind (law4_speaks) (fun x32 => if !x32 then Option.bind (law4_speaks) (fun x36 => if x36 then Option.bind (words_Index_Items (x1.1.1, x1.1.2)) (fun x40 => some (decide (x40 = (0 : Int)))) else some (false)) else if x1.2.1 = (0 : Int) then (law4_WordsPhrasesMatchSpec_k1 a0 a1 a2 x1) else Option.bind (law4_speaks) (fun x46 => if x46 then Option.bind (words_Index_Items (x1.1.1, x1.1.2)) (fun x50 => some (decide (x50 = (0 : Int)))) else some (false))))

theorem law4_WordsPhrasesMatchSpec_ok (w : World) (H : PH) (hH : Le H (hp w)) (hU : Utab H) {a0 : List (List UInt8)} {a1 : List (List UInt8)} {a2 : Int} {v0_0 : Value} {v1_0 : Value} (h0_0 : Vec (.vec .byte) H v0_0 (a0)) (h1_0 : Vec .st H v1_0 (a1)) {r : Bool} (h : law4_WordsPhrasesMatchSpec a0 a1 a2 = some r) :
  Ok Tryd.prog 5 [v0_0, v1_0, .int .i64 a2] w (fun v w' => Ext w w' ∧ v = .bool r) := by
 refine Ok_enter (n := 173) [(0, v0_0), (1, v1_0), (2, .int .i64 a2)] func5 rfl rfl rfl rfl rfl ?_
 have hL := Lcl.start w
 refine W_pz 1 rfl ?_
 refine W_p 1 rfl ?_
 obtain ⟨x1, hb1, h⟩ := Go.L.bind_some h
 refine S_callL rfl rfl hL (words_Build_ok _ _ (gz_le hH hL) (hU.mono (gz_left hH)) (h0_0.mono (gz_left hH)) hb1) ?_
 rintro _ w2 ⟨u2_0, rfl, hR2_0⟩ hx2 hL2 hle2
 have hv2_0 := hR2_0.mono (gz_nw hH hL hx2)
 refine S_pu 3 rfl ?_
 refine S_alloc zr41 rfl rfl hL2 ?_
 intro w3 b3 hL3 hle3 _
 replace hv2_0 := hv2_0.mono (gz_mono hH hle3)
 refine S_alloc zr25 rfl rfl hL3 ?_
 intro w4 b4 hL4 hle4 _
 replace hv2_0 := hv2_0.mono (gz_mono hH hle4)
 refine S_storeBN 1 rfl rfl rfl zr41 hL4 rfl rfl (onc rfl (onc hv2_0.one on0)) ?_
 intro w5 hL5 hle5
 replace hv2_0 := hv2_0.mono (gz_mono hH hle5)
 refine S_storeBN 0 rfl rfl rfl zr25 hL5 rfl rfl (onc rfl (onc rfl on0)) ?_
 intro w6 hL6 hle6
 replace hv2_0 := hv2_0.mono (gz_mono hH hle6)
 refine S_seqnil ?_
 refine W_cut (σ := Unit) (fun (_ : Unit) => [(0, v0_0), (1, v1_0), (2, .int .i64 a2), (7, .pointer (some ⟨b3, 0, none⟩))]) (fun (_ : Unit) wr => InO w [.box b4 [.int .i64 x1.2.1, .int .i64 x1.2.2] 25, .box b3 [.int .i64 x1.1.1, u2_0] 41] wr fun Oz => Vec (.pair .st (.vec (.pair (.int .i64) (.int .i64)))) (gz H w wr Oz) (u2_0) (x1.1.2) ∧ (law4_WordsPhrasesMatchSpec_k1 a0 a1 a2 x1) = some r) ?_ ?_
 ·refine W_seqr ?_
  obtain ⟨x32, hb32, h⟩ := Go.L.bind_some h
  refine S_callL rfl rfl hL6 (law4_speaks_ok _ _ (gz_le hH hL6) (hU.mono (gz_left hH)) hb32) ?_
  rintro _ w33 rfl hx33 hL33 hle33
  replace hv2_0 := hv2_0.mono (gz_mono hH hle33)
  refine S_pu 2 rfl ?_
  refine S_split (s := 22) rfl (fun hg34 => ?_) (fun hg34 => ?_)
  ·replace h := Go.L.ite_t hg34 h
   iterate 3 refine S_unwanted rfl rfl hg34 rfl ?_
   refine S_v (r_pickT rfl hg34 rfl) rfl ?_
   refine S_seqnil ?_
   refine W_true rfl ?_
   refine W_seqr ?_
   obtain ⟨x36, hb36, h⟩ := Go.L.bind_some h
   refine S_callL rfl rfl hL33 (law4_speaks_ok _ _ (gz_le hH hL33) (hU.mono (gz_left hH)) hb36) ?_
   rintro _ w37 rfl hx37 hL37 hle37
   replace hv2_0 := hv2_0.mono (gz_mono hH hle37)
   refine S_pu 1 rfl ?_
   refine S_split (s := 28) rfl (fun hg38 => ?_) (fun hg38 => ?_)
   ·replace h := Go.L.ite_t hg38 h
    refine S_guarded rfl rfl hg38 ?_
    refine S_v (r_loadBN 1 rfl underlying41 rfl zr41 hL37 rfl) rfl ?_
    refine S_guarded rfl rfl hg38 ?_
    obtain ⟨x40, hb40, h⟩ := Go.L.bind_some h
    refine S_callL rfl rfl hL37 (words_Index_Items_ok _ _ (gz_le hH hL37) hv2_0 hb40) ?_
    rintro _ w41 rfl hx41 hL41 hle41
    replace hv2_0 := hv2_0.mono (gz_mono hH hle41)
    refine S_guarded rfl rfl hg38 ?_
    refine S_v (RunsAt_pu rfl) rfl ?_
    refine S_v (r_pickT rfl hg38 rfl) rfl ?_
    refine S_pz 1 rfl ?_
    refine W_ret ?_
    refine At_cut_ret ?_
    obtain rfl := Option.some.inj h
    refine At_body rfl rfl ?_
    exact ⟨hL41.ext, rfl⟩
   ·replace h := Go.L.ite_f hg38 h
    iterate 3 refine S_unwanted rfl rfl hg38 rfl ?_
    refine S_v (r_pickF rfl hg38 rfl) rfl ?_
    refine S_pz 1 rfl ?_
    refine W_ret ?_
    refine At_cut_ret ?_
    obtain rfl := Option.some.inj h
    refine At_body rfl rfl ?_
    exact ⟨hL37.ext, rfl⟩
  ·replace h := Go.L.ite_f hg34 h
   refine S_guarded rfl rfl hg34 ?_
   refine S_v (r_field rfl underlying25 rfl zr3 (by decide)) rfl ?_
   refine S_guarded rfl rfl hg34 ?_
   refine S_v (r_loadB1 0 rfl underlying3 rfl hL33 rfl rfl) rfl ?_
   refine S_guarded rfl rfl hg34 ?_
   refine S_v (RunsAt_pu rfl) rfl ?_
   refine S_v (r_pickF rfl hg34 rfl) rfl ?_
   refine S_seqnil ?_
   refine W_ifn rfl (fun hc44 => ?_) (fun hc44 => ?_)
   ·replace h := Go.L.ite_n hc44 h
    refine W_seqr ?_
    obtain ⟨x46, hb46, h⟩ := Go.L.bind_some h
    refine S_callL rfl rfl hL33 (law4_speaks_ok _ _ (gz_le hH hL33) (hU.mono (gz_left hH)) hb46) ?_
    rintro _ w47 rfl hx47 hL47 hle47
    replace hv2_0 := hv2_0.mono (gz_mono hH hle47)
    refine S_pu 1 rfl ?_
    refine S_split (s := 28) rfl (fun hg48 => ?_) (fun hg48 => ?_)
    ·replace h := Go.L.ite_t hg48 h
     refine S_guarded rfl rfl hg48 ?_
     refine S_v (r_loadBN 1 rfl underlying41 rfl zr41 hL47 rfl) rfl ?_
     refine S_guarded rfl rfl hg48 ?_
     obtain ⟨x50, hb50, h⟩ := Go.L.bind_some h
     refine S_callL rfl rfl hL47 (words_Index_Items_ok _ _ (gz_le hH hL47) hv2_0 hb50) ?_
     rintro _ w51 rfl hx51 hL51 hle51
     replace hv2_0 := hv2_0.mono (gz_mono hH hle51)
     refine S_guarded rfl rfl hg48 ?_
     refine S_v (RunsAt_pu rfl) rfl ?_
     refine S_v (r_pickT rfl hg48 rfl) rfl ?_
     refine S_pz 1 rfl ?_
     refine W_ret ?_
     refine At_cut_ret ?_
     obtain rfl := Option.some.inj h
     refine At_body rfl rfl ?_
     exact ⟨hL51.ext, rfl⟩
    ·replace h := Go.L.ite_f hg48 h
     iterate 3 refine S_unwanted rfl rfl hg48 rfl ?_
     refine S_v (r_pickF rfl hg48 rfl) rfl ?_
     refine S_pz 1 rfl ?_
     refine W_ret ?_
     refine At_cut_ret ?_
     obtain rfl := Option.some.inj h
     refine At_body rfl rfl ?_
     exact ⟨hL47.ext, rfl⟩
   ·replace h := Go.L.ite_p hc44 h
    refine W_skip ?_
    refine At_cut () (.cons rfl (.cons rfl (.cons rfl (.cons rfl (Sub.nil _))))) ⟨hL33, hv2_0, h⟩
 ·rintro _ wr30 ⟨hL30, hf30_0, h⟩
  refine W_seqr ?_
  refine S_v (r_loadBN 1 rfl underlying41 rfl zr41 hL30 rfl) rfl ?_
  refine S_pu 1 rfl ?_
  obtain ⟨x55, hb55, h⟩ := Go.L.bind_some h
  refine S_callL rfl rfl hL30 (words_Index_Phrase_ok _ _ (gz_le hH hL30) (hU.mono (gz_left hH)) hf30_0 (h1_0.mono (gz_left hH)) hb55) ?_
  rintro _ w56 ⟨u56_0, rfl, hR56_0⟩ hx56 hL56 hle56
  have hv56_0 := hR56_0.vecG hH hL30 hx56
  replace hf30_0 := hf30_0.mono (gz_mono hH hle56)
  refine S_pu 3 rfl ?_
  refine S_alloc zr25 rfl rfl hL56 ?_
  intro w57 b57 hL57 hle57 _
  replace hf30_0 := hf30_0.mono (gz_mono hH hle57)
  replace hv56_0 := hv56_0.mono (gz_mono hH hle57)
  refine S_pu 1 rfl ?_
  refine S_storeBN 0 rfl rfl rfl zr25 hL57 rfl rfl (onc rfl (onc rfl on0)) ?_
  intro w58 hL58 hle58
  replace hf30_0 := hf30_0.mono (gz_mono hH hle58)
  replace hv56_0 := hv56_0.mono (gz_mono hH hle58)
  refine S_seqnil ?_
  refine W_seqr ?_
  refine S_v (r_build rfl (fun _ => bld25_z _)) rfl ?_
  refine S_alloc zr25 rfl rfl hL58 ?_
  intro w59 b59 hL59 hle59 _
  replace hf30_0 := hf30_0.mono (gz_mono hH hle59)
  replace hv56_0 := hv56_0.mono (gz_mono hH hle59)
  refine S_storeBN 0 rfl rfl rfl zr25 hL59 rfl rfl (onc rfl (onc rfl on0)) ?_
  intro w60 hL60 hle60
  replace hf30_0 := hf30_0.mono (gz_mono hH hle60)
  replace hv56_0 := hv56_0.mono (gz_mono hH hle60)
  refine S_seqnil ?_
  refine W_cut (σ := Int × Int) (fun ⟨c74, c75⟩ => [(0, v0_0), (1, v1_0), (2, .int .i64 a2), (7, .pointer (some ⟨b3, 0, none⟩)), (9, u56_0), (10, .pointer (some ⟨b57, 0, none⟩)), (11, .pointer (some ⟨b59, 0, none⟩))]) (fun ⟨c74, c75⟩ wr => InO w [.box b59 [.int .i64 c74, .int .i64 c75] 25, .box b57 [.int .i64 x55.2.1, .int .i64 x55.2.2] 25, .box b4 [.int .i64 x1.2.1, .int .i64 x1.2.2] 25, .box b3 [.int .i64 x1.1.1, u2_0] 41] wr fun Oz => Vec (.pair (.int .i64) (.int .i64)) (gz H w wr Oz) (u56_0) (x55.1) ∧ Vec (.pair .st (.vec (.pair (.int .i64) (.int .i64)))) (gz H w wr Oz) (u2_0) (x1.1.2) ∧ (law4_WordsPhrasesMatchSpec_k2 a0 a1 a2 x1 x55) c74 c75 = some r) ?_ ?_
  ·refine W_p 1 rfl ?_
   refine S_v (r_len rfl underlying38 h1_0) rfl ?_
   refine S_pz 1 rfl ?_
   refine W_if rfl (fun hc78 => ?_) (fun hc78 => ?_)
   ·replace h := Go.L.ite_p hc78 h
    refine W_region ?_
    obtain ⟨x80, hb80, h⟩ := Go.L.bind_some h
    refine S_callL rfl rfl hL60 (ref3_At_ok _ _ (gz_le hH hL60) hb80) ?_
    rintro _ w81 rfl hx81 hL81 hle81
    replace hf30_0 := hf30_0.mono (gz_mono hH hle81)
    replace hv56_0 := hv56_0.mono (gz_mono hH hle81)
    refine S_storeBN 0 rfl rfl rfl zr25 hL81 rfl rfl (onc rfl (onc rfl on0)) ?_
    intro w82 hL82 hle82
    replace hf30_0 := hf30_0.mono (gz_mono hH hle82)
    replace hv56_0 := hv56_0.mono (gz_mono hH hle82)
    refine S_nil ?_
    refine At_cut (x80.1, x80.2) (.cons rfl (.cons rfl (.cons rfl (.cons rfl (.cons rfl (.cons rfl (.cons rfl (Sub.nil _)))))))) ⟨hL82, hv56_0, hf30_0, h⟩
   ·replace h := Go.L.ite_n hc78 h
    refine W_p 1 rfl ?_
    refine S_v (r_len rfl underlying38 h1_0) rfl ?_
    refine S_pz 1 rfl ?_
    refine W_if rfl (fun hc84 => ?_) (fun hc84 => ?_)
    ·replace h := Go.L.ite_p hc84 h
     refine W_region ?_
     obtain ⟨x86, hb86, h⟩ := Go.L.bind_some h
     refine S_callL rfl rfl hL60 (ref3_At_ok _ _ (gz_le hH hL60) hb86) ?_
     rintro _ w87 rfl hx87 hL87 hle87
     replace hf30_0 := hf30_0.mono (gz_mono hH hle87)
     replace hv56_0 := hv56_0.mono (gz_mono hH hle87)
     refine S_storeBN 0 rfl rfl rfl zr25 hL87 rfl rfl (onc rfl (onc rfl on0)) ?_
     intro w88 hL88 hle88
     replace hf30_0 := hf30_0.mono (gz_mono hH hle88)
     replace hv56_0 := hv56_0.mono (gz_mono hH hle88)
     refine S_nil ?_
     refine At_cut (x86.1, x86.2) (.cons rfl (.cons rfl (.cons rfl (.cons rfl (.cons rfl (.cons rfl (.cons rfl (Sub.nil _)))))))) ⟨hL88, hv56_0, hf30_0, h⟩
    ·replace h := Go.L.ite_n hc84 h
     refine W_skip ?_
     refine At_cut ((0 : Int), (0 : Int)) (.cons rfl (.cons rfl (.cons rfl (.cons rfl (.cons rfl (.cons rfl (.cons rfl (Sub.nil _)))))))) ⟨hL60, hv56_0, hf30_0, h⟩
  ·rintro ⟨c74, c75⟩ wr76 ⟨hL76, hf76_0, hf76_1, h⟩
   refine W_cut (σ := Int × Int) (fun ⟨c131, c132⟩ => [(0, v0_0), (1, v1_0), (2, .int .i64 a2), (7, .pointer (some ⟨b3, 0, none⟩)), (9, u56_0), (10, .pointer (some ⟨b57, 0, none⟩)), (11, .pointer (some ⟨b59, 0, none⟩))]) (fun ⟨c131, c132⟩ wr => InO w [.box b59 [.int .i64 c131, .int .i64 c132] 25, .box b57 [.int .i64 x55.2.1, .int .i64 x55.2.2] 25, .box b4 [.int .i64 x1.2.1, .int .i64 x1.2.2] 25, .box b3 [.int .i64 x1.1.1, u2_0] 41] wr fun Oz => Vec (.pair (.int .i64) (.int .i64)) (gz H w wr Oz) (u56_0) (x55.1) ∧ Vec (.pair .st (.vec (.pair (.int .i64) (.int .i64)))) (gz H w wr Oz) (u2_0) (x1.1.2) ∧ (law4_WordsPhrasesMatchSpec_k3 a0 a1 a2 x1 x55) c131 c132 = some r) ?_ ?_
   ·refine W_pz 1 rfl ?_
    refine W_block ?_
    obtain ⟨n156, h⟩ := Go.L.run_some h
    refine W_loop (σ := Int × Int × Int × Nat) (fun ⟨c153, c154, s12_155, n⟩ => [(0, v0_0), (1, v1_0), (2, .int .i64 a2), (7, .pointer (some ⟨b3, 0, none⟩)), (9, u56_0), (10, .pointer (some ⟨b57, 0, none⟩)), (11, .pointer (some ⟨b59, 0, none⟩)), (12, .int .i64 s12_155)]) (fun ⟨c153, c154, s12_155, n⟩ wr => InO w [.box b59 [.int .i64 c153, .int .i64 c154] 25, .box b57 [.int .i64 x55.2.1, .int .i64 x55.2.2] 25, .box b4 [.int .i64 x1.2.1, .int .i64 x1.2.2] 25, .box b3 [.int .i64 x1.1.1, u2_0] 41] wr fun Oz => Vec (.pair (.int .i64) (.int .i64)) (gz H w wr Oz) (u56_0) (x55.1) ∧ Vec (.pair .st (.vec (.pair (.int .i64) (.int .i64)))) (gz H w wr Oz) (u2_0) (x1.1.2) ∧ Go.L.itr (law4_WordsPhrasesMatchSpec_bl4 a0 a1 a2 x1 x55) n (c153, c154, s12_155) = some r) (fun ⟨c153, c154, s12_155, n⟩ => n) (c74, c75, (0 : Int), n156) (.cons rfl (.cons rfl (.cons rfl (.cons rfl (.cons rfl (.cons rfl (.cons rfl (.cons rfl (Sub.nil _))))))))) ⟨hL76, hf76_0, hf76_1, h⟩ ?_
    rintro ⟨c153, c154, s12_155, nn156⟩ wr156 ⟨hL156, hf156_0, hf156_1, h⟩
    obtain ⟨n156, e156, rfl, h, hm156⟩ := Go.L.itr_some h
    refine W_seq ?_
    refine W_p 2 rfl ?_
    refine S_v (r_len rfl underlying38 h1_0) rfl ?_
    refine S_pu 2 rfl ?_
    refine S_split (s := 52) rfl (fun hg158 => ?_) (fun hg158 => ?_)
    ·replace h := Go.L.ite_p (of_decide_eq_true hg158) h
     refine S_guarded rfl rfl hg158 ?_
     refine S_v (r_field rfl underlying25 rfl zr3 (by decide)) rfl ?_
     refine S_guarded rfl rfl hg158 ?_
     refine S_v (r_loadB1 0 rfl underlying3 rfl hL156 rfl rfl) rfl ?_
     refine S_guarded rfl rfl hg158 ?_
     refine S_v (RunsAt_pu rfl) rfl ?_
     refine S_v (r_pickT rfl hg158 rfl) rfl ?_
     refine S_seqnil ?_
     refine W_if rfl (fun hc160 => ?_) (fun hc160 => ?_)
     ·replace h := Go.L.ite_p hc160 h
      refine W_skip ?_
      refine At_seq ?_
      refine W_seq ?_
      refine W_block ?_
      refine W_p 2 rfl ?_
      obtain ⟨hk163, h⟩ := Go.L.chk_some h
      refine S_index rfl rfl underlying38 zr9 h1_0 s12_155.toNat (Int.toNat_of_nonneg hk163.1).symm (idx_lt hk163) rfl ?_
      rintro p162 _ rfl hp162
      refine S_v (r_load1 rfl underlying9 rfl hp162 (hH.trans hL156.arg)) rfl ?_
      obtain ⟨x164, hb164, h⟩ := Go.L.bind_some h
      refine S_callL rfl rfl hL156 (ref4_WordFault_ok _ _ (gz_le hH hL156) hb164) ?_
      rintro _ w165 rfl hx165 hL165 hle165
      replace hf156_0 := hf156_0.mono (gz_mono hH hle165)
      replace hf156_1 := hf156_1.mono (gz_mono hH hle165)
      refine S_v (r_part rfl underlying25 rfl underlying3 rfl rfl) rfl ?_
      refine S_v (r_field rfl underlying25 rfl zr3 (by decide)) rfl ?_
      refine S_storeB1 0 rfl rfl rfl zr3 hL165 rfl rfl ?_
      intro w166 hL166 hle166
      replace hf156_0 := hf156_0.mono (gz_mono hH hle166)
      replace hf156_1 := hf156_1.mono (gz_mono hH hle166)
      refine S_seqnil ?_
      refine W_seqr ?_
      refine S_v (r_field rfl underlying25 rfl zr3 (by decide)) rfl ?_
      refine S_v (r_loadB1 0 rfl underlying3 rfl hL166 rfl rfl) rfl ?_
      refine S_pz 1 rfl ?_
      refine W_ifn rfl (fun hc167 => ?_) (fun hc167 => ?_)
      ·replace h := Go.L.ite_n hc167 h
       refine W_region ?_
       refine S_pu 1 rfl ?_
       refine S_v (r_field rfl underlying25 rfl zr3 (by decide)) rfl ?_
       refine S_storeB1 0 rfl rfl rfl zr3 hL166 rfl rfl ?_
       intro w169 hL169 hle169
       replace hf156_0 := hf156_0.mono (gz_mono hH hle169)
       replace hf156_1 := hf156_1.mono (gz_mono hH hle169)
       refine S_nil ?_
       refine At_block ?_
       refine At_seq ?_
       refine W_region ?_
       refine S_pu 1 rfl ?_
       obtain ⟨hk170, h⟩ := Go.L.chk_some h
       refine S_v (r_ar64 rfl rfl rfl hk170) rfl ?_
       refine S_pu 1 rfl ?_
       refine S_nil ?_
       have h := Go.L.Nxt.again h hm156
       refine At_round (x164.1, s12_155, (s12_155 + (1 : Int)), n156) (.cons rfl (.cons rfl (.cons rfl (.cons rfl (.cons rfl (.cons rfl (.cons rfl (.cons rfl (Sub.nil _))))))))) ⟨hL169, hf156_0, hf156_1, h⟩ (Nat.lt_succ_self _)
      ·replace h := Go.L.ite_p hc167 h
       refine W_skip ?_
       refine At_block ?_
       refine At_seq ?_
       refine W_region ?_
       refine S_pu 1 rfl ?_
       obtain ⟨hk172, h⟩ := Go.L.chk_some h
       refine S_v (r_ar64 rfl rfl rfl hk172) rfl ?_
       refine S_pu 1 rfl ?_
       refine S_nil ?_
       have h := Go.L.Nxt.again h hm156
       refine At_round (x164.1, c154, (s12_155 + (1 : Int)), n156) (.cons rfl (.cons rfl (.cons rfl (.cons rfl (.cons rfl (.cons rfl (.cons rfl (.cons rfl (Sub.nil _))))))))) ⟨hL166, hf156_0, hf156_1, h⟩ (Nat.lt_succ_self _)
     ·replace h := Go.L.ite_n hc160 h
      refine W_exit ?_
      refine At_seq_exit ?_
      refine At_loop_exit ?_
      replace h := Go.L.Nxt.out h hm156
      refine At_exit ?_
      refine At_cut (c153, c154) (.cons rfl (.cons rfl (.cons rfl (.cons rfl (.cons rfl (.cons rfl (.cons rfl (Sub.nil _)))))))) ⟨hL156, hf156_0, hf156_1, h⟩
    ·replace h := Go.L.ite_n (of_decide_eq_false hg158) h
     iterate 3 refine S_unwanted rfl rfl hg158 rfl ?_
     refine S_v (r_pickF rfl hg158 rfl) rfl ?_
     refine S_seqnil ?_
     refine W_false rfl ?_
     refine W_exit ?_
     refine At_seq_exit ?_
     refine At_loop_exit ?_
     replace h := Go.L.Nxt.out h hm156
     refine At_exit ?_
     refine At_cut (c153, c154) (.cons rfl (.cons rfl (.cons rfl (.cons rfl (.cons rfl (.cons rfl (.cons rfl (Sub.nil _)))))))) ⟨hL156, hf156_0, hf156_1, h⟩
   ·rintro ⟨c131, c132⟩ wr133 ⟨hL133, hf133_0, hf133_1, h⟩
    refine W_cut (σ := Unit) (fun (_ : Unit) => [(0, v0_0), (1, v1_0), (2, .int .i64 a2), (7, .pointer (some ⟨b3, 0, none⟩)), (11, .pointer (some ⟨b59, 0, none⟩))]) (fun (_ : Unit) wr => InO w [.box b59 [.int .i64 c131, .int .i64 c132] 25, .box b57 [.int .i64 x55.2.1, .int .i64 x55.2.2] 25, .box b4 [.int .i64 x1.2.1, .int .i64 x1.2.2] 25, .box b3 [.int .i64 x1.1.1, u2_0] 41] wr fun Oz => Vec (.pair .st (.vec (.pair (.int .i64) (.int .i64)))) (gz H w wr Oz) (u2_0) (x1.1.2) ∧ (law4_WordsPhrasesMatchSpec_k5 a0 a1 a2 x1) = some r) ?_ ?_
    ·refine W_seqr ?_
     refine S_v (r_loadBN 1 rfl underlying25 rfl zr25 hL133 rfl) rfl ?_
     refine S_v (r_loadBN 0 rfl underlying25 rfl zr25 hL133 rfl) rfl ?_
     refine S_v (r_neA rfl rfl eqg25 (eq25 _ _ _ _ )) rfl ?_
     refine S_pu 1 rfl ?_
     refine S_split (s := 74) rfl (fun hg208 => ?_) (fun hg208 => ?_)
     ·replace h := Go.L.ite_n (not_dec_t hg208) h
      iterate 4 refine S_unwanted rfl rfl hg208 rfl ?_
      iterate 3 refine S_unwanted2 rfl rfl rfl ?_
      refine S_unwanted rfl rfl hg208 rfl ?_
      refine S_v (r_pickT rfl hg208 rfl) rfl ?_
      refine S_pu 1 rfl ?_
      iterate 4 refine S_unwanted rfl rfl rfl rfl ?_
      iterate 6 refine S_unwanted2 rfl rfl rfl ?_
      refine S_unwanted rfl rfl rfl rfl ?_
      refine S_v (r_pickT rfl rfl rfl) rfl ?_
      refine S_seqnil ?_
      refine W_true rfl ?_
      refine W_pz 1 rfl ?_
      refine W_ret ?_
      refine At_cut_ret ?_
      obtain rfl := Option.some.inj h
      refine At_body rfl rfl ?_
      exact ⟨hL133.ext, rfl⟩
     ·replace h := Go.L.ite_p (not_dec_f hg208) h
      refine S_guarded rfl rfl hg208 ?_
      refine S_v (r_field rfl underlying25 rfl zr3 (by decide)) rfl ?_
      refine S_guarded rfl rfl hg208 ?_
      refine S_v (r_loadB1 0 rfl underlying3 rfl hL133 rfl rfl) rfl ?_
      refine S_guarded rfl rfl hg208 ?_
      refine S_v (RunsAt_pu rfl) rfl ?_
      refine S_guarded rfl rfl hg208 ?_
      refine S_v (RunsAt_pu rfl) rfl ?_
      refine S_split (s := 78) rfl (fun hg211 => ?_) (fun hg211 => ?_)
      ·replace h := Go.L.ite_n (not_dec_t hg211) h
       refine S_guarded rfl rfl hg211 ?_
       refine S_v (RunsAt_pu rfl) rfl ?_
       refine S_guarded rfl rfl hg211 ?_
       refine S_v (r_len rfl underlying45 hf133_0) rfl ?_
       refine S_guarded rfl rfl hg211 ?_
       refine S_v (RunsAt_pu rfl) rfl ?_
       refine S_guarded rfl rfl hg208 ?_
       refine S_v (r_pickT rfl hg211 rfl) rfl ?_
       refine S_v (r_pickF rfl hg208 rfl) rfl ?_
       refine S_pu 1 rfl ?_
       refine S_split (s := 84) rfl (fun hg213 => ?_) (fun hg213 => ?_)
       ·replace h := Go.L.ite_p (of_decide_eq_true hg213) h
        iterate 4 refine S_unwanted rfl rfl hg213 rfl ?_
        iterate 6 refine S_unwanted2 rfl rfl rfl ?_
        refine S_unwanted rfl rfl hg213 rfl ?_
        refine S_v (r_pickT rfl hg213 rfl) rfl ?_
        refine S_seqnil ?_
        refine W_true rfl ?_
        refine W_pz 1 rfl ?_
        refine W_ret ?_
        refine At_cut_ret ?_
        obtain rfl := Option.some.inj h
        refine At_body rfl rfl ?_
        exact ⟨hL133.ext, rfl⟩
       ·replace h := Go.L.ite_n (of_decide_eq_false hg213) h
        refine S_guarded rfl rfl hg213 ?_
        refine S_v (r_field rfl underlying25 rfl zr3 (by decide)) rfl ?_
        refine S_guarded rfl rfl hg213 ?_
        refine S_v (r_loadB1 0 rfl underlying3 rfl hL133 rfl rfl) rfl ?_
        refine S_guarded rfl rfl hg213 ?_
        refine S_v (RunsAt_pu rfl) rfl ?_
        refine S_guarded rfl rfl hg213 ?_
        refine S_v (RunsAt_pu rfl) rfl ?_
        refine S_split (s := 88) rfl (fun hg216 => ?_) (fun hg216 => ?_)
        ·replace h := Go.L.ite_p (of_decide_eq_true hg216) h
         refine S_guarded rfl rfl hg216 ?_
         refine S_v (RunsAt_pu rfl) rfl ?_
         refine S_guarded rfl rfl hg216 ?_
         refine S_v (RunsAt_pu rfl) rfl ?_
         refine S_guarded rfl rfl hg216 ?_
         refine S_v (RunsAt_pu rfl) rfl ?_
         refine S_guarded rfl rfl hg216 ?_
         obtain ⟨x218, hb218, h⟩ := Go.L.bind_some h
         refine S_callL rfl rfl hL133 (ref4_Hits_ok _ _ (gz_le hH hL133) (h0_0.mono (gz_left hH)) (h1_0.mono (gz_left hH)) hb218) ?_
         rintro u219_0 w219 ⟨_, rfl, hR219_0⟩ hx219 hL219 hle219
         have hv219_0 := hR219_0.vecG hH hL133 hx219
         replace hf133_0 := hf133_0.mono (gz_mono hH hle219)
         replace hf133_1 := hf133_1.mono (gz_mono hH hle219)
         refine S_guarded rfl rfl hg216 ?_
         obtain ⟨x220, hb220, h⟩ := Go.L.bind_some h
         refine S_callL rfl rfl hL219 (ref4_SameHits_ok _ _ (gz_le hH hL219) hf133_0 hv219_0 hb220) ?_
         rintro _ w221 rfl hx221 hL221 hle221
         replace hf133_0 := hf133_0.mono (gz_mono hH hle221)
         replace hf133_1 := hf133_1.mono (gz_mono hH hle221)
         replace hv219_0 := hv219_0.mono (gz_mono hH hle221)
         refine S_guarded rfl rfl hg216 ?_
         refine S_v (RunsAt_pu rfl) rfl ?_
         refine S_guarded rfl rfl hg213 ?_
         refine S_v (r_pickT rfl hg216 rfl) rfl ?_
         refine S_v (r_pickF rfl hg213 rfl) rfl ?_
         refine S_seqnil ?_
         refine W_cond rfl (fun hc222 => ?_) (fun hc222 => ?_)
         ·replace h := Go.L.ite_t hc222 h
          refine W_pz 1 rfl ?_
          refine W_ret ?_
          refine At_cut_ret ?_
          obtain rfl := Option.some.inj h
          refine At_body rfl rfl ?_
          exact ⟨hL221.ext, rfl⟩
         ·replace h := Go.L.ite_f hc222 h
          refine W_skip ?_
          refine At_cut () (.cons rfl (.cons rfl (.cons rfl (.cons rfl (.cons rfl (Sub.nil _)))))) ⟨hL221, hf133_1, h⟩
        ·replace h := Go.L.ite_n (of_decide_eq_false hg216) h
         iterate 6 refine S_unwanted rfl rfl hg216 rfl ?_
         refine S_guarded rfl rfl hg213 ?_
         refine S_v (r_pickF rfl hg216 rfl) rfl ?_
         refine S_v (r_pickF rfl hg213 rfl) rfl ?_
         refine S_seqnil ?_
         refine W_false rfl ?_
         refine W_skip ?_
         refine At_cut () (.cons rfl (.cons rfl (.cons rfl (.cons rfl (.cons rfl (Sub.nil _)))))) ⟨hL133, hf133_1, h⟩
      ·replace h := Go.L.ite_p (not_dec_f hg211) h
       iterate 3 refine S_unwanted rfl rfl hg211 rfl ?_
       refine S_guarded rfl rfl hg208 ?_
       refine S_v (r_pickF rfl hg211 rfl) rfl ?_
       refine S_v (r_pickF rfl hg208 rfl) rfl ?_
       refine S_pu 1 rfl ?_
       refine S_guarded rfl rfl rfl ?_
       refine S_v (r_field rfl underlying25 rfl zr3 (by decide)) rfl ?_
       refine S_guarded rfl rfl rfl ?_
       refine S_v (r_loadB1 0 rfl underlying3 rfl hL133 rfl rfl) rfl ?_
       refine S_guarded rfl rfl rfl ?_
       refine S_v (RunsAt_pu rfl) rfl ?_
       refine S_guarded rfl rfl rfl ?_
       refine S_v (RunsAt_pu rfl) rfl ?_
       refine S_split (s := 88) rfl (fun hg227 => ?_) (fun hg227 => ?_)
       ·replace h := Go.L.ite_p (of_decide_eq_true hg227) h
        refine S_guarded rfl rfl hg227 ?_
        refine S_v (RunsAt_pu rfl) rfl ?_
        refine S_guarded rfl rfl hg227 ?_
        refine S_v (RunsAt_pu rfl) rfl ?_
        refine S_guarded rfl rfl hg227 ?_
        refine S_v (RunsAt_pu rfl) rfl ?_
        refine S_guarded rfl rfl hg227 ?_
        obtain ⟨x229, hb229, h⟩ := Go.L.bind_some h
        refine S_callL rfl rfl hL133 (ref4_Hits_ok _ _ (gz_le hH hL133) (h0_0.mono (gz_left hH)) (h1_0.mono (gz_left hH)) hb229) ?_
        rintro u230_0 w230 ⟨_, rfl, hR230_0⟩ hx230 hL230 hle230
        have hv230_0 := hR230_0.vecG hH hL133 hx230
        replace hf133_0 := hf133_0.mono (gz_mono hH hle230)
        replace hf133_1 := hf133_1.mono (gz_mono hH hle230)
        refine S_guarded rfl rfl hg227 ?_
        obtain ⟨x231, hb231, h⟩ := Go.L.bind_some h
        refine S_callL rfl rfl hL230 (ref4_SameHits_ok _ _ (gz_le hH hL230) hf133_0 hv230_0 hb231) ?_
        rintro _ w232 rfl hx232 hL232 hle232
        replace hf133_0 := hf133_0.mono (gz_mono hH hle232)
        replace hf133_1 := hf133_1.mono (gz_mono hH hle232)
        replace hv230_0 := hv230_0.mono (gz_mono hH hle232)
        refine S_guarded rfl rfl hg227 ?_
        refine S_v (RunsAt_pu rfl) rfl ?_
        refine S_guarded rfl rfl rfl ?_
        refine S_v (r_pickT rfl hg227 rfl) rfl ?_
        refine S_v (r_pickF rfl rfl rfl) rfl ?_
        refine S_seqnil ?_
        refine W_cond rfl (fun hc233 => ?_) (fun hc233 => ?_)
        ·replace h := Go.L.ite_t hc233 h
         refine W_pz 1 rfl ?_
         refine W_ret ?_
         refine At_cut_ret ?_
         obtain rfl := Option.some.inj h
         refine At_body rfl rfl ?_
         exact ⟨hL232.ext, rfl⟩
        ·replace h := Go.L.ite_f hc233 h
         refine W_skip ?_
         refine At_cut () (.cons rfl (.cons rfl (.cons rfl (.cons rfl (.cons rfl (Sub.nil _)))))) ⟨hL232, hf133_1, h⟩
       ·replace h := Go.L.ite_n (of_decide_eq_false hg227) h
        iterate 6 refine S_unwanted rfl rfl hg227 rfl ?_
        refine S_guarded rfl rfl rfl ?_
        refine S_v (r_pickF rfl hg227 rfl) rfl ?_
        refine S_v (r_pickF rfl rfl rfl) rfl ?_
        refine S_seqnil ?_
        refine W_false rfl ?_
        refine W_skip ?_
        refine At_cut () (.cons rfl (.cons rfl (.cons rfl (.cons rfl (.cons rfl (Sub.nil _)))))) ⟨hL133, hf133_1, h⟩
    ·rintro _ wr206 ⟨hL206, hf206_0, h⟩
     refine W_seq ?_
     refine W_p 1 rfl ?_
     refine S_v (r_len rfl underlying38 h1_0) rfl ?_
     refine S_pz 1 rfl ?_
     refine W_if rfl (fun hc238 => ?_) (fun hc238 => ?_)
     ·replace h := Go.L.ite_p hc238 h
      refine W_pz 1 rfl ?_
      refine W_ret ?_
      refine At_seq_ret ?_
      obtain rfl := Option.some.inj h
      refine At_body rfl rfl ?_
      exact ⟨hL206.ext, rfl⟩
     ·replace h := Go.L.ite_n hc238 h
      refine W_skip ?_
      refine At_seq ?_
      refine W_cut (σ := Int × Int × (List Int) × Nat × Value) (fun ⟨c264, c265, s13_266, bjb263, vs13_266⟩ => [(0, v0_0), (1, v1_0), (2, .int .i64 a2), (11, .pointer (some ⟨b59, 0, none⟩)), (13, vs13_266), (14, .pointer (some ⟨bjb263, 0, none⟩))]) (fun ⟨c264, c265, s13_266, bjb263, vs13_266⟩ wr => InO w [.box bjb263 [.int .i64 c264, .int .i64 c265] 25, .box b59 [.int .i64 c131, .int .i64 c132] 25, .box b57 [.int .i64 x55.2.1, .int .i64 x55.2.2] 25, .box b4 [.int .i64 x1.2.1, .int .i64 x1.2.2] 25, .box b3 [.int .i64 x1.1.1, u2_0] 41] wr fun Oz => Vec (.int .i64) (gz H w wr Oz) (vs13_266) (s13_266) ∧ Vec (.pair .st (.vec (.pair (.int .i64) (.int .i64)))) (gz H w wr Oz) (u2_0) (x1.1.2) ∧ (law4_WordsPhrasesMatchSpec_k6 a0 a1 a2) c264 c265 s13_266 = some r) ?_ ?_
      ·refine W_regd (.q 0 (.q 1 (.q 2 (.q 3 (.q 4 (.q 5 (.q 6 (.q 7 (.h2 8 (.q 9 (.q 10 (.q 11 (.h 12 (.q 13 (.tail 14)))))) 12 (.h 8 (.q 9 (.q 10 (.q 11 (.q 13 (.tail 14))))))))))))))) mixed (by kernel_rfl) (fun w269 hx269 => ?_)
       have hL270 := hL206.call hx269
       have hle270 := fz_ext hL206 hx269
       replace hf206_0 := hf206_0.mono (gz_mono hH hle270)
       refine D_v (r_loadBN 3 rfl underlying41 rfl zr41 hL270 rfl) rfl rfl ?_
       refine D_pu 1 rfl ?_
       obtain ⟨hk272, h⟩ := Go.L.chk_some h
       refine D_index rfl rfl rfl underlying38 zr9 h1_0 ((0 : Int).toNat) (Int.toNat_of_nonneg hk272.1).symm (idx_lt hk272) rfl ?_
       rintro p271 _ rfl hp271
       refine D_v (r_load1 rfl underlying9 rfl hp271 (hH.trans hL270.arg)) rfl rfl ?_
       refine D_pu 1 rfl ?_
       obtain ⟨hk274, h⟩ := Go.L.chk_some h
       refine D_index rfl rfl rfl underlying38 zr9 h1_0 ((1 : Int).toNat) (Int.toNat_of_nonneg hk274.1).symm (idx_lt hk274) rfl ?_
       rintro p273 _ rfl hp273
       refine D_v (r_load1 rfl underlying9 rfl hp273 (hH.trans hL270.arg)) rfl rfl ?_
       refine D_pu 1 rfl ?_
       refine D_h2 ?_ ?_
       ·obtain ⟨x275, hb275, h⟩ := Go.L.bind_some h
        refine D_hcall rfl rfl rfl (fun w277 hx277 => words_Index_Near_ok _ _ (gz_le hH (hL270.call hx277)) (hU.mono (gz_left hH)) (hf206_0.mono (gz_mono hH (fz_ext hL270 hx277))) hb275) ?_
        rintro w277 _ w276 hx277 hx276 ⟨u276_0, rfl, hR276_0⟩
        have hL278 := hL270.call hx277
        have hle278 := fz_ext hL270 hx277
        replace hf206_0 := hf206_0.mono (gz_mono hH hle278)
        have hL276 := hL278.call hx276
        have hle276 := fz_ext hL278 hx276
        have hv276_0 := hR276_0.vecG hH hL278 hx276
        replace hf206_0 := hf206_0.mono (gz_mono hH hle276)
        refine D_pu 3 rfl ?_
        refine D_alloc rfl zr25 rfl rfl hL276 ?_
        intro w279 b279 hL279 hle279
        replace hf206_0 := hf206_0.mono (gz_mono hH hle279)
        replace hv276_0 := hv276_0.mono (gz_mono hH hle279)
        refine D_pu 1 rfl ?_
        refine D_tail (fun w280 hx280 => ?_)
        have hL281 := hL279.call hx280
        have hle281 := fz_ext hL279 hx280
        replace hf206_0 := hf206_0.mono (gz_mono hH hle281)
        replace hv276_0 := hv276_0.mono (gz_mono hH hle281)
        refine S_storeBN 0 rfl rfl rfl zr25 hL281 rfl rfl (onc rfl (onc rfl on0)) ?_
        intro w282 hL282 hle282
        replace hf206_0 := hf206_0.mono (gz_mono hH hle282)
        replace hv276_0 := hv276_0.mono (gz_mono hH hle282)
        refine S_nil ?_
        refine At_cut (x275.2.1, x275.2.2, x275.1, b279, u276_0) (.cons rfl (.cons rfl (.cons rfl (.cons rfl (.cons rfl (.cons rfl (Sub.nil _))))))) ⟨hL282, hv276_0, hf206_0, h⟩
       ·obtain ⟨x275, hb275, h⟩ := Go.L.bind_some h
        refine D_alloc rfl zr25 rfl rfl hL270 ?_
        intro w283 b283 hL283 hle283
        replace hf206_0 := hf206_0.mono (gz_mono hH hle283)
        refine D_hcall rfl rfl rfl (fun w285 hx285 => words_Index_Near_ok _ _ (gz_le hH (hL283.call hx285)) (hU.mono (gz_left hH)) (hf206_0.mono (gz_mono hH (fz_ext hL283 hx285))) hb275) ?_
        rintro w285 _ w284 hx285 hx284 ⟨u284_0, rfl, hR284_0⟩
        have hL286 := hL283.call hx285
        have hle286 := fz_ext hL283 hx285
        replace hf206_0 := hf206_0.mono (gz_mono hH hle286)
        have hL284 := hL286.call hx284
        have hle284 := fz_ext hL286 hx284
        have hv284_0 := hR284_0.vecG hH hL286 hx284
        replace hf206_0 := hf206_0.mono (gz_mono hH hle284)
        refine D_pu 4 rfl ?_
        refine D_tail (fun w287 hx287 => ?_)
        have hL288 := hL284.call hx287
        have hle288 := fz_ext hL284 hx287
        replace hf206_0 := hf206_0.mono (gz_mono hH hle288)
        replace hv284_0 := hv284_0.mono (gz_mono hH hle288)
        refine S_storeBN 0 rfl rfl rfl zr25 hL288 rfl rfl (onc rfl (onc rfl on0)) ?_
        intro w289 hL289 hle289
        replace hf206_0 := hf206_0.mono (gz_mono hH hle289)
        replace hv284_0 := hv284_0.mono (gz_mono hH hle289)
        refine S_nil ?_
        refine At_cut (x275.2.1, x275.2.2, x275.1, b283, u284_0) (.cons rfl (.cons rfl (.cons rfl (.cons rfl (.cons rfl (.cons rfl (Sub.nil _))))))) ⟨hL289, hv284_0, hf206_0, h⟩
      ·rintro ⟨c264, c265, s13_266, bjb263, vs13_266⟩ wr267 ⟨hL267, hfs13_266, hf267_1, h⟩
       refine W_p 1 rfl ?_
       obtain ⟨hk292, h⟩ := Go.L.chk_some h
       refine S_index rfl rfl underlying38 zr9 h1_0 ((0 : Int).toNat) (Int.toNat_of_nonneg hk292.1).symm (idx_lt hk292) rfl ?_
       rintro p291 _ rfl hp291
       refine S_v (r_load1 rfl underlying9 rfl hp291 (hH.trans hL267.arg)) rfl ?_
       obtain ⟨x293, hb293, h⟩ := Go.L.bind_some h
       refine S_callL rfl rfl hL267 (ref4_WordFault_ok _ _ (gz_le hH hL267) hb293) ?_
       rintro _ w294 rfl hx294 hL294 hle294
       replace hfs13_266 := hfs13_266.mono (gz_mono hH hle294)
       replace hf267_1 := hf267_1.mono (gz_mono hH hle294)
       refine S_storeBN 1 rfl rfl rfl zr25 hL294 rfl rfl (onc rfl (onc rfl on0)) ?_
       intro w295 hL295 hle295
       replace hfs13_266 := hfs13_266.mono (gz_mono hH hle295)
       replace hf267_1 := hf267_1.mono (gz_mono hH hle295)
       refine S_seqnil ?_
       refine W_cut (σ := Int × Int) (fun ⟨c314, c315⟩ => [(0, v0_0), (1, v1_0), (2, .int .i64 a2), (11, .pointer (some ⟨b59, 0, none⟩)), (13, vs13_266), (14, .pointer (some ⟨bjb263, 0, none⟩))]) (fun ⟨c314, c315⟩ wr => InO w [.box bjb263 [.int .i64 c264, .int .i64 c265] 25, .box b59 [.int .i64 c314, .int .i64 c315] 25, .box b57 [.int .i64 x55.2.1, .int .i64 x55.2.2] 25, .box b4 [.int .i64 x1.2.1, .int .i64 x1.2.2] 25, .box b3 [.int .i64 x1.1.1, u2_0] 41] wr fun Oz => Vec (.int .i64) (gz H w wr Oz) (vs13_266) (s13_266) ∧ Vec (.pair .st (.vec (.pair (.int .i64) (.int .i64)))) (gz H w wr Oz) (u2_0) (x1.1.2) ∧ (law4_WordsPhrasesMatchSpec_k7 a0 a1 a2 c264 c265 s13_266) c314 c315 = some r) ?_ ?_
       ·refine W_seqr ?_
        refine S_v (r_field rfl underlying25 rfl zr3 (by decide)) rfl ?_
        refine S_v (r_loadB1 1 rfl underlying3 rfl hL295 rfl rfl) rfl ?_
        refine S_pu 2 rfl ?_
        refine S_split (s := 119) rfl (fun hg318 => ?_) (fun hg318 => ?_)
        ·replace h := Go.L.ite_p (of_decide_eq_true hg318) h
         refine S_guarded rfl rfl hg318 ?_
         refine S_v (RunsAt_pu rfl) rfl ?_
         refine S_guarded rfl rfl hg318 ?_
         obtain ⟨hk321, h⟩ := Go.L.chk_some h
         refine S_index rfl rfl underlying38 zr9 h1_0 ((1 : Int).toNat) (Int.toNat_of_nonneg hk321.1).symm (idx_lt hk321) rfl ?_
         rintro p320 _ rfl hp320
         refine S_guarded rfl rfl hg318 ?_
         refine S_v (r_load1 rfl underlying9 rfl hp320 (hH.trans hL295.arg)) rfl ?_
         refine S_guarded rfl rfl hg318 ?_
         obtain ⟨x322, hb322, h⟩ := Go.L.bind_some h
         refine S_callL rfl rfl hL295 (ref4_WordFault_ok _ _ (gz_le hH hL295) hb322) ?_
         rintro _ w323 rfl hx323 hL323 hle323
         replace hfs13_266 := hfs13_266.mono (gz_mono hH hle323)
         replace hf267_1 := hf267_1.mono (gz_mono hH hle323)
         refine S_guarded rfl rfl hg318 ?_
         refine S_v (r_part rfl underlying25 rfl underlying3 rfl rfl) rfl ?_
         refine S_guarded rfl rfl hg318 ?_
         refine S_v (RunsAt_pu rfl) rfl ?_
         refine S_v (r_pickT rfl hg318 rfl) rfl ?_
         refine S_seqnil ?_
         refine W_ifn rfl (fun hc324 => ?_) (fun hc324 => ?_)
         ·replace h := Go.L.ite_n hc324 h
          refine W_region ?_
          refine S_pu 1 rfl ?_
          obtain ⟨hk327, h⟩ := Go.L.chk_some h
          refine S_index rfl rfl underlying38 zr9 h1_0 ((1 : Int).toNat) (Int.toNat_of_nonneg hk327.1).symm (idx_lt hk327) rfl ?_
          rintro p326 _ rfl hp326
          refine S_v (r_load1 rfl underlying9 rfl hp326 (hH.trans hL323.arg)) rfl ?_
          obtain ⟨x328, hb328, h⟩ := Go.L.bind_some h
          refine S_callL rfl rfl hL323 (ref4_WordFault_ok _ _ (gz_le hH hL323) hb328) ?_
          rintro _ w329 rfl hx329 hL329 hle329
          replace hfs13_266 := hfs13_266.mono (gz_mono hH hle329)
          replace hf267_1 := hf267_1.mono (gz_mono hH hle329)
          refine S_v (r_part rfl underlying25 rfl underlying3 rfl rfl) rfl ?_
          obtain ⟨x330, hb330, h⟩ := Go.L.bind_some h
          refine S_callL rfl rfl hL329 (ref3_At_ok _ _ (gz_le hH hL329) hb330) ?_
          rintro _ w331 rfl hx331 hL331 hle331
          replace hfs13_266 := hfs13_266.mono (gz_mono hH hle331)
          replace hf267_1 := hf267_1.mono (gz_mono hH hle331)
          refine S_storeBN 1 rfl rfl rfl zr25 hL331 rfl rfl (onc rfl (onc rfl on0)) ?_
          intro w332 hL332 hle332
          replace hfs13_266 := hfs13_266.mono (gz_mono hH hle332)
          replace hf267_1 := hf267_1.mono (gz_mono hH hle332)
          refine S_nil ?_
          refine At_cut (x330.1, x330.2) (.cons rfl (.cons rfl (.cons rfl (.cons rfl (.cons rfl (.cons rfl (Sub.nil _))))))) ⟨hL332, hfs13_266, hf267_1, h⟩
         ·replace h := Go.L.ite_p hc324 h
          refine W_skip ?_
          refine At_cut (x293.1, x293.2) (.cons rfl (.cons rfl (.cons rfl (.cons rfl (.cons rfl (.cons rfl (Sub.nil _))))))) ⟨hL323, hfs13_266, hf267_1, h⟩
        ·replace h := Go.L.ite_n (of_decide_eq_false hg318) h
         iterate 6 refine S_unwanted rfl rfl hg318 rfl ?_
         refine S_v (r_pickF rfl hg318 rfl) rfl ?_
         refine S_seqnil ?_
         refine W_false rfl ?_
         refine W_skip ?_
         refine At_cut (x293.1, x293.2) (.cons rfl (.cons rfl (.cons rfl (.cons rfl (.cons rfl (.cons rfl (Sub.nil _))))))) ⟨hL295, hfs13_266, hf267_1, h⟩
       ·rintro ⟨c314, c315⟩ wr316 ⟨hL316, hf316_0, hf316_1, h⟩
        refine W_cut (σ := Int × Int) (fun ⟨c348, c349⟩ => [(0, v0_0), (1, v1_0), (2, .int .i64 a2), (11, .pointer (some ⟨b59, 0, none⟩)), (13, vs13_266), (14, .pointer (some ⟨bjb263, 0, none⟩))]) (fun ⟨c348, c349⟩ wr => InO w [.box bjb263 [.int .i64 c264, .int .i64 c265] 25, .box b59 [.int .i64 c348, .int .i64 c349] 25, .box b57 [.int .i64 x55.2.1, .int .i64 x55.2.2] 25, .box b4 [.int .i64 x1.2.1, .int .i64 x1.2.2] 25, .box b3 [.int .i64 x1.1.1, u2_0] 41] wr fun Oz => Vec (.int .i64) (gz H w wr Oz) (vs13_266) (s13_266) ∧ Vec (.pair .st (.vec (.pair (.int .i64) (.int .i64)))) (gz H w wr Oz) (u2_0) (x1.1.2) ∧ (law4_WordsPhrasesMatchSpec_k8 a0 a1 a2 c264 c265 s13_266) c348 c349 = some r) ?_ ?_
        ·refine W_seqr ?_
         refine S_v (r_field rfl underlying25 rfl zr3 (by decide)) rfl ?_
         refine S_v (r_loadB1 1 rfl underlying3 rfl hL316 rfl rfl) rfl ?_
         refine S_pu 2 rfl ?_
         refine S_split (s := 136) rfl (fun hg352 => ?_) (fun hg352 => ?_)
         ·replace h := Go.L.ite_p (of_decide_eq_true hg352) h
          refine S_guarded rfl rfl hg352 ?_
          refine S_v (RunsAt_pu rfl) rfl ?_
          refine S_guarded rfl rfl hg352 ?_
          obtain ⟨x354, hb354, h⟩ := Go.L.bind_some h
          refine S_callL rfl rfl hL316 (ref3_In_ok _ _ (gz_le hH hL316) hb354) ?_
          rintro _ w355 rfl hx355 hL355 hle355
          replace hf316_0 := hf316_0.mono (gz_mono hH hle355)
          replace hf316_1 := hf316_1.mono (gz_mono hH hle355)
          refine S_guarded rfl rfl hg352 ?_
          refine S_v (RunsAt_pu rfl) rfl ?_
          refine S_v (r_pickT rfl hg352 rfl) rfl ?_
          refine S_seqnil ?_
          refine W_cond rfl (fun hc356 => ?_) (fun hc356 => ?_)
          ·replace h := Go.L.ite_t hc356 h
           refine W_region ?_
           obtain ⟨x358, hb358, h⟩ := Go.L.bind_some h
           refine S_callL rfl rfl hL355 (ref3_At_ok _ _ (gz_le hH hL355) hb358) ?_
           rintro _ w359 rfl hx359 hL359 hle359
           replace hf316_0 := hf316_0.mono (gz_mono hH hle359)
           replace hf316_1 := hf316_1.mono (gz_mono hH hle359)
           refine S_storeBN 1 rfl rfl rfl zr25 hL359 rfl rfl (onc rfl (onc rfl on0)) ?_
           intro w360 hL360 hle360
           replace hf316_0 := hf316_0.mono (gz_mono hH hle360)
           replace hf316_1 := hf316_1.mono (gz_mono hH hle360)
           refine S_nil ?_
           refine At_cut (x358.1, x358.2) (.cons rfl (.cons rfl (.cons rfl (.cons rfl (.cons rfl (.cons rfl (Sub.nil _))))))) ⟨hL360, hf316_0, hf316_1, h⟩
          ·replace h := Go.L.ite_f hc356 h
           refine W_skip ?_
           refine At_cut (c314, c315) (.cons rfl (.cons rfl (.cons rfl (.cons rfl (.cons rfl (.cons rfl (Sub.nil _))))))) ⟨hL355, hf316_0, hf316_1, h⟩
         ·replace h := Go.L.ite_n (of_decide_eq_false hg352) h
          iterate 3 refine S_unwanted rfl rfl hg352 rfl ?_
          refine S_v (r_pickF rfl hg352 rfl) rfl ?_
          refine S_seqnil ?_
          refine W_false rfl ?_
          refine W_skip ?_
          refine At_cut (c314, c315) (.cons rfl (.cons rfl (.cons rfl (.cons rfl (.cons rfl (.cons rfl (Sub.nil _))))))) ⟨hL316, hf316_0, hf316_1, h⟩
        ·rintro ⟨c348, c349⟩ wr350 ⟨hL350, hf350_0, hf350_1, h⟩
         refine W_cut (σ := Bool) (fun s6_407 => [(6, .bool s6_407)]) (fun s6_407 wr => InO w [.box bjb263 [.int .i64 c264, .int .i64 c265] 25, .box b59 [.int .i64 c348, .int .i64 c349] 25, .box b57 [.int .i64 x55.2.1, .int .i64 x55.2.2] 25, .box b4 [.int .i64 x1.2.1, .int .i64 x1.2.2] 25, .box b3 [.int .i64 x1.1.1, u2_0] 41] wr fun Oz => Vec (.pair .st (.vec (.pair (.int .i64) (.int .i64)))) (gz H w wr Oz) (u2_0) (x1.1.2) ∧ law4_WordsPhrasesMatchSpec_k9 s6_407 = some r) ?_ ?_
         ·refine W_naiveI (fun z0 z => Le (gz H w z0 [.box bjb263 [.int .i64 c264, .int .i64 c265] 25, .box b59 [.int .i64 c348, .int .i64 c349] 25, .box b57 [.int .i64 x55.2.1, .int .i64 x55.2.2] 25, .box b4 [.int .i64 x1.2.1, .int .i64 x1.2.2] 25, .box b3 [.int .i64 x1.1.1, u2_0] 41]) (hp z) ∧ z.heap[bjb263]? = some (.cells [.int .i64 c264, .int .i64 c265].toArray 25 (0, 0)) ∧ z.heap[b59]? = some (.cells [.int .i64 c348, .int .i64 c349].toArray 25 (0, 0)) ∧ z.heap[b57]? = some (.cells [.int .i64 x55.2.1, .int .i64 x55.2.2].toArray 25 (0, 0)) ∧ z.heap[b4]? = some (.cells [.int .i64 x1.2.1, .int .i64 x1.2.2].toArray 25 (0, 0)) ∧ z.heap[b3]? = some (.cells [.int .i64 x1.1.1, u2_0].toArray 41 (0, 0))) mixed rfl (fun w410 hx410 => ?_)
          have hL411 := hL350.call hx410
          have hle411 := fz_ext hL350 hx410
          replace hf350_0 := hf350_0.mono (gz_mono hH hle411)
          replace hf350_1 := hf350_1.mono (gz_mono hH hle411)
          have hG412 := hL411.rG H
          refine NI_hoist 0 (np_cut np_body) ⟨hG412.trans (gz_le hH hL411), hL411.at (i := 0) rfl, hL411.at (i := 1) rfl, hL411.at (i := 2) rfl, hL411.at (i := 3) rfl, hL411.at (i := 4) rfl⟩ (by kernel_rfl) rfl (fun _ hI => r_loadHN rfl underlying25 rfl zr25 hI.2.1) rfl ?_
          refine NI_hoist 1 (np_cut np_body) ⟨hG412.trans (gz_le hH hL411), hL411.at (i := 0) rfl, hL411.at (i := 1) rfl, hL411.at (i := 2) rfl, hL411.at (i := 3) rfl, hL411.at (i := 4) rfl⟩ (by kernel_rfl) rfl (fun _ hI => r_loadHN rfl underlying25 rfl zr25 hI.2.2.1) rfl ?_
          refine NI_hoist 2 (np_cut np_body) ⟨hG412.trans (gz_le hH hL411), hL411.at (i := 0) rfl, hL411.at (i := 1) rfl, hL411.at (i := 2) rfl, hL411.at (i := 3) rfl, hL411.at (i := 4) rfl⟩ (by kernel_rfl) rfl (fun _ _ => r_eqA rfl rfl eqg25 (eq25 _ _ _ _ )) rfl ?_
          refine NI_hoist 3 (np_cut np_body) ⟨hG412.trans (gz_le hH hL411), hL411.at (i := 0) rfl, hL411.at (i := 1) rfl, hL411.at (i := 2) rfl, hL411.at (i := 3) rfl, hL411.at (i := 4) rfl⟩ (by kernel_rfl) rfl (fun _ _ => RunsAt_pu rfl) rfl ?_
          refine NI_split (s := 145) rfl (fun hg413 => ?_) (fun hg413 => ?_)
          ·replace h := Go.L.ite_p (of_decide_eq_true hg413) h
           refine NI_hoistg 4 (np_cut np_body) ⟨hG412.trans (gz_le hH hL411), hL411.at (i := 0) rfl, hL411.at (i := 1) rfl, hL411.at (i := 2) rfl, hL411.at (i := 3) rfl, hL411.at (i := 4) rfl⟩ (by kernel_rfl) rfl rfl rfl rfl hg413 (fun _ _ => r_field rfl underlying25 rfl zr3 (by decide)) rfl ?_
           refine NI_hoistg 5 (np_cut np_body) ⟨hG412.trans (gz_le hH hL411), hL411.at (i := 0) rfl, hL411.at (i := 1) rfl, hL411.at (i := 2) rfl, hL411.at (i := 3) rfl, hL411.at (i := 4) rfl⟩ (by kernel_rfl) rfl rfl rfl rfl hg413 (fun _ hI => r_loadH1 rfl underlying3 rfl hI.2.2.1 rfl) rfl ?_
           refine NI_hoistg 6 (np_cut np_body) ⟨hG412.trans (gz_le hH hL411), hL411.at (i := 0) rfl, hL411.at (i := 1) rfl, hL411.at (i := 2) rfl, hL411.at (i := 3) rfl, hL411.at (i := 4) rfl⟩ (by kernel_rfl) rfl rfl rfl rfl hg413 (fun _ _ => RunsAt_pu rfl) rfl ?_
           refine NI_hoistg 7 (np_cut np_body) ⟨hG412.trans (gz_le hH hL411), hL411.at (i := 0) rfl, hL411.at (i := 1) rfl, hL411.at (i := 2) rfl, hL411.at (i := 3) rfl, hL411.at (i := 4) rfl⟩ (by kernel_rfl) rfl rfl rfl rfl hg413 (fun _ _ => RunsAt_pu rfl) rfl ?_
           refine NI_split (s := 149) rfl (fun hg415 => ?_) (fun hg415 => ?_)
           ·replace h := Go.L.ite_n (not_dec_t hg415) h
            refine NI_hoistg 8 (np_cut np_body) ⟨hG412.trans (gz_le hH hL411), hL411.at (i := 0) rfl, hL411.at (i := 1) rfl, hL411.at (i := 2) rfl, hL411.at (i := 3) rfl, hL411.at (i := 4) rfl⟩ (by kernel_rfl) rfl rfl rfl rfl hg415 (fun _ _ => RunsAt_pu rfl) rfl ?_
            refine NI_hoistg 9 (np_cut np_body) ⟨hG412.trans (gz_le hH hL411), hL411.at (i := 0) rfl, hL411.at (i := 1) rfl, hL411.at (i := 2) rfl, hL411.at (i := 3) rfl, hL411.at (i := 4) rfl⟩ (by kernel_rfl) rfl rfl rfl rfl hg415 (fun _ _ => r_len rfl underlying51 (hf350_0.mono hG412)) rfl ?_
            refine NI_hoistg 10 (np_cut np_body) ⟨hG412.trans (gz_le hH hL411), hL411.at (i := 0) rfl, hL411.at (i := 1) rfl, hL411.at (i := 2) rfl, hL411.at (i := 3) rfl, hL411.at (i := 4) rfl⟩ (by kernel_rfl) rfl rfl rfl rfl hg415 (fun _ _ => RunsAt_pu rfl) rfl ?_
            refine NI_hoistg 11 (np_cut np_body) ⟨hG412.trans (gz_le hH hL411), hL411.at (i := 0) rfl, hL411.at (i := 1) rfl, hL411.at (i := 2) rfl, hL411.at (i := 3) rfl, hL411.at (i := 4) rfl⟩ (by kernel_rfl) rfl rfl rfl rfl hg413 (fun _ _ => r_pickT rfl hg415 rfl) rfl ?_
            refine NI_hoistg 12 (np_cut np_body) ⟨hG412.trans (gz_le hH hL411), hL411.at (i := 0) rfl, hL411.at (i := 1) rfl, hL411.at (i := 2) rfl, hL411.at (i := 3) rfl, hL411.at (i := 4) rfl⟩ (by kernel_rfl) rfl rfl rfl rfl hg413 (fun _ _ => RunsAt_pu rfl) rfl ?_
            refine NI_split (s := 154) rfl (fun hg417 => ?_) (fun hg417 => ?_)
            ·replace h := Go.L.ite_p (of_decide_eq_true hg417) h
             refine NI_no 13 (np_cut np_body) ⟨hG412.trans (gz_le hH hL411), hL411.at (i := 0) rfl, hL411.at (i := 1) rfl, hL411.at (i := 2) rfl, hL411.at (i := 3) rfl, hL411.at (i := 4) rfl⟩ (by kernel_rfl) rfl rfl rfl rfl hg417 rfl ?_
             refine NI_no 14 (np_cut np_body) ⟨hG412.trans (gz_le hH hL411), hL411.at (i := 0) rfl, hL411.at (i := 1) rfl, hL411.at (i := 2) rfl, hL411.at (i := 3) rfl, hL411.at (i := 4) rfl⟩ (by kernel_rfl) rfl rfl rfl rfl hg417 rfl ?_
             refine NI_no 15 (np_cut np_body) ⟨hG412.trans (gz_le hH hL411), hL411.at (i := 0) rfl, hL411.at (i := 1) rfl, hL411.at (i := 2) rfl, hL411.at (i := 3) rfl, hL411.at (i := 4) rfl⟩ (by kernel_rfl) rfl rfl rfl rfl hg417 rfl ?_
             refine NI_no 16 (np_cut np_body) ⟨hG412.trans (gz_le hH hL411), hL411.at (i := 0) rfl, hL411.at (i := 1) rfl, hL411.at (i := 2) rfl, hL411.at (i := 3) rfl, hL411.at (i := 4) rfl⟩ (by kernel_rfl) rfl rfl rfl rfl hg417 rfl ?_
             refine NI_no2 17 (np_cut np_body) ⟨hG412.trans (gz_le hH hL411), hL411.at (i := 0) rfl, hL411.at (i := 1) rfl, hL411.at (i := 2) rfl, hL411.at (i := 3) rfl, hL411.at (i := 4) rfl⟩ (by kernel_rfl) rfl rfl rfl rfl rfl ?_
             refine NI_no2 18 (np_cut np_body) ⟨hG412.trans (gz_le hH hL411), hL411.at (i := 0) rfl, hL411.at (i := 1) rfl, hL411.at (i := 2) rfl, hL411.at (i := 3) rfl, hL411.at (i := 4) rfl⟩ (by kernel_rfl) rfl rfl rfl rfl rfl ?_
             refine NI_no2 19 (np_cut np_body) ⟨hG412.trans (gz_le hH hL411), hL411.at (i := 0) rfl, hL411.at (i := 1) rfl, hL411.at (i := 2) rfl, hL411.at (i := 3) rfl, hL411.at (i := 4) rfl⟩ (by kernel_rfl) rfl rfl rfl rfl rfl ?_
             refine NI_no2 20 (np_cut np_body) ⟨hG412.trans (gz_le hH hL411), hL411.at (i := 0) rfl, hL411.at (i := 1) rfl, hL411.at (i := 2) rfl, hL411.at (i := 3) rfl, hL411.at (i := 4) rfl⟩ (by kernel_rfl) rfl rfl rfl rfl rfl ?_
             refine NI_no2 21 (np_cut np_body) ⟨hG412.trans (gz_le hH hL411), hL411.at (i := 0) rfl, hL411.at (i := 1) rfl, hL411.at (i := 2) rfl, hL411.at (i := 3) rfl, hL411.at (i := 4) rfl⟩ (by kernel_rfl) rfl rfl rfl rfl rfl ?_
             refine NI_no2 22 (np_cut np_body) ⟨hG412.trans (gz_le hH hL411), hL411.at (i := 0) rfl, hL411.at (i := 1) rfl, hL411.at (i := 2) rfl, hL411.at (i := 3) rfl, hL411.at (i := 4) rfl⟩ (by kernel_rfl) rfl rfl rfl rfl rfl ?_
             refine NI_no2 23 (np_cut np_body) ⟨hG412.trans (gz_le hH hL411), hL411.at (i := 0) rfl, hL411.at (i := 1) rfl, hL411.at (i := 2) rfl, hL411.at (i := 3) rfl, hL411.at (i := 4) rfl⟩ (by kernel_rfl) rfl rfl rfl rfl rfl ?_
             refine NI_no2 24 (np_cut np_body) ⟨hG412.trans (gz_le hH hL411), hL411.at (i := 0) rfl, hL411.at (i := 1) rfl, hL411.at (i := 2) rfl, hL411.at (i := 3) rfl, hL411.at (i := 4) rfl⟩ (by kernel_rfl) rfl rfl rfl rfl rfl ?_
             refine NI_no2 25 (np_cut np_body) ⟨hG412.trans (gz_le hH hL411), hL411.at (i := 0) rfl, hL411.at (i := 1) rfl, hL411.at (i := 2) rfl, hL411.at (i := 3) rfl, hL411.at (i := 4) rfl⟩ (by kernel_rfl) rfl rfl rfl rfl rfl ?_
             refine NI_no2 26 (np_cut np_body) ⟨hG412.trans (gz_le hH hL411), hL411.at (i := 0) rfl, hL411.at (i := 1) rfl, hL411.at (i := 2) rfl, hL411.at (i := 3) rfl, hL411.at (i := 4) rfl⟩ (by kernel_rfl) rfl rfl rfl rfl rfl ?_
             refine NI_no2 27 (np_cut np_body) ⟨hG412.trans (gz_le hH hL411), hL411.at (i := 0) rfl, hL411.at (i := 1) rfl, hL411.at (i := 2) rfl, hL411.at (i := 3) rfl, hL411.at (i := 4) rfl⟩ (by kernel_rfl) rfl rfl rfl rfl rfl ?_
             refine NI_no 28 (np_cut np_body) ⟨hG412.trans (gz_le hH hL411), hL411.at (i := 0) rfl, hL411.at (i := 1) rfl, hL411.at (i := 2) rfl, hL411.at (i := 3) rfl, hL411.at (i := 4) rfl⟩ (by kernel_rfl) rfl rfl rfl rfl hg417 rfl ?_
             refine NI_hoistg 29 (np_cut np_body) ⟨hG412.trans (gz_le hH hL411), hL411.at (i := 0) rfl, hL411.at (i := 1) rfl, hL411.at (i := 2) rfl, hL411.at (i := 3) rfl, hL411.at (i := 4) rfl⟩ (by kernel_rfl) rfl rfl rfl rfl hg413 (fun _ _ => r_pickT rfl hg417 rfl) rfl ?_
             refine NI_hoist 30 (np_cut np_body) ⟨hG412.trans (gz_le hH hL411), hL411.at (i := 0) rfl, hL411.at (i := 1) rfl, hL411.at (i := 2) rfl, hL411.at (i := 3) rfl, hL411.at (i := 4) rfl⟩ (by kernel_rfl) rfl (fun _ _ => r_pickT rfl hg413 rfl) rfl ?_
             refine NI_hoist 31 (np_cut np_body) ⟨hG412.trans (gz_le hH hL411), hL411.at (i := 0) rfl, hL411.at (i := 1) rfl, hL411.at (i := 2) rfl, hL411.at (i := 3) rfl, hL411.at (i := 4) rfl⟩ (by kernel_rfl) rfl (fun _ _ => RunsAt_pu rfl) rfl ?_
             refine NI_end (by kernel_rfl) ?_
             refine At_cut true (.cons rfl (Sub.nil _)) ⟨hL411, (hf350_1.mono hG412), h⟩
            ·replace h := Go.L.ite_n (of_decide_eq_false hg417) h
             refine NI_hoistg 13 (np_cut np_body) ⟨hG412.trans (gz_le hH hL411), hL411.at (i := 0) rfl, hL411.at (i := 1) rfl, hL411.at (i := 2) rfl, hL411.at (i := 3) rfl, hL411.at (i := 4) rfl⟩ (by kernel_rfl) rfl rfl rfl rfl hg417 (fun _ _ => r_field rfl underlying25 rfl zr3 (by decide)) rfl ?_
             refine NI_hoistg 14 (np_cut np_body) ⟨hG412.trans (gz_le hH hL411), hL411.at (i := 0) rfl, hL411.at (i := 1) rfl, hL411.at (i := 2) rfl, hL411.at (i := 3) rfl, hL411.at (i := 4) rfl⟩ (by kernel_rfl) rfl rfl rfl rfl hg417 (fun _ hI => r_loadH1 rfl underlying3 rfl hI.2.2.1 rfl) rfl ?_
             refine NI_hoistg 15 (np_cut np_body) ⟨hG412.trans (gz_le hH hL411), hL411.at (i := 0) rfl, hL411.at (i := 1) rfl, hL411.at (i := 2) rfl, hL411.at (i := 3) rfl, hL411.at (i := 4) rfl⟩ (by kernel_rfl) rfl rfl rfl rfl hg417 (fun _ _ => RunsAt_pu rfl) rfl ?_
             refine NI_hoistg 16 (np_cut np_body) ⟨hG412.trans (gz_le hH hL411), hL411.at (i := 0) rfl, hL411.at (i := 1) rfl, hL411.at (i := 2) rfl, hL411.at (i := 3) rfl, hL411.at (i := 4) rfl⟩ (by kernel_rfl) rfl rfl rfl rfl hg417 (fun _ _ => RunsAt_pu rfl) rfl ?_
             refine NI_split (s := 158) rfl (fun hg420 => ?_) (fun hg420 => ?_)
             ·replace h := Go.L.ite_p (of_decide_eq_true hg420) h
              refine NI_hoistg 17 (np_cut np_body) ⟨hG412.trans (gz_le hH hL411), hL411.at (i := 0) rfl, hL411.at (i := 1) rfl, hL411.at (i := 2) rfl, hL411.at (i := 3) rfl, hL411.at (i := 4) rfl⟩ (by kernel_rfl) rfl rfl rfl rfl hg420 (fun _ _ => RunsAt_pu rfl) rfl ?_
              refine NI_hoistg 18 (np_cut np_body) ⟨hG412.trans (gz_le hH hL411), hL411.at (i := 0) rfl, hL411.at (i := 1) rfl, hL411.at (i := 2) rfl, hL411.at (i := 3) rfl, hL411.at (i := 4) rfl⟩ (by kernel_rfl) rfl rfl rfl rfl hg420 (fun _ _ => RunsAt_pu rfl) rfl ?_
              refine NI_hoistg 19 (np_cut np_body) ⟨hG412.trans (gz_le hH hL411), hL411.at (i := 0) rfl, hL411.at (i := 1) rfl, hL411.at (i := 2) rfl, hL411.at (i := 3) rfl, hL411.at (i := 4) rfl⟩ (by kernel_rfl) rfl rfl rfl rfl hg420 (fun _ _ => RunsAt_pu rfl) rfl ?_
              refine NI_hoistg 22 (np_cut np_body) ⟨hG412.trans (gz_le hH hL411), hL411.at (i := 0) rfl, hL411.at (i := 1) rfl, hL411.at (i := 2) rfl, hL411.at (i := 3) rfl, hL411.at (i := 4) rfl⟩ (by kernel_rfl) rfl rfl rfl rfl hg420 (fun _ _ => RunsAt_pu rfl) rfl ?_
              refine NI_hoistg 25 (np_cut np_body) ⟨hG412.trans (gz_le hH hL411), hL411.at (i := 0) rfl, hL411.at (i := 1) rfl, hL411.at (i := 2) rfl, hL411.at (i := 3) rfl, hL411.at (i := 4) rfl⟩ (by kernel_rfl) rfl rfl rfl rfl hg420 (fun _ _ => RunsAt_pu rfl) rfl ?_
              refine NI2 (i := 20) (j := 23) (by kernel_rfl) rfl rfl ?_ ?_
              ·refine S_guarded rfl rfl hg420 ?_
               obtain ⟨hk423, h⟩ := Go.L.chk_some h
               refine S_index rfl rfl underlying38 zr9 h1_0 ((0 : Int).toNat) (Int.toNat_of_nonneg hk423.1).symm (idx_lt hk423) rfl ?_
               rintro p422 _ rfl hp422
               refine NI_nil ⟨hG412.trans (gz_le hH hL411), hL411.at (i := 0) rfl, hL411.at (i := 1) rfl, hL411.at (i := 2) rfl, hL411.at (i := 3) rfl, hL411.at (i := 4) rfl⟩ ?_
               refine NI_hoistg 21 (np_cut np_body) ⟨hG412.trans (gz_le hH hL411), hL411.at (i := 0) rfl, hL411.at (i := 1) rfl, hL411.at (i := 2) rfl, hL411.at (i := 3) rfl, hL411.at (i := 4) rfl⟩ (by kernel_rfl) rfl rfl rfl rfl hg420 (fun _ hI => r_load1 rfl underlying9 rfl (hp422.mono (gz_left hH)) hI.1) rfl ?_
               refine NI1 (i := 23) (by kernel_rfl) rfl ?_
               refine S_guarded rfl rfl hg420 ?_
               obtain ⟨hk425, h⟩ := Go.L.chk_some h
               refine S_index rfl rfl underlying38 zr9 h1_0 ((1 : Int).toNat) (Int.toNat_of_nonneg hk425.1).symm (idx_lt hk425) rfl ?_
               rintro p424 _ rfl hp424
               refine NI_nil ⟨hG412.trans (gz_le hH hL411), hL411.at (i := 0) rfl, hL411.at (i := 1) rfl, hL411.at (i := 2) rfl, hL411.at (i := 3) rfl, hL411.at (i := 4) rfl⟩ ?_
               refine NI_hoistg 24 (np_cut np_body) ⟨hG412.trans (gz_le hH hL411), hL411.at (i := 0) rfl, hL411.at (i := 1) rfl, hL411.at (i := 2) rfl, hL411.at (i := 3) rfl, hL411.at (i := 4) rfl⟩ (by kernel_rfl) rfl rfl rfl rfl hg420 (fun _ hI => r_load1 rfl underlying9 rfl (hp424.mono (gz_left hH)) hI.1) rfl ?_
               refine NI1 (i := 26) (by kernel_rfl) rfl ?_
               refine S_guarded rfl rfl hg420 ?_
               obtain ⟨x426, hb426, h⟩ := Go.L.bind_some h
               refine S_callL rfl rfl hL411 (ref4_Near_ok _ _ (gz_le hH hL411) (h0_0.mono (gz_left hH)) hb426) ?_
               rintro u427_0 w427 ⟨_, rfl, hR427_0⟩ hx427 hL427 hle427
               have hv427_0 := hR427_0.vecG hH hL411 hx427
               replace hG412 := hG412.trans (gz_mono hH hle427)
               refine NI_nil ⟨hG412.trans (gz_le hH hL427), hL427.at (i := 0) rfl, hL427.at (i := 1) rfl, hL427.at (i := 2) rfl, hL427.at (i := 3) rfl, hL427.at (i := 4) rfl⟩ ?_
               refine NI1 (i := 27) (by kernel_rfl) rfl ?_
               refine S_guarded rfl rfl hg420 ?_
               obtain ⟨x428, hb428, h⟩ := Go.L.bind_some h
               refine S_callL rfl rfl hL427 (ref3_Ints_ok _ _ (gz_le hH hL427) (hf350_0.mono hG412) hv427_0 hb428) ?_
               rintro _ w429 rfl hx429 hL429 hle429
               replace hv427_0 := hv427_0.mono (gz_mono hH hle429)
               replace hG412 := hG412.trans (gz_mono hH hle429)
               refine NI_nil ⟨hG412.trans (gz_le hH hL429), hL429.at (i := 0) rfl, hL429.at (i := 1) rfl, hL429.at (i := 2) rfl, hL429.at (i := 3) rfl, hL429.at (i := 4) rfl⟩ ?_
               refine NI_hoistg 28 (np_cut np_body) ⟨hG412.trans (gz_le hH hL429), hL429.at (i := 0) rfl, hL429.at (i := 1) rfl, hL429.at (i := 2) rfl, hL429.at (i := 3) rfl, hL429.at (i := 4) rfl⟩ (by kernel_rfl) rfl rfl rfl rfl hg417 (fun _ _ => r_pickT rfl hg420 rfl) rfl ?_
               refine NI_hoistg 29 (np_cut np_body) ⟨hG412.trans (gz_le hH hL429), hL429.at (i := 0) rfl, hL429.at (i := 1) rfl, hL429.at (i := 2) rfl, hL429.at (i := 3) rfl, hL429.at (i := 4) rfl⟩ (by kernel_rfl) rfl rfl rfl rfl hg413 (fun _ _ => r_pickF rfl hg417 rfl) rfl ?_
               refine NI_hoist 30 (np_cut np_body) ⟨hG412.trans (gz_le hH hL429), hL429.at (i := 0) rfl, hL429.at (i := 1) rfl, hL429.at (i := 2) rfl, hL429.at (i := 3) rfl, hL429.at (i := 4) rfl⟩ (by kernel_rfl) rfl (fun _ _ => r_pickT rfl hg413 rfl) rfl ?_
               refine NI_hoist 31 (np_cut np_body) ⟨hG412.trans (gz_le hH hL429), hL429.at (i := 0) rfl, hL429.at (i := 1) rfl, hL429.at (i := 2) rfl, hL429.at (i := 3) rfl, hL429.at (i := 4) rfl⟩ (by kernel_rfl) rfl (fun _ _ => RunsAt_pu rfl) rfl ?_
               refine NI_end (by kernel_rfl) ?_
               refine At_cut x428 (.cons rfl (Sub.nil _)) ⟨hL429, (hf350_1.mono hG412), h⟩
              ·obtain ⟨hk423, h⟩ := Go.L.chk_some h
               obtain ⟨hk425, h⟩ := Go.L.chk_some h
               obtain ⟨x426, hb426, h⟩ := Go.L.bind_some h
               obtain ⟨x428, hb428, h⟩ := Go.L.bind_some h
               refine S_guarded rfl rfl hg420 ?_
               refine S_index rfl rfl underlying38 zr9 h1_0 ((1 : Int).toNat) (Int.toNat_of_nonneg hk425.1).symm (idx_lt hk425) rfl ?_
               rintro p430 _ rfl hp430
               refine NI_nil ⟨hG412.trans (gz_le hH hL411), hL411.at (i := 0) rfl, hL411.at (i := 1) rfl, hL411.at (i := 2) rfl, hL411.at (i := 3) rfl, hL411.at (i := 4) rfl⟩ ?_
               refine NI_hoistg 24 (np_cut np_body) ⟨hG412.trans (gz_le hH hL411), hL411.at (i := 0) rfl, hL411.at (i := 1) rfl, hL411.at (i := 2) rfl, hL411.at (i := 3) rfl, hL411.at (i := 4) rfl⟩ (by kernel_rfl) rfl rfl rfl rfl hg420 (fun _ hI => r_load1 rfl underlying9 rfl (hp430.mono (gz_left hH)) hI.1) rfl ?_
               refine NI1 (i := 20) (by kernel_rfl) rfl ?_
               refine S_guarded rfl rfl hg420 ?_
               refine S_index rfl rfl underlying38 zr9 h1_0 ((0 : Int).toNat) (Int.toNat_of_nonneg hk423.1).symm (idx_lt hk423) rfl ?_
               rintro p431 _ rfl hp431
               refine NI_nil ⟨hG412.trans (gz_le hH hL411), hL411.at (i := 0) rfl, hL411.at (i := 1) rfl, hL411.at (i := 2) rfl, hL411.at (i := 3) rfl, hL411.at (i := 4) rfl⟩ ?_
               refine NI_hoistg 21 (np_cut np_body) ⟨hG412.trans (gz_le hH hL411), hL411.at (i := 0) rfl, hL411.at (i := 1) rfl, hL411.at (i := 2) rfl, hL411.at (i := 3) rfl, hL411.at (i := 4) rfl⟩ (by kernel_rfl) rfl rfl rfl rfl hg420 (fun _ hI => r_load1 rfl underlying9 rfl (hp431.mono (gz_left hH)) hI.1) rfl ?_
               refine NI1 (i := 26) (by kernel_rfl) rfl ?_
               refine S_guarded rfl rfl hg420 ?_
               refine S_callL rfl rfl hL411 (ref4_Near_ok _ _ (gz_le hH hL411) (h0_0.mono (gz_left hH)) hb426) ?_
               rintro u432_0 w432 ⟨_, rfl, hR432_0⟩ hx432 hL432 hle432
               have hv432_0 := hR432_0.vecG hH hL411 hx432
               replace hG412 := hG412.trans (gz_mono hH hle432)
               refine NI_nil ⟨hG412.trans (gz_le hH hL432), hL432.at (i := 0) rfl, hL432.at (i := 1) rfl, hL432.at (i := 2) rfl, hL432.at (i := 3) rfl, hL432.at (i := 4) rfl⟩ ?_
               refine NI1 (i := 27) (by kernel_rfl) rfl ?_
               refine S_guarded rfl rfl hg420 ?_
               refine S_callL rfl rfl hL432 (ref3_Ints_ok _ _ (gz_le hH hL432) (hf350_0.mono hG412) hv432_0 hb428) ?_
               rintro _ w433 rfl hx433 hL433 hle433
               replace hv432_0 := hv432_0.mono (gz_mono hH hle433)
               replace hG412 := hG412.trans (gz_mono hH hle433)
               refine NI_nil ⟨hG412.trans (gz_le hH hL433), hL433.at (i := 0) rfl, hL433.at (i := 1) rfl, hL433.at (i := 2) rfl, hL433.at (i := 3) rfl, hL433.at (i := 4) rfl⟩ ?_
               refine NI_hoistg 28 (np_cut np_body) ⟨hG412.trans (gz_le hH hL433), hL433.at (i := 0) rfl, hL433.at (i := 1) rfl, hL433.at (i := 2) rfl, hL433.at (i := 3) rfl, hL433.at (i := 4) rfl⟩ (by kernel_rfl) rfl rfl rfl rfl hg417 (fun _ _ => r_pickT rfl hg420 rfl) rfl ?_
               refine NI_hoistg 29 (np_cut np_body) ⟨hG412.trans (gz_le hH hL433), hL433.at (i := 0) rfl, hL433.at (i := 1) rfl, hL433.at (i := 2) rfl, hL433.at (i := 3) rfl, hL433.at (i := 4) rfl⟩ (by kernel_rfl) rfl rfl rfl rfl hg413 (fun _ _ => r_pickF rfl hg417 rfl) rfl ?_
               refine NI_hoist 30 (np_cut np_body) ⟨hG412.trans (gz_le hH hL433), hL433.at (i := 0) rfl, hL433.at (i := 1) rfl, hL433.at (i := 2) rfl, hL433.at (i := 3) rfl, hL433.at (i := 4) rfl⟩ (by kernel_rfl) rfl (fun _ _ => r_pickT rfl hg413 rfl) rfl ?_
               refine NI_hoist 31 (np_cut np_body) ⟨hG412.trans (gz_le hH hL433), hL433.at (i := 0) rfl, hL433.at (i := 1) rfl, hL433.at (i := 2) rfl, hL433.at (i := 3) rfl, hL433.at (i := 4) rfl⟩ (by kernel_rfl) rfl (fun _ _ => RunsAt_pu rfl) rfl ?_
               refine NI_end (by kernel_rfl) ?_
               refine At_cut x428 (.cons rfl (Sub.nil _)) ⟨hL433, (hf350_1.mono hG412), h⟩
             ·replace h := Go.L.ite_n (of_decide_eq_false hg420) h
              refine NI_no 17 (np_cut np_body) ⟨hG412.trans (gz_le hH hL411), hL411.at (i := 0) rfl, hL411.at (i := 1) rfl, hL411.at (i := 2) rfl, hL411.at (i := 3) rfl, hL411.at (i := 4) rfl⟩ (by kernel_rfl) rfl rfl rfl rfl hg420 rfl ?_
              refine NI_no 18 (np_cut np_body) ⟨hG412.trans (gz_le hH hL411), hL411.at (i := 0) rfl, hL411.at (i := 1) rfl, hL411.at (i := 2) rfl, hL411.at (i := 3) rfl, hL411.at (i := 4) rfl⟩ (by kernel_rfl) rfl rfl rfl rfl hg420 rfl ?_
              refine NI_no 19 (np_cut np_body) ⟨hG412.trans (gz_le hH hL411), hL411.at (i := 0) rfl, hL411.at (i := 1) rfl, hL411.at (i := 2) rfl, hL411.at (i := 3) rfl, hL411.at (i := 4) rfl⟩ (by kernel_rfl) rfl rfl rfl rfl hg420 rfl ?_
              refine NI_no 20 (np_cut np_body) ⟨hG412.trans (gz_le hH hL411), hL411.at (i := 0) rfl, hL411.at (i := 1) rfl, hL411.at (i := 2) rfl, hL411.at (i := 3) rfl, hL411.at (i := 4) rfl⟩ (by kernel_rfl) rfl rfl rfl rfl hg420 rfl ?_
              refine NI_no 21 (np_cut np_body) ⟨hG412.trans (gz_le hH hL411), hL411.at (i := 0) rfl, hL411.at (i := 1) rfl, hL411.at (i := 2) rfl, hL411.at (i := 3) rfl, hL411.at (i := 4) rfl⟩ (by kernel_rfl) rfl rfl rfl rfl hg420 rfl ?_
              refine NI_no 22 (np_cut np_body) ⟨hG412.trans (gz_le hH hL411), hL411.at (i := 0) rfl, hL411.at (i := 1) rfl, hL411.at (i := 2) rfl, hL411.at (i := 3) rfl, hL411.at (i := 4) rfl⟩ (by kernel_rfl) rfl rfl rfl rfl hg420 rfl ?_
              refine NI_no 23 (np_cut np_body) ⟨hG412.trans (gz_le hH hL411), hL411.at (i := 0) rfl, hL411.at (i := 1) rfl, hL411.at (i := 2) rfl, hL411.at (i := 3) rfl, hL411.at (i := 4) rfl⟩ (by kernel_rfl) rfl rfl rfl rfl hg420 rfl ?_
              refine NI_no 24 (np_cut np_body) ⟨hG412.trans (gz_le hH hL411), hL411.at (i := 0) rfl, hL411.at (i := 1) rfl, hL411.at (i := 2) rfl, hL411.at (i := 3) rfl, hL411.at (i := 4) rfl⟩ (by kernel_rfl) rfl rfl rfl rfl hg420 rfl ?_
              refine NI_no 25 (np_cut np_body) ⟨hG412.trans (gz_le hH hL411), hL411.at (i := 0) rfl, hL411.at (i := 1) rfl, hL411.at (i := 2) rfl, hL411.at (i := 3) rfl, hL411.at (i := 4) rfl⟩ (by kernel_rfl) rfl rfl rfl rfl hg420 rfl ?_
              refine NI_no 26 (np_cut np_body) ⟨hG412.trans (gz_le hH hL411), hL411.at (i := 0) rfl, hL411.at (i := 1) rfl, hL411.at (i := 2) rfl, hL411.at (i := 3) rfl, hL411.at (i := 4) rfl⟩ (by kernel_rfl) rfl rfl rfl rfl hg420 rfl ?_
              refine NI_no 27 (np_cut np_body) ⟨hG412.trans (gz_le hH hL411), hL411.at (i := 0) rfl, hL411.at (i := 1) rfl, hL411.at (i := 2) rfl, hL411.at (i := 3) rfl, hL411.at (i := 4) rfl⟩ (by kernel_rfl) rfl rfl rfl rfl hg420 rfl ?_
              refine NI_hoistg 28 (np_cut np_body) ⟨hG412.trans (gz_le hH hL411), hL411.at (i := 0) rfl, hL411.at (i := 1) rfl, hL411.at (i := 2) rfl, hL411.at (i := 3) rfl, hL411.at (i := 4) rfl⟩ (by kernel_rfl) rfl rfl rfl rfl hg417 (fun _ _ => r_pickF rfl hg420 rfl) rfl ?_
              refine NI_hoistg 29 (np_cut np_body) ⟨hG412.trans (gz_le hH hL411), hL411.at (i := 0) rfl, hL411.at (i := 1) rfl, hL411.at (i := 2) rfl, hL411.at (i := 3) rfl, hL411.at (i := 4) rfl⟩ (by kernel_rfl) rfl rfl rfl rfl hg413 (fun _ _ => r_pickF rfl hg417 rfl) rfl ?_
              refine NI_hoist 30 (np_cut np_body) ⟨hG412.trans (gz_le hH hL411), hL411.at (i := 0) rfl, hL411.at (i := 1) rfl, hL411.at (i := 2) rfl, hL411.at (i := 3) rfl, hL411.at (i := 4) rfl⟩ (by kernel_rfl) rfl (fun _ _ => r_pickT rfl hg413 rfl) rfl ?_
              refine NI_hoist 31 (np_cut np_body) ⟨hG412.trans (gz_le hH hL411), hL411.at (i := 0) rfl, hL411.at (i := 1) rfl, hL411.at (i := 2) rfl, hL411.at (i := 3) rfl, hL411.at (i := 4) rfl⟩ (by kernel_rfl) rfl (fun _ _ => RunsAt_pu rfl) rfl ?_
              refine NI_end (by kernel_rfl) ?_
              refine At_cut false (.cons rfl (Sub.nil _)) ⟨hL411, (hf350_1.mono hG412), h⟩
           ·replace h := Go.L.ite_p (not_dec_f hg415) h
            refine NI_no 8 (np_cut np_body) ⟨hG412.trans (gz_le hH hL411), hL411.at (i := 0) rfl, hL411.at (i := 1) rfl, hL411.at (i := 2) rfl, hL411.at (i := 3) rfl, hL411.at (i := 4) rfl⟩ (by kernel_rfl) rfl rfl rfl rfl hg415 rfl ?_
            refine NI_no 9 (np_cut np_body) ⟨hG412.trans (gz_le hH hL411), hL411.at (i := 0) rfl, hL411.at (i := 1) rfl, hL411.at (i := 2) rfl, hL411.at (i := 3) rfl, hL411.at (i := 4) rfl⟩ (by kernel_rfl) rfl rfl rfl rfl hg415 rfl ?_
            refine NI_no 10 (np_cut np_body) ⟨hG412.trans (gz_le hH hL411), hL411.at (i := 0) rfl, hL411.at (i := 1) rfl, hL411.at (i := 2) rfl, hL411.at (i := 3) rfl, hL411.at (i := 4) rfl⟩ (by kernel_rfl) rfl rfl rfl rfl hg415 rfl ?_
            refine NI_hoistg 11 (np_cut np_body) ⟨hG412.trans (gz_le hH hL411), hL411.at (i := 0) rfl, hL411.at (i := 1) rfl, hL411.at (i := 2) rfl, hL411.at (i := 3) rfl, hL411.at (i := 4) rfl⟩ (by kernel_rfl) rfl rfl rfl rfl hg413 (fun _ _ => r_pickF rfl hg415 rfl) rfl ?_
            refine NI_hoistg 12 (np_cut np_body) ⟨hG412.trans (gz_le hH hL411), hL411.at (i := 0) rfl, hL411.at (i := 1) rfl, hL411.at (i := 2) rfl, hL411.at (i := 3) rfl, hL411.at (i := 4) rfl⟩ (by kernel_rfl) rfl rfl rfl rfl hg413 (fun _ _ => RunsAt_pu rfl) rfl ?_
            refine NI_hoistg 13 (np_cut np_body) ⟨hG412.trans (gz_le hH hL411), hL411.at (i := 0) rfl, hL411.at (i := 1) rfl, hL411.at (i := 2) rfl, hL411.at (i := 3) rfl, hL411.at (i := 4) rfl⟩ (by kernel_rfl) rfl rfl rfl rfl rfl (fun _ _ => r_field rfl underlying25 rfl zr3 (by decide)) rfl ?_
            refine NI_hoistg 14 (np_cut np_body) ⟨hG412.trans (gz_le hH hL411), hL411.at (i := 0) rfl, hL411.at (i := 1) rfl, hL411.at (i := 2) rfl, hL411.at (i := 3) rfl, hL411.at (i := 4) rfl⟩ (by kernel_rfl) rfl rfl rfl rfl rfl (fun _ hI => r_loadH1 rfl underlying3 rfl hI.2.2.1 rfl) rfl ?_
            refine NI_hoistg 15 (np_cut np_body) ⟨hG412.trans (gz_le hH hL411), hL411.at (i := 0) rfl, hL411.at (i := 1) rfl, hL411.at (i := 2) rfl, hL411.at (i := 3) rfl, hL411.at (i := 4) rfl⟩ (by kernel_rfl) rfl rfl rfl rfl rfl (fun _ _ => RunsAt_pu rfl) rfl ?_
            refine NI_hoistg 16 (np_cut np_body) ⟨hG412.trans (gz_le hH hL411), hL411.at (i := 0) rfl, hL411.at (i := 1) rfl, hL411.at (i := 2) rfl, hL411.at (i := 3) rfl, hL411.at (i := 4) rfl⟩ (by kernel_rfl) rfl rfl rfl rfl rfl (fun _ _ => RunsAt_pu rfl) rfl ?_
            refine NI_split (s := 158) rfl (fun hg436 => ?_) (fun hg436 => ?_)
            ·replace h := Go.L.ite_p (of_decide_eq_true hg436) h
             refine NI_hoistg 17 (np_cut np_body) ⟨hG412.trans (gz_le hH hL411), hL411.at (i := 0) rfl, hL411.at (i := 1) rfl, hL411.at (i := 2) rfl, hL411.at (i := 3) rfl, hL411.at (i := 4) rfl⟩ (by kernel_rfl) rfl rfl rfl rfl hg436 (fun _ _ => RunsAt_pu rfl) rfl ?_
             refine NI_hoistg 18 (np_cut np_body) ⟨hG412.trans (gz_le hH hL411), hL411.at (i := 0) rfl, hL411.at (i := 1) rfl, hL411.at (i := 2) rfl, hL411.at (i := 3) rfl, hL411.at (i := 4) rfl⟩ (by kernel_rfl) rfl rfl rfl rfl hg436 (fun _ _ => RunsAt_pu rfl) rfl ?_
             refine NI_hoistg 19 (np_cut np_body) ⟨hG412.trans (gz_le hH hL411), hL411.at (i := 0) rfl, hL411.at (i := 1) rfl, hL411.at (i := 2) rfl, hL411.at (i := 3) rfl, hL411.at (i := 4) rfl⟩ (by kernel_rfl) rfl rfl rfl rfl hg436 (fun _ _ => RunsAt_pu rfl) rfl ?_
             refine NI_hoistg 22 (np_cut np_body) ⟨hG412.trans (gz_le hH hL411), hL411.at (i := 0) rfl, hL411.at (i := 1) rfl, hL411.at (i := 2) rfl, hL411.at (i := 3) rfl, hL411.at (i := 4) rfl⟩ (by kernel_rfl) rfl rfl rfl rfl hg436 (fun _ _ => RunsAt_pu rfl) rfl ?_
             refine NI_hoistg 25 (np_cut np_body) ⟨hG412.trans (gz_le hH hL411), hL411.at (i := 0) rfl, hL411.at (i := 1) rfl, hL411.at (i := 2) rfl, hL411.at (i := 3) rfl, hL411.at (i := 4) rfl⟩ (by kernel_rfl) rfl rfl rfl rfl hg436 (fun _ _ => RunsAt_pu rfl) rfl ?_
             refine NI2 (i := 20) (j := 23) (by kernel_rfl) rfl rfl ?_ ?_
             ·refine S_guarded rfl rfl hg436 ?_
              obtain ⟨hk439, h⟩ := Go.L.chk_some h
              refine S_index rfl rfl underlying38 zr9 h1_0 ((0 : Int).toNat) (Int.toNat_of_nonneg hk439.1).symm (idx_lt hk439) rfl ?_
              rintro p438 _ rfl hp438
              refine NI_nil ⟨hG412.trans (gz_le hH hL411), hL411.at (i := 0) rfl, hL411.at (i := 1) rfl, hL411.at (i := 2) rfl, hL411.at (i := 3) rfl, hL411.at (i := 4) rfl⟩ ?_
              refine NI_hoistg 21 (np_cut np_body) ⟨hG412.trans (gz_le hH hL411), hL411.at (i := 0) rfl, hL411.at (i := 1) rfl, hL411.at (i := 2) rfl, hL411.at (i := 3) rfl, hL411.at (i := 4) rfl⟩ (by kernel_rfl) rfl rfl rfl rfl hg436 (fun _ hI => r_load1 rfl underlying9 rfl (hp438.mono (gz_left hH)) hI.1) rfl ?_
              refine NI1 (i := 23) (by kernel_rfl) rfl ?_
              refine S_guarded rfl rfl hg436 ?_
              obtain ⟨hk441, h⟩ := Go.L.chk_some h
              refine S_index rfl rfl underlying38 zr9 h1_0 ((1 : Int).toNat) (Int.toNat_of_nonneg hk441.1).symm (idx_lt hk441) rfl ?_
              rintro p440 _ rfl hp440
              refine NI_nil ⟨hG412.trans (gz_le hH hL411), hL411.at (i := 0) rfl, hL411.at (i := 1) rfl, hL411.at (i := 2) rfl, hL411.at (i := 3) rfl, hL411.at (i := 4) rfl⟩ ?_
              refine NI_hoistg 24 (np_cut np_body) ⟨hG412.trans (gz_le hH hL411), hL411.at (i := 0) rfl, hL411.at (i := 1) rfl, hL411.at (i := 2) rfl, hL411.at (i := 3) rfl, hL411.at (i := 4) rfl⟩ (by kernel_rfl) rfl rfl rfl rfl hg436 (fun _ hI => r_load1 rfl underlying9 rfl (hp440.mono (gz_left hH)) hI.1) rfl ?_
              refine NI1 (i := 26) (by kernel_rfl) rfl ?_
              refine S_guarded rfl rfl hg436 ?_
              obtain ⟨x442, hb442, h⟩ := Go.L.bind_some h
              refine S_callL rfl rfl hL411 (ref4_Near_ok _ _ (gz_le hH hL411) (h0_0.mono (gz_left hH)) hb442) ?_
              rintro u443_0 w443 ⟨_, rfl, hR443_0⟩ hx443 hL443 hle443
              have hv443_0 := hR443_0.vecG hH hL411 hx443
              replace hG412 := hG412.trans (gz_mono hH hle443)
              refine NI_nil ⟨hG412.trans (gz_le hH hL443), hL443.at (i := 0) rfl, hL443.at (i := 1) rfl, hL443.at (i := 2) rfl, hL443.at (i := 3) rfl, hL443.at (i := 4) rfl⟩ ?_
              refine NI1 (i := 27) (by kernel_rfl) rfl ?_
              refine S_guarded rfl rfl hg436 ?_
              obtain ⟨x444, hb444, h⟩ := Go.L.bind_some h
              refine S_callL rfl rfl hL443 (ref3_Ints_ok _ _ (gz_le hH hL443) (hf350_0.mono hG412) hv443_0 hb444) ?_
              rintro _ w445 rfl hx445 hL445 hle445
              replace hv443_0 := hv443_0.mono (gz_mono hH hle445)
              replace hG412 := hG412.trans (gz_mono hH hle445)
              refine NI_nil ⟨hG412.trans (gz_le hH hL445), hL445.at (i := 0) rfl, hL445.at (i := 1) rfl, hL445.at (i := 2) rfl, hL445.at (i := 3) rfl, hL445.at (i := 4) rfl⟩ ?_
              refine NI_hoistg 28 (np_cut np_body) ⟨hG412.trans (gz_le hH hL445), hL445.at (i := 0) rfl, hL445.at (i := 1) rfl, hL445.at (i := 2) rfl, hL445.at (i := 3) rfl, hL445.at (i := 4) rfl⟩ (by kernel_rfl) rfl rfl rfl rfl rfl (fun _ _ => r_pickT rfl hg436 rfl) rfl ?_
              refine NI_hoistg 29 (np_cut np_body) ⟨hG412.trans (gz_le hH hL445), hL445.at (i := 0) rfl, hL445.at (i := 1) rfl, hL445.at (i := 2) rfl, hL445.at (i := 3) rfl, hL445.at (i := 4) rfl⟩ (by kernel_rfl) rfl rfl rfl rfl hg413 (fun _ _ => r_pickF rfl rfl rfl) rfl ?_
              refine NI_hoist 30 (np_cut np_body) ⟨hG412.trans (gz_le hH hL445), hL445.at (i := 0) rfl, hL445.at (i := 1) rfl, hL445.at (i := 2) rfl, hL445.at (i := 3) rfl, hL445.at (i := 4) rfl⟩ (by kernel_rfl) rfl (fun _ _ => r_pickT rfl hg413 rfl) rfl ?_
              refine NI_hoist 31 (np_cut np_body) ⟨hG412.trans (gz_le hH hL445), hL445.at (i := 0) rfl, hL445.at (i := 1) rfl, hL445.at (i := 2) rfl, hL445.at (i := 3) rfl, hL445.at (i := 4) rfl⟩ (by kernel_rfl) rfl (fun _ _ => RunsAt_pu rfl) rfl ?_
              refine NI_end (by kernel_rfl) ?_
              refine At_cut x444 (.cons rfl (Sub.nil _)) ⟨hL445, (hf350_1.mono hG412), h⟩
             ·obtain ⟨hk439, h⟩ := Go.L.chk_some h
              obtain ⟨hk441, h⟩ := Go.L.chk_some h
              obtain ⟨x442, hb442, h⟩ := Go.L.bind_some h
              obtain ⟨x444, hb444, h⟩ := Go.L.bind_some h
              refine S_guarded rfl rfl hg436 ?_
              refine S_index rfl rfl underlying38 zr9 h1_0 ((1 : Int).toNat) (Int.toNat_of_nonneg hk441.1).symm (idx_lt hk441) rfl ?_
              rintro p446 _ rfl hp446
              refine NI_nil ⟨hG412.trans (gz_le hH hL411), hL411.at (i := 0) rfl, hL411.at (i := 1) rfl, hL411.at (i := 2) rfl, hL411.at (i := 3) rfl, hL411.at (i := 4) rfl⟩ ?_
              refine NI_hoistg 24 (np_cut np_body) ⟨hG412.trans (gz_le hH hL411), hL411.at (i := 0) rfl, hL411.at (i := 1) rfl, hL411.at (i := 2) rfl, hL411.at (i := 3) rfl, hL411.at (i := 4) rfl⟩ (by kernel_rfl) rfl rfl rfl rfl hg436 (fun _ hI => r_load1 rfl underlying9 rfl (hp446.mono (gz_left hH)) hI.1) rfl ?_
              refine NI1 (i := 20) (by kernel_rfl) rfl ?_
              refine S_guarded rfl rfl hg436 ?_
              refine S_index rfl rfl underlying38 zr9 h1_0 ((0 : Int).toNat) (Int.toNat_of_nonneg hk439.1).symm (idx_lt hk439) rfl ?_
              rintro p447 _ rfl hp447
              refine NI_nil ⟨hG412.trans (gz_le hH hL411), hL411.at (i := 0) rfl, hL411.at (i := 1) rfl, hL411.at (i := 2) rfl, hL411.at (i := 3) rfl, hL411.at (i := 4) rfl⟩ ?_
              refine NI_hoistg 21 (np_cut np_body) ⟨hG412.trans (gz_le hH hL411), hL411.at (i := 0) rfl, hL411.at (i := 1) rfl, hL411.at (i := 2) rfl, hL411.at (i := 3) rfl, hL411.at (i := 4) rfl⟩ (by kernel_rfl) rfl rfl rfl rfl hg436 (fun _ hI => r_load1 rfl underlying9 rfl (hp447.mono (gz_left hH)) hI.1) rfl ?_
              refine NI1 (i := 26) (by kernel_rfl) rfl ?_
              refine S_guarded rfl rfl hg436 ?_
              refine S_callL rfl rfl hL411 (ref4_Near_ok _ _ (gz_le hH hL411) (h0_0.mono (gz_left hH)) hb442) ?_
              rintro u448_0 w448 ⟨_, rfl, hR448_0⟩ hx448 hL448 hle448
              have hv448_0 := hR448_0.vecG hH hL411 hx448
              replace hG412 := hG412.trans (gz_mono hH hle448)
              refine NI_nil ⟨hG412.trans (gz_le hH hL448), hL448.at (i := 0) rfl, hL448.at (i := 1) rfl, hL448.at (i := 2) rfl, hL448.at (i := 3) rfl, hL448.at (i := 4) rfl⟩ ?_
              refine NI1 (i := 27) (by kernel_rfl) rfl ?_
              refine S_guarded rfl rfl hg436 ?_
              refine S_callL rfl rfl hL448 (ref3_Ints_ok _ _ (gz_le hH hL448) (hf350_0.mono hG412) hv448_0 hb444) ?_
              rintro _ w449 rfl hx449 hL449 hle449
              replace hv448_0 := hv448_0.mono (gz_mono hH hle449)
              replace hG412 := hG412.trans (gz_mono hH hle449)
              refine NI_nil ⟨hG412.trans (gz_le hH hL449), hL449.at (i := 0) rfl, hL449.at (i := 1) rfl, hL449.at (i := 2) rfl, hL449.at (i := 3) rfl, hL449.at (i := 4) rfl⟩ ?_
              refine NI_hoistg 28 (np_cut np_body) ⟨hG412.trans (gz_le hH hL449), hL449.at (i := 0) rfl, hL449.at (i := 1) rfl, hL449.at (i := 2) rfl, hL449.at (i := 3) rfl, hL449.at (i := 4) rfl⟩ (by kernel_rfl) rfl rfl rfl rfl rfl (fun _ _ => r_pickT rfl hg436 rfl) rfl ?_
              refine NI_hoistg 29 (np_cut np_body) ⟨hG412.trans (gz_le hH hL449), hL449.at (i := 0) rfl, hL449.at (i := 1) rfl, hL449.at (i := 2) rfl, hL449.at (i := 3) rfl, hL449.at (i := 4) rfl⟩ (by kernel_rfl) rfl rfl rfl rfl hg413 (fun _ _ => r_pickF rfl rfl rfl) rfl ?_
              refine NI_hoist 30 (np_cut np_body) ⟨hG412.trans (gz_le hH hL449), hL449.at (i := 0) rfl, hL449.at (i := 1) rfl, hL449.at (i := 2) rfl, hL449.at (i := 3) rfl, hL449.at (i := 4) rfl⟩ (by kernel_rfl) rfl (fun _ _ => r_pickT rfl hg413 rfl) rfl ?_
              refine NI_hoist 31 (np_cut np_body) ⟨hG412.trans (gz_le hH hL449), hL449.at (i := 0) rfl, hL449.at (i := 1) rfl, hL449.at (i := 2) rfl, hL449.at (i := 3) rfl, hL449.at (i := 4) rfl⟩ (by kernel_rfl) rfl (fun _ _ => RunsAt_pu rfl) rfl ?_
              refine NI_end (by kernel_rfl) ?_
              refine At_cut x444 (.cons rfl (Sub.nil _)) ⟨hL449, (hf350_1.mono hG412), h⟩
            ·replace h := Go.L.ite_n (of_decide_eq_false hg436) h
             refine NI_no 17 (np_cut np_body) ⟨hG412.trans (gz_le hH hL411), hL411.at (i := 0) rfl, hL411.at (i := 1) rfl, hL411.at (i := 2) rfl, hL411.at (i := 3) rfl, hL411.at (i := 4) rfl⟩ (by kernel_rfl) rfl rfl rfl rfl hg436 rfl ?_
             refine NI_no 18 (np_cut np_body) ⟨hG412.trans (gz_le hH hL411), hL411.at (i := 0) rfl, hL411.at (i := 1) rfl, hL411.at (i := 2) rfl, hL411.at (i := 3) rfl, hL411.at (i := 4) rfl⟩ (by kernel_rfl) rfl rfl rfl rfl hg436 rfl ?_
             refine NI_no 19 (np_cut np_body) ⟨hG412.trans (gz_le hH hL411), hL411.at (i := 0) rfl, hL411.at (i := 1) rfl, hL411.at (i := 2) rfl, hL411.at (i := 3) rfl, hL411.at (i := 4) rfl⟩ (by kernel_rfl) rfl rfl rfl rfl hg436 rfl ?_
             refine NI_no 20 (np_cut np_body) ⟨hG412.trans (gz_le hH hL411), hL411.at (i := 0) rfl, hL411.at (i := 1) rfl, hL411.at (i := 2) rfl, hL411.at (i := 3) rfl, hL411.at (i := 4) rfl⟩ (by kernel_rfl) rfl rfl rfl rfl hg436 rfl ?_
             refine NI_no 21 (np_cut np_body) ⟨hG412.trans (gz_le hH hL411), hL411.at (i := 0) rfl, hL411.at (i := 1) rfl, hL411.at (i := 2) rfl, hL411.at (i := 3) rfl, hL411.at (i := 4) rfl⟩ (by kernel_rfl) rfl rfl rfl rfl hg436 rfl ?_
             refine NI_no 22 (np_cut np_body) ⟨hG412.trans (gz_le hH hL411), hL411.at (i := 0) rfl, hL411.at (i := 1) rfl, hL411.at (i := 2) rfl, hL411.at (i := 3) rfl, hL411.at (i := 4) rfl⟩ (by kernel_rfl) rfl rfl rfl rfl hg436 rfl ?_
             refine NI_no 23 (np_cut np_body) ⟨hG412.trans (gz_le hH hL411), hL411.at (i := 0) rfl, hL411.at (i := 1) rfl, hL411.at (i := 2) rfl, hL411.at (i := 3) rfl, hL411.at (i := 4) rfl⟩ (by kernel_rfl) rfl rfl rfl rfl hg436 rfl ?_
             refine NI_no 24 (np_cut np_body) ⟨hG412.trans (gz_le hH hL411), hL411.at (i := 0) rfl, hL411.at (i := 1) rfl, hL411.at (i := 2) rfl, hL411.at (i := 3) rfl, hL411.at (i := 4) rfl⟩ (by kernel_rfl) rfl rfl rfl rfl hg436 rfl ?_
             refine NI_no 25 (np_cut np_body) ⟨hG412.trans (gz_le hH hL411), hL411.at (i := 0) rfl, hL411.at (i := 1) rfl, hL411.at (i := 2) rfl, hL411.at (i := 3) rfl, hL411.at (i := 4) rfl⟩ (by kernel_rfl) rfl rfl rfl rfl hg436 rfl ?_
             refine NI_no 26 (np_cut np_body) ⟨hG412.trans (gz_le hH hL411), hL411.at (i := 0) rfl, hL411.at (i := 1) rfl, hL411.at (i := 2) rfl, hL411.at (i := 3) rfl, hL411.at (i := 4) rfl⟩ (by kernel_rfl) rfl rfl rfl rfl hg436 rfl ?_
             refine NI_no 27 (np_cut np_body) ⟨hG412.trans (gz_le hH hL411), hL411.at (i := 0) rfl, hL411.at (i := 1) rfl, hL411.at (i := 2) rfl, hL411.at (i := 3) rfl, hL411.at (i := 4) rfl⟩ (by kernel_rfl) rfl rfl rfl rfl hg436 rfl ?_
             refine NI_hoistg 28 (np_cut np_body) ⟨hG412.trans (gz_le hH hL411), hL411.at (i := 0) rfl, hL411.at (i := 1) rfl, hL411.at (i := 2) rfl, hL411.at (i := 3) rfl, hL411.at (i := 4) rfl⟩ (by kernel_rfl) rfl rfl rfl rfl rfl (fun _ _ => r_pickF rfl hg436 rfl) rfl ?_
             refine NI_hoistg 29 (np_cut np_body) ⟨hG412.trans (gz_le hH hL411), hL411.at (i := 0) rfl, hL411.at (i := 1) rfl, hL411.at (i := 2) rfl, hL411.at (i := 3) rfl, hL411.at (i := 4) rfl⟩ (by kernel_rfl) rfl rfl rfl rfl hg413 (fun _ _ => r_pickF rfl rfl rfl) rfl ?_
             refine NI_hoist 30 (np_cut np_body) ⟨hG412.trans (gz_le hH hL411), hL411.at (i := 0) rfl, hL411.at (i := 1) rfl, hL411.at (i := 2) rfl, hL411.at (i := 3) rfl, hL411.at (i := 4) rfl⟩ (by kernel_rfl) rfl (fun _ _ => r_pickT rfl hg413 rfl) rfl ?_
             refine NI_hoist 31 (np_cut np_body) ⟨hG412.trans (gz_le hH hL411), hL411.at (i := 0) rfl, hL411.at (i := 1) rfl, hL411.at (i := 2) rfl, hL411.at (i := 3) rfl, hL411.at (i := 4) rfl⟩ (by kernel_rfl) rfl (fun _ _ => RunsAt_pu rfl) rfl ?_
             refine NI_end (by kernel_rfl) ?_
             refine At_cut false (.cons rfl (Sub.nil _)) ⟨hL411, (hf350_1.mono hG412), h⟩
          ·replace h := Go.L.ite_n (of_decide_eq_false hg413) h
           refine NI_no 4 (np_cut np_body) ⟨hG412.trans (gz_le hH hL411), hL411.at (i := 0) rfl, hL411.at (i := 1) rfl, hL411.at (i := 2) rfl, hL411.at (i := 3) rfl, hL411.at (i := 4) rfl⟩ (by kernel_rfl) rfl rfl rfl rfl hg413 rfl ?_
           refine NI_no 5 (np_cut np_body) ⟨hG412.trans (gz_le hH hL411), hL411.at (i := 0) rfl, hL411.at (i := 1) rfl, hL411.at (i := 2) rfl, hL411.at (i := 3) rfl, hL411.at (i := 4) rfl⟩ (by kernel_rfl) rfl rfl rfl rfl hg413 rfl ?_
           refine NI_no 6 (np_cut np_body) ⟨hG412.trans (gz_le hH hL411), hL411.at (i := 0) rfl, hL411.at (i := 1) rfl, hL411.at (i := 2) rfl, hL411.at (i := 3) rfl, hL411.at (i := 4) rfl⟩ (by kernel_rfl) rfl rfl rfl rfl hg413 rfl ?_
           refine NI_no 7 (np_cut np_body) ⟨hG412.trans (gz_le hH hL411), hL411.at (i := 0) rfl, hL411.at (i := 1) rfl, hL411.at (i := 2) rfl, hL411.at (i := 3) rfl, hL411.at (i := 4) rfl⟩ (by kernel_rfl) rfl rfl rfl rfl hg413 rfl ?_
           refine NI_no2 8 (np_cut np_body) ⟨hG412.trans (gz_le hH hL411), hL411.at (i := 0) rfl, hL411.at (i := 1) rfl, hL411.at (i := 2) rfl, hL411.at (i := 3) rfl, hL411.at (i := 4) rfl⟩ (by kernel_rfl) rfl rfl rfl rfl rfl ?_
           refine NI_no2 9 (np_cut np_body) ⟨hG412.trans (gz_le hH hL411), hL411.at (i := 0) rfl, hL411.at (i := 1) rfl, hL411.at (i := 2) rfl, hL411.at (i := 3) rfl, hL411.at (i := 4) rfl⟩ (by kernel_rfl) rfl rfl rfl rfl rfl ?_
           refine NI_no2 10 (np_cut np_body) ⟨hG412.trans (gz_le hH hL411), hL411.at (i := 0) rfl, hL411.at (i := 1) rfl, hL411.at (i := 2) rfl, hL411.at (i := 3) rfl, hL411.at (i := 4) rfl⟩ (by kernel_rfl) rfl rfl rfl rfl rfl ?_
           refine NI_no 11 (np_cut np_body) ⟨hG412.trans (gz_le hH hL411), hL411.at (i := 0) rfl, hL411.at (i := 1) rfl, hL411.at (i := 2) rfl, hL411.at (i := 3) rfl, hL411.at (i := 4) rfl⟩ (by kernel_rfl) rfl rfl rfl rfl hg413 rfl ?_
           refine NI_no 12 (np_cut np_body) ⟨hG412.trans (gz_le hH hL411), hL411.at (i := 0) rfl, hL411.at (i := 1) rfl, hL411.at (i := 2) rfl, hL411.at (i := 3) rfl, hL411.at (i := 4) rfl⟩ (by kernel_rfl) rfl rfl rfl rfl hg413 rfl ?_
           refine NI_no2 13 (np_cut np_body) ⟨hG412.trans (gz_le hH hL411), hL411.at (i := 0) rfl, hL411.at (i := 1) rfl, hL411.at (i := 2) rfl, hL411.at (i := 3) rfl, hL411.at (i := 4) rfl⟩ (by kernel_rfl) rfl rfl rfl rfl rfl ?_
           refine NI_no2 14 (np_cut np_body) ⟨hG412.trans (gz_le hH hL411), hL411.at (i := 0) rfl, hL411.at (i := 1) rfl, hL411.at (i := 2) rfl, hL411.at (i := 3) rfl, hL411.at (i := 4) rfl⟩ (by kernel_rfl) rfl rfl rfl rfl rfl ?_
           refine NI_no2 15 (np_cut np_body) ⟨hG412.trans (gz_le hH hL411), hL411.at (i := 0) rfl, hL411.at (i := 1) rfl, hL411.at (i := 2) rfl, hL411.at (i := 3) rfl, hL411.at (i := 4) rfl⟩ (by kernel_rfl) rfl rfl rfl rfl rfl ?_
           refine NI_no2 16 (np_cut np_body) ⟨hG412.trans (gz_le hH hL411), hL411.at (i := 0) rfl, hL411.at (i := 1) rfl, hL411.at (i := 2) rfl, hL411.at (i := 3) rfl, hL411.at (i := 4) rfl⟩ (by kernel_rfl) rfl rfl rfl rfl rfl ?_
           refine NI_no2 17 (np_cut np_body) ⟨hG412.trans (gz_le hH hL411), hL411.at (i := 0) rfl, hL411.at (i := 1) rfl, hL411.at (i := 2) rfl, hL411.at (i := 3) rfl, hL411.at (i := 4) rfl⟩ (by kernel_rfl) rfl rfl rfl rfl rfl ?_
           refine NI_no2 18 (np_cut np_body) ⟨hG412.trans (gz_le hH hL411), hL411.at (i := 0) rfl, hL411.at (i := 1) rfl, hL411.at (i := 2) rfl, hL411.at (i := 3) rfl, hL411.at (i := 4) rfl⟩ (by kernel_rfl) rfl rfl rfl rfl rfl ?_
           refine NI_no2 19 (np_cut np_body) ⟨hG412.trans (gz_le hH hL411), hL411.at (i := 0) rfl, hL411.at (i := 1) rfl, hL411.at (i := 2) rfl, hL411.at (i := 3) rfl, hL411.at (i := 4) rfl⟩ (by kernel_rfl) rfl rfl rfl rfl rfl ?_
           refine NI_no2 20 (np_cut np_body) ⟨hG412.trans (gz_le hH hL411), hL411.at (i := 0) rfl, hL411.at (i := 1) rfl, hL411.at (i := 2) rfl, hL411.at (i := 3) rfl, hL411.at (i := 4) rfl⟩ (by kernel_rfl) rfl rfl rfl rfl rfl ?_
           refine NI_no2 21 (np_cut np_body) ⟨hG412.trans (gz_le hH hL411), hL411.at (i := 0) rfl, hL411.at (i := 1) rfl, hL411.at (i := 2) rfl, hL411.at (i := 3) rfl, hL411.at (i := 4) rfl⟩ (by kernel_rfl) rfl rfl rfl rfl rfl ?_
           refine NI_no2 22 (np_cut np_body) ⟨hG412.trans (gz_le hH hL411), hL411.at (i := 0) rfl, hL411.at (i := 1) rfl, hL411.at (i := 2) rfl, hL411.at (i := 3) rfl, hL411.at (i := 4) rfl⟩ (by kernel_rfl) rfl rfl rfl rfl rfl ?_
           refine NI_no2 23 (np_cut np_body) ⟨hG412.trans (gz_le hH hL411), hL411.at (i := 0) rfl, hL411.at (i := 1) rfl, hL411.at (i := 2) rfl, hL411.at (i := 3) rfl, hL411.at (i := 4) rfl⟩ (by kernel_rfl) rfl rfl rfl rfl rfl ?_
           refine NI_no2 24 (np_cut np_body) ⟨hG412.trans (gz_le hH hL411), hL411.at (i := 0) rfl, hL411.at (i := 1) rfl, hL411.at (i := 2) rfl, hL411.at (i := 3) rfl, hL411.at (i := 4) rfl⟩ (by kernel_rfl) rfl rfl rfl rfl rfl ?_
           refine NI_no2 25 (np_cut np_body) ⟨hG412.trans (gz_le hH hL411), hL411.at (i := 0) rfl, hL411.at (i := 1) rfl, hL411.at (i := 2) rfl, hL411.at (i := 3) rfl, hL411.at (i := 4) rfl⟩ (by kernel_rfl) rfl rfl rfl rfl rfl ?_
           refine NI_no2 26 (np_cut np_body) ⟨hG412.trans (gz_le hH hL411), hL411.at (i := 0) rfl, hL411.at (i := 1) rfl, hL411.at (i := 2) rfl, hL411.at (i := 3) rfl, hL411.at (i := 4) rfl⟩ (by kernel_rfl) rfl rfl rfl rfl rfl ?_
           refine NI_no2 27 (np_cut np_body) ⟨hG412.trans (gz_le hH hL411), hL411.at (i := 0) rfl, hL411.at (i := 1) rfl, hL411.at (i := 2) rfl, hL411.at (i := 3) rfl, hL411.at (i := 4) rfl⟩ (by kernel_rfl) rfl rfl rfl rfl rfl ?_
           refine NI_no2 28 (np_cut np_body) ⟨hG412.trans (gz_le hH hL411), hL411.at (i := 0) rfl, hL411.at (i := 1) rfl, hL411.at (i := 2) rfl, hL411.at (i := 3) rfl, hL411.at (i := 4) rfl⟩ (by kernel_rfl) rfl rfl rfl rfl rfl ?_
           refine NI_no 29 (np_cut np_body) ⟨hG412.trans (gz_le hH hL411), hL411.at (i := 0) rfl, hL411.at (i := 1) rfl, hL411.at (i := 2) rfl, hL411.at (i := 3) rfl, hL411.at (i := 4) rfl⟩ (by kernel_rfl) rfl rfl rfl rfl hg413 rfl ?_
           refine NI_hoist 30 (np_cut np_body) ⟨hG412.trans (gz_le hH hL411), hL411.at (i := 0) rfl, hL411.at (i := 1) rfl, hL411.at (i := 2) rfl, hL411.at (i := 3) rfl, hL411.at (i := 4) rfl⟩ (by kernel_rfl) rfl (fun _ _ => r_pickF rfl hg413 rfl) rfl ?_
           refine NI_hoist 31 (np_cut np_body) ⟨hG412.trans (gz_le hH hL411), hL411.at (i := 0) rfl, hL411.at (i := 1) rfl, hL411.at (i := 2) rfl, hL411.at (i := 3) rfl, hL411.at (i := 4) rfl⟩ (by kernel_rfl) rfl (fun _ _ => RunsAt_pu rfl) rfl ?_
           refine NI_end (by kernel_rfl) ?_
           refine At_cut false (.cons rfl (Sub.nil _)) ⟨hL411, (hf350_1.mono hG412), h⟩
         ·rintro s6_407 wr408 ⟨hL408, hf408_0, h⟩
          refine W_ret ?_
          obtain rfl := Option.some.inj h
          refine At_body rfl rfl ?_
          exact ⟨hL408.ext, rfl⟩
end Go.Proofs.YtdiieblgeaehpaaDoor
