/- Generated walk: a law of words. -/
import Derived.Test.YtdiieblgeaehpaaDoorP8
import Derived.KernelRfl
namespace Go.Proofs.YtdiieblgeaehpaaDoor
open Go Go.E Go.RowKit
set_option maxHeartbeats 1000000
set_option maxRecDepth 10000
open _root_.Go.Proofs.Tryd
noncomputable def law4_WordsNearIsMutual_k3 (s20_297 : Int) (s19_361 : Int) (_s132_362 : List Int) (_s133_363 : Int) (_s135_364 : Int) (_s136_365 : List Int) (_s137_366 : Int) (_s139_367 : Int) (_s140_368 : Bool) : Option ((Int × Int) ⊕ (Bool)) :=
 Go.L.chk (Go.L.I64 (s20_297 + (1 : Int))) (some (Sum.inl (s19_361, (s20_297 + (1 : Int)))))
noncomputable def law4_WordsNearIsMutual_k4 (s20_297 : Int) (x29 : (List Int) × (Int × Int)) (x46 : (List Int) × (Int × Int)) (s19_410 : Int) : Option ((Int × Int) ⊕ (Bool)) :=
 if (x46.1.length : Int) ≤ s19_410 then Option.map Sum.inr (some (false)) else Go.L.chk (0 ≤ s19_410 ∧ s19_410 < (x46.1.length : Int)) (Go.L.chk (0 ≤ s20_297 ∧ s20_297 < (x29.1.length : Int)) (if x46.1.getD s19_410.toNat default = x29.1.getD s20_297.toNat default then (law4_WordsNearIsMutual_k3 s20_297) s19_410 x46.1 s19_410 (x46.1.getD s19_410.toNat default) x29.1 s20_297 (x29.1.getD s20_297.toNat default) (!decide (x46.1.getD s19_410.toNat default = x29.1.getD s20_297.toNat default)) else Option.map Sum.inr (some (false))))
noncomputable def law4_WordsNearIsMutual_bl5 (s20_297 : Int) (x29 : (List Int) × (Int × Int)) (x46 : (List Int) × (Int × Int)) : Int → Option ((Int) ⊕ ((Int × Int) ⊕ (Bool))) := fun s19_431 =>
 if s19_431 < (x46.1.length : Int) then Go.L.chk (0 ≤ s19_431 ∧ s19_431 < (x46.1.length : Int)) (Go.L.chk (0 ≤ s20_297 ∧ s20_297 < (x29.1.length : Int)) (if x46.1.getD s19_431.toNat default < x29.1.getD s20_297.toNat default then Go.L.chk (Go.L.I64 (s19_431 + (1 : Int))) (some (Sum.inl (s19_431 + (1 : Int)))) else Option.map Sum.inr ((law4_WordsNearIsMutual_k4 s20_297 x29 x46) s19_431))) else Option.map Sum.inr ((law4_WordsNearIsMutual_k4 s20_297 x29 x46) s19_431)
noncomputable def law4_WordsNearIsMutual_l5 (s20_297 : Int) (x29 : (List Int) × (Int × Int)) (x46 : (List Int) × (Int × Int)) (s : Int) : Option ((Int × Int) ⊕ (Bool)) := Go.L.run (law4_WordsNearIsMutual_bl5 s20_297 x29 x46) s
noncomputable def law4_WordsNearIsMutual_k1 : Option (Bool) :=
 some (true)
noncomputable def law4_WordsNearIsMutual_bl2 (x29 : (List Int) × (Int × Int)) (x46 : (List Int) × (Int × Int)) : Int × Int → Option ((Int × Int) ⊕ (Bool)) := fun ⟨s19_296, s20_297⟩ =>
 if s20_297 < (x29.1.length : Int) then (law4_WordsNearIsMutual_l5 s20_297 x29 x46) s19_296 else Option.map Sum.inr (law4_WordsNearIsMutual_k1)
noncomputable def law4_WordsNearIsMutual_l2 (x29 : (List Int) × (Int × Int)) (x46 : (List Int) × (Int × Int)) (s : Int × Int) : Option (Bool) := Go.L.run (law4_WordsNearIsMutual_bl2 x29 x46) s
noncomputable def law4_WordsNearIsMutual (a0 : List (List UInt8)) (a1 : List UInt8) (a2 : List UInt8) (a3 : Int) (a4 : Int) : Option (Bool) :=
 Option.bind (words_Build a0) (fun x1 => Option.bind (law4_speaks) (fun x7 => if !x7 then Option.bind (law4_speaks) (fun x11 => if x11 then Option.bind (words_Index_Items (x1.1.1, x1.1.2)) (fun x15 => some (decide (x15 = (0 : Int)))) else some (false)) else if x1.2.1 = (0 : Int) then Option.bind (words_Index_Near (x1.1.1, x1.1.2) a1 a2 a3) (fun x29 => Option.bind (words_Index_Near (x1.1.1, x1.1.2) a2 a1 a3) (fun x33 => if x29.2.1 = (0 : Int) then if x33.2.1 = (0 : Int) then Option.bind (words_Index_Near (x1.1.1, x1.1.2) a1 a2 a4) (fun x46 => Option.bind (ref3_Ints x29.1 x33.1) (fun x50 => if !x50 then Option.bind (ref3_Ints x29.1 x33.1) (fun x54 => if x54 then if x46.2.1 = (0 : Int) then some (true) else some (decide ((x46.1.length : Int) = (0 : Int))) else some (false)) else if (bif !decide (x46.2.1 = (0 : Int)) then true else decide (a4 < a3)) then Option.bind (ref3_Ints x29.1 x33.1) (fun x65 => if x65 then if x46.2.1 = (0 : Int) then some (true) else some (decide ((x46.1.length : Int) = (0 : Int))) else some (false)) else (law4_WordsNearIsMutual_l2 x29 x46) ((0 : Int), (0 : Int)))) else Go.L.chk (Go.L.I64 ((x29.1.length : Int) + (x33.1.length : Int))) (some (decide (((x29.1.length : Int) + (x33.1.length : Int)) = (0 : Int)))) else Go.L.chk (Go.L.I64 ((x29.1.length : Int) + (x33.1.length : Int))) (some (decide (((x29.1.length : Int) + (x33.1.length : Int)) = (0 : Int)))))) else Option.bind (law4_speaks) (fun x21 => if x21 then Option.bind (words_Index_Items (x1.1.1, x1.1.2)) (fun x25 => some (decide (x25 = (0 : Int)))) else some (false))))

theorem law4_WordsNearIsMutual_ok (w : World) (H : PH) (hH : Le H (hp w)) (hU : Utab H) {a0 : List (List UInt8)} {a1 : List UInt8} {a2 : List UInt8} {a3 : Int} {a4 : Int} {v0_0 : Value} (h0_0 : Vec (.vec .byte) H v0_0 (a0)) {r : Bool} (h : law4_WordsNearIsMutual a0 a1 a2 a3 a4 = some r) :
  Ok Tryd.prog 6 [v0_0, .string ⟨(a1).toArray⟩, .string ⟨(a2).toArray⟩, .int .i64 a3, .int .i64 a4] w (fun v w' => Ext w w' ∧ v = .bool r) := by
 refine Ok_enter (n := 142) [(0, v0_0), (1, .string ⟨(a1).toArray⟩), (2, .string ⟨(a2).toArray⟩), (3, .int .i64 a3), (4, .int .i64 a4)] func6 rfl rfl rfl rfl rfl ?_
 have hL := Lcl.start w
 refine W_pz 1 rfl ?_
 refine W_p 1 rfl ?_
 obtain ⟨x1, hb1, h⟩ := Go.L.bind_some h
 refine S_callL rfl rfl hL (words_Build_ok _ _ (gz_le hH hL) (hU.mono (gz_left hH)) (h0_0.mono (gz_left hH)) hb1) ?_
 rintro _ w2 ⟨u2_0, rfl, hR2_0⟩ hx2 hL2 hle2
 have hv2_0 := hR2_0.mono (gz_nw hH hL hx2)
 refine S_pu 3 rfl ?_
 refine S_alloc zr41 rfl rfl hL2 ?_
 intro w3 b3 hL3 hle3 _
 replace hv2_0 := hv2_0.mono (gz_mono hH hle3)
 refine S_alloc zr25 rfl rfl hL3 ?_
 intro w4 b4 hL4 hle4 _
 replace hv2_0 := hv2_0.mono (gz_mono hH hle4)
 refine S_storeBN 1 rfl rfl rfl zr41 hL4 rfl rfl (onc rfl (onc hv2_0.one on0)) ?_
 intro w5 hL5 hle5
 replace hv2_0 := hv2_0.mono (gz_mono hH hle5)
 refine S_storeBN 0 rfl rfl rfl zr25 hL5 rfl rfl (onc rfl (onc rfl on0)) ?_
 intro w6 hL6 hle6
 replace hv2_0 := hv2_0.mono (gz_mono hH hle6)
 refine S_seqnil ?_
 refine W_seq ?_
 refine W_seqr ?_
 obtain ⟨x7, hb7, h⟩ := Go.L.bind_some h
 refine S_callL rfl rfl hL6 (law4_speaks_ok _ _ (gz_le hH hL6) (hU.mono (gz_left hH)) hb7) ?_
 rintro _ w8 rfl hx8 hL8 hle8
 replace hv2_0 := hv2_0.mono (gz_mono hH hle8)
 refine S_pu 2 rfl ?_
 refine S_split (s := 28) rfl (fun hg9 => ?_) (fun hg9 => ?_)
 ·replace h := Go.L.ite_t hg9 h
  iterate 3 refine S_unwanted rfl rfl hg9 rfl ?_
  refine S_v (r_pickT rfl hg9 rfl) rfl ?_
  refine S_seqnil ?_
  refine W_true rfl ?_
  refine W_seqr ?_
  obtain ⟨x11, hb11, h⟩ := Go.L.bind_some h
  refine S_callL rfl rfl hL8 (law4_speaks_ok _ _ (gz_le hH hL8) (hU.mono (gz_left hH)) hb11) ?_
  rintro _ w12 rfl hx12 hL12 hle12
  replace hv2_0 := hv2_0.mono (gz_mono hH hle12)
  refine S_pu 1 rfl ?_
  refine S_split (s := 34) rfl (fun hg13 => ?_) (fun hg13 => ?_)
  ·replace h := Go.L.ite_t hg13 h
   refine S_guarded rfl rfl hg13 ?_
   refine S_v (r_loadBN 1 rfl underlying41 rfl zr41 hL12 rfl) rfl ?_
   refine S_guarded rfl rfl hg13 ?_
   obtain ⟨x15, hb15, h⟩ := Go.L.bind_some h
   refine S_callL rfl rfl hL12 (words_Index_Items_ok _ _ (gz_le hH hL12) hv2_0 hb15) ?_
   rintro _ w16 rfl hx16 hL16 hle16
   replace hv2_0 := hv2_0.mono (gz_mono hH hle16)
   refine S_guarded rfl rfl hg13 ?_
   refine S_v (RunsAt_pu rfl) rfl ?_
   refine S_v (r_pickT rfl hg13 rfl) rfl ?_
   refine S_pz 1 rfl ?_
   refine W_ret ?_
   refine At_seq_ret ?_
   obtain rfl := Option.some.inj h
   refine At_body rfl rfl ?_
   exact ⟨hL16.ext, rfl⟩
  ·replace h := Go.L.ite_f hg13 h
   iterate 3 refine S_unwanted rfl rfl hg13 rfl ?_
   refine S_v (r_pickF rfl hg13 rfl) rfl ?_
   refine S_pz 1 rfl ?_
   refine W_ret ?_
   refine At_seq_ret ?_
   obtain rfl := Option.some.inj h
   refine At_body rfl rfl ?_
   exact ⟨hL12.ext, rfl⟩
 ·replace h := Go.L.ite_f hg9 h
  refine S_guarded rfl rfl hg9 ?_
  refine S_v (r_field rfl underlying25 rfl zr3 (by decide)) rfl ?_
  refine S_guarded rfl rfl hg9 ?_
  refine S_v (r_loadB1 0 rfl underlying3 rfl hL8 rfl rfl) rfl ?_
  refine S_guarded rfl rfl hg9 ?_
  refine S_v (RunsAt_pu rfl) rfl ?_
  refine S_v (r_pickF rfl hg9 rfl) rfl ?_
  refine S_seqnil ?_
  refine W_ifn rfl (fun hc19 => ?_) (fun hc19 => ?_)
  ·replace h := Go.L.ite_n hc19 h
   refine W_seqr ?_
   obtain ⟨x21, hb21, h⟩ := Go.L.bind_some h
   refine S_callL rfl rfl hL8 (law4_speaks_ok _ _ (gz_le hH hL8) (hU.mono (gz_left hH)) hb21) ?_
   rintro _ w22 rfl hx22 hL22 hle22
   replace hv2_0 := hv2_0.mono (gz_mono hH hle22)
   refine S_pu 1 rfl ?_
   refine S_split (s := 34) rfl (fun hg23 => ?_) (fun hg23 => ?_)
   ·replace h := Go.L.ite_t hg23 h
    refine S_guarded rfl rfl hg23 ?_
    refine S_v (r_loadBN 1 rfl underlying41 rfl zr41 hL22 rfl) rfl ?_
    refine S_guarded rfl rfl hg23 ?_
    obtain ⟨x25, hb25, h⟩ := Go.L.bind_some h
    refine S_callL rfl rfl hL22 (words_Index_Items_ok _ _ (gz_le hH hL22) hv2_0 hb25) ?_
    rintro _ w26 rfl hx26 hL26 hle26
    replace hv2_0 := hv2_0.mono (gz_mono hH hle26)
    refine S_guarded rfl rfl hg23 ?_
    refine S_v (RunsAt_pu rfl) rfl ?_
    refine S_v (r_pickT rfl hg23 rfl) rfl ?_
    refine S_pz 1 rfl ?_
    refine W_ret ?_
    refine At_seq_ret ?_
    obtain rfl := Option.some.inj h
    refine At_body rfl rfl ?_
    exact ⟨hL26.ext, rfl⟩
   ·replace h := Go.L.ite_f hg23 h
    iterate 3 refine S_unwanted rfl rfl hg23 rfl ?_
    refine S_v (r_pickF rfl hg23 rfl) rfl ?_
    refine S_pz 1 rfl ?_
    refine W_ret ?_
    refine At_seq_ret ?_
    obtain rfl := Option.some.inj h
    refine At_body rfl rfl ?_
    exact ⟨hL22.ext, rfl⟩
  ·replace h := Go.L.ite_p hc19 h
   refine W_skip ?_
   refine At_seq ?_
   refine W_seqr ?_
   refine S_v (r_loadBN 1 rfl underlying41 rfl zr41 hL8 rfl) rfl ?_
   refine S_pu 3 rfl ?_
   obtain ⟨x29, hb29, h⟩ := Go.L.bind_some h
   refine S_callL rfl rfl hL8 (words_Index_Near_ok _ _ (gz_le hH hL8) (hU.mono (gz_left hH)) hv2_0 hb29) ?_
   rintro _ w30 ⟨u30_0, rfl, hR30_0⟩ hx30 hL30 hle30
   have hv30_0 := hR30_0.vecG hH hL8 hx30
   replace hv2_0 := hv2_0.mono (gz_mono hH hle30)
   refine S_pu 3 rfl ?_
   refine S_alloc zr25 rfl rfl hL30 ?_
   intro w31 b31 hL31 hle31 _
   replace hv2_0 := hv2_0.mono (gz_mono hH hle31)
   replace hv30_0 := hv30_0.mono (gz_mono hH hle31)
   refine S_pu 1 rfl ?_
   refine S_storeBN 0 rfl rfl rfl zr25 hL31 rfl rfl (onc rfl (onc rfl on0)) ?_
   intro w32 hL32 hle32
   replace hv2_0 := hv2_0.mono (gz_mono hH hle32)
   replace hv30_0 := hv30_0.mono (gz_mono hH hle32)
   refine S_seqnil ?_
   refine W_seqr ?_
   refine S_v (r_loadBN 2 rfl underlying41 rfl zr41 hL32 rfl) rfl ?_
   refine S_pu 3 rfl ?_
   obtain ⟨x33, hb33, h⟩ := Go.L.bind_some h
   refine S_callL rfl rfl hL32 (words_Index_Near_ok _ _ (gz_le hH hL32) (hU.mono (gz_left hH)) hv2_0 hb33) ?_
   rintro _ w34 ⟨u34_0, rfl, hR34_0⟩ hx34 hL34 hle34
   have hv34_0 := hR34_0.vecG hH hL32 hx34
   replace hv2_0 := hv2_0.mono (gz_mono hH hle34)
   replace hv30_0 := hv30_0.mono (gz_mono hH hle34)
   refine S_pu 3 rfl ?_
   refine S_alloc zr25 rfl rfl hL34 ?_
   intro w35 b35 hL35 hle35 _
   replace hv2_0 := hv2_0.mono (gz_mono hH hle35)
   replace hv30_0 := hv30_0.mono (gz_mono hH hle35)
   replace hv34_0 := hv34_0.mono (gz_mono hH hle35)
   refine S_pu 1 rfl ?_
   refine S_storeBN 0 rfl rfl rfl zr25 hL35 rfl rfl (onc rfl (onc rfl on0)) ?_
   intro w36 hL36 hle36
   replace hv2_0 := hv2_0.mono (gz_mono hH hle36)
   replace hv30_0 := hv30_0.mono (gz_mono hH hle36)
   replace hv34_0 := hv34_0.mono (gz_mono hH hle36)
   refine S_seqnil ?_
   refine W_seq ?_
   have hG37 := hL36.rG H
   refine W_seqr ?_
   refine S_v (r_field rfl underlying25 rfl zr3 (by decide)) rfl ?_
   refine S_v (r_loadB1 1 rfl underlying3 rfl hL36 rfl rfl) rfl ?_
   refine S_pu 2 rfl ?_
   refine S_split (s := 58) rfl (fun hg38 => ?_) (fun hg38 => ?_)
   ·replace h := Go.L.ite_n (not_dec_t hg38) h
    iterate 3 refine S_unwanted rfl rfl hg38 rfl ?_
    refine S_v (r_pickT rfl hg38 rfl) rfl ?_
    refine S_seqnil ?_
    refine W_true rfl ?_
    refine W_p 1 rfl ?_
    refine S_v (r_len rfl underlying51 (hv30_0.mono hG37)) rfl ?_
    refine S_pu 1 rfl ?_
    refine S_v (r_len rfl underlying51 (hv34_0.mono hG37)) rfl ?_
    obtain ⟨hk40, h⟩ := Go.L.chk_some h
    refine S_v (r_ar64 rfl rfl rfl hk40) rfl ?_
    refine S_pz 2 rfl ?_
    refine W_ret ?_
    refine At_seq_ret ?_
    obtain rfl := Option.some.inj h
    refine At_body rfl rfl ?_
    exact ⟨hL36.ext, rfl⟩
   ·replace h := Go.L.ite_p (not_dec_f hg38) h
    refine S_guarded rfl rfl hg38 ?_
    refine S_v (r_field rfl underlying25 rfl zr3 (by decide)) rfl ?_
    refine S_guarded rfl rfl hg38 ?_
    refine S_v (r_loadB1 0 rfl underlying3 rfl hL36 rfl rfl) rfl ?_
    refine S_guarded rfl rfl hg38 ?_
    refine S_v (RunsAt_pu rfl) rfl ?_
    refine S_v (r_pickF rfl hg38 rfl) rfl ?_
    refine S_seqnil ?_
    refine W_ifn rfl (fun hc42 => ?_) (fun hc42 => ?_)
    ·replace h := Go.L.ite_n hc42 h
     refine W_p 1 rfl ?_
     refine S_v (r_len rfl underlying51 (hv30_0.mono hG37)) rfl ?_
     refine S_pu 1 rfl ?_
     refine S_v (r_len rfl underlying51 (hv34_0.mono hG37)) rfl ?_
     obtain ⟨hk44, h⟩ := Go.L.chk_some h
     refine S_v (r_ar64 rfl rfl rfl hk44) rfl ?_
     refine S_pz 2 rfl ?_
     refine W_ret ?_
     refine At_seq_ret ?_
     obtain rfl := Option.some.inj h
     refine At_body rfl rfl ?_
     exact ⟨hL36.ext, rfl⟩
    ·replace h := Go.L.ite_p hc42 h
     refine W_skip ?_
     refine At_seq ?_
     refine W_seqr ?_
     refine S_v (r_loadBN 3 rfl underlying41 rfl zr41 hL36 rfl) rfl ?_
     refine S_pu 3 rfl ?_
     obtain ⟨x46, hb46, h⟩ := Go.L.bind_some h
     refine S_callL rfl rfl hL36 (words_Index_Near_ok _ _ (gz_le hH hL36) (hU.mono (gz_left hH)) (hv2_0.mono hG37) hb46) ?_
     rintro _ w47 ⟨u47_0, rfl, hR47_0⟩ hx47 hL47 hle47
     have hv47_0 := hR47_0.vecG hH hL36 hx47
     replace hG37 := hG37.trans (gz_mono hH hle47)
     refine S_pu 3 rfl ?_
     refine S_alloc zr25 rfl rfl hL47 ?_
     intro w48 b48 hL48 hle48 _
     replace hv47_0 := hv47_0.mono (gz_mono hH hle48)
     replace hG37 := hG37.trans (gz_mono hH hle48)
     refine S_pu 1 rfl ?_
     refine S_storeBN 0 rfl rfl rfl zr25 hL48 rfl rfl (onc rfl (onc rfl on0)) ?_
     intro w49 hL49 hle49
     replace hv47_0 := hv47_0.mono (gz_mono hH hle49)
     replace hG37 := hG37.trans (gz_mono hH hle49)
     refine S_seqnil ?_
     refine W_seq ?_
     refine W_p 2 rfl ?_
     obtain ⟨x50, hb50, h⟩ := Go.L.bind_some h
     refine S_callL rfl rfl hL49 (ref3_Ints_ok _ _ (gz_le hH hL49) (hv30_0.mono hG37) (hv34_0.mono hG37) hb50) ?_
     rintro _ w51 rfl hx51 hL51 hle51
     replace hv47_0 := hv47_0.mono (gz_mono hH hle51)
     replace hG37 := hG37.trans (gz_mono hH hle51)
     refine S_pu 2 rfl ?_
     refine S_split (s := 81) rfl (fun hg52 => ?_) (fun hg52 => ?_)
     ·replace h := Go.L.ite_t hg52 h
      iterate 3 refine S_unwanted rfl rfl hg52 rfl ?_
      refine S_v (r_pickT rfl hg52 rfl) rfl ?_
      refine S_pu 1 rfl ?_
      iterate 3 refine S_unwanted rfl rfl rfl rfl ?_
      refine S_v (r_pickT rfl rfl rfl) rfl ?_
      refine S_seqnil ?_
      refine W_true rfl ?_
      refine W_p 2 rfl ?_
      obtain ⟨x54, hb54, h⟩ := Go.L.bind_some h
      refine S_callL rfl rfl hL51 (ref3_Ints_ok _ _ (gz_le hH hL51) (hv30_0.mono hG37) (hv34_0.mono hG37) hb54) ?_
      rintro _ w55 rfl hx55 hL55 hle55
      replace hv47_0 := hv47_0.mono (gz_mono hH hle55)
      replace hG37 := hG37.trans (gz_mono hH hle55)
      refine S_pu 1 rfl ?_
      refine S_split (s := 94) rfl (fun hg56 => ?_) (fun hg56 => ?_)
      ·replace h := Go.L.ite_t hg56 h
       refine S_guarded rfl rfl hg56 ?_
       refine S_v (r_field rfl underlying25 rfl zr3 (by decide)) rfl ?_
       refine S_guarded rfl rfl hg56 ?_
       refine S_v (r_loadB1 0 rfl underlying3 rfl hL55 rfl rfl) rfl ?_
       refine S_guarded rfl rfl hg56 ?_
       refine S_v (RunsAt_pu rfl) rfl ?_
       refine S_guarded rfl rfl hg56 ?_
       refine S_v (RunsAt_pu rfl) rfl ?_
       refine S_split (s := 98) rfl (fun hg58 => ?_) (fun hg58 => ?_)
       ·replace h := Go.L.ite_p (of_decide_eq_true hg58) h
        iterate 3 refine S_unwanted rfl rfl hg58 rfl ?_
        refine S_guarded rfl rfl hg56 ?_
        refine S_v (r_pickT rfl hg58 rfl) rfl ?_
        refine S_v (r_pickT rfl hg56 rfl) rfl ?_
        refine S_pz 1 rfl ?_
        refine W_ret ?_
        refine At_seq_ret ?_
        obtain rfl := Option.some.inj h
        refine At_body rfl rfl ?_
        exact ⟨hL55.ext, rfl⟩
       ·replace h := Go.L.ite_n (of_decide_eq_false hg58) h
        refine S_guarded rfl rfl hg58 ?_
        refine S_v (RunsAt_pu rfl) rfl ?_
        refine S_guarded rfl rfl hg58 ?_
        refine S_v (r_len rfl underlying51 hv47_0) rfl ?_
        refine S_guarded rfl rfl hg58 ?_
        refine S_v (RunsAt_pu rfl) rfl ?_
        refine S_guarded rfl rfl hg56 ?_
        refine S_v (r_pickF rfl hg58 rfl) rfl ?_
        refine S_v (r_pickT rfl hg56 rfl) rfl ?_
        refine S_pz 1 rfl ?_
        refine W_ret ?_
        refine At_seq_ret ?_
        obtain rfl := Option.some.inj h
        refine At_body rfl rfl ?_
        exact ⟨hL55.ext, rfl⟩
      ·replace h := Go.L.ite_f hg56 h
       iterate 4 refine S_unwanted rfl rfl hg56 rfl ?_
       iterate 3 refine S_unwanted2 rfl rfl rfl ?_
       refine S_unwanted rfl rfl hg56 rfl ?_
       refine S_v (r_pickF rfl hg56 rfl) rfl ?_
       refine S_pz 1 rfl ?_
       refine W_ret ?_
       refine At_seq_ret ?_
       obtain rfl := Option.some.inj h
       refine At_body rfl rfl ?_
       exact ⟨hL55.ext, rfl⟩
     ·replace h := Go.L.ite_f hg52 h
      refine S_guarded rfl rfl hg52 ?_
      refine S_v (r_field rfl underlying25 rfl zr3 (by decide)) rfl ?_
      refine S_guarded rfl rfl hg52 ?_
      refine S_v (r_loadB1 0 rfl underlying3 rfl hL51 rfl rfl) rfl ?_
      refine S_guarded rfl rfl hg52 ?_
      refine S_v (RunsAt_pu rfl) rfl ?_
      refine S_v (r_pickF rfl hg52 rfl) rfl ?_
      refine S_pu 1 rfl ?_
      refine S_pickF 3 9 rfl rfl rfl rfl rfl rfl rfl ?_
      refine S_seqnil ?_
      refine W_cond rfl (fun hc63 => ?_) (fun hc63 => ?_)
      ·replace h := Go.L.ite_t hc63 h
       refine W_p 2 rfl ?_
       obtain ⟨x65, hb65, h⟩ := Go.L.bind_some h
       refine S_callL rfl rfl hL51 (ref3_Ints_ok _ _ (gz_le hH hL51) (hv30_0.mono hG37) (hv34_0.mono hG37) hb65) ?_
       rintro _ w66 rfl hx66 hL66 hle66
       replace hv47_0 := hv47_0.mono (gz_mono hH hle66)
       replace hG37 := hG37.trans (gz_mono hH hle66)
       refine S_pu 1 rfl ?_
       refine S_split (s := 94) rfl (fun hg67 => ?_) (fun hg67 => ?_)
       ·replace h := Go.L.ite_t hg67 h
        refine S_guarded rfl rfl hg67 ?_
        refine S_v (r_field rfl underlying25 rfl zr3 (by decide)) rfl ?_
        refine S_guarded rfl rfl hg67 ?_
        refine S_v (r_loadB1 0 rfl underlying3 rfl hL66 rfl rfl) rfl ?_
        refine S_guarded rfl rfl hg67 ?_
        refine S_v (RunsAt_pu rfl) rfl ?_
        refine S_guarded rfl rfl hg67 ?_
        refine S_v (RunsAt_pu rfl) rfl ?_
        refine S_split (s := 98) rfl (fun hg69 => ?_) (fun hg69 => ?_)
        ·replace h := Go.L.ite_p (of_decide_eq_true hg69) h
         iterate 3 refine S_unwanted rfl rfl hg69 rfl ?_
         refine S_guarded rfl rfl hg67 ?_
         refine S_v (r_pickT rfl hg69 rfl) rfl ?_
         refine S_v (r_pickT rfl hg67 rfl) rfl ?_
         refine S_pz 1 rfl ?_
         refine W_ret ?_
         refine At_seq_ret ?_
         obtain rfl := Option.some.inj h
         refine At_body rfl rfl ?_
         exact ⟨hL66.ext, rfl⟩
        ·replace h := Go.L.ite_n (of_decide_eq_false hg69) h
         refine S_guarded rfl rfl hg69 ?_
         refine S_v (RunsAt_pu rfl) rfl ?_
         refine S_guarded rfl rfl hg69 ?_
         refine S_v (r_len rfl underlying51 hv47_0) rfl ?_
         refine S_guarded rfl rfl hg69 ?_
         refine S_v (RunsAt_pu rfl) rfl ?_
         refine S_guarded rfl rfl hg67 ?_
         refine S_v (r_pickF rfl hg69 rfl) rfl ?_
         refine S_v (r_pickT rfl hg67 rfl) rfl ?_
         refine S_pz 1 rfl ?_
         refine W_ret ?_
         refine At_seq_ret ?_
         obtain rfl := Option.some.inj h
         refine At_body rfl rfl ?_
         exact ⟨hL66.ext, rfl⟩
       ·replace h := Go.L.ite_f hg67 h
        iterate 4 refine S_unwanted rfl rfl hg67 rfl ?_
        iterate 3 refine S_unwanted2 rfl rfl rfl ?_
        refine S_unwanted rfl rfl hg67 rfl ?_
        refine S_v (r_pickF rfl hg67 rfl) rfl ?_
        refine S_pz 1 rfl ?_
        refine W_ret ?_
        refine At_seq_ret ?_
        obtain rfl := Option.some.inj h
        refine At_body rfl rfl ?_
        exact ⟨hL66.ext, rfl⟩
      ·replace h := Go.L.ite_f hc63 h
       refine W_skip ?_
       refine At_seq ?_
       refine W_pz 1 rfl ?_
       refine W_cut (σ := Unit) (fun (_ : Unit) => []) (fun (_ : Unit) wr => InO w [.box b48 [.int .i64 x46.2.1, .int .i64 x46.2.2] 25, .box b35 [.int .i64 x33.2.1, .int .i64 x33.2.2] 25, .box b31 [.int .i64 x29.2.1, .int .i64 x29.2.2] 25, .box b4 [.int .i64 x1.2.1, .int .i64 x1.2.2] 25, .box b3 [.int .i64 x1.1.1, u2_0] 41] wr fun Oz => Vec (.pair .st (.vec (.pair (.int .i64) (.int .i64)))) (gz H w wr Oz) (u2_0) (x1.1.2) ∧ law4_WordsNearIsMutual_k1 = some r) ?_ ?_
       ·refine W_pz 1 rfl ?_
        refine W_block ?_
        obtain ⟨n298, h⟩ := Go.L.run_some h
        refine W_loop (σ := Int × Int × Nat) (fun ⟨s19_296, s20_297, n⟩ => [(13, u30_0), (17, u47_0), (19, .int .i64 s19_296), (20, .int .i64 s20_297)]) (fun ⟨s19_296, s20_297, n⟩ wr => InO w [.box b48 [.int .i64 x46.2.1, .int .i64 x46.2.2] 25, .box b35 [.int .i64 x33.2.1, .int .i64 x33.2.2] 25, .box b31 [.int .i64 x29.2.1, .int .i64 x29.2.2] 25, .box b4 [.int .i64 x1.2.1, .int .i64 x1.2.2] 25, .box b3 [.int .i64 x1.1.1, u2_0] 41] wr fun Oz => Vec (.int .i64) (gz H w wr Oz) (u30_0) (x29.1) ∧ Vec (.int .i64) (gz H w wr Oz) (u47_0) (x46.1) ∧ Vec (.pair .st (.vec (.pair (.int .i64) (.int .i64)))) (gz H w wr Oz) (u2_0) (x1.1.2) ∧ Go.L.itr (law4_WordsNearIsMutual_bl2 x29 x46) n (s19_296, s20_297) = some r) (fun ⟨s19_296, s20_297, n⟩ => n) ((0 : Int), (0 : Int), n298) (.cons rfl (.cons rfl (.cons rfl (.cons rfl (Sub.nil _))))) ⟨hL51, (hv30_0.mono hG37), hv47_0, (hv2_0.mono hG37), h⟩ ?_
        rintro ⟨s19_296, s20_297, nn298⟩ wr298 ⟨hL298, hf298_0, hf298_1, hf298_2, h⟩
        obtain ⟨n298, e298, rfl, h, hm298⟩ := Go.L.itr_some h
        refine W_seq ?_
        have hG300 := hL298.rG H
        refine W_p 2 rfl ?_
        refine S_v (r_len rfl underlying51 (hf298_0.mono hG300)) rfl ?_
        refine S_pz 1 rfl ?_
        refine W_if rfl (fun hc301 => ?_) (fun hc301 => ?_)
        ·replace h := Go.L.ite_p hc301 h
         refine W_skip ?_
         refine At_seq ?_
         refine W_cut (σ := Int × (List Int) × Int × Int × (List Int) × Int × Int × Bool × Value × Value) (fun ⟨s19_361, s132_362, s133_363, s135_364, s136_365, s137_366, s139_367, s140_368, vs132_362, vs136_365⟩ => [(13, u30_0), (17, u47_0), (19, .int .i64 s19_361), (20, .int .i64 s20_297), (132, vs132_362), (133, .int .i64 s133_363), (135, .int .i64 s135_364), (136, vs136_365), (137, .int .i64 s137_366), (139, .int .i64 s139_367), (140, .bool s140_368)]) (fun ⟨s19_361, s132_362, s133_363, s135_364, s136_365, s137_366, s139_367, s140_368, vs132_362, vs136_365⟩ wr => InO w [.box b48 [.int .i64 x46.2.1, .int .i64 x46.2.2] 25, .box b35 [.int .i64 x33.2.1, .int .i64 x33.2.2] 25, .box b31 [.int .i64 x29.2.1, .int .i64 x29.2.2] 25, .box b4 [.int .i64 x1.2.1, .int .i64 x1.2.2] 25, .box b3 [.int .i64 x1.1.1, u2_0] 41] wr fun Oz => Vec (.int .i64) (gz H w wr Oz) (u30_0) (x29.1) ∧ Vec (.int .i64) (gz H w wr Oz) (u47_0) (x46.1) ∧ Vec (.int .i64) (gz H w wr Oz) (vs132_362) (s132_362) ∧ Vec (.int .i64) (gz H w wr Oz) (vs136_365) (s136_365) ∧ Vec (.pair .st (.vec (.pair (.int .i64) (.int .i64)))) (gz H w wr Oz) (u2_0) (x1.1.2) ∧ (law4_WordsNearIsMutual_k3 s20_297) s19_361 s132_362 s133_363 s135_364 s136_365 s137_366 s139_367 s140_368 = some e298) ?_ ?_
         ·refine W_block ?_
          refine W_cut (σ := Int) (fun s19_410 => [(13, u30_0), (17, u47_0), (19, .int .i64 s19_410), (20, .int .i64 s20_297)]) (fun s19_410 wr => InO w [.box b48 [.int .i64 x46.2.1, .int .i64 x46.2.2] 25, .box b35 [.int .i64 x33.2.1, .int .i64 x33.2.2] 25, .box b31 [.int .i64 x29.2.1, .int .i64 x29.2.2] 25, .box b4 [.int .i64 x1.2.1, .int .i64 x1.2.2] 25, .box b3 [.int .i64 x1.1.1, u2_0] 41] wr fun Oz => Vec (.int .i64) (gz H w wr Oz) (u30_0) (x29.1) ∧ Vec (.int .i64) (gz H w wr Oz) (u47_0) (x46.1) ∧ Vec (.pair .st (.vec (.pair (.int .i64) (.int .i64)))) (gz H w wr Oz) (u2_0) (x1.1.2) ∧ (law4_WordsNearIsMutual_k4 s20_297 x29 x46) s19_410 = some e298) ?_ ?_
          ·refine W_block ?_
           obtain ⟨n432, h⟩ := Go.L.run_some h
           refine W_loop (σ := Int × Nat) (fun ⟨s19_431, n⟩ => [(13, u30_0), (17, u47_0), (19, .int .i64 s19_431), (20, .int .i64 s20_297)]) (fun ⟨s19_431, n⟩ wr => InO w [.box b48 [.int .i64 x46.2.1, .int .i64 x46.2.2] 25, .box b35 [.int .i64 x33.2.1, .int .i64 x33.2.2] 25, .box b31 [.int .i64 x29.2.1, .int .i64 x29.2.2] 25, .box b4 [.int .i64 x1.2.1, .int .i64 x1.2.2] 25, .box b3 [.int .i64 x1.1.1, u2_0] 41] wr fun Oz => Vec (.int .i64) (gz H w wr Oz) (u30_0) (x29.1) ∧ Vec (.int .i64) (gz H w wr Oz) (u47_0) (x46.1) ∧ Vec (.pair .st (.vec (.pair (.int .i64) (.int .i64)))) (gz H w wr Oz) (u2_0) (x1.1.2) ∧ Go.L.itr (law4_WordsNearIsMutual_bl5 s20_297 x29 x46) n s19_431 = some e298) (fun ⟨s19_431, n⟩ => n) (s19_296, n432) (.cons rfl (.cons rfl (.cons rfl (.cons rfl (Sub.nil _))))) ⟨hL298, (hf298_0.mono hG300), (hf298_1.mono hG300), (hf298_2.mono hG300), h⟩ ?_
           rintro ⟨s19_431, nn432⟩ wr432 ⟨hL432, hf432_0, hf432_1, hf432_2, h⟩
           obtain ⟨n432, e432, rfl, h, hm432⟩ := Go.L.itr_some h
           refine W_seq ?_
           have hG434 := hL432.rG H
           refine W_seqd (.q 0 (.q 1 (.q 2 (.q 3 (.q 4 (.q 5 (.q 6 (.q 7 (.q 8 (.q 9 (.q 10 (.q 11 (.q 12 (.q 13 (.q 14 (.tail 15)))))))))))))))) mixed (by kernel_rfl) (fun w435 hx435 => ?_)
           have hL436 := hL432.call hx435
           have hle436 := fz_ext hL432 hx435
           replace hG434 := hG434.trans (gz_mono hH hle436)
           refine D_pu 2 rfl ?_
           refine D_v (r_len rfl underlying51 (hf432_1.mono hG434)) rfl rfl ?_
           refine D_pu 2 rfl ?_
           refine D_split (s := 114) rfl (fun hg437 => ?_) (fun hg437 => ?_)
           ·replace h := Go.L.ite_p (of_decide_eq_true hg437) h
            iterate 2 refine D_vg (RunsAt_pu rfl) rfl rfl rfl rfl hg437 rfl ?_
            obtain ⟨hk440, h⟩ := Go.L.chk_some h
            refine D_indexg rfl rfl rfl rfl hg437 rfl rfl underlying51 zr3 (hf432_1.mono hG434) s19_431.toNat (Int.toNat_of_nonneg hk440.1).symm (idx_lt hk440) rfl ?_
            rintro p439 _ rfl hp439
            refine D_vg (r_load1 rfl underlying3 rfl hp439 (gz_le hH hL436)) rfl rfl rfl rfl hg437 rfl ?_
            iterate 2 refine D_vg (RunsAt_pu rfl) rfl rfl rfl rfl hg437 rfl ?_
            obtain ⟨hk442, h⟩ := Go.L.chk_some h
            refine D_indexg rfl rfl rfl rfl hg437 rfl rfl underlying51 zr3 (hf432_0.mono hG434) s20_297.toNat (Int.toNat_of_nonneg hk442.1).symm (idx_lt hk442) rfl ?_
            rintro p441 _ rfl hp441
            refine D_vg (r_load1 rfl underlying3 rfl hp441 (gz_le hH hL436)) rfl rfl rfl rfl hg437 rfl ?_
            refine D_vg (RunsAt_pu rfl) rfl rfl rfl rfl hg437 rfl ?_
            refine D_v (r_pickT rfl hg437 rfl) rfl rfl ?_
            refine D_tail (fun w443 hx443 => ?_)
            have hL444 := hL436.call hx443
            have hle444 := fz_ext hL436 hx443
            replace hp439 := hp439.mono (gz_mono hH hle444)
            replace hp441 := hp441.mono (gz_mono hH hle444)
            replace hG434 := hG434.trans (gz_mono hH hle444)
            refine S_seqnil ?_
            refine W_if rfl (fun hc445 => ?_) (fun hc445 => ?_)
            ·replace h := Go.L.ite_p hc445 h
             refine W_skip ?_
             refine At_seq ?_
             refine W_block ?_
             refine W_region ?_
             refine S_pu 1 rfl ?_
             obtain ⟨hk447, h⟩ := Go.L.chk_some h
             refine S_v (r_ar64 rfl rfl rfl hk447) rfl ?_
             refine S_pu 1 rfl ?_
             refine S_nil ?_
             refine At_block ?_
             have h := Go.L.Nxt.again h hm432
             refine At_round ((s19_431 + (1 : Int)), n432) (.cons rfl (.cons rfl (.cons rfl (.cons rfl (Sub.nil _))))) ⟨hL444, (hf432_0.mono hG434), (hf432_1.mono hG434), (hf432_2.mono hG434), h⟩ (Nat.lt_succ_self _)
            ·replace h := Go.L.ite_n hc445 h
             refine W_exit ?_
             refine At_seq_exit ?_
             refine At_loop_exit ?_
             replace h := Go.L.Nxt.out h hm432
             refine At_exit ?_
             refine At_cut s19_431 (.cons rfl (.cons rfl (.cons rfl (.cons rfl (Sub.nil _))))) ⟨hL444, (hf432_0.mono hG434), (hf432_1.mono hG434), (hf432_2.mono hG434), h⟩
           ·replace h := Go.L.ite_n (of_decide_eq_false hg437) h
            iterate 9 refine D_no rfl rfl rfl rfl hg437 rfl ?_
            refine D_v (r_pickF rfl hg437 rfl) rfl rfl ?_
            refine D_tail (fun w450 hx450 => ?_)
            have hL451 := hL436.call hx450
            have hle451 := fz_ext hL436 hx450
            replace hG434 := hG434.trans (gz_mono hH hle451)
            refine S_seqnil ?_
            refine W_false rfl ?_
            refine W_exit ?_
            refine At_seq_exit ?_
            refine At_loop_exit ?_
            replace h := Go.L.Nxt.out h hm432
            refine At_exit ?_
            refine At_cut s19_431 (.cons rfl (.cons rfl (.cons rfl (.cons rfl (Sub.nil _))))) ⟨hL451, (hf432_0.mono hG434), (hf432_1.mono hG434), (hf432_2.mono hG434), h⟩
          ·rintro s19_410 wr411 ⟨hL411, hf411_0, hf411_1, hf411_2, h⟩
           have hG453 := hL411.rG H
           refine W_seqd (.q 0 (.q 1 (.q 2 (.q 3 (.q 4 (.q 5 (.q 6 (.q 7 (.q 8 (.q 9 (.q 10 (.q 11 (.q 12 (.q 13 (.q 14 (.tail 15)))))))))))))))) mixed (by kernel_rfl) (fun w454 hx454 => ?_)
           have hL455 := hL411.call hx454
           have hle455 := fz_ext hL411 hx454
           replace hG453 := hG453.trans (gz_mono hH hle455)
           refine D_pu 2 rfl ?_
           refine D_v (r_len rfl underlying51 (hf411_1.mono hG453)) rfl rfl ?_
           refine D_pu 2 rfl ?_
           refine D_split (s := 131) rfl (fun hg456 => ?_) (fun hg456 => ?_)
           ·replace h := Go.L.ite_p (of_decide_eq_true hg456) h
            iterate 9 refine D_no rfl rfl rfl rfl hg456 rfl ?_
            refine D_v (r_pickT rfl hg456 rfl) rfl rfl ?_
            refine D_tail (fun w458 hx458 => ?_)
            have hL459 := hL455.call hx458
            have hle459 := fz_ext hL455 hx458
            replace hG453 := hG453.trans (gz_mono hH hle459)
            refine S_seqnil ?_
            refine W_true rfl ?_
            refine W_pz 1 rfl ?_
            refine W_ret ?_
            refine At_block_ret ?_
            refine At_cut_ret ?_
            refine At_loop_ret ?_
            replace h := Go.L.Nxt.out h hm298
            refine At_block_ret ?_
            refine At_cut_ret ?_
            obtain rfl := Option.some.inj h
            refine At_body rfl rfl ?_
            exact ⟨hL459.ext, rfl⟩
           ·replace h := Go.L.ite_n (of_decide_eq_false hg456) h
            iterate 2 refine D_vg (RunsAt_pu rfl) rfl rfl rfl rfl hg456 rfl ?_
            obtain ⟨hk462, h⟩ := Go.L.chk_some h
            refine D_indexg rfl rfl rfl rfl hg456 rfl rfl underlying51 zr3 (hf411_1.mono hG453) s19_410.toNat (Int.toNat_of_nonneg hk462.1).symm (idx_lt hk462) rfl ?_
            rintro p461 _ rfl hp461
            refine D_vg (r_load1 rfl underlying3 rfl hp461 (gz_le hH hL455)) rfl rfl rfl rfl hg456 rfl ?_
            iterate 2 refine D_vg (RunsAt_pu rfl) rfl rfl rfl rfl hg456 rfl ?_
            obtain ⟨hk464, h⟩ := Go.L.chk_some h
            refine D_indexg rfl rfl rfl rfl hg456 rfl rfl underlying51 zr3 (hf411_0.mono hG453) s20_297.toNat (Int.toNat_of_nonneg hk464.1).symm (idx_lt hk464) rfl ?_
            rintro p463 _ rfl hp463
            refine D_vg (r_load1 rfl underlying3 rfl hp463 (gz_le hH hL455)) rfl rfl rfl rfl hg456 rfl ?_
            refine D_vg (RunsAt_pu rfl) rfl rfl rfl rfl hg456 rfl ?_
            refine D_v (r_pickF rfl hg456 rfl) rfl rfl ?_
            refine D_tail (fun w465 hx465 => ?_)
            have hL466 := hL455.call hx465
            have hle466 := fz_ext hL455 hx465
            replace hp461 := hp461.mono (gz_mono hH hle466)
            replace hp463 := hp463.mono (gz_mono hH hle466)
            replace hG453 := hG453.trans (gz_mono hH hle466)
            refine S_seqnil ?_
            refine W_ifn rfl (fun hc467 => ?_) (fun hc467 => ?_)
            ·replace h := Go.L.ite_n hc467 h
             refine W_pz 1 rfl ?_
             refine W_ret ?_
             refine At_block_ret ?_
             refine At_cut_ret ?_
             refine At_loop_ret ?_
             replace h := Go.L.Nxt.out h hm298
             refine At_block_ret ?_
             refine At_cut_ret ?_
             obtain rfl := Option.some.inj h
             refine At_body rfl rfl ?_
             exact ⟨hL466.ext, rfl⟩
            ·replace h := Go.L.ite_p hc467 h
             refine W_skip ?_
             refine At_block ?_
             refine At_cut (s19_410, x46.1, s19_410, x46.1.getD s19_410.toNat default, x29.1, s20_297, x29.1.getD s20_297.toNat default, !decide (x46.1.getD s19_410.toNat default = x29.1.getD s20_297.toNat default), u47_0, u30_0) (.cons rfl (.cons rfl (.cons rfl (.cons rfl (.cons rfl (.cons rfl (.cons rfl (.cons rfl (.cons rfl (.cons rfl (.cons rfl (Sub.nil _)))))))))))) ⟨hL466, (hf411_0.mono hG453), (hf411_1.mono hG453), (hf411_1.mono hG453), (hf411_0.mono hG453), (hf411_2.mono hG453), h⟩
         ·rintro ⟨s19_361, s132_362, s133_363, s135_364, s136_365, s137_366, s139_367, s140_368, vs132_362, vs136_365⟩ wr369 ⟨hL369, hf369_0, hf369_1, hfs132_362, hfs136_365, hf369_4, h⟩
          have hG471 := hL369.rG H
          refine W_region ?_
          refine S_pu 1 rfl ?_
          obtain ⟨hk472, h⟩ := Go.L.chk_some h
          refine S_v (r_ar64 rfl rfl rfl hk472) rfl ?_
          refine S_pu 1 rfl ?_
          refine S_nil ?_
          have h := Go.L.Nxt.again h hm298
          refine At_round (s19_361, (s20_297 + (1 : Int)), n298) (.cons rfl (.cons rfl (.cons rfl (.cons rfl (Sub.nil _))))) ⟨hL369, (hf369_0.mono hG471), (hf369_1.mono hG471), (hf369_4.mono hG471), h⟩ (Nat.lt_succ_self _)
        ·replace h := Go.L.ite_n hc301 h
         refine W_exit ?_
         refine At_seq_exit ?_
         refine At_loop_exit ?_
         replace h := Go.L.Nxt.out h hm298
         refine At_exit ?_
         refine At_cut () (Sub.nil _) ⟨hL298, (hf298_2.mono hG300), h⟩
       ·rintro _ wr222 ⟨hL222, hf222_0, h⟩
        refine W_pz 1 rfl ?_
        refine W_ret ?_
        obtain rfl := Option.some.inj h
        refine At_body rfl rfl ?_
        exact ⟨hL222.ext, rfl⟩
end Go.Proofs.YtdiieblgeaehpaaDoor
