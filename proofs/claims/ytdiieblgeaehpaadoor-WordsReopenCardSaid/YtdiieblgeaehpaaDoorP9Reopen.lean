/- Generated walk: a law of words. -/
import Derived.Test.YtdiieblgeaehpaaDoorP8
import Derived.KernelRfl
namespace Go.Proofs.YtdiieblgeaehpaaDoor
open Go Go.E Go.RowKit
set_option maxHeartbeats 1000000
set_option maxRecDepth 10000
open _root_.Go.Proofs.Tryd
noncomputable def law4_WordsReopen_k1 (s4_72 : Bool) : Option (Bool) :=
 some (s4_72)
noncomputable def law4_WordsReopen (a0 : List (List UInt8)) (a1 : List (List UInt8)) : Option (Bool) :=
 Option.bind (words_Build a0) (fun x1 => Option.bind (law4_speaks) (fun x7 => if !x7 then Option.bind (law4_speaks) (fun x11 => if x11 then Option.bind (words_Index_Items (x1.1.1, x1.1.2)) (fun x15 => some (decide (x15 = (0 : Int)))) else some (false)) else if x1.2.1 = (0 : Int) then Option.bind (words_Index_Bytes (x1.1.1, x1.1.2)) (fun x29 => Option.bind (words_Open x29) (fun x31 => Option.bind (words_Index_Phrase (x1.1.1, x1.1.2) a1) (fun x37 => Option.bind (words_Index_Phrase (x31.1.1, x31.1.2) a1) (fun x42 => if x31.2.1 = (0 : Int) then Option.bind (words_Index_Items (x31.1.1, x31.1.2)) (fun x80 => if x80 = (a0.length : Int) then Option.bind (words_Index_Words (x1.1.1, x1.1.2)) (fun x84 => Option.bind (words_Index_Words (x31.1.1, x31.1.2)) (fun x86 => Option.bind (ref4_Texts x84 x86) (fun x88 => if x88 then if x37.2.1 = x42.2.1 ∧ x37.2.2 = x42.2.2 then Option.bind (ref4_SameHits x37.1 x42.1) (fun x94 => law4_WordsReopen_k1 x94) else law4_WordsReopen_k1 false else law4_WordsReopen_k1 false))) else law4_WordsReopen_k1 false) else law4_WordsReopen_k1 false)))) else Option.bind (law4_speaks) (fun x21 => if x21 then Option.bind (words_Index_Items (x1.1.1, x1.1.2)) (fun x25 => some (decide (x25 = (0 : Int)))) else some (false))))

theorem law4_WordsReopen_ok (w : World) (H : PH) (hH : Le H (hp w)) (hU : Utab H) {a0 : List (List UInt8)} {a1 : List (List UInt8)} {v0_0 : Value} {v1_0 : Value} (h0_0 : Vec (.vec .byte) H v0_0 (a0)) (h1_0 : Vec .st H v1_0 (a1)) {r : Bool} (h : law4_WordsReopen a0 a1 = some r) :
  Ok Tryd.prog 7 [v0_0, v1_0] w (fun v w' => Ext w w' ∧ v = .bool r) := by
 refine Ok_enter (n := 76) [(0, v0_0), (1, v1_0)] func7 rfl rfl rfl rfl rfl ?_
 have hL := Lcl.start w
 refine W_pz 1 rfl ?_
 refine W_p 1 rfl ?_
 obtain ⟨x1, hb1, h⟩ := Go.L.bind_some h
 refine S_callL rfl rfl hL (words_Build_ok _ _ (gz_le hH hL) (hU.mono (gz_left hH)) (h0_0.mono (gz_left hH)) hb1) ?_
 rintro _ w2 ⟨u2_0, rfl, hR2_0⟩ hx2 hL2 hle2
 have hv2_0 := hR2_0.mono (gz_nw hH hL hx2)
 refine S_pu 3 rfl ?_
 refine S_alloc zr41 rfl rfl hL2 ?_
 intro w3 b3 hL3 hle3 _
 replace hv2_0 := hv2_0.mono (gz_mono hH hle3)
 refine S_alloc zr25 rfl rfl hL3 ?_
 intro w4 b4 hL4 hle4 _
 replace hv2_0 := hv2_0.mono (gz_mono hH hle4)
 refine S_storeBN 1 rfl rfl rfl zr41 hL4 rfl rfl (onc rfl (onc hv2_0.one on0)) ?_
 intro w5 hL5 hle5
 replace hv2_0 := hv2_0.mono (gz_mono hH hle5)
 refine S_storeBN 0 rfl rfl rfl zr25 hL5 rfl rfl (onc rfl (onc rfl on0)) ?_
 intro w6 hL6 hle6
 replace hv2_0 := hv2_0.mono (gz_mono hH hle6)
 refine S_seqnil ?_
 refine W_seq ?_
 refine W_seqr ?_
 obtain ⟨x7, hb7, h⟩ := Go.L.bind_some h
 refine S_callL rfl rfl hL6 (law4_speaks_ok _ _ (gz_le hH hL6) (hU.mono (gz_left hH)) hb7) ?_
 rintro _ w8 rfl hx8 hL8 hle8
 replace hv2_0 := hv2_0.mono (gz_mono hH hle8)
 refine S_pu 2 rfl ?_
 refine S_split (s := 20) rfl (fun hg9 => ?_) (fun hg9 => ?_)
 ·replace h := Go.L.ite_t hg9 h
  iterate 3 refine S_unwanted rfl rfl hg9 rfl ?_
  refine S_v (r_pickT rfl hg9 rfl) rfl ?_
  refine S_seqnil ?_
  refine W_true rfl ?_
  refine W_seqr ?_
  obtain ⟨x11, hb11, h⟩ := Go.L.bind_some h
  refine S_callL rfl rfl hL8 (law4_speaks_ok _ _ (gz_le hH hL8) (hU.mono (gz_left hH)) hb11) ?_
  rintro _ w12 rfl hx12 hL12 hle12
  replace hv2_0 := hv2_0.mono (gz_mono hH hle12)
  refine S_pu 1 rfl ?_
  refine S_split (s := 26) rfl (fun hg13 => ?_) (fun hg13 => ?_)
  ·replace h := Go.L.ite_t hg13 h
   refine S_guarded rfl rfl hg13 ?_
   refine S_v (r_loadBN 1 rfl underlying41 rfl zr41 hL12 rfl) rfl ?_
   refine S_guarded rfl rfl hg13 ?_
   obtain ⟨x15, hb15, h⟩ := Go.L.bind_some h
   refine S_callL rfl rfl hL12 (words_Index_Items_ok _ _ (gz_le hH hL12) hv2_0 hb15) ?_
   rintro _ w16 rfl hx16 hL16 hle16
   replace hv2_0 := hv2_0.mono (gz_mono hH hle16)
   refine S_guarded rfl rfl hg13 ?_
   refine S_v (RunsAt_pu rfl) rfl ?_
   refine S_v (r_pickT rfl hg13 rfl) rfl ?_
   refine S_pz 1 rfl ?_
   refine W_ret ?_
   refine At_seq_ret ?_
   obtain rfl := Option.some.inj h
   refine At_body rfl rfl ?_
   exact ⟨hL16.ext, rfl⟩
  ·replace h := Go.L.ite_f hg13 h
   iterate 3 refine S_unwanted rfl rfl hg13 rfl ?_
   refine S_v (r_pickF rfl hg13 rfl) rfl ?_
   refine S_pz 1 rfl ?_
   refine W_ret ?_
   refine At_seq_ret ?_
   obtain rfl := Option.some.inj h
   refine At_body rfl rfl ?_
   exact ⟨hL12.ext, rfl⟩
 ·replace h := Go.L.ite_f hg9 h
  refine S_guarded rfl rfl hg9 ?_
  refine S_v (r_field rfl underlying25 rfl zr3 (by decide)) rfl ?_
  refine S_guarded rfl rfl hg9 ?_
  refine S_v (r_loadB1 0 rfl underlying3 rfl hL8 rfl rfl) rfl ?_
  refine S_guarded rfl rfl hg9 ?_
  refine S_v (RunsAt_pu rfl) rfl ?_
  refine S_v (r_pickF rfl hg9 rfl) rfl ?_
  refine S_seqnil ?_
  refine W_ifn rfl (fun hc19 => ?_) (fun hc19 => ?_)
  ·replace h := Go.L.ite_n hc19 h
   refine W_seqr ?_
   obtain ⟨x21, hb21, h⟩ := Go.L.bind_some h
   refine S_callL rfl rfl hL8 (law4_speaks_ok _ _ (gz_le hH hL8) (hU.mono (gz_left hH)) hb21) ?_
   rintro _ w22 rfl hx22 hL22 hle22
   replace hv2_0 := hv2_0.mono (gz_mono hH hle22)
   refine S_pu 1 rfl ?_
   refine S_split (s := 26) rfl (fun hg23 => ?_) (fun hg23 => ?_)
   ·replace h := Go.L.ite_t hg23 h
    refine S_guarded rfl rfl hg23 ?_
    refine S_v (r_loadBN 1 rfl underlying41 rfl zr41 hL22 rfl) rfl ?_
    refine S_guarded rfl rfl hg23 ?_
    obtain ⟨x25, hb25, h⟩ := Go.L.bind_some h
    refine S_callL rfl rfl hL22 (words_Index_Items_ok _ _ (gz_le hH hL22) hv2_0 hb25) ?_
    rintro _ w26 rfl hx26 hL26 hle26
    replace hv2_0 := hv2_0.mono (gz_mono hH hle26)
    refine S_guarded rfl rfl hg23 ?_
    refine S_v (RunsAt_pu rfl) rfl ?_
    refine S_v (r_pickT rfl hg23 rfl) rfl ?_
    refine S_pz 1 rfl ?_
    refine W_ret ?_
    refine At_seq_ret ?_
    obtain rfl := Option.some.inj h
    refine At_body rfl rfl ?_
    exact ⟨hL26.ext, rfl⟩
   ·replace h := Go.L.ite_f hg23 h
    iterate 3 refine S_unwanted rfl rfl hg23 rfl ?_
    refine S_v (r_pickF rfl hg23 rfl) rfl ?_
    refine S_pz 1 rfl ?_
    refine W_ret ?_
    refine At_seq_ret ?_
    obtain rfl := Option.some.inj h
    refine At_body rfl rfl ?_
    exact ⟨hL22.ext, rfl⟩
  ·replace h := Go.L.ite_p hc19 h
   refine W_skip ?_
   refine At_seq ?_
   refine W_seqr ?_
   refine S_v (r_loadBN 1 rfl underlying41 rfl zr41 hL8 rfl) rfl ?_
   obtain ⟨x29, hb29, h⟩ := Go.L.bind_some h
   refine S_callL rfl rfl hL8 (words_Index_Bytes_ok _ _ (gz_le hH hL8) hv2_0 hb29) ?_
   rintro u30_0 w30 ⟨_, rfl, hR30_0⟩ hx30 hL30 hle30
   have hv30_0 := hR30_0.mono (gz_nw hH hL8 hx30)
   replace hv2_0 := hv2_0.mono (gz_mono hH hle30)
   obtain ⟨x31, hb31, h⟩ := Go.L.bind_some h
   refine S_callL rfl rfl hL30 (words_Open_ok _ _ (gz_le hH hL30) (hU.mono (gz_left hH)) hv30_0 hb31) ?_
   rintro _ w32 ⟨u32_0, rfl, hR32_0⟩ hx32 hL32 hle32
   have hv32_0 := hR32_0.mono (gz_nw hH hL30 hx32)
   replace hv2_0 := hv2_0.mono (gz_mono hH hle32)
   replace hv30_0 := hv30_0.mono (gz_mono hH hle32)
   refine S_pu 3 rfl ?_
   refine S_alloc zr41 rfl rfl hL32 ?_
   intro w33 b33 hL33 hle33 _
   replace hv2_0 := hv2_0.mono (gz_mono hH hle33)
   replace hv30_0 := hv30_0.mono (gz_mono hH hle33)
   replace hv32_0 := hv32_0.mono (gz_mono hH hle33)
   refine S_alloc zr25 rfl rfl hL33 ?_
   intro w34 b34 hL34 hle34 _
   replace hv2_0 := hv2_0.mono (gz_mono hH hle34)
   replace hv30_0 := hv30_0.mono (gz_mono hH hle34)
   replace hv32_0 := hv32_0.mono (gz_mono hH hle34)
   refine S_storeBN 1 rfl rfl rfl zr41 hL34 rfl rfl (onc rfl (onc hv32_0.one on0)) ?_
   intro w35 hL35 hle35
   replace hv2_0 := hv2_0.mono (gz_mono hH hle35)
   replace hv30_0 := hv30_0.mono (gz_mono hH hle35)
   replace hv32_0 := hv32_0.mono (gz_mono hH hle35)
   refine S_storeBN 0 rfl rfl rfl zr25 hL35 rfl rfl (onc rfl (onc rfl on0)) ?_
   intro w36 hL36 hle36
   replace hv2_0 := hv2_0.mono (gz_mono hH hle36)
   replace hv30_0 := hv30_0.mono (gz_mono hH hle36)
   replace hv32_0 := hv32_0.mono (gz_mono hH hle36)
   refine S_seqnil ?_
   refine W_seqr ?_
   refine S_v (r_loadBN 3 rfl underlying41 rfl zr41 hL36 rfl) rfl ?_
   refine S_pu 1 rfl ?_
   obtain ⟨x37, hb37, h⟩ := Go.L.bind_some h
   refine S_callL rfl rfl hL36 (words_Index_Phrase_ok _ _ (gz_le hH hL36) (hU.mono (gz_left hH)) hv2_0 (h1_0.mono (gz_left hH)) hb37) ?_
   rintro _ w38 ⟨u38_0, rfl, hR38_0⟩ hx38 hL38 hle38
   have hv38_0 := hR38_0.vecG hH hL36 hx38
   replace hv2_0 := hv2_0.mono (gz_mono hH hle38)
   replace hv32_0 := hv32_0.mono (gz_mono hH hle38)
   refine S_pu 3 rfl ?_
   refine S_alloc zr25 rfl rfl hL38 ?_
   intro w39 b39 hL39 hle39 _
   replace hv2_0 := hv2_0.mono (gz_mono hH hle39)
   replace hv32_0 := hv32_0.mono (gz_mono hH hle39)
   replace hv38_0 := hv38_0.mono (gz_mono hH hle39)
   refine S_pu 1 rfl ?_
   refine S_storeBN 0 rfl rfl rfl zr25 hL39 rfl rfl (onc rfl (onc rfl on0)) ?_
   intro w40 hL40 hle40
   replace hv2_0 := hv2_0.mono (gz_mono hH hle40)
   replace hv32_0 := hv32_0.mono (gz_mono hH hle40)
   replace hv38_0 := hv38_0.mono (gz_mono hH hle40)
   refine S_seqnil ?_
   have hG41 := hL40.rG H
   refine W_seqr ?_
   refine S_v (r_loadBN 2 rfl underlying41 rfl zr41 hL40 rfl) rfl ?_
   refine S_pu 1 rfl ?_
   obtain ⟨x42, hb42, h⟩ := Go.L.bind_some h
   refine S_callL rfl rfl hL40 (words_Index_Phrase_ok _ _ (gz_le hH hL40) (hU.mono (gz_left hH)) (hv32_0.mono hG41) (h1_0.mono (gz_left hH)) hb42) ?_
   rintro _ w43 ⟨u43_0, rfl, hR43_0⟩ hx43 hL43 hle43
   have hv43_0 := hR43_0.vecG hH hL40 hx43
   replace hG41 := hG41.trans (gz_mono hH hle43)
   refine S_pu 3 rfl ?_
   refine S_alloc zr25 rfl rfl hL43 ?_
   intro w44 b44 hL44 hle44 _
   replace hv43_0 := hv43_0.mono (gz_mono hH hle44)
   replace hG41 := hG41.trans (gz_mono hH hle44)
   refine S_pu 1 rfl ?_
   refine S_storeBN 0 rfl rfl rfl zr25 hL44 rfl rfl (onc rfl (onc rfl on0)) ?_
   intro w45 hL45 hle45
   replace hv43_0 := hv43_0.mono (gz_mono hH hle45)
   replace hG41 := hG41.trans (gz_mono hH hle45)
   refine S_seqnil ?_
   refine W_cut (σ := Bool) (fun s4_72 => [(4, .bool s4_72)]) (fun s4_72 wr => InO w [.box b44 [.int .i64 x42.2.1, .int .i64 x42.2.2] 25, .box b39 [.int .i64 x37.2.1, .int .i64 x37.2.2] 25, .box b34 [.int .i64 x31.2.1, .int .i64 x31.2.2] 25, .box b33 [.int .i64 x31.1.1, u32_0] 41, .box b4 [.int .i64 x1.2.1, .int .i64 x1.2.2] 25, .box b3 [.int .i64 x1.1.1, u2_0] 41] wr fun Oz => Vec (.pair .st (.vec (.pair (.int .i64) (.int .i64)))) (gz H w wr Oz) (u32_0) (x31.1.2) ∧ Vec (.pair .st (.vec (.pair (.int .i64) (.int .i64)))) (gz H w wr Oz) (u2_0) (x1.1.2) ∧ law4_WordsReopen_k1 s4_72 = some r) ?_ ?_
   ·refine W_naiveI (fun z0 z => Le (gz H w z0 [.box b44 [.int .i64 x42.2.1, .int .i64 x42.2.2] 25, .box b39 [.int .i64 x37.2.1, .int .i64 x37.2.2] 25, .box b34 [.int .i64 x31.2.1, .int .i64 x31.2.2] 25, .box b33 [.int .i64 x31.1.1, u32_0] 41, .box b4 [.int .i64 x1.2.1, .int .i64 x1.2.2] 25, .box b3 [.int .i64 x1.1.1, u2_0] 41]) (hp z) ∧ z.heap[b44]? = some (.cells [.int .i64 x42.2.1, .int .i64 x42.2.2].toArray 25 (0, 0)) ∧ z.heap[b39]? = some (.cells [.int .i64 x37.2.1, .int .i64 x37.2.2].toArray 25 (0, 0)) ∧ z.heap[b34]? = some (.cells [.int .i64 x31.2.1, .int .i64 x31.2.2].toArray 25 (0, 0)) ∧ z.heap[b33]? = some (.cells [.int .i64 x31.1.1, u32_0].toArray 41 (0, 0)) ∧ z.heap[b4]? = some (.cells [.int .i64 x1.2.1, .int .i64 x1.2.2].toArray 25 (0, 0)) ∧ z.heap[b3]? = some (.cells [.int .i64 x1.1.1, u2_0].toArray 41 (0, 0))) mixed rfl (fun w75 hx75 => ?_)
    have hL76 := hL45.call hx75
    have hle76 := fz_ext hL45 hx75
    replace hv43_0 := hv43_0.mono (gz_mono hH hle76)
    replace hG41 := hG41.trans (gz_mono hH hle76)
    have hG77 := hL76.rG H
    refine NI_hoist 0 (np_cut np_body) ⟨hG77.trans (gz_le hH hL76), hL76.at (i := 0) rfl, hL76.at (i := 1) rfl, hL76.at (i := 2) rfl, hL76.at (i := 3) rfl, hL76.at (i := 4) rfl, hL76.at (i := 5) rfl⟩ (by kernel_rfl) rfl (fun _ _ => r_field rfl underlying25 rfl zr3 (by decide)) rfl ?_
    refine NI_hoist 1 (np_cut np_body) ⟨hG77.trans (gz_le hH hL76), hL76.at (i := 0) rfl, hL76.at (i := 1) rfl, hL76.at (i := 2) rfl, hL76.at (i := 3) rfl, hL76.at (i := 4) rfl, hL76.at (i := 5) rfl⟩ (by kernel_rfl) rfl (fun _ hI => r_loadH1 rfl underlying3 rfl hI.2.2.2.1 rfl) rfl ?_
    refine NI_hoist 2 (np_cut np_body) ⟨hG77.trans (gz_le hH hL76), hL76.at (i := 0) rfl, hL76.at (i := 1) rfl, hL76.at (i := 2) rfl, hL76.at (i := 3) rfl, hL76.at (i := 4) rfl, hL76.at (i := 5) rfl⟩ (by kernel_rfl) rfl (fun _ _ => RunsAt_pu rfl) rfl ?_
    refine NI_hoist 3 (np_cut np_body) ⟨hG77.trans (gz_le hH hL76), hL76.at (i := 0) rfl, hL76.at (i := 1) rfl, hL76.at (i := 2) rfl, hL76.at (i := 3) rfl, hL76.at (i := 4) rfl, hL76.at (i := 5) rfl⟩ (by kernel_rfl) rfl (fun _ _ => RunsAt_pu rfl) rfl ?_
    refine NI_split (s := 52) rfl (fun hg78 => ?_) (fun hg78 => ?_)
    ·replace h := Go.L.ite_p (of_decide_eq_true hg78) h
     refine NI_hoistg 4 (np_cut np_body) ⟨hG77.trans (gz_le hH hL76), hL76.at (i := 0) rfl, hL76.at (i := 1) rfl, hL76.at (i := 2) rfl, hL76.at (i := 3) rfl, hL76.at (i := 4) rfl, hL76.at (i := 5) rfl⟩ (by kernel_rfl) rfl rfl rfl rfl hg78 (fun _ hI => r_loadHN rfl underlying41 rfl zr41 hI.2.2.2.2.1) rfl ?_
     refine NI_hoistg 6 (np_cut np_body) ⟨hG77.trans (gz_le hH hL76), hL76.at (i := 0) rfl, hL76.at (i := 1) rfl, hL76.at (i := 2) rfl, hL76.at (i := 3) rfl, hL76.at (i := 4) rfl, hL76.at (i := 5) rfl⟩ (by kernel_rfl) rfl rfl rfl rfl hg78 (fun _ _ => RunsAt_pu rfl) rfl ?_
     refine NI_hoistg 7 (np_cut np_body) ⟨hG77.trans (gz_le hH hL76), hL76.at (i := 0) rfl, hL76.at (i := 1) rfl, hL76.at (i := 2) rfl, hL76.at (i := 3) rfl, hL76.at (i := 4) rfl, hL76.at (i := 5) rfl⟩ (by kernel_rfl) rfl rfl rfl rfl hg78 (fun _ _ => r_len rfl underlying37 h0_0) rfl ?_
     refine NI1 (i := 5) (by kernel_rfl) rfl ?_
     refine S_guarded rfl rfl hg78 ?_
     obtain ⟨x80, hb80, h⟩ := Go.L.bind_some h
     refine S_callL rfl rfl hL76 (words_Index_Items_ok _ _ (gz_le hH hL76) ((hv32_0.mono hG41).mono hG77) hb80) ?_
     rintro _ w81 rfl hx81 hL81 hle81
     replace hG77 := hG77.trans (gz_mono hH hle81)
     refine NI_nil ⟨hG77.trans (gz_le hH hL81), hL81.at (i := 0) rfl, hL81.at (i := 1) rfl, hL81.at (i := 2) rfl, hL81.at (i := 3) rfl, hL81.at (i := 4) rfl, hL81.at (i := 5) rfl⟩ ?_
     refine NI_hoistg 8 (np_cut np_body) ⟨hG77.trans (gz_le hH hL81), hL81.at (i := 0) rfl, hL81.at (i := 1) rfl, hL81.at (i := 2) rfl, hL81.at (i := 3) rfl, hL81.at (i := 4) rfl, hL81.at (i := 5) rfl⟩ (by kernel_rfl) rfl rfl rfl rfl hg78 (fun _ _ => RunsAt_pu rfl) rfl ?_
     refine NI_hoist 9 (np_cut np_body) ⟨hG77.trans (gz_le hH hL81), hL81.at (i := 0) rfl, hL81.at (i := 1) rfl, hL81.at (i := 2) rfl, hL81.at (i := 3) rfl, hL81.at (i := 4) rfl, hL81.at (i := 5) rfl⟩ (by kernel_rfl) rfl (fun _ _ => r_pickT rfl hg78 rfl) rfl ?_
     refine NI_hoist 10 (np_cut np_body) ⟨hG77.trans (gz_le hH hL81), hL81.at (i := 0) rfl, hL81.at (i := 1) rfl, hL81.at (i := 2) rfl, hL81.at (i := 3) rfl, hL81.at (i := 4) rfl, hL81.at (i := 5) rfl⟩ (by kernel_rfl) rfl (fun _ _ => RunsAt_pu rfl) rfl ?_
     refine NI_split (s := 59) rfl (fun hg82 => ?_) (fun hg82 => ?_)
     ·replace h := Go.L.ite_p (of_decide_eq_true hg82) h
      refine NI_hoistg 11 (np_cut np_body) ⟨hG77.trans (gz_le hH hL81), hL81.at (i := 0) rfl, hL81.at (i := 1) rfl, hL81.at (i := 2) rfl, hL81.at (i := 3) rfl, hL81.at (i := 4) rfl, hL81.at (i := 5) rfl⟩ (by kernel_rfl) rfl rfl rfl rfl hg82 (fun _ hI => r_loadHN rfl underlying41 rfl zr41 hI.2.2.2.2.2.2) rfl ?_
      refine NI_hoistg 13 (np_cut np_body) ⟨hG77.trans (gz_le hH hL81), hL81.at (i := 0) rfl, hL81.at (i := 1) rfl, hL81.at (i := 2) rfl, hL81.at (i := 3) rfl, hL81.at (i := 4) rfl, hL81.at (i := 5) rfl⟩ (by kernel_rfl) rfl rfl rfl rfl hg82 (fun _ hI => r_loadHN rfl underlying41 rfl zr41 hI.2.2.2.2.1) rfl ?_
      refine NI1 (i := 12) (by kernel_rfl) rfl ?_
      refine S_guarded rfl rfl hg82 ?_
      obtain ⟨x84, hb84, h⟩ := Go.L.bind_some h
      refine S_callL rfl rfl hL81 (words_Index_Words_ok _ _ (gz_le hH hL81) ((hv2_0.mono hG41).mono hG77) hb84) ?_
      rintro u85_0 w85 ⟨_, rfl, hR85_0⟩ hx85 hL85 hle85
      have hv85_0 := hR85_0.vecG hH hL81 hx85
      replace hG77 := hG77.trans (gz_mono hH hle85)
      refine NI_nil ⟨hG77.trans (gz_le hH hL85), hL85.at (i := 0) rfl, hL85.at (i := 1) rfl, hL85.at (i := 2) rfl, hL85.at (i := 3) rfl, hL85.at (i := 4) rfl, hL85.at (i := 5) rfl⟩ ?_
      refine NI1 (i := 14) (by kernel_rfl) rfl ?_
      refine S_guarded rfl rfl hg82 ?_
      obtain ⟨x86, hb86, h⟩ := Go.L.bind_some h
      refine S_callL rfl rfl hL85 (words_Index_Words_ok _ _ (gz_le hH hL85) ((hv32_0.mono hG41).mono hG77) hb86) ?_
      rintro u87_0 w87 ⟨_, rfl, hR87_0⟩ hx87 hL87 hle87
      have hv87_0 := hR87_0.vecG hH hL85 hx87
      replace hv85_0 := hv85_0.mono (gz_mono hH hle87)
      replace hG77 := hG77.trans (gz_mono hH hle87)
      refine NI_nil ⟨hG77.trans (gz_le hH hL87), hL87.at (i := 0) rfl, hL87.at (i := 1) rfl, hL87.at (i := 2) rfl, hL87.at (i := 3) rfl, hL87.at (i := 4) rfl, hL87.at (i := 5) rfl⟩ ?_
      refine NI1 (i := 15) (by kernel_rfl) rfl ?_
      refine S_guarded rfl rfl hg82 ?_
      obtain ⟨x88, hb88, h⟩ := Go.L.bind_some h
      refine S_callL rfl rfl hL87 (ref4_Texts_ok _ _ (gz_le hH hL87) hv85_0 hv87_0 hb88) ?_
      rintro _ w89 rfl hx89 hL89 hle89
      replace hv85_0 := hv85_0.mono (gz_mono hH hle89)
      replace hv87_0 := hv87_0.mono (gz_mono hH hle89)
      replace hG77 := hG77.trans (gz_mono hH hle89)
      refine NI_nil ⟨hG77.trans (gz_le hH hL89), hL89.at (i := 0) rfl, hL89.at (i := 1) rfl, hL89.at (i := 2) rfl, hL89.at (i := 3) rfl, hL89.at (i := 4) rfl, hL89.at (i := 5) rfl⟩ ?_
      refine NI_hoist 16 (np_cut np_body) ⟨hG77.trans (gz_le hH hL89), hL89.at (i := 0) rfl, hL89.at (i := 1) rfl, hL89.at (i := 2) rfl, hL89.at (i := 3) rfl, hL89.at (i := 4) rfl, hL89.at (i := 5) rfl⟩ (by kernel_rfl) rfl (fun _ _ => r_pickT rfl hg82 rfl) rfl ?_
      refine NI_hoist 17 (np_cut np_body) ⟨hG77.trans (gz_le hH hL89), hL89.at (i := 0) rfl, hL89.at (i := 1) rfl, hL89.at (i := 2) rfl, hL89.at (i := 3) rfl, hL89.at (i := 4) rfl, hL89.at (i := 5) rfl⟩ (by kernel_rfl) rfl (fun _ _ => RunsAt_pu rfl) rfl ?_
      refine NI_split (s := 66) rfl (fun hg90 => ?_) (fun hg90 => ?_)
      ·replace h := Go.L.ite_t hg90 h
       refine NI_hoistg 18 (np_cut np_body) ⟨hG77.trans (gz_le hH hL89), hL89.at (i := 0) rfl, hL89.at (i := 1) rfl, hL89.at (i := 2) rfl, hL89.at (i := 3) rfl, hL89.at (i := 4) rfl, hL89.at (i := 5) rfl⟩ (by kernel_rfl) rfl rfl rfl rfl hg90 (fun _ hI => r_loadHN rfl underlying25 rfl zr25 hI.2.2.1) rfl ?_
       refine NI_hoistg 19 (np_cut np_body) ⟨hG77.trans (gz_le hH hL89), hL89.at (i := 0) rfl, hL89.at (i := 1) rfl, hL89.at (i := 2) rfl, hL89.at (i := 3) rfl, hL89.at (i := 4) rfl, hL89.at (i := 5) rfl⟩ (by kernel_rfl) rfl rfl rfl rfl hg90 (fun _ hI => r_loadHN rfl underlying25 rfl zr25 hI.2.1) rfl ?_
       refine NI_hoistg 20 (np_cut np_body) ⟨hG77.trans (gz_le hH hL89), hL89.at (i := 0) rfl, hL89.at (i := 1) rfl, hL89.at (i := 2) rfl, hL89.at (i := 3) rfl, hL89.at (i := 4) rfl, hL89.at (i := 5) rfl⟩ (by kernel_rfl) rfl rfl rfl rfl hg90 (fun _ _ => r_eqA rfl rfl eqg25 (eq25 _ _ _ _ )) rfl ?_
       refine NI_hoist 21 (np_cut np_body) ⟨hG77.trans (gz_le hH hL89), hL89.at (i := 0) rfl, hL89.at (i := 1) rfl, hL89.at (i := 2) rfl, hL89.at (i := 3) rfl, hL89.at (i := 4) rfl, hL89.at (i := 5) rfl⟩ (by kernel_rfl) rfl (fun _ _ => r_pickT rfl hg90 rfl) rfl ?_
       refine NI_hoist 22 (np_cut np_body) ⟨hG77.trans (gz_le hH hL89), hL89.at (i := 0) rfl, hL89.at (i := 1) rfl, hL89.at (i := 2) rfl, hL89.at (i := 3) rfl, hL89.at (i := 4) rfl, hL89.at (i := 5) rfl⟩ (by kernel_rfl) rfl (fun _ _ => RunsAt_pu rfl) rfl ?_
       refine NI_split (s := 71) rfl (fun hg92 => ?_) (fun hg92 => ?_)
       ·replace h := Go.L.ite_p (of_decide_eq_true hg92) h
        refine NI_hoistg 23 (np_cut np_body) ⟨hG77.trans (gz_le hH hL89), hL89.at (i := 0) rfl, hL89.at (i := 1) rfl, hL89.at (i := 2) rfl, hL89.at (i := 3) rfl, hL89.at (i := 4) rfl, hL89.at (i := 5) rfl⟩ (by kernel_rfl) rfl rfl rfl rfl hg92 (fun _ _ => RunsAt_pu rfl) rfl ?_
        refine NI_hoistg 24 (np_cut np_body) ⟨hG77.trans (gz_le hH hL89), hL89.at (i := 0) rfl, hL89.at (i := 1) rfl, hL89.at (i := 2) rfl, hL89.at (i := 3) rfl, hL89.at (i := 4) rfl, hL89.at (i := 5) rfl⟩ (by kernel_rfl) rfl rfl rfl rfl hg92 (fun _ _ => RunsAt_pu rfl) rfl ?_
        refine NI1 (i := 25) (by kernel_rfl) rfl ?_
        refine S_guarded rfl rfl hg92 ?_
        obtain ⟨x94, hb94, h⟩ := Go.L.bind_some h
        refine S_callL rfl rfl hL89 (ref4_SameHits_ok _ _ (gz_le hH hL89) ((hv38_0.mono hG41).mono hG77) (hv43_0.mono hG77) hb94) ?_
        rintro _ w95 rfl hx95 hL95 hle95
        replace hv85_0 := hv85_0.mono (gz_mono hH hle95)
        replace hv87_0 := hv87_0.mono (gz_mono hH hle95)
        replace hG77 := hG77.trans (gz_mono hH hle95)
        refine NI_nil ⟨hG77.trans (gz_le hH hL95), hL95.at (i := 0) rfl, hL95.at (i := 1) rfl, hL95.at (i := 2) rfl, hL95.at (i := 3) rfl, hL95.at (i := 4) rfl, hL95.at (i := 5) rfl⟩ ?_
        refine NI_hoist 26 (np_cut np_body) ⟨hG77.trans (gz_le hH hL95), hL95.at (i := 0) rfl, hL95.at (i := 1) rfl, hL95.at (i := 2) rfl, hL95.at (i := 3) rfl, hL95.at (i := 4) rfl, hL95.at (i := 5) rfl⟩ (by kernel_rfl) rfl (fun _ _ => r_pickT rfl hg92 rfl) rfl ?_
        refine NI_hoist 27 (np_cut np_body) ⟨hG77.trans (gz_le hH hL95), hL95.at (i := 0) rfl, hL95.at (i := 1) rfl, hL95.at (i := 2) rfl, hL95.at (i := 3) rfl, hL95.at (i := 4) rfl, hL95.at (i := 5) rfl⟩ (by kernel_rfl) rfl (fun _ _ => RunsAt_pu rfl) rfl ?_
        refine NI_end (by kernel_rfl) ?_
        refine At_cut x94 (.cons rfl (Sub.nil _)) ⟨hL95, ((hv32_0.mono hG41).mono hG77), ((hv2_0.mono hG41).mono hG77), h⟩
       ·replace h := Go.L.ite_n (of_decide_eq_false hg92) h
        refine NI_no 23 (np_cut np_body) ⟨hG77.trans (gz_le hH hL89), hL89.at (i := 0) rfl, hL89.at (i := 1) rfl, hL89.at (i := 2) rfl, hL89.at (i := 3) rfl, hL89.at (i := 4) rfl, hL89.at (i := 5) rfl⟩ (by kernel_rfl) rfl rfl rfl rfl hg92 rfl ?_
        refine NI_no 24 (np_cut np_body) ⟨hG77.trans (gz_le hH hL89), hL89.at (i := 0) rfl, hL89.at (i := 1) rfl, hL89.at (i := 2) rfl, hL89.at (i := 3) rfl, hL89.at (i := 4) rfl, hL89.at (i := 5) rfl⟩ (by kernel_rfl) rfl rfl rfl rfl hg92 rfl ?_
        refine NI_no 25 (np_cut np_body) ⟨hG77.trans (gz_le hH hL89), hL89.at (i := 0) rfl, hL89.at (i := 1) rfl, hL89.at (i := 2) rfl, hL89.at (i := 3) rfl, hL89.at (i := 4) rfl, hL89.at (i := 5) rfl⟩ (by kernel_rfl) rfl rfl rfl rfl hg92 rfl ?_
        refine NI_hoist 26 (np_cut np_body) ⟨hG77.trans (gz_le hH hL89), hL89.at (i := 0) rfl, hL89.at (i := 1) rfl, hL89.at (i := 2) rfl, hL89.at (i := 3) rfl, hL89.at (i := 4) rfl, hL89.at (i := 5) rfl⟩ (by kernel_rfl) rfl (fun _ _ => r_pickF rfl hg92 rfl) rfl ?_
        refine NI_hoist 27 (np_cut np_body) ⟨hG77.trans (gz_le hH hL89), hL89.at (i := 0) rfl, hL89.at (i := 1) rfl, hL89.at (i := 2) rfl, hL89.at (i := 3) rfl, hL89.at (i := 4) rfl, hL89.at (i := 5) rfl⟩ (by kernel_rfl) rfl (fun _ _ => RunsAt_pu rfl) rfl ?_
        refine NI_end (by kernel_rfl) ?_
        refine At_cut false (.cons rfl (Sub.nil _)) ⟨hL89, ((hv32_0.mono hG41).mono hG77), ((hv2_0.mono hG41).mono hG77), h⟩
      ·replace h := Go.L.ite_f hg90 h
       refine NI_no 18 (np_cut np_body) ⟨hG77.trans (gz_le hH hL89), hL89.at (i := 0) rfl, hL89.at (i := 1) rfl, hL89.at (i := 2) rfl, hL89.at (i := 3) rfl, hL89.at (i := 4) rfl, hL89.at (i := 5) rfl⟩ (by kernel_rfl) rfl rfl rfl rfl hg90 rfl ?_
       refine NI_no 19 (np_cut np_body) ⟨hG77.trans (gz_le hH hL89), hL89.at (i := 0) rfl, hL89.at (i := 1) rfl, hL89.at (i := 2) rfl, hL89.at (i := 3) rfl, hL89.at (i := 4) rfl, hL89.at (i := 5) rfl⟩ (by kernel_rfl) rfl rfl rfl rfl hg90 rfl ?_
       refine NI_no 20 (np_cut np_body) ⟨hG77.trans (gz_le hH hL89), hL89.at (i := 0) rfl, hL89.at (i := 1) rfl, hL89.at (i := 2) rfl, hL89.at (i := 3) rfl, hL89.at (i := 4) rfl, hL89.at (i := 5) rfl⟩ (by kernel_rfl) rfl rfl rfl rfl hg90 rfl ?_
       refine NI_hoist 21 (np_cut np_body) ⟨hG77.trans (gz_le hH hL89), hL89.at (i := 0) rfl, hL89.at (i := 1) rfl, hL89.at (i := 2) rfl, hL89.at (i := 3) rfl, hL89.at (i := 4) rfl, hL89.at (i := 5) rfl⟩ (by kernel_rfl) rfl (fun _ _ => r_pickF rfl hg90 rfl) rfl ?_
       refine NI_hoist 22 (np_cut np_body) ⟨hG77.trans (gz_le hH hL89), hL89.at (i := 0) rfl, hL89.at (i := 1) rfl, hL89.at (i := 2) rfl, hL89.at (i := 3) rfl, hL89.at (i := 4) rfl, hL89.at (i := 5) rfl⟩ (by kernel_rfl) rfl (fun _ _ => RunsAt_pu rfl) rfl ?_
       refine NI_no 23 (np_cut np_body) ⟨hG77.trans (gz_le hH hL89), hL89.at (i := 0) rfl, hL89.at (i := 1) rfl, hL89.at (i := 2) rfl, hL89.at (i := 3) rfl, hL89.at (i := 4) rfl, hL89.at (i := 5) rfl⟩ (by kernel_rfl) rfl rfl rfl rfl rfl rfl ?_
       refine NI_no 24 (np_cut np_body) ⟨hG77.trans (gz_le hH hL89), hL89.at (i := 0) rfl, hL89.at (i := 1) rfl, hL89.at (i := 2) rfl, hL89.at (i := 3) rfl, hL89.at (i := 4) rfl, hL89.at (i := 5) rfl⟩ (by kernel_rfl) rfl rfl rfl rfl rfl rfl ?_
       refine NI_no 25 (np_cut np_body) ⟨hG77.trans (gz_le hH hL89), hL89.at (i := 0) rfl, hL89.at (i := 1) rfl, hL89.at (i := 2) rfl, hL89.at (i := 3) rfl, hL89.at (i := 4) rfl, hL89.at (i := 5) rfl⟩ (by kernel_rfl) rfl rfl rfl rfl rfl rfl ?_
       refine NI_hoist 26 (np_cut np_body) ⟨hG77.trans (gz_le hH hL89), hL89.at (i := 0) rfl, hL89.at (i := 1) rfl, hL89.at (i := 2) rfl, hL89.at (i := 3) rfl, hL89.at (i := 4) rfl, hL89.at (i := 5) rfl⟩ (by kernel_rfl) rfl (fun _ _ => r_pickF rfl rfl rfl) rfl ?_
       refine NI_hoist 27 (np_cut np_body) ⟨hG77.trans (gz_le hH hL89), hL89.at (i := 0) rfl, hL89.at (i := 1) rfl, hL89.at (i := 2) rfl, hL89.at (i := 3) rfl, hL89.at (i := 4) rfl, hL89.at (i := 5) rfl⟩ (by kernel_rfl) rfl (fun _ _ => RunsAt_pu rfl) rfl ?_
       refine NI_end (by kernel_rfl) ?_
       refine At_cut false (.cons rfl (Sub.nil _)) ⟨hL89, ((hv32_0.mono hG41).mono hG77), ((hv2_0.mono hG41).mono hG77), h⟩
     ·replace h := Go.L.ite_n (of_decide_eq_false hg82) h
      refine NI_no 11 (np_cut np_body) ⟨hG77.trans (gz_le hH hL81), hL81.at (i := 0) rfl, hL81.at (i := 1) rfl, hL81.at (i := 2) rfl, hL81.at (i := 3) rfl, hL81.at (i := 4) rfl, hL81.at (i := 5) rfl⟩ (by kernel_rfl) rfl rfl rfl rfl hg82 rfl ?_
      refine NI_no 12 (np_cut np_body) ⟨hG77.trans (gz_le hH hL81), hL81.at (i := 0) rfl, hL81.at (i := 1) rfl, hL81.at (i := 2) rfl, hL81.at (i := 3) rfl, hL81.at (i := 4) rfl, hL81.at (i := 5) rfl⟩ (by kernel_rfl) rfl rfl rfl rfl hg82 rfl ?_
      refine NI_no 13 (np_cut np_body) ⟨hG77.trans (gz_le hH hL81), hL81.at (i := 0) rfl, hL81.at (i := 1) rfl, hL81.at (i := 2) rfl, hL81.at (i := 3) rfl, hL81.at (i := 4) rfl, hL81.at (i := 5) rfl⟩ (by kernel_rfl) rfl rfl rfl rfl hg82 rfl ?_
      refine NI_no 14 (np_cut np_body) ⟨hG77.trans (gz_le hH hL81), hL81.at (i := 0) rfl, hL81.at (i := 1) rfl, hL81.at (i := 2) rfl, hL81.at (i := 3) rfl, hL81.at (i := 4) rfl, hL81.at (i := 5) rfl⟩ (by kernel_rfl) rfl rfl rfl rfl hg82 rfl ?_
      refine NI_no 15 (np_cut np_body) ⟨hG77.trans (gz_le hH hL81), hL81.at (i := 0) rfl, hL81.at (i := 1) rfl, hL81.at (i := 2) rfl, hL81.at (i := 3) rfl, hL81.at (i := 4) rfl, hL81.at (i := 5) rfl⟩ (by kernel_rfl) rfl rfl rfl rfl hg82 rfl ?_
      refine NI_hoist 16 (np_cut np_body) ⟨hG77.trans (gz_le hH hL81), hL81.at (i := 0) rfl, hL81.at (i := 1) rfl, hL81.at (i := 2) rfl, hL81.at (i := 3) rfl, hL81.at (i := 4) rfl, hL81.at (i := 5) rfl⟩ (by kernel_rfl) rfl (fun _ _ => r_pickF rfl hg82 rfl) rfl ?_
      refine NI_hoist 17 (np_cut np_body) ⟨hG77.trans (gz_le hH hL81), hL81.at (i := 0) rfl, hL81.at (i := 1) rfl, hL81.at (i := 2) rfl, hL81.at (i := 3) rfl, hL81.at (i := 4) rfl, hL81.at (i := 5) rfl⟩ (by kernel_rfl) rfl (fun _ _ => RunsAt_pu rfl) rfl ?_
      refine NI_no 18 (np_cut np_body) ⟨hG77.trans (gz_le hH hL81), hL81.at (i := 0) rfl, hL81.at (i := 1) rfl, hL81.at (i := 2) rfl, hL81.at (i := 3) rfl, hL81.at (i := 4) rfl, hL81.at (i := 5) rfl⟩ (by kernel_rfl) rfl rfl rfl rfl rfl rfl ?_
      refine NI_no 19 (np_cut np_body) ⟨hG77.trans (gz_le hH hL81), hL81.at (i := 0) rfl, hL81.at (i := 1) rfl, hL81.at (i := 2) rfl, hL81.at (i := 3) rfl, hL81.at (i := 4) rfl, hL81.at (i := 5) rfl⟩ (by kernel_rfl) rfl rfl rfl rfl rfl rfl ?_
      refine NI_no 20 (np_cut np_body) ⟨hG77.trans (gz_le hH hL81), hL81.at (i := 0) rfl, hL81.at (i := 1) rfl, hL81.at (i := 2) rfl, hL81.at (i := 3) rfl, hL81.at (i := 4) rfl, hL81.at (i := 5) rfl⟩ (by kernel_rfl) rfl rfl rfl rfl rfl rfl ?_
      refine NI_hoist 21 (np_cut np_body) ⟨hG77.trans (gz_le hH hL81), hL81.at (i := 0) rfl, hL81.at (i := 1) rfl, hL81.at (i := 2) rfl, hL81.at (i := 3) rfl, hL81.at (i := 4) rfl, hL81.at (i := 5) rfl⟩ (by kernel_rfl) rfl (fun _ _ => r_pickF rfl rfl rfl) rfl ?_
      refine NI_hoist 22 (np_cut np_body) ⟨hG77.trans (gz_le hH hL81), hL81.at (i := 0) rfl, hL81.at (i := 1) rfl, hL81.at (i := 2) rfl, hL81.at (i := 3) rfl, hL81.at (i := 4) rfl, hL81.at (i := 5) rfl⟩ (by kernel_rfl) rfl (fun _ _ => RunsAt_pu rfl) rfl ?_
      refine NI_no 23 (np_cut np_body) ⟨hG77.trans (gz_le hH hL81), hL81.at (i := 0) rfl, hL81.at (i := 1) rfl, hL81.at (i := 2) rfl, hL81.at (i := 3) rfl, hL81.at (i := 4) rfl, hL81.at (i := 5) rfl⟩ (by kernel_rfl) rfl rfl rfl rfl rfl rfl ?_
      refine NI_no 24 (np_cut np_body) ⟨hG77.trans (gz_le hH hL81), hL81.at (i := 0) rfl, hL81.at (i := 1) rfl, hL81.at (i := 2) rfl, hL81.at (i := 3) rfl, hL81.at (i := 4) rfl, hL81.at (i := 5) rfl⟩ (by kernel_rfl) rfl rfl rfl rfl rfl rfl ?_
      refine NI_no 25 (np_cut np_body) ⟨hG77.trans (gz_le hH hL81), hL81.at (i := 0) rfl, hL81.at (i := 1) rfl, hL81.at (i := 2) rfl, hL81.at (i := 3) rfl, hL81.at (i := 4) rfl, hL81.at (i := 5) rfl⟩ (by kernel_rfl) rfl rfl rfl rfl rfl rfl ?_
      refine NI_hoist 26 (np_cut np_body) ⟨hG77.trans (gz_le hH hL81), hL81.at (i := 0) rfl, hL81.at (i := 1) rfl, hL81.at (i := 2) rfl, hL81.at (i := 3) rfl, hL81.at (i := 4) rfl, hL81.at (i := 5) rfl⟩ (by kernel_rfl) rfl (fun _ _ => r_pickF rfl rfl rfl) rfl ?_
      refine NI_hoist 27 (np_cut np_body) ⟨hG77.trans (gz_le hH hL81), hL81.at (i := 0) rfl, hL81.at (i := 1) rfl, hL81.at (i := 2) rfl, hL81.at (i := 3) rfl, hL81.at (i := 4) rfl, hL81.at (i := 5) rfl⟩ (by kernel_rfl) rfl (fun _ _ => RunsAt_pu rfl) rfl ?_
      refine NI_end (by kernel_rfl) ?_
      refine At_cut false (.cons rfl (Sub.nil _)) ⟨hL81, ((hv32_0.mono hG41).mono hG77), ((hv2_0.mono hG41).mono hG77), h⟩
    ·replace h := Go.L.ite_n (of_decide_eq_false hg78) h
     refine NI_no 4 (np_cut np_body) ⟨hG77.trans (gz_le hH hL76), hL76.at (i := 0) rfl, hL76.at (i := 1) rfl, hL76.at (i := 2) rfl, hL76.at (i := 3) rfl, hL76.at (i := 4) rfl, hL76.at (i := 5) rfl⟩ (by kernel_rfl) rfl rfl rfl rfl hg78 rfl ?_
     refine NI_no 5 (np_cut np_body) ⟨hG77.trans (gz_le hH hL76), hL76.at (i := 0) rfl, hL76.at (i := 1) rfl, hL76.at (i := 2) rfl, hL76.at (i := 3) rfl, hL76.at (i := 4) rfl, hL76.at (i := 5) rfl⟩ (by kernel_rfl) rfl rfl rfl rfl hg78 rfl ?_
     refine NI_no 6 (np_cut np_body) ⟨hG77.trans (gz_le hH hL76), hL76.at (i := 0) rfl, hL76.at (i := 1) rfl, hL76.at (i := 2) rfl, hL76.at (i := 3) rfl, hL76.at (i := 4) rfl, hL76.at (i := 5) rfl⟩ (by kernel_rfl) rfl rfl rfl rfl hg78 rfl ?_
     refine NI_no 7 (np_cut np_body) ⟨hG77.trans (gz_le hH hL76), hL76.at (i := 0) rfl, hL76.at (i := 1) rfl, hL76.at (i := 2) rfl, hL76.at (i := 3) rfl, hL76.at (i := 4) rfl, hL76.at (i := 5) rfl⟩ (by kernel_rfl) rfl rfl rfl rfl hg78 rfl ?_
     refine NI_no 8 (np_cut np_body) ⟨hG77.trans (gz_le hH hL76), hL76.at (i := 0) rfl, hL76.at (i := 1) rfl, hL76.at (i := 2) rfl, hL76.at (i := 3) rfl, hL76.at (i := 4) rfl, hL76.at (i := 5) rfl⟩ (by kernel_rfl) rfl rfl rfl rfl hg78 rfl ?_
     refine NI_hoist 9 (np_cut np_body) ⟨hG77.trans (gz_le hH hL76), hL76.at (i := 0) rfl, hL76.at (i := 1) rfl, hL76.at (i := 2) rfl, hL76.at (i := 3) rfl, hL76.at (i := 4) rfl, hL76.at (i := 5) rfl⟩ (by kernel_rfl) rfl (fun _ _ => r_pickF rfl hg78 rfl) rfl ?_
     refine NI_hoist 10 (np_cut np_body) ⟨hG77.trans (gz_le hH hL76), hL76.at (i := 0) rfl, hL76.at (i := 1) rfl, hL76.at (i := 2) rfl, hL76.at (i := 3) rfl, hL76.at (i := 4) rfl, hL76.at (i := 5) rfl⟩ (by kernel_rfl) rfl (fun _ _ => RunsAt_pu rfl) rfl ?_
     refine NI_no 11 (np_cut np_body) ⟨hG77.trans (gz_le hH hL76), hL76.at (i := 0) rfl, hL76.at (i := 1) rfl, hL76.at (i := 2) rfl, hL76.at (i := 3) rfl, hL76.at (i := 4) rfl, hL76.at (i := 5) rfl⟩ (by kernel_rfl) rfl rfl rfl rfl rfl rfl ?_
     refine NI_no 12 (np_cut np_body) ⟨hG77.trans (gz_le hH hL76), hL76.at (i := 0) rfl, hL76.at (i := 1) rfl, hL76.at (i := 2) rfl, hL76.at (i := 3) rfl, hL76.at (i := 4) rfl, hL76.at (i := 5) rfl⟩ (by kernel_rfl) rfl rfl rfl rfl rfl rfl ?_
     refine NI_no 13 (np_cut np_body) ⟨hG77.trans (gz_le hH hL76), hL76.at (i := 0) rfl, hL76.at (i := 1) rfl, hL76.at (i := 2) rfl, hL76.at (i := 3) rfl, hL76.at (i := 4) rfl, hL76.at (i := 5) rfl⟩ (by kernel_rfl) rfl rfl rfl rfl rfl rfl ?_
     refine NI_no 14 (np_cut np_body) ⟨hG77.trans (gz_le hH hL76), hL76.at (i := 0) rfl, hL76.at (i := 1) rfl, hL76.at (i := 2) rfl, hL76.at (i := 3) rfl, hL76.at (i := 4) rfl, hL76.at (i := 5) rfl⟩ (by kernel_rfl) rfl rfl rfl rfl rfl rfl ?_
     refine NI_no 15 (np_cut np_body) ⟨hG77.trans (gz_le hH hL76), hL76.at (i := 0) rfl, hL76.at (i := 1) rfl, hL76.at (i := 2) rfl, hL76.at (i := 3) rfl, hL76.at (i := 4) rfl, hL76.at (i := 5) rfl⟩ (by kernel_rfl) rfl rfl rfl rfl rfl rfl ?_
     refine NI_hoist 16 (np_cut np_body) ⟨hG77.trans (gz_le hH hL76), hL76.at (i := 0) rfl, hL76.at (i := 1) rfl, hL76.at (i := 2) rfl, hL76.at (i := 3) rfl, hL76.at (i := 4) rfl, hL76.at (i := 5) rfl⟩ (by kernel_rfl) rfl (fun _ _ => r_pickF rfl rfl rfl) rfl ?_
     refine NI_hoist 17 (np_cut np_body) ⟨hG77.trans (gz_le hH hL76), hL76.at (i := 0) rfl, hL76.at (i := 1) rfl, hL76.at (i := 2) rfl, hL76.at (i := 3) rfl, hL76.at (i := 4) rfl, hL76.at (i := 5) rfl⟩ (by kernel_rfl) rfl (fun _ _ => RunsAt_pu rfl) rfl ?_
     refine NI_no 18 (np_cut np_body) ⟨hG77.trans (gz_le hH hL76), hL76.at (i := 0) rfl, hL76.at (i := 1) rfl, hL76.at (i := 2) rfl, hL76.at (i := 3) rfl, hL76.at (i := 4) rfl, hL76.at (i := 5) rfl⟩ (by kernel_rfl) rfl rfl rfl rfl rfl rfl ?_
     refine NI_no 19 (np_cut np_body) ⟨hG77.trans (gz_le hH hL76), hL76.at (i := 0) rfl, hL76.at (i := 1) rfl, hL76.at (i := 2) rfl, hL76.at (i := 3) rfl, hL76.at (i := 4) rfl, hL76.at (i := 5) rfl⟩ (by kernel_rfl) rfl rfl rfl rfl rfl rfl ?_
     refine NI_no 20 (np_cut np_body) ⟨hG77.trans (gz_le hH hL76), hL76.at (i := 0) rfl, hL76.at (i := 1) rfl, hL76.at (i := 2) rfl, hL76.at (i := 3) rfl, hL76.at (i := 4) rfl, hL76.at (i := 5) rfl⟩ (by kernel_rfl) rfl rfl rfl rfl rfl rfl ?_
     refine NI_hoist 21 (np_cut np_body) ⟨hG77.trans (gz_le hH hL76), hL76.at (i := 0) rfl, hL76.at (i := 1) rfl, hL76.at (i := 2) rfl, hL76.at (i := 3) rfl, hL76.at (i := 4) rfl, hL76.at (i := 5) rfl⟩ (by kernel_rfl) rfl (fun _ _ => r_pickF rfl rfl rfl) rfl ?_
     refine NI_hoist 22 (np_cut np_body) ⟨hG77.trans (gz_le hH hL76), hL76.at (i := 0) rfl, hL76.at (i := 1) rfl, hL76.at (i := 2) rfl, hL76.at (i := 3) rfl, hL76.at (i := 4) rfl, hL76.at (i := 5) rfl⟩ (by kernel_rfl) rfl (fun _ _ => RunsAt_pu rfl) rfl ?_
     refine NI_no 23 (np_cut np_body) ⟨hG77.trans (gz_le hH hL76), hL76.at (i := 0) rfl, hL76.at (i := 1) rfl, hL76.at (i := 2) rfl, hL76.at (i := 3) rfl, hL76.at (i := 4) rfl, hL76.at (i := 5) rfl⟩ (by kernel_rfl) rfl rfl rfl rfl rfl rfl ?_
     refine NI_no 24 (np_cut np_body) ⟨hG77.trans (gz_le hH hL76), hL76.at (i := 0) rfl, hL76.at (i := 1) rfl, hL76.at (i := 2) rfl, hL76.at (i := 3) rfl, hL76.at (i := 4) rfl, hL76.at (i := 5) rfl⟩ (by kernel_rfl) rfl rfl rfl rfl rfl rfl ?_
     refine NI_no 25 (np_cut np_body) ⟨hG77.trans (gz_le hH hL76), hL76.at (i := 0) rfl, hL76.at (i := 1) rfl, hL76.at (i := 2) rfl, hL76.at (i := 3) rfl, hL76.at (i := 4) rfl, hL76.at (i := 5) rfl⟩ (by kernel_rfl) rfl rfl rfl rfl rfl rfl ?_
     refine NI_hoist 26 (np_cut np_body) ⟨hG77.trans (gz_le hH hL76), hL76.at (i := 0) rfl, hL76.at (i := 1) rfl, hL76.at (i := 2) rfl, hL76.at (i := 3) rfl, hL76.at (i := 4) rfl, hL76.at (i := 5) rfl⟩ (by kernel_rfl) rfl (fun _ _ => r_pickF rfl rfl rfl) rfl ?_
     refine NI_hoist 27 (np_cut np_body) ⟨hG77.trans (gz_le hH hL76), hL76.at (i := 0) rfl, hL76.at (i := 1) rfl, hL76.at (i := 2) rfl, hL76.at (i := 3) rfl, hL76.at (i := 4) rfl, hL76.at (i := 5) rfl⟩ (by kernel_rfl) rfl (fun _ _ => RunsAt_pu rfl) rfl ?_
     refine NI_end (by kernel_rfl) ?_
     refine At_cut false (.cons rfl (Sub.nil _)) ⟨hL76, ((hv32_0.mono hG41).mono hG77), ((hv2_0.mono hG41).mono hG77), h⟩
   ·rintro s4_72 wr73 ⟨hL73, hf73_0, hf73_1, h⟩
    refine W_ret ?_
    obtain rfl := Option.some.inj h
    refine At_body rfl rfl ?_
    exact ⟨hL73.ext, rfl⟩
end Go.Proofs.YtdiieblgeaehpaaDoor
