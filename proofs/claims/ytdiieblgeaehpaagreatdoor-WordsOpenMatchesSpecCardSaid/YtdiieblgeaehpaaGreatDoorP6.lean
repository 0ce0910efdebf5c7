/- Generated walks: the index of words. -/
import Derived.Test.YtdiieblgeaehpaaGreatDoorP5
import Derived.Test.YtdiieblgeaehpaaGreatDoorKeys
import Derived.Test.YtdiieblgeaehpaaGreatDoorFactsM
import Derived.Test.YtdiieblgeaehpaaGreatDoorEngX
import Derived.KernelRfl
namespace Go.Proofs.YtdiieblgeaehpaaGreatDoor
open Go Go.E Go.RowKit
set_option maxHeartbeats 1000000
set_option maxRecDepth 10000
open _root_.Go.Proofs.Tryz
noncomputable def words_build_1 (a0 : Int) (a1 : Int) : Option (Int) :=
 Option.bind (bits_GammaSize a0) (fun x3 => Go.L.chk (Go.L.I64 (a1 + x3)) (some ((a1 + x3))))

theorem words_build_1_fr {w0 w : World} {H : PH} (_hH : Le H (hp w0)) {O : List Res} {a0 : Int} {a1 : Int} {ba1 : Nat} (hL : Lcl w0 (HAppend.hAppend ([.box ba1 [.int .i64 a1] 3] : List Res) O) w)  {r : Int} (h : words_build_1 a0 a1 = some r) :
  Ok Tryz.prog 68 [.int .i64 a0, .pointer (some ⟨ba1, 0, none⟩)] w (fun v w' => v = .tuple #[] ∧ Lcl w0 (HAppend.hAppend ([.box ba1 [.int .i64 r] 3] : List Res) O) w' ∧ Le (fz w (HAppend.hAppend ([.box ba1 [.int .i64 a1] 3] : List Res) O)) (fz w' (HAppend.hAppend ([.box ba1 [.int .i64 r] 3] : List Res) O))) := by
 refine Ok_enter (n := 7) [(0, .int .i64 a0), (1, .pointer (some ⟨ba1, 0, none⟩))] func68 rfl rfl rfl rfl rfl ?_
 have hT := Le.refl (fz w (HAppend.hAppend ([.box ba1 [.int .i64 a1] 3] : List Res) O))
 refine W_regd (.q 0 (.q 1 (.q 2 (.q 3 (.tail 4))))) mixed (by kernel_rfl) (fun w1 hx1 => ?_)
 have hL2 := hL.call hx1
 have hle2 := fz_ext hL hx1
 replace hT := hT.trans hle2
 refine D_v (r_loadB1 0 rfl underlying3 rfl hL2 rfl rfl) rfl rfl ?_
 refine D_pu 1 rfl ?_
 obtain ⟨x3, hb3, h⟩ := Go.L.bind_some h
 refine D_call rfl rfl rfl (fun w4 hx4 => bits_GammaSize_ok _ _ (Le.refl _) hb3) ?_
 obtain ⟨hk5, h⟩ := Go.L.chk_some h
 refine D_v (r_ar64 rfl rfl rfl hk5) rfl rfl ?_
 refine D_tail (fun w6 hx6 => ?_)
 have hL7 := hL2.call hx6
 have hle7 := fz_ext hL2 hx6
 replace hT := hT.trans hle7
 refine S_storeB1 0 rfl rfl rfl zr3 hL7 rfl rfl ?_
 intro w8 hL8 hle8
 replace hT := hT.trans hle8
 refine S_nil ?_
 obtain rfl := Option.some.inj h
 refine At_got0e rfl ?_
 exact ⟨rfl, hL8, hT⟩

noncomputable def words_Index_numbers_k2 (s25_118 : Int) (c225 : Int) : Option ((Int × Int) ⊕ (Int)) :=
 Go.L.chk (Go.L.I64 (s25_118 + (1 : Int))) (some (Sum.inl (c225, (s25_118 + (1 : Int)))))
noncomputable def words_Index_numbers_bl5 (a0 : Int × (List ((List UInt8) × (List (Int × Int))))) (s25_118 : Int) : Int × Int × Int × Int → Option ((Int × Int × Int × Int) ⊕ ((Int × Int) ⊕ (Int))) := fun ⟨c326, c327, c328, s57_329⟩ =>
 if s57_329 < (((a0.2.getD s25_118.toNat default).2).length : Int) then Go.L.chk (0 ≤ s57_329 ∧ s57_329 < (((a0.2.getD s25_118.toNat default).2).length : Int)) (if (((a0.2.getD s25_118.toNat default).2).getD s57_329.toNat default).1 = c326 then Option.bind (words_build_1 (1 : Int) c328) (fun x354 => Go.L.chk (Go.L.I64 ((((a0.2.getD s25_118.toNat default).2).getD s57_329.toNat default).2 - c327)) (Option.bind (words_build_1 ((((a0.2.getD s25_118.toNat default).2).getD s57_329.toNat default).2 - c327) x354) (fun x357 => Go.L.chk (Go.L.I64 (s57_329 + (1 : Int))) (some (Sum.inl ((((a0.2.getD s25_118.toNat default).2).getD s57_329.toNat default).1, (((a0.2.getD s25_118.toNat default).2).getD s57_329.toNat default).2, x357, (s57_329 + (1 : Int)))))))) else Go.L.chk (Go.L.I64 ((1 : Int) + (((a0.2.getD s25_118.toNat default).2).getD s57_329.toNat default).1)) (Go.L.chk (Go.L.I64 (((1 : Int) + (((a0.2.getD s25_118.toNat default).2).getD s57_329.toNat default).1) - c326)) (Option.bind (words_build_1 (((1 : Int) + (((a0.2.getD s25_118.toNat default).2).getD s57_329.toNat default).1) - c326) c328) (fun x343 => Go.L.chk (Go.L.I64 ((((a0.2.getD s25_118.toNat default).2).getD s57_329.toNat default).2 + (1 : Int))) (Option.bind (words_build_1 ((((a0.2.getD s25_118.toNat default).2).getD s57_329.toNat default).2 + (1 : Int)) x343) (fun x346 => Go.L.chk (Go.L.I64 (s57_329 + (1 : Int))) (some (Sum.inl ((((a0.2.getD s25_118.toNat default).2).getD s57_329.toNat default).1, (((a0.2.getD s25_118.toNat default).2).getD s57_329.toNat default).2, x346, (s57_329 + (1 : Int))))))))))) else Option.map Sum.inr ((words_Index_numbers_k2 s25_118) c328)
noncomputable def words_Index_numbers_l5 (a0 : Int × (List ((List UInt8) × (List (Int × Int))))) (s25_118 : Int) (s : Int × Int × Int × Int) : Option ((Int × Int) ⊕ (Int)) := Go.L.run (words_Index_numbers_bl5 a0 s25_118) s
noncomputable def words_Index_numbers_k3 (a0 : Int × (List ((List UInt8) × (List (Int × Int))))) (s25_118 : Int) (c262 : Int) : Option ((Int × Int) ⊕ (Int)) :=
 Option.bind (words_build_1 (((a0.2.getD s25_118.toNat default).2).length : Int) c262) (fun x293 => (words_Index_numbers_l5 a0 s25_118) ((0 : Int), (-1 : Int), x293, (0 : Int)))
noncomputable def words_Index_numbers_bl4 (a0 : Int × (List ((List UInt8) × (List (Int × Int))))) (s25_118 : Int) : Int × Int → Option ((Int × Int) ⊕ ((Int × Int) ⊕ (Int))) := fun ⟨c278, s38_279⟩ =>
 if s38_279 < (((a0.2.getD s25_118.toNat default).1).length : Int) then Go.L.chk (0 ≤ s38_279 ∧ s38_279 < (((a0.2.getD s25_118.toNat default).1).length : Int)) (Go.L.chk (Go.L.I64 (((((a0.2.getD s25_118.toNat default).1).getD s38_279.toNat default).toNat : Int) + (1 : Int))) (Option.bind (words_build_1 (((((a0.2.getD s25_118.toNat default).1).getD s38_279.toNat default).toNat : Int) + (1 : Int)) c278) (fun x288 => Go.L.chk (Go.L.I64 (s38_279 + (1 : Int))) (some (Sum.inl (x288, (s38_279 + (1 : Int)))))))) else Option.map Sum.inr ((words_Index_numbers_k3 a0 s25_118) c278)
noncomputable def words_Index_numbers_l4 (a0 : Int × (List ((List UInt8) × (List (Int × Int))))) (s25_118 : Int) (s : Int × Int) : Option ((Int × Int) ⊕ (Int)) := Go.L.run (words_Index_numbers_bl4 a0 s25_118) s
noncomputable def words_Index_numbers_bl1 (a0 : Int × (List ((List UInt8) × (List (Int × Int))))) : Int × Int → Option ((Int × Int) ⊕ (Int)) := fun ⟨c117, s25_118⟩ =>
 if s25_118 < (a0.2.length : Int) then Go.L.chk (0 ≤ s25_118 ∧ s25_118 < (a0.2.length : Int)) (Option.bind (words_build_1 (((a0.2.getD s25_118.toNat default).1).length : Int) c117) (fun x233 => Go.L.chk (((a0.2.getD s25_118.toNat default).1).length ≤ 9223372036854775807) ((words_Index_numbers_l4 a0 s25_118) (x233, (0 : Int))))) else Option.map Sum.inr (some (c117))
noncomputable def words_Index_numbers_l1 (a0 : Int × (List ((List UInt8) × (List (Int × Int))))) (s : Int × Int) : Option (Int) := Go.L.run (words_Index_numbers_bl1 a0) s
noncomputable def words_Index_numbers (a0 : Int × (List ((List UInt8) × (List (Int × Int))))) (a1_c0 : Int) : Option (Int) :=
 Go.L.chk (Go.L.I64 (a0.1 + (1 : Int))) (Option.bind (words_build_1 (a0.1 + (1 : Int)) a1_c0) (fun x4 => Go.L.chk (Go.L.I64 ((a0.2.length : Int) + (1 : Int))) (Option.bind (words_build_1 ((a0.2.length : Int) + (1 : Int)) x4) (fun x7 => (words_Index_numbers_l1 a0) (x7, (0 : Int))))))

theorem words_Index_numbers_fr {w0 w : World} {H : PH} (hH : Le H (hp w0)) {O : List Res} {a0 : Int × (List ((List UInt8) × (List (Int × Int))))} {a1_c0 : Int} {va0_1 : Value} {ba1_c0 : Nat} (hL : Lcl w0 (HAppend.hAppend ([.box ba1_c0 [.int .i64 a1_c0] 3] : List Res) O) w) (ha0_1 : Vec (.pair .st (.vec (.pair (.int .i64) (.int .i64)))) (gz H w0 w (HAppend.hAppend ([.box ba1_c0 [.int .i64 a1_c0] 3] : List Res) O)) va0_1 (a0.2)) {r : Int} (h : words_Index_numbers a0 a1_c0 = some r) :
  Ok Tryz.prog 35 [.agg #[.int .i64 a0.1, va0_1], .func (.func 68) #[] #[.pointer (some ⟨ba1_c0, 0, none⟩)]] w (fun v w' => v = .tuple #[] ∧ Lcl w0 (HAppend.hAppend ([.box ba1_c0 [.int .i64 r] 3] : List Res) O) w' ∧ Le (fz w (HAppend.hAppend ([.box ba1_c0 [.int .i64 a1_c0] 3] : List Res) O)) (fz w' (HAppend.hAppend ([.box ba1_c0 [.int .i64 r] 3] : List Res) O))) := by
 refine Ok_enter (n := 91) [(0, .agg #[.int .i64 a0.1, va0_1]), (1, .func (.func 68) #[] #[.pointer (some ⟨ba1_c0, 0, none⟩)])] func35 rfl rfl rfl rfl rfl ?_
 have hT := Le.refl (fz w (HAppend.hAppend ([.box ba1_c0 [.int .i64 a1_c0] 3] : List Res) O))
 refine W_seqr ?_
 refine S_box (t := 25) rfl rfl rfl hL ?_
 intro w1 b1 hL1 hle1 _
 replace ha0_1 := ha0_1.mono (gz_mono hH hle1)
 replace hT := hT.trans hle1
 refine S_seqnil ?_
 refine W_p 1 rfl ?_
 refine S_v (r_field rfl underlying25 rfl zr3 (by decide)) rfl ?_
 refine S_v (r_loadB1 0 rfl underlying3 rfl hL1 rfl rfl) rfl ?_
 obtain ⟨hk2, h⟩ := Go.L.chk_some h
 refine S_v (r_ar64 rfl rfl rfl hk2) rfl ?_
 have hL3 : Lcl w0 (HAppend.hAppend ([.box ba1_c0 [.int .i64 a1_c0] 3, .box b1 [.int .i64 a0.1, va0_1] 25] : List Res) O) w1 := hL1.picks [1] rfl
 have hle3 := fz_picks [1] hL1 hL3 rfl
 replace ha0_1 := ha0_1.mono (gz_mono hH hle3)
 replace hT := hT.trans hle3
 obtain ⟨x4, hb4, h⟩ := Go.L.bind_some h
 refine S_callv rfl rfl rfl (words_build_1_fr (a0 := (a0.1 + (1 : Int))) (a1 := a1_c0) (O := (HAppend.hAppend ([.box b1 [.int .i64 a0.1, va0_1] 25] : List Res) O)) hH hL3  hb4) ?_
 rintro _ w5 ⟨rfl, hL5, hle5⟩
 replace ha0_1 := ha0_1.mono (gz_mono hH hle5)
 replace hT := hT.trans hle5
 refine S_seqnil ?_
 refine W_p 1 rfl ?_
 refine S_v (r_field rfl underlying25 rfl zr23 (by decide)) rfl ?_
 refine S_v (r_loadB1 1 rfl underlying23 rfl hL5 rfl rfl) rfl ?_
 refine S_v (r_len rfl underlying23 ha0_1) rfl ?_
 obtain ⟨hk6, h⟩ := Go.L.chk_some h
 refine S_v (r_ar64 rfl rfl rfl hk6) rfl ?_
 obtain ⟨x7, hb7, h⟩ := Go.L.bind_some h
 refine S_callv rfl rfl rfl (words_build_1_fr (a0 := ((a0.2.length : Int) + (1 : Int))) (a1 := x4) (O := (HAppend.hAppend ([.box b1 [.int .i64 a0.1, va0_1] 25] : List Res) O)) hH hL5  hb7) ?_
 rintro _ w8 ⟨rfl, hL8, hle8⟩
 replace ha0_1 := ha0_1.mono (gz_mono hH hle8)
 replace hT := hT.trans hle8
 refine S_seqnil ?_
 refine W_seqr ?_
 refine S_v (r_field rfl underlying25 rfl zr23 (by decide)) rfl ?_
 refine S_v (r_loadB1 1 rfl underlying23 rfl hL8 rfl rfl) rfl ?_
 refine S_v (r_len rfl underlying23 ha0_1) rfl ?_
 refine S_pz 1 rfl ?_
 refine W_block ?_
 obtain ⟨n119, h⟩ := Go.L.run_some h
 refine W_loop (σ := Int × Int × Nat) (fun ⟨c117, s25_118, n⟩ => [(1, .func (.func 68) #[] #[.pointer (some ⟨ba1_c0, 0, none⟩)]), (23, va0_1), (24, .int .i64 (a0.2.length : Int)), (25, .int .i64 s25_118)]) (fun ⟨c117, s25_118, n⟩ wr => InO w0 (HAppend.hAppend ([.box ba1_c0 [.int .i64 c117] 3, .box b1 [.int .i64 a0.1, va0_1] 25] : List Res) O) wr fun Oz => Vec (.pair .st (.vec (.pair (.int .i64) (.int .i64)))) (gz H w0 wr Oz) (va0_1) (a0.2) ∧ Le (fz w (HAppend.hAppend ([.box ba1_c0 [.int .i64 a1_c0] 3] : List Res) O)) (fz wr Oz) ∧ Go.L.itr (words_Index_numbers_bl1 a0) n (c117, s25_118) = some r) (fun ⟨c117, s25_118, n⟩ => n) (x7, (0 : Int), n119) (.cons rfl (.cons rfl (.cons rfl (.cons rfl (Sub.nil _))))) ⟨hL8, ha0_1, hT, h⟩ ?_
 rintro ⟨c117, s25_118, nn119⟩ wr119 ⟨hL119, hf119_0, hT, h⟩
 obtain ⟨n119, e119, rfl, h, hm119⟩ := Go.L.itr_some h
 refine W_pz 1 rfl ?_
 refine W_seq ?_
 refine W_if rfl (fun hc121 => ?_) (fun hc121 => ?_)
 ·replace h := Go.L.ite_p hc121 h
  refine W_skip ?_
  refine At_seq ?_
  refine W_cut (σ := Int) (fun c225 => [(1, .func (.func 68) #[] #[.pointer (some ⟨ba1_c0, 0, none⟩)]), (23, va0_1), (24, .int .i64 (a0.2.length : Int)), (25, .int .i64 s25_118)]) (fun c225 wr => InO w0 (HAppend.hAppend ([.box ba1_c0 [.int .i64 c225] 3, .box b1 [.int .i64 a0.1, va0_1] 25] : List Res) O) wr fun Oz => Vec (.pair .st (.vec (.pair (.int .i64) (.int .i64)))) (gz H w0 wr Oz) (va0_1) (a0.2) ∧ Le (fz w (HAppend.hAppend ([.box ba1_c0 [.int .i64 a1_c0] 3] : List Res) O)) (fz wr Oz) ∧ (words_Index_numbers_k2 s25_118) c225 = some e119) ?_ ?_
  ·refine W_block ?_
   refine W_seqr ?_
   obtain ⟨hk229, h⟩ := Go.L.chk_some h
   refine S_index rfl rfl underlying23 zr62 hf119_0 s25_118.toNat (Int.toNat_of_nonneg hk229.1).symm (idx_lt hk229) rfl ?_
   rintro p228 _ ⟨_, _, rfl, rfl, ⟨e228v1, rfl, e228h1⟩⟩ hp228
   refine S_v (r_loadN rfl underlying62 rfl zr62 hp228 (gz_le hH hL119)) rfl ?_
   refine S_alloc zr62 rfl rfl hL119 ?_
   intro w230 b230 hL230 hle230 _
   replace hf119_0 := hf119_0.mono (gz_mono hH hle230)
   replace hp228 := hp228.mono (gz_mono hH hle230)
   replace e228h1 := e228h1.mono (gz_mono hH hle230)
   replace hT := hT.trans hle230
   refine S_storeBN 0 rfl rfl rfl zr62 hL230 rfl rfl (onc rfl (onc e228h1.one on0)) ?_
   intro w231 hL231 hle231
   replace hf119_0 := hf119_0.mono (gz_mono hH hle231)
   replace hp228 := hp228.mono (gz_mono hH hle231)
   replace e228h1 := e228h1.mono (gz_mono hH hle231)
   replace hT := hT.trans hle231
   refine S_seqnil ?_
   refine W_p 1 rfl ?_
   refine S_v (r_field rfl underlying62 rfl zr9 (by decide)) rfl ?_
   refine S_v (r_loadB1 0 rfl underlying9 rfl hL231 rfl rfl) rfl ?_
   refine S_v (r_lenS rfl underlying9) rfl ?_
   have hL232 : Lcl w0 (HAppend.hAppend ([.box ba1_c0 [.int .i64 c117] 3, .box b230 [.string ⟨((a0.2.getD s25_118.toNat default).1).toArray⟩, e228v1] 62, .box b1 [.int .i64 a0.1, va0_1] 25] : List Res) O) w231 := hL231.picks [1] rfl
   have hle232 := fz_picks [1] hL231 hL232 rfl
   replace hf119_0 := hf119_0.mono (gz_mono hH hle232)
   replace e228h1 := e228h1.mono (gz_mono hH hle232)
   replace hT := hT.trans hle232
   obtain ⟨x233, hb233, h⟩ := Go.L.bind_some h
   refine S_callv rfl rfl rfl (words_build_1_fr (a0 := (((a0.2.getD s25_118.toNat default).1).length : Int)) (a1 := c117) (O := (HAppend.hAppend ([.box b230 [.string ⟨((a0.2.getD s25_118.toNat default).1).toArray⟩, e228v1] 62, .box b1 [.int .i64 a0.1, va0_1] 25] : List Res) O)) hH hL232  hb233) ?_
   rintro _ w234 ⟨rfl, hL234, hle234⟩
   replace hf119_0 := hf119_0.mono (gz_mono hH hle234)
   replace e228h1 := e228h1.mono (gz_mono hH hle234)
   replace hT := hT.trans hle234
   refine S_seqnil ?_
   refine W_cut (σ := Int) (fun c262 => [(1, .func (.func 68) #[] #[.pointer (some ⟨ba1_c0, 0, none⟩)]), (5, .pointer (some ⟨b230, 0, none⟩)), (23, va0_1), (24, .int .i64 (a0.2.length : Int)), (25, .int .i64 s25_118)]) (fun c262 wr => InO w0 (HAppend.hAppend ([.box ba1_c0 [.int .i64 c262] 3, .box b230 [.string ⟨((a0.2.getD s25_118.toNat default).1).toArray⟩, e228v1] 62, .box b1 [.int .i64 a0.1, va0_1] 25] : List Res) O) wr fun Oz => Vec (.pair .st (.vec (.pair (.int .i64) (.int .i64)))) (gz H w0 wr Oz) (va0_1) (a0.2) ∧ Vec (.pair (.int .i64) (.int .i64)) (gz H w0 wr Oz) (e228v1) ((a0.2.getD s25_118.toNat default).2) ∧ Le (fz w (HAppend.hAppend ([.box ba1_c0 [.int .i64 a1_c0] 3] : List Res) O)) (fz wr Oz) ∧ (words_Index_numbers_k3 a0 s25_118) c262 = some e119) ?_ ?_
   ·refine W_seqr ?_
    refine S_v (r_field rfl underlying62 rfl zr9 (by decide)) rfl ?_
    refine S_v (r_loadB1 1 rfl underlying9 rfl hL234 rfl rfl) rfl ?_
    obtain ⟨hk266, h⟩ := Go.L.chk_some h
    refine S_s2b (H := H) rfl underlying9 underlying22 underlying5 rfl hL234 hk266 ?_
    intro v265 w265 hx265 hL265 hle265 hv265
    replace hf119_0 := hf119_0.mono (gz_mono hH hle265)
    replace e228h1 := e228h1.mono (gz_mono hH hle265)
    replace hT := hT.trans hle265
    refine S_v (r_len rfl underlying22 hv265) rfl ?_
    refine S_pz 1 rfl ?_
    refine W_block ?_
    obtain ⟨n280, h⟩ := Go.L.run_some h
    refine W_loop (σ := Int × Int × Nat) (fun ⟨c278, s38_279, n⟩ => [(1, .func (.func 68) #[] #[.pointer (some ⟨ba1_c0, 0, none⟩)]), (5, .pointer (some ⟨b230, 0, none⟩)), (23, va0_1), (24, .int .i64 (a0.2.length : Int)), (25, .int .i64 s25_118), (36, v265), (37, .int .i64 (((a0.2.getD s25_118.toNat default).1).length : Int)), (38, .int .i64 s38_279)]) (fun ⟨c278, s38_279, n⟩ wr => InO w0 (HAppend.hAppend ([.box ba1_c0 [.int .i64 c278] 3, .box b230 [.string ⟨((a0.2.getD s25_118.toNat default).1).toArray⟩, e228v1] 62, .box b1 [.int .i64 a0.1, va0_1] 25] : List Res) O) wr fun Oz => Vec (.pair .st (.vec (.pair (.int .i64) (.int .i64)))) (gz H w0 wr Oz) (va0_1) (a0.2) ∧ Vec .byte (gz H w0 wr Oz) (v265) ((a0.2.getD s25_118.toNat default).1) ∧ Vec (.pair (.int .i64) (.int .i64)) (gz H w0 wr Oz) (e228v1) ((a0.2.getD s25_118.toNat default).2) ∧ Le (fz w (HAppend.hAppend ([.box ba1_c0 [.int .i64 a1_c0] 3] : List Res) O)) (fz wr Oz) ∧ Go.L.itr (words_Index_numbers_bl4 a0 s25_118) n (c278, s38_279) = some e119) (fun ⟨c278, s38_279, n⟩ => n) (x233, (0 : Int), n280) (.cons rfl (.cons rfl (.cons rfl (.cons rfl (.cons rfl (.cons rfl (.cons rfl (.cons rfl (Sub.nil _))))))))) ⟨hL265, hf119_0, hv265, e228h1, hT, h⟩ ?_
    rintro ⟨c278, s38_279, nn280⟩ wr280 ⟨hL280, hf280_0, hf280_1, hf280_2, hT, h⟩
    obtain ⟨n280, e280, rfl, h, hm280⟩ := Go.L.itr_some h
    have hG282 := hL280.rG H
    refine W_pz 1 rfl ?_
    refine W_seq ?_
    refine W_if rfl (fun hc283 => ?_) (fun hc283 => ?_)
    ·replace h := Go.L.ite_p hc283 h
     refine W_skip ?_
     refine At_seq ?_
     refine W_seq ?_
     refine W_block ?_
     refine W_seqr ?_
     obtain ⟨hk286, h⟩ := Go.L.chk_some h
     refine S_index rfl rfl underlying22 zr5 (hf280_1.mono hG282) s38_279.toNat (Int.toNat_of_nonneg hk286.1).symm (idx_lt hk286) rfl ?_
     rintro p285 _ rfl hp285
     refine S_v (r_load1 rfl underlying5 rfl hp285 (gz_le hH hL280)) rfl ?_
     refine S_pz 1 rfl ?_
     refine W_region ?_
     refine S_pu 2 rfl ?_
     refine S_v (r_conv underlying5 underlying3 rfl (conv_8_64 _)) rfl ?_
     obtain ⟨hk287, h⟩ := Go.L.chk_some h
     refine S_v (r_ar64 rfl rfl rfl hk287) rfl ?_
     obtain ⟨x288, hb288, h⟩ := Go.L.bind_some h
     refine S_callv rfl rfl rfl (words_build_1_fr (a0 := (((((a0.2.getD s25_118.toNat default).1).getD s38_279.toNat default).toNat : Int) + (1 : Int))) (a1 := c278) (O := (HAppend.hAppend ([.box b230 [.string ⟨((a0.2.getD s25_118.toNat default).1).toArray⟩, e228v1] 62, .box b1 [.int .i64 a0.1, va0_1] 25] : List Res) O)) hH hL280  hb288) ?_
     rintro _ w289 ⟨rfl, hL289, hle289⟩
     replace hG282 := hG282.trans (gz_mono hH hle289)
     replace hT := hT.trans hle289
     refine S_nil ?_
     refine At_block ?_
     refine At_seq ?_
     refine W_region ?_
     obtain ⟨hk290, h⟩ := Go.L.chk_some h
     refine S_v (r_ar64 rfl rfl rfl hk290) rfl ?_
     refine S_pu 1 rfl ?_
     refine S_nil ?_
     have h := Go.L.Nxt.again h hm280
     refine At_round (x288, (s38_279 + (1 : Int)), n280) (.cons rfl (.cons rfl (.cons rfl (.cons rfl (.cons rfl (.cons rfl (.cons rfl (.cons rfl (Sub.nil _))))))))) ⟨hL289, (hf280_0.mono hG282), (hf280_1.mono hG282), (hf280_2.mono hG282), hT, h⟩ (Nat.lt_succ_self _)
    ·replace h := Go.L.ite_n hc283 h
     refine W_exit ?_
     refine At_seq_exit ?_
     refine At_loop_exit ?_
     replace h := Go.L.Nxt.out h hm280
     refine At_exit ?_
     refine At_cut c278 (.cons rfl (.cons rfl (.cons rfl (.cons rfl (.cons rfl (Sub.nil _)))))) ⟨hL280, (hf280_0.mono hG282), (hf280_2.mono hG282), hT, h⟩
   ·rintro c262 wr263 ⟨hL263, hf263_0, hf263_1, hT, h⟩
    refine W_p 1 rfl ?_
    refine S_v (r_field rfl underlying62 rfl zr40 (by decide)) rfl ?_
    refine S_v (r_loadB1 1 rfl underlying40 rfl hL263 rfl rfl) rfl ?_
    refine S_v (r_len rfl underlying40 hf263_1) rfl ?_
    obtain ⟨x293, hb293, h⟩ := Go.L.bind_some h
    refine S_callv rfl rfl rfl (words_build_1_fr (a0 := (((a0.2.getD s25_118.toNat default).2).length : Int)) (a1 := c262) (O := (HAppend.hAppend ([.box b230 [.string ⟨((a0.2.getD s25_118.toNat default).1).toArray⟩, e228v1] 62, .box b1 [.int .i64 a0.1, va0_1] 25] : List Res) O)) hH hL263  hb293) ?_
    rintro _ w294 ⟨rfl, hL294, hle294⟩
    replace hf263_0 := hf263_0.mono (gz_mono hH hle294)
    replace hf263_1 := hf263_1.mono (gz_mono hH hle294)
    replace hT := hT.trans hle294
    refine S_seqnil ?_
    refine W_seqr ?_
    refine S_v (r_build rfl (fun _ => bld64_1 _ _)) rfl ?_
    refine S_alloc zr64 rfl rfl hL294 ?_
    intro w295 b295 hL295 hle295 _
    replace hf263_0 := hf263_0.mono (gz_mono hH hle295)
    replace hf263_1 := hf263_1.mono (gz_mono hH hle295)
    replace hT := hT.trans hle295
    refine S_storeBN 0 rfl rfl rfl zr64 hL295 rfl rfl (onc rfl (onc rfl on0)) ?_
    intro w296 hL296 hle296
    replace hf263_0 := hf263_0.mono (gz_mono hH hle296)
    replace hf263_1 := hf263_1.mono (gz_mono hH hle296)
    replace hT := hT.trans hle296
    refine S_seqnil ?_
    refine W_seqr ?_
    refine S_v (r_field rfl underlying62 rfl zr40 (by decide)) rfl ?_
    refine S_v (r_loadB1 2 rfl underlying40 rfl hL296 rfl rfl) rfl ?_
    refine S_v (r_len rfl underlying40 hf263_1) rfl ?_
    refine S_pz 1 rfl ?_
    refine W_block ?_
    obtain ⟨n330, h⟩ := Go.L.run_some h
    refine W_loop (σ := Int × Int × Int × Int × Nat) (fun ⟨c326, c327, c328, s57_329, n⟩ => [(1, .func (.func 68) #[] #[.pointer (some ⟨ba1_c0, 0, none⟩)]), (8, .pointer (some ⟨b295, 0, none⟩)), (23, va0_1), (24, .int .i64 (a0.2.length : Int)), (25, .int .i64 s25_118), (55, e228v1), (56, .int .i64 (((a0.2.getD s25_118.toNat default).2).length : Int)), (57, .int .i64 s57_329)]) (fun ⟨c326, c327, c328, s57_329, n⟩ wr => InO w0 (HAppend.hAppend ([.box b295 [.int .i64 c326, .int .i64 c327] 64, .box ba1_c0 [.int .i64 c328] 3, .box b230 [.string ⟨((a0.2.getD s25_118.toNat default).1).toArray⟩, e228v1] 62, .box b1 [.int .i64 a0.1, va0_1] 25] : List Res) O) wr fun Oz => Vec (.pair .st (.vec (.pair (.int .i64) (.int .i64)))) (gz H w0 wr Oz) (va0_1) (a0.2) ∧ Vec (.pair (.int .i64) (.int .i64)) (gz H w0 wr Oz) (e228v1) ((a0.2.getD s25_118.toNat default).2) ∧ Le (fz w (HAppend.hAppend ([.box ba1_c0 [.int .i64 a1_c0] 3] : List Res) O)) (fz wr Oz) ∧ Go.L.itr (words_Index_numbers_bl5 a0 s25_118) n (c326, c327, c328, s57_329) = some e119) (fun ⟨c326, c327, c328, s57_329, n⟩ => n) ((0 : Int), (-1 : Int), x293, (0 : Int), n330) (.cons rfl (.cons rfl (.cons rfl (.cons rfl (.cons rfl (.cons rfl (.cons rfl (.cons rfl (Sub.nil _))))))))) ⟨hL296, hf263_0, hf263_1, hT, h⟩ ?_
    rintro ⟨c326, c327, c328, s57_329, nn330⟩ wr330 ⟨hL330, hf330_0, hf330_1, hT, h⟩
    obtain ⟨n330, e330, rfl, h, hm330⟩ := Go.L.itr_some h
    refine W_pz 1 rfl ?_
    refine W_seq ?_
    refine W_if rfl (fun hc332 => ?_) (fun hc332 => ?_)
    ·replace h := Go.L.ite_p hc332 h
     refine W_skip ?_
     refine At_seq ?_
     refine W_seq ?_
     refine W_block ?_
     refine W_seqr ?_
     obtain ⟨hk335, h⟩ := Go.L.chk_some h
     refine S_index rfl rfl underlying40 zr64 hf330_1 s57_329.toNat (Int.toNat_of_nonneg hk335.1).symm (idx_lt hk335) rfl ?_
     rintro p334 _ ⟨_, _, rfl, rfl, rfl⟩ hp334
     refine S_v (r_loadN rfl underlying64 rfl zr64 hp334 (gz_le hH hL330)) rfl ?_
     refine S_alloc zr64 rfl rfl hL330 ?_
     intro w336 b336 hL336 hle336 _
     replace hf330_0 := hf330_0.mono (gz_mono hH hle336)
     replace hf330_1 := hf330_1.mono (gz_mono hH hle336)
     replace hp334 := hp334.mono (gz_mono hH hle336)
     replace hT := hT.trans hle336
     refine S_storeBN 0 rfl rfl rfl zr64 hL336 rfl rfl (onc rfl (onc rfl on0)) ?_
     intro w337 hL337 hle337
     replace hf330_0 := hf330_0.mono (gz_mono hH hle337)
     replace hf330_1 := hf330_1.mono (gz_mono hH hle337)
     replace hp334 := hp334.mono (gz_mono hH hle337)
     replace hT := hT.trans hle337
     refine S_seqnil ?_
     refine W_seq ?_
     refine W_seqr ?_
     refine S_v (r_field rfl underlying64 rfl zr3 (by decide)) rfl ?_
     refine S_v (r_loadB1 0 rfl underlying3 rfl hL337 rfl rfl) rfl ?_
     refine S_v (r_field rfl underlying64 rfl zr3 (by decide)) rfl ?_
     refine S_v (r_loadB1 1 rfl underlying3 rfl hL337 rfl rfl) rfl ?_
     refine S_pz 1 rfl ?_
     refine W_ifn rfl (fun hc338 => ?_) (fun hc338 => ?_)
     ·replace h := Go.L.ite_n hc338 h
      refine W_p 1 rfl ?_
      refine S_v (r_field rfl underlying64 rfl zr3 (by decide)) rfl ?_
      refine S_v (r_loadB1 0 rfl underlying3 rfl hL337 rfl rfl) rfl ?_
      obtain ⟨hk340, h⟩ := Go.L.chk_some h
      refine S_v (r_ar64 rfl rfl rfl hk340) rfl ?_
      refine S_v (r_field rfl underlying64 rfl zr3 (by decide)) rfl ?_
      refine S_v (r_loadB1 1 rfl underlying3 rfl hL337 rfl rfl) rfl ?_
      obtain ⟨hk341, h⟩ := Go.L.chk_some h
      refine S_v (r_ar64 rfl rfl rfl hk341) rfl ?_
      have hL342 : Lcl w0 (HAppend.hAppend ([.box ba1_c0 [.int .i64 c328] 3, .box b336 [.int .i64 ((((a0.2.getD s25_118.toNat default).2).getD s57_329.toNat default).1), .int .i64 ((((a0.2.getD s25_118.toNat default).2).getD s57_329.toNat default).2)] 64, .box b295 [.int .i64 c326, .int .i64 c327] 64, .box b230 [.string ⟨((a0.2.getD s25_118.toNat default).1).toArray⟩, e228v1] 62, .box b1 [.int .i64 a0.1, va0_1] 25] : List Res) O) w337 := hL337.picks [2] rfl
      have hle342 := fz_picks [2] hL337 hL342 rfl
      replace hf330_0 := hf330_0.mono (gz_mono hH hle342)
      replace hf330_1 := hf330_1.mono (gz_mono hH hle342)
      replace hT := hT.trans hle342
      obtain ⟨x343, hb343, h⟩ := Go.L.bind_some h
      refine S_callv rfl rfl rfl (words_build_1_fr (a0 := (((1 : Int) + (((a0.2.getD s25_118.toNat default).2).getD s57_329.toNat default).1) - c326)) (a1 := c328) (O := (HAppend.hAppend ([.box b336 [.int .i64 ((((a0.2.getD s25_118.toNat default).2).getD s57_329.toNat default).1), .int .i64 ((((a0.2.getD s25_118.toNat default).2).getD s57_329.toNat default).2)] 64, .box b295 [.int .i64 c326, .int .i64 c327] 64, .box b230 [.string ⟨((a0.2.getD s25_118.toNat default).1).toArray⟩, e228v1] 62, .box b1 [.int .i64 a0.1, va0_1] 25] : List Res) O)) hH hL342  hb343) ?_
      rintro _ w344 ⟨rfl, hL344, hle344⟩
      replace hf330_0 := hf330_0.mono (gz_mono hH hle344)
      replace hf330_1 := hf330_1.mono (gz_mono hH hle344)
      replace hT := hT.trans hle344
      refine S_seqnil ?_
      refine W_region ?_
      refine S_pu 1 rfl ?_
      refine S_v (r_field rfl underlying64 rfl zr3 (by decide)) rfl ?_
      refine S_v (r_loadB1 1 rfl underlying3 rfl hL344 rfl rfl) rfl ?_
      obtain ⟨hk345, h⟩ := Go.L.chk_some h
      refine S_v (r_ar64 rfl rfl rfl hk345) rfl ?_
      obtain ⟨x346, hb346, h⟩ := Go.L.bind_some h
      refine S_callv rfl rfl rfl (words_build_1_fr (a0 := ((((a0.2.getD s25_118.toNat default).2).getD s57_329.toNat default).2 + (1 : Int))) (a1 := x343) (O := (HAppend.hAppend ([.box b336 [.int .i64 ((((a0.2.getD s25_118.toNat default).2).getD s57_329.toNat default).1), .int .i64 ((((a0.2.getD s25_118.toNat default).2).getD s57_329.toNat default).2)] 64, .box b295 [.int .i64 c326, .int .i64 c327] 64, .box b230 [.string ⟨((a0.2.getD s25_118.toNat default).1).toArray⟩, e228v1] 62, .box b1 [.int .i64 a0.1, va0_1] 25] : List Res) O)) hH hL344  hb346) ?_
      rintro _ w347 ⟨rfl, hL347, hle347⟩
      replace hf330_0 := hf330_0.mono (gz_mono hH hle347)
      replace hf330_1 := hf330_1.mono (gz_mono hH hle347)
      replace hT := hT.trans hle347
      refine S_nil ?_
      refine At_seq ?_
      refine W_region ?_
      refine S_v (r_loadBN 1 rfl underlying64 rfl zr64 hL347 rfl) rfl ?_
      refine S_storeBN 2 rfl rfl rfl zr64 hL347 rfl rfl (onc rfl (onc rfl on0)) ?_
      intro w348 hL348 hle348
      replace hf330_0 := hf330_0.mono (gz_mono hH hle348)
      replace hf330_1 := hf330_1.mono (gz_mono hH hle348)
      replace hT := hT.trans hle348
      refine S_nil ?_
      refine At_block ?_
      refine At_seq ?_
      refine W_region ?_
      obtain ⟨hk349, h⟩ := Go.L.chk_some h
      refine S_v (r_ar64 rfl rfl rfl hk349) rfl ?_
      refine S_pu 1 rfl ?_
      refine S_nil ?_
      have hL350 := hL348.dropAt (i := 1) rfl
      replace hf330_0 := hf330_0.mono (gz_mono hH (fz_dropAt (i := 1) rfl))
      replace hf330_1 := hf330_1.mono (gz_mono hH (fz_dropAt (i := 1) rfl))
      replace hT := hT.trans (fz_dropAt (i := 1) rfl)
      have hL351 : Lcl w0 (HAppend.hAppend ([.box b295 [.int .i64 ((((a0.2.getD s25_118.toNat default).2).getD s57_329.toNat default).1), .int .i64 ((((a0.2.getD s25_118.toNat default).2).getD s57_329.toNat default).2)] 64, .box ba1_c0 [.int .i64 x346] 3, .box b230 [.string ⟨((a0.2.getD s25_118.toNat default).1).toArray⟩, e228v1] 62, .box b1 [.int .i64 a0.1, va0_1] 25] : List Res) O) w348 := hL350.picks [1] rfl
      have hle351 := fz_picks [1] hL350 hL351 rfl
      replace hf330_0 := hf330_0.mono (gz_mono hH hle351)
      replace hf330_1 := hf330_1.mono (gz_mono hH hle351)
      replace hT := hT.trans hle351
      have h := Go.L.Nxt.again h hm330
      refine At_round ((((a0.2.getD s25_118.toNat default).2).getD s57_329.toNat default).1, (((a0.2.getD s25_118.toNat default).2).getD s57_329.toNat default).2, x346, (s57_329 + (1 : Int)), n330) (.cons rfl (.cons rfl (.cons rfl (.cons rfl (.cons rfl (.cons rfl (.cons rfl (.cons rfl (Sub.nil _))))))))) ⟨hL351, hf330_0, hf330_1, hT, h⟩ (Nat.lt_succ_self _)
     ·replace h := Go.L.ite_p hc338 h
      refine W_p 1 rfl ?_
      have hL353 : Lcl w0 (HAppend.hAppend ([.box ba1_c0 [.int .i64 c328] 3, .box b336 [.int .i64 ((((a0.2.getD s25_118.toNat default).2).getD s57_329.toNat default).1), .int .i64 ((((a0.2.getD s25_118.toNat default).2).getD s57_329.toNat default).2)] 64, .box b295 [.int .i64 c326, .int .i64 c327] 64, .box b230 [.string ⟨((a0.2.getD s25_118.toNat default).1).toArray⟩, e228v1] 62, .box b1 [.int .i64 a0.1, va0_1] 25] : List Res) O) w337 := hL337.picks [2] rfl
      have hle353 := fz_picks [2] hL337 hL353 rfl
      replace hf330_0 := hf330_0.mono (gz_mono hH hle353)
      replace hf330_1 := hf330_1.mono (gz_mono hH hle353)
      replace hT := hT.trans hle353
      obtain ⟨x354, hb354, h⟩ := Go.L.bind_some h
      refine S_callv rfl rfl rfl (words_build_1_fr (a0 := (1 : Int)) (a1 := c328) (O := (HAppend.hAppend ([.box b336 [.int .i64 ((((a0.2.getD s25_118.toNat default).2).getD s57_329.toNat default).1), .int .i64 ((((a0.2.getD s25_118.toNat default).2).getD s57_329.toNat default).2)] 64, .box b295 [.int .i64 c326, .int .i64 c327] 64, .box b230 [.string ⟨((a0.2.getD s25_118.toNat default).1).toArray⟩, e228v1] 62, .box b1 [.int .i64 a0.1, va0_1] 25] : List Res) O)) hH hL353  hb354) ?_
      rintro _ w355 ⟨rfl, hL355, hle355⟩
      replace hf330_0 := hf330_0.mono (gz_mono hH hle355)
      replace hf330_1 := hf330_1.mono (gz_mono hH hle355)
      replace hT := hT.trans hle355
      refine S_seqnil ?_
      refine W_region ?_
      refine S_pu 1 rfl ?_
      refine S_v (r_field rfl underlying64 rfl zr3 (by decide)) rfl ?_
      refine S_v (r_loadB1 1 rfl underlying3 rfl hL355 rfl rfl) rfl ?_
      refine S_v (r_field rfl underlying64 rfl zr3 (by decide)) rfl ?_
      refine S_v (r_loadB1 2 rfl underlying3 rfl hL355 rfl rfl) rfl ?_
      obtain ⟨hk356, h⟩ := Go.L.chk_some h
      refine S_v (r_ar64 rfl rfl rfl hk356) rfl ?_
      obtain ⟨x357, hb357, h⟩ := Go.L.bind_some h
      refine S_callv rfl rfl rfl (words_build_1_fr (a0 := ((((a0.2.getD s25_118.toNat default).2).getD s57_329.toNat default).2 - c327)) (a1 := x354) (O := (HAppend.hAppend ([.box b336 [.int .i64 ((((a0.2.getD s25_118.toNat default).2).getD s57_329.toNat default).1), .int .i64 ((((a0.2.getD s25_118.toNat default).2).getD s57_329.toNat default).2)] 64, .box b295 [.int .i64 c326, .int .i64 c327] 64, .box b230 [.string ⟨((a0.2.getD s25_118.toNat default).1).toArray⟩, e228v1] 62, .box b1 [.int .i64 a0.1, va0_1] 25] : List Res) O)) hH hL355  hb357) ?_
      rintro _ w358 ⟨rfl, hL358, hle358⟩
      replace hf330_0 := hf330_0.mono (gz_mono hH hle358)
      replace hf330_1 := hf330_1.mono (gz_mono hH hle358)
      replace hT := hT.trans hle358
      refine S_nil ?_
      refine At_seq ?_
      refine W_region ?_
      refine S_v (r_loadBN 1 rfl underlying64 rfl zr64 hL358 rfl) rfl ?_
      refine S_storeBN 2 rfl rfl rfl zr64 hL358 rfl rfl (onc rfl (onc rfl on0)) ?_
      intro w359 hL359 hle359
      replace hf330_0 := hf330_0.mono (gz_mono hH hle359)
      replace hf330_1 := hf330_1.mono (gz_mono hH hle359)
      replace hT := hT.trans hle359
      refine S_nil ?_
      refine At_block ?_
      refine At_seq ?_
      refine W_region ?_
      obtain ⟨hk360, h⟩ := Go.L.chk_some h
      refine S_v (r_ar64 rfl rfl rfl hk360) rfl ?_
      refine S_pu 1 rfl ?_
      refine S_nil ?_
      have hL361 := hL359.dropAt (i := 1) rfl
      replace hf330_0 := hf330_0.mono (gz_mono hH (fz_dropAt (i := 1) rfl))
      replace hf330_1 := hf330_1.mono (gz_mono hH (fz_dropAt (i := 1) rfl))
      replace hT := hT.trans (fz_dropAt (i := 1) rfl)
      have hL362 : Lcl w0 (HAppend.hAppend ([.box b295 [.int .i64 ((((a0.2.getD s25_118.toNat default).2).getD s57_329.toNat default).1), .int .i64 ((((a0.2.getD s25_118.toNat default).2).getD s57_329.toNat default).2)] 64, .box ba1_c0 [.int .i64 x357] 3, .box b230 [.string ⟨((a0.2.getD s25_118.toNat default).1).toArray⟩, e228v1] 62, .box b1 [.int .i64 a0.1, va0_1] 25] : List Res) O) w359 := hL361.picks [1] rfl
      have hle362 := fz_picks [1] hL361 hL362 rfl
      replace hf330_0 := hf330_0.mono (gz_mono hH hle362)
      replace hf330_1 := hf330_1.mono (gz_mono hH hle362)
      replace hT := hT.trans hle362
      have h := Go.L.Nxt.again h hm330
      refine At_round ((((a0.2.getD s25_118.toNat default).2).getD s57_329.toNat default).1, (((a0.2.getD s25_118.toNat default).2).getD s57_329.toNat default).2, x357, (s57_329 + (1 : Int)), n330) (.cons rfl (.cons rfl (.cons rfl (.cons rfl (.cons rfl (.cons rfl (.cons rfl (.cons rfl (Sub.nil _))))))))) ⟨hL362, hf330_0, hf330_1, hT, h⟩ (Nat.lt_succ_self _)
    ·replace h := Go.L.ite_n hc332 h
     refine W_exit ?_
     refine At_seq_exit ?_
     refine At_loop_exit ?_
     replace h := Go.L.Nxt.out h hm330
     refine At_exit ?_
     refine At_block ?_
     have hL364 := hL330.dropAt (i := 0) rfl
     replace hf330_0 := hf330_0.mono (gz_mono hH (fz_dropAt (i := 0) rfl))
     replace hf330_1 := hf330_1.mono (gz_mono hH (fz_dropAt (i := 0) rfl))
     replace hT := hT.trans (fz_dropAt (i := 0) rfl)
     have hL365 := hL364.dropAt (i := 1) rfl
     replace hf330_0 := hf330_0.mono (gz_mono hH (fz_dropAt (i := 1) rfl))
     replace hf330_1 := hf330_1.mono (gz_mono hH (fz_dropAt (i := 1) rfl))
     replace hT := hT.trans (fz_dropAt (i := 1) rfl)
     refine At_cut c328 (.cons rfl (.cons rfl (.cons rfl (.cons rfl (Sub.nil _))))) ⟨hL365, hf330_0, hT, h⟩
  ·rintro c225 wr226 ⟨hL226, hf226_0, hT, h⟩
   refine W_region ?_
   obtain ⟨hk367, h⟩ := Go.L.chk_some h
   refine S_v (r_ar64 rfl rfl rfl hk367) rfl ?_
   refine S_pu 1 rfl ?_
   refine S_nil ?_
   have h := Go.L.Nxt.again h hm119
   refine At_round (c225, (s25_118 + (1 : Int)), n119) (.cons rfl (.cons rfl (.cons rfl (.cons rfl (Sub.nil _))))) ⟨hL226, hf226_0, hT, h⟩ (Nat.lt_succ_self _)
 ·replace h := Go.L.ite_n hc121 h
  refine W_exit ?_
  refine At_seq_exit ?_
  refine At_loop_exit ?_
  replace h := Go.L.Nxt.out h hm119
  refine At_exit ?_
  obtain rfl := Option.some.inj h
  refine At_got0e rfl ?_
  have hL369 := hL119.dropAt (i := 1) rfl
  replace hf119_0 := hf119_0.mono (gz_mono hH (fz_dropAt (i := 1) rfl))
  replace hT := hT.trans (fz_dropAt (i := 1) rfl)
  exact ⟨rfl, hL369, hT⟩

noncomputable def words_build_k1 (a0 : Int) (l38 : List ((List UInt8) × (List (Int × Int)))) : Option ((Int × (List ((List UInt8) × (List (Int × Int))))) × (Int × Int)) :=
 Option.bind (words_Index_numbers (a0, l38) (0 : Int)) (fun x78 => if (131072 : Int) < x78 then Option.bind (words_fault (14 : Int) (-1 : Int)) (fun x82 => some (((0 : Int), []), (x82.1, x82.2))) else some ((a0, l38), ((0 : Int), (0 : Int))))
noncomputable def words_build_bl2 (a0 : Int) (a1 : List ((List UInt8) × (List (Int × Int)))) (x42 : (List (List UInt8))) : (List ((List UInt8) × (List (Int × Int)))) × Int → Option (((List ((List UInt8) × (List (Int × Int)))) × Int) ⊕ ((Int × (List ((List UInt8) × (List (Int × Int))))) × (Int × Int))) := fun ⟨l58, s16_59⟩ =>
 if s16_59 < (x42.length : Int) then Go.L.chk (0 ≤ s16_59 ∧ s16_59 < (x42.length : Int)) (Go.L.chk (Go.E.Cap 40 (l58.length + ([(x42.getD s16_59.toNat default, (Go.L.mget [] (x42.getD s16_59.toNat default) a1))]).length)) (Go.L.chk (Go.L.I64 (s16_59 + (1 : Int))) (some (Sum.inl ((l58 ++ [(x42.getD s16_59.toNat default, (Go.L.mget [] (x42.getD s16_59.toNat default) a1))]), (s16_59 + (1 : Int))))))) else Option.map Sum.inr ((words_build_k1 a0) l58)
noncomputable def words_build_l2 (a0 : Int) (a1 : List ((List UInt8) × (List (Int × Int)))) (x42 : (List (List UInt8))) (s : (List ((List UInt8) × (List (Int × Int)))) × Int) : Option ((Int × (List ((List UInt8) × (List (Int × Int))))) × (Int × Int)) := Go.L.run (words_build_bl2 a0 a1 x42) s
noncomputable def words_build (a0 : Int) (a1 : List ((List UInt8) × (List (Int × Int)))) : Option ((Int × (List ((List UInt8) × (List (Int × Int))))) × (Int × Int)) :=
 Option.bind (sortedKeys a1) (fun x42 => (words_build_l2 a0 a1 x42) (([] : List ((List UInt8) × (List (Int × Int)))), (0 : Int)))

theorem words_build_ok (w : World) (H : PH) (hH : Le H (hp w)) {a0 : Int} {a1 : List ((List UInt8) × (List (Int × Int)))} {v1_0 : Value} (h1_0 : VMap encS (.vec (.pair (.int .i64) (.int .i64))) H (v1_0) (a1)) {r : (Int × (List ((List UInt8) × (List (Int × Int))))) × (Int × Int)} (h : words_build a0 a1 = some r) :
  Ok Tryz.prog 43 [.int .i64 a0, v1_0] w (fun v w' => Ext w w' ∧ ∃ u0, v = .tuple #[.agg #[.int .i64 r.1.1, u0], .agg #[.int .i64 r.2.1, .int .i64 r.2.2]] ∧ Vec (.pair .st (.vec (.pair (.int .i64) (.int .i64)))) (un H (nw w w')) u0 (r.1.2)) := by
 refine Ok_enter (n := 40) [(0, .int .i64 a0), (1, v1_0)] func43 rfl rfl rfl rfl rfl ?_
 have hL := Lcl.start w
 refine W_seqr ?_
 refine S_alloc zr25 rfl rfl hL ?_
 intro w1 b1 hL1 hle1 _
 refine S_alloc zr27 rfl rfl hL1 ?_
 intro w2 b2 hL2 hle2 _
 refine S_seqnil ?_
 refine W_p 1 rfl ?_
 refine S_v (r_build rfl (fun _ => bld25_0 _ _)) rfl ?_
 refine S_alloc zr25 rfl rfl hL2 ?_
 intro w3 b3 hL3 hle3 _
 refine S_storeBN 0 rfl rfl rfl zr25 hL3 rfl rfl (onc rfl (onc rfl on0)) ?_
 intro w4 hL4 hle4
 refine S_seqnil ?_
 refine W_cut (σ := (List ((List UInt8) × (List (Int × Int)))) × Value × (List Value)) (fun ⟨l38, vl38, xsl38⟩ => [(4, .pointer (some ⟨b1, 0, none⟩)), (5, .pointer (some ⟨b2, 0, none⟩)), (6, .pointer (some ⟨b3, 0, none⟩))]) (fun ⟨l38, vl38, xsl38⟩ wr => InO w [.row (vl38) 62 2 (l38).length (xsl38), .box b3 [.int .i64 a0, vl38] 25, .box b2 [.int .i64 (0 : Int), .int .i64 (0 : Int)] 27, .box b1 [.int .i64 (0 : Int), .slice none 0 0] 25] wr fun Oz => Elems (.pair .st (.vec (.pair (.int .i64) (.int .i64)))) (gz H w wr Oz) (l38) (xsl38) ∧ (words_build_k1 a0) l38 = some r) ?_ ?_
 ·refine W_p 1 rfl ?_
  refine S_callL rfl rfl hL4 (keys_ok _ _ (gz_le hH hL4) (h1_0.mono (gz_left hH))) ?_
  intro u41 w41 hi41 hx41 hL41 hle41
  have hv41 := hi41.mono (gz_nw hH hL4 hx41)
  obtain ⟨x42, hb42, h⟩ := Go.L.bind_some h
  refine S_callL rfl rfl hL41 (sorted_ok _ _ (gz_le hH hL41) hv41 hb42) ?_
  rintro u43_0 w43 ⟨_, rfl, hR43_0⟩ hx43 hL43 hle43
  have hv43_0 := hR43_0.vecG hH hL41 hx43
  replace hv41 := hv41.mono (gz_mono hH hle43)
  refine S_v (r_len rfl underlying36 hv43_0) rfl ?_
  refine S_pz 1 rfl ?_
  refine W_block ?_
  obtain ⟨hL61, hle61, he61⟩ := row_nilE (.pair .st (.vec (.pair (.int .i64) (.int .i64)))) H 62 hL43
  replace hv43_0 := hv43_0.mono (gz_mono hH hle61)
  obtain ⟨n60, h⟩ := Go.L.run_some h
  refine W_loop (σ := (List ((List UInt8) × (List (Int × Int)))) × Int × Value × (List Value) × Nat) (fun ⟨l58, s16_59, vl58, xsl58, n⟩ => [(1, v1_0), (4, .pointer (some ⟨b1, 0, none⟩)), (5, .pointer (some ⟨b2, 0, none⟩)), (6, .pointer (some ⟨b3, 0, none⟩)), (14, u43_0), (15, .int .i64 (x42.length : Int)), (16, .int .i64 s16_59)]) (fun ⟨l58, s16_59, vl58, xsl58, n⟩ wr => InO w [.row (vl58) 62 2 (l58).length (xsl58), .box b3 [.int .i64 a0, vl58] 25, .box b2 [.int .i64 (0 : Int), .int .i64 (0 : Int)] 27, .box b1 [.int .i64 (0 : Int), .slice none 0 0] 25] wr fun Oz => Vec .st (gz H w wr Oz) (u43_0) (x42) ∧ Elems (.pair .st (.vec (.pair (.int .i64) (.int .i64)))) (gz H w wr Oz) (l58) (xsl58) ∧ Go.L.itr (words_build_bl2 a0 a1 x42) n (l58, s16_59) = some r) (fun ⟨l58, s16_59, vl58, xsl58, n⟩ => n) (([] : List ((List UInt8) × (List (Int × Int)))), (0 : Int), .slice none 0 0, [], n60) (.cons rfl (.cons rfl (.cons rfl (.cons rfl (.cons rfl (.cons rfl (.cons rfl (Sub.nil _)))))))) ⟨hL61, hv43_0, he61, h⟩ ?_
  rintro ⟨l58, s16_59, vl58, xsl58, nn60⟩ wr60 ⟨hL60, hf60_0, hel58, h⟩
  obtain ⟨n60, e60, rfl, h, hm60⟩ := Go.L.itr_some h
  refine W_pz 1 rfl ?_
  refine W_seq ?_
  refine W_if rfl (fun hc63 => ?_) (fun hc63 => ?_)
  ·replace h := Go.L.ite_p hc63 h
   refine W_skip ?_
   refine At_seq ?_
   refine W_seq ?_
   refine W_block ?_
   refine W_seqr ?_
   obtain ⟨hk66, h⟩ := Go.L.chk_some h
   refine S_index rfl rfl underlying36 zr9 hf60_0 s16_59.toNat (Int.toNat_of_nonneg hk66.1).symm (idx_lt hk66) rfl ?_
   rintro p65 _ rfl hp65
   refine S_v (r_load1 rfl underlying9 rfl hp65 (gz_le hH hL60)) rfl ?_
   refine S_pz 1 rfl ?_
   refine W_region ?_
   refine S_v (r_field rfl underlying25 rfl zr23 (by decide)) rfl ?_
   refine S_v (r_loadB1 1 rfl underlying23 rfl hL60 rfl rfl) rfl ?_
   refine S_pu 3 rfl ?_
   refine S_lookF (k := x42.getD s16_59.toNat default) rfl rfl underlying98 key9 zeroValue40 h1_0 (hH.trans hL60.arg) rfl ?_
   intro u67 hv67
   refine S_v (r_build rfl (fun _ => bld62_0_1 _ rfl _ hv67.one _)) rfl ?_
   refine S_litE (r := (.pair .st (.vec (.pair (.int .i64) (.int .i64))))) (l := [(x42.getD s16_59.toNat default, (Go.L.mget [] (x42.getD s16_59.toNat default) a1))]) rfl (fun _ => bsl23_1 _ _ _) rfl (show 1 ≤ 9223372036854775807 by decide) hH hL60 (.c2 ⟨_, _, rfl, rfl, ⟨_, rfl, (hv67.mono (gz_left hH))⟩⟩ .nil) ?_
   intro v68 w68 hx68 hL68 hle68 hv68
   replace hf60_0 := hf60_0.mono (gz_mono hH hle68)
   replace hel58 := hel58.mono (gz_mono hH hle68)
   obtain ⟨hk70, h⟩ := Go.L.chk_some h
   refine S_appE (r := (.pair .st (.vec (.pair (.int .i64) (.int .i64))))) (l := l58) (m := [(x42.getD s16_59.toNat default, (Go.L.mget [] (x42.getD s16_59.toNat default) a1))]) 0 rfl rfl underlying23 zr62 rfl (by decide) rfl hH hL68 rfl hel58 hv68 hk70 ?_
   intro v69 w69 xs69 hL69 hle69 he69
   replace hf60_0 := hf60_0.mono (gz_mono hH hle69)
   replace hv68 := hv68.mono (gz_mono hH hle69)
   refine S_v (r_field rfl underlying25 rfl zr23 (by decide)) rfl ?_
   refine S_storeB1 1 rfl rfl (row_one (hL69.at (i := 0) rfl)) zr23 hL69 rfl rfl ?_
   intro w71 hL71 hle71
   replace hf60_0 := hf60_0.mono (gz_mono hH hle71)
   replace hv68 := hv68.mono (gz_mono hH hle71)
   replace he69 := he69.mono (gz_mono hH hle71)
   refine S_nil ?_
   refine At_block ?_
   refine At_seq ?_
   refine W_region ?_
   obtain ⟨hk72, h⟩ := Go.L.chk_some h
   refine S_v (r_ar64 rfl rfl rfl hk72) rfl ?_
   refine S_pu 1 rfl ?_
   refine S_nil ?_
   have h := Go.L.Nxt.again h hm60
   refine At_round ((l58 ++ [(x42.getD s16_59.toNat default, (Go.L.mget [] (x42.getD s16_59.toNat default) a1))]), (s16_59 + (1 : Int)), v69, xs69, n60) (.cons rfl (.cons rfl (.cons rfl (.cons rfl (.cons rfl (.cons rfl (.cons rfl (Sub.nil _)))))))) ⟨hL71, hf60_0, he69, h⟩ (Nat.lt_succ_self _)
  ·replace h := Go.L.ite_n hc63 h
   refine W_exit ?_
   refine At_seq_exit ?_
   refine At_loop_exit ?_
   replace h := Go.L.Nxt.out h hm60
   refine At_exit ?_
   refine At_cut (l58, vl58, xsl58) (.cons rfl (.cons rfl (.cons rfl (Sub.nil _)))) ⟨hL60, hel58, h⟩
 ·rintro ⟨l38, vl38, xsl38⟩ wr39 ⟨hL39, hel38, h⟩
  refine W_seqr ?_
  refine S_alloc zr3 rfl rfl hL39 ?_
  intro w75 b75 hL75 hle75 _
  replace hel38 := hel38.mono (gz_mono hH hle75)
  refine S_storeB1 0 rfl rfl rfl zr3 hL75 rfl rfl ?_
  intro w76 hL76 hle76
  replace hel38 := hel38.mono (gz_mono hH hle76)
  refine S_seqnil ?_
  refine W_seqr ?_
  refine S_v (r_loadBN 2 rfl underlying25 rfl zr25 hL76 rfl) rfl ?_
  refine S_pu 1 rfl ?_
  have hv77 := hL76.vecG hH (i := 1) rfl hel38
  have hL77 := hL76.dropAt (i := 1) rfl
  obtain ⟨x78, hb78, h⟩ := Go.L.bind_some h
  refine S_call rfl rfl (words_Index_numbers_fr (a0 := (a0, l38)) (a1_c0 := (0 : Int)) (O := [.box b3 [.int .i64 a0, vl38] 25, .box b2 [.int .i64 (0 : Int), .int .i64 (0 : Int)] 27, .box b1 [.int .i64 (0 : Int), .slice none 0 0] 25]) hH hL77 hv77 hb78) ?_
  rintro _ w79 ⟨rfl, hL79, hle79⟩
  replace hv77 := hv77.mono (gz_mono hH hle79)
  refine S_seqnil ?_
  refine W_seq ?_
  refine W_seqr ?_
  refine S_v (r_loadB1 0 rfl underlying3 rfl hL79 rfl rfl) rfl ?_
  refine S_pz 1 rfl ?_
  refine W_if rfl (fun hc80 => ?_) (fun hc80 => ?_)
  ·replace h := Go.L.ite_p hc80 h
   refine W_seqr ?_
   refine S_v (r_build rfl (fun _ => bld25_z _)) rfl ?_
   obtain ⟨x82, hb82, h⟩ := Go.L.bind_some h
   refine S_callL rfl rfl hL79 (words_fault_ok _ _ (gz_le hH hL79) hb82) ?_
   rintro _ w83 rfl hx83 hL83 hle83
   replace hv77 := hv77.mono (gz_mono hH hle83)
   refine S_storeBN 3 rfl rfl rfl zr25 hL83 rfl rfl (onc rfl (onc rfl on0)) ?_
   intro w84 hL84 hle84
   replace hv77 := hv77.mono (gz_mono hH hle84)
   refine S_storeBN 2 rfl rfl rfl zr27 hL84 rfl rfl (onc rfl (onc rfl on0)) ?_
   intro w85 hL85 hle85
   replace hv77 := hv77.mono (gz_mono hH hle85)
   refine S_seqnil ?_
   refine W_ret ?_
   refine At_seq_ret ?_
   obtain rfl := Option.some.inj h
   refine At_got2 rfl (.cell rfl underlying25 rfl zr25 (box_ptr (i := 3) hL85 rfl)) (.cell rfl underlying27 rfl zr27 (box_ptr (i := 2) hL85 rfl)) ?_
   exact ⟨hL85.ext, _, rfl, (Vec.nil _ _)⟩
  ·replace h := Go.L.ite_n hc80 h
   refine W_skip ?_
   refine At_seq ?_
   refine W_seqr ?_
   refine S_v (r_loadBN 1 rfl underlying25 rfl zr25 hL79 rfl) rfl ?_
   refine S_v (r_build rfl (fun _ => bld27_z _)) rfl ?_
   refine S_storeBN 3 rfl rfl rfl zr25 hL79 rfl rfl (onc rfl (onc hv77.one on0)) ?_
   intro w87 hL87 hle87
   replace hv77 := hv77.mono (gz_mono hH hle87)
   refine S_storeBN 2 rfl rfl rfl zr27 hL87 rfl rfl (onc rfl (onc rfl on0)) ?_
   intro w88 hL88 hle88
   replace hv77 := hv77.mono (gz_mono hH hle88)
   refine S_seqnil ?_
   refine W_ret ?_
   obtain rfl := Option.some.inj h
   refine At_got2 rfl (.cell rfl underlying25 rfl zr25 (box_ptr (i := 3) hL88 rfl)) (.cell rfl underlying27 rfl zr27 (box_ptr (i := 2) hL88 rfl)) ?_
   exact ⟨hL88.ext, _, rfl, (hv77.mono (gz_res hH))⟩

noncomputable def words_Build_k3 (s19_192 : Int) (l249 : List ((List UInt8) × (List (Int × Int)))) : Option (((List ((List UInt8) × (List (Int × Int)))) × Int) ⊕ ((Int × (List ((List UInt8) × (List (Int × Int))))) × (Int × Int))) :=
 Go.L.chk (Go.L.I64 (s19_192 + (1 : Int))) (some (Sum.inl (l249, (s19_192 + (1 : Int)))))
noncomputable def words_Build_bl4 (s19_192 : Int) (x254 : (List ((List UInt8) × Int × Int)) × (Int × Int)) : (List ((List UInt8) × (List (Int × Int)))) × Int → Option (((List ((List UInt8) × (List (Int × Int)))) × Int) ⊕ (((List ((List UInt8) × (List (Int × Int)))) × Int) ⊕ ((Int × (List ((List UInt8) × (List (Int × Int))))) × (Int × Int)))) := fun ⟨l283, s39_284⟩ =>
 if s39_284 < (x254.1.length : Int) then Go.L.chk (0 ≤ s39_284 ∧ s39_284 < (x254.1.length : Int)) (Go.L.chk (Go.E.Cap 16 ((Go.L.mget [] ((x254.1.getD s39_284.toNat default).1) l283).length + 1)) (Go.L.chk (Go.L.I64 (s39_284 + (1 : Int))) (some (Sum.inl ((Go.L.mput ((x254.1.getD s39_284.toNat default).1) ((Go.L.mget [] ((x254.1.getD s39_284.toNat default).1) l283) ++ [(s19_192, s39_284)]) l283), (s39_284 + (1 : Int))))))) else Option.map Sum.inr ((words_Build_k3 s19_192) l283)
noncomputable def words_Build_l4 (s19_192 : Int) (x254 : (List ((List UInt8) × Int × Int)) × (Int × Int)) (s : (List ((List UInt8) × (List (Int × Int)))) × Int) : Option (((List ((List UInt8) × (List (Int × Int)))) × Int) ⊕ ((Int × (List ((List UInt8) × (List (Int × Int))))) × (Int × Int))) := Go.L.run (words_Build_bl4 s19_192 x254) s
noncomputable def words_Build_k1 (a0 : List (List UInt8)) (l130 : List ((List UInt8) × (List (Int × Int)))) : Option ((Int × (List ((List UInt8) × (List (Int × Int))))) × (Int × Int)) :=
 Option.bind (words_build (a0.length : Int) l130) (fun x311 => some ((x311.1.1, x311.1.2), (x311.2.1, x311.2.2)))
noncomputable def words_Build_bl2 (a0 : List (List UInt8)) : (List ((List UInt8) × (List (Int × Int)))) × Int → Option (((List ((List UInt8) × (List (Int × Int)))) × Int) ⊕ ((Int × (List ((List UInt8) × (List (Int × Int))))) × (Int × Int))) := fun ⟨l191, s19_192⟩ =>
 if s19_192 < (a0.length : Int) then Go.L.chk (0 ≤ s19_192 ∧ s19_192 < (a0.length : Int)) (Option.bind (words_Split (a0.getD s19_192.toNat default)) (fun x254 => if x254.2.1 = (0 : Int) ∧ x254.2.2 = (0 : Int) then (words_Build_l4 s19_192 x254) (l191, (0 : Int)) else Option.bind (words_fault x254.2.1 s19_192) (fun x260 => Option.map Sum.inr (some (((0 : Int), []), (x260.1, x260.2)))))) else Option.map Sum.inr ((words_Build_k1 a0) l191)
noncomputable def words_Build_l2 (a0 : List (List UInt8)) (s : (List ((List UInt8) × (List (Int × Int)))) × Int) : Option ((Int × (List ((List UInt8) × (List (Int × Int))))) × (Int × Int)) := Go.L.run (words_Build_bl2 a0) s
noncomputable def words_Build (a0 : List (List UInt8)) : Option ((Int × (List ((List UInt8) × (List (Int × Int))))) × (Int × Int)) :=
 if (64 : Int) < (a0.length : Int) then Option.bind (words_fault (2 : Int) (-1 : Int)) (fun x5 => some (((0 : Int), []), (x5.1, x5.2))) else (words_Build_l2 a0) (([] : List ((List UInt8) × (List (Int × Int)))), (0 : Int))

theorem words_Build_ok (w : World) (H : PH) (hH : Le H (hp w)) (hU : Utab H) {a0 : List (List UInt8)} {v0_0 : Value} (h0_0 : Vec (.vec .byte) H v0_0 (a0)) {r : (Int × (List ((List UInt8) × (List (Int × Int))))) × (Int × Int)} (h : words_Build a0 = some r) :
  Ok Tryz.prog 15 [v0_0] w (fun v w' => Ext w w' ∧ ∃ u0, v = .tuple #[.agg #[.int .i64 r.1.1, u0], .agg #[.int .i64 r.2.1, .int .i64 r.2.2]] ∧ Vec (.pair .st (.vec (.pair (.int .i64) (.int .i64)))) (un H (nw w w')) u0 (r.1.2)) := by
 refine Ok_enter (n := 64) [(0, v0_0)] func15 rfl rfl rfl rfl rfl ?_
 have hL := Lcl.start w
 refine W_seqr ?_
 refine S_alloc zr25 rfl rfl hL ?_
 intro w1 b1 hL1 hle1 _
 refine S_alloc zr27 rfl rfl hL1 ?_
 intro w2 b2 hL2 hle2 _
 refine S_seqnil ?_
 refine W_seq ?_
 refine W_p 1 rfl ?_
 refine S_v (r_len rfl underlying47 h0_0) rfl ?_
 refine S_pz 1 rfl ?_
 refine W_if rfl (fun hc3 => ?_) (fun hc3 => ?_)
 ·replace h := Go.L.ite_p hc3 h
  refine W_seqr ?_
  refine S_v (r_build rfl (fun _ => bld25_z _)) rfl ?_
  obtain ⟨x5, hb5, h⟩ := Go.L.bind_some h
  refine S_callL rfl rfl hL2 (words_fault_ok _ _ (gz_le hH hL2) hb5) ?_
  rintro _ w6 rfl hx6 hL6 hle6
  refine S_storeBN 1 rfl rfl rfl zr25 hL6 rfl rfl (onc rfl (onc rfl on0)) ?_
  intro w7 hL7 hle7
  refine S_storeBN 0 rfl rfl rfl zr27 hL7 rfl rfl (onc rfl (onc rfl on0)) ?_
  intro w8 hL8 hle8
  refine S_seqnil ?_
  refine W_ret ?_
  refine At_seq_ret ?_
  obtain rfl := Option.some.inj h
  refine At_got2 rfl (.cell rfl underlying25 rfl zr25 (box_ptr (i := 1) hL8 rfl)) (.cell rfl underlying27 rfl zr27 (box_ptr (i := 0) hL8 rfl)) ?_
  exact ⟨hL8.ext, _, rfl, (Vec.nil _ _)⟩
 ·replace h := Go.L.ite_n hc3 h
  refine W_skip ?_
  refine At_seq ?_
  refine W_seqr ?_
  refine S_makeMap encS (List (Int × Int)) rfl hL2 ?_
  intro w10 b10 hL10 hle10
  refine S_pz 1 rfl ?_
  refine W_cut (σ := (List ((List UInt8) × (List (Int × Int)))) × (List Value)) (fun ⟨l130, vsl130⟩ => [(0, v0_0), (2, .pointer (some ⟨b1, 0, none⟩)), (3, .pointer (some ⟨b2, 0, none⟩)), (4, .map (some b10))]) (fun ⟨l130, vsl130⟩ wr => InO w (HAppend.hAppend ([mpR encS b10 (l130) (vsl130), .box b2 [.int .i64 (0 : Int), .int .i64 (0 : Int)] 27, .box b1 [.int .i64 (0 : Int), .slice none 0 0] 25] : List Res) (mT cwII 64 2 (l130) (vsl130))) wr fun Oz => (l130).length = (vsl130).length ∧ (words_Build_k1 a0) l130 = some r) ?_ ?_
  ·refine W_p 1 rfl ?_
   refine S_v (r_len rfl underlying47 h0_0) rfl ?_
   refine S_pz 1 rfl ?_
   refine W_block ?_
   obtain ⟨n193, h⟩ := Go.L.run_some h
   refine W_loop (σ := (List ((List UInt8) × (List (Int × Int)))) × Int × (List Value) × Nat) (fun ⟨l191, s19_192, vsl191, n⟩ => [(0, v0_0), (2, .pointer (some ⟨b1, 0, none⟩)), (3, .pointer (some ⟨b2, 0, none⟩)), (4, .map (some b10)), (17, v0_0), (18, .int .i64 (a0.length : Int)), (19, .int .i64 s19_192)]) (fun ⟨l191, s19_192, vsl191, n⟩ wr => InO w (HAppend.hAppend ([mpR encS b10 (l191) (vsl191), .box b2 [.int .i64 (0 : Int), .int .i64 (0 : Int)] 27, .box b1 [.int .i64 (0 : Int), .slice none 0 0] 25] : List Res) (mT cwII 64 2 (l191) (vsl191))) wr fun Oz => (l191).length = (vsl191).length ∧ Go.L.itr (words_Build_bl2 a0) n (l191, s19_192) = some r) (fun ⟨l191, s19_192, vsl191, n⟩ => n) (([] : List ((List UInt8) × (List (Int × Int)))), (0 : Int), ([] : List Value), n193) (.cons rfl (.cons rfl (.cons rfl (.cons rfl (.cons rfl (.cons rfl (.cons rfl (Sub.nil _)))))))) ⟨hL10, rfl, h⟩ ?_
   rintro ⟨l191, s19_192, vsl191, nn193⟩ wr193 ⟨hL193, hnl191, h⟩
   obtain ⟨n193, e193, rfl, h, hm193⟩ := Go.L.itr_some h
   refine W_pz 1 rfl ?_
   refine W_seq ?_
   refine W_if rfl (fun hc195 => ?_) (fun hc195 => ?_)
   ·replace h := Go.L.ite_p hc195 h
    refine W_skip ?_
    refine At_seq ?_
    refine W_cut (σ := (List ((List UInt8) × (List (Int × Int)))) × (List Value)) (fun ⟨l249, vsl249⟩ => [(0, v0_0), (2, .pointer (some ⟨b1, 0, none⟩)), (3, .pointer (some ⟨b2, 0, none⟩)), (4, .map (some b10)), (17, v0_0), (18, .int .i64 (a0.length : Int)), (19, .int .i64 s19_192)]) (fun ⟨l249, vsl249⟩ wr => InO w (HAppend.hAppend ([mpR encS b10 (l249) (vsl249), .box b2 [.int .i64 (0 : Int), .int .i64 (0 : Int)] 27, .box b1 [.int .i64 (0 : Int), .slice none 0 0] 25] : List Res) (mT cwII 64 2 (l249) (vsl249))) wr fun Oz => (l249).length = (vsl249).length ∧ (words_Build_k3 s19_192) l249 = some e193) ?_ ?_
    ·refine W_block ?_
     refine W_p 1 rfl ?_
     obtain ⟨hk253, h⟩ := Go.L.chk_some h
     refine S_index rfl rfl underlying47 zr22 h0_0 s19_192.toNat (Int.toNat_of_nonneg hk253.1).symm (idx_lt hk253) rfl ?_
     rintro p252 _ ⟨e252v0, rfl, e252h0⟩ hp252
     refine S_v (r_load1 rfl underlying22 rfl hp252 (hH.trans hL193.arg)) rfl ?_
     refine S_pz 2 rfl ?_
     refine W_p 1 rfl ?_
     obtain ⟨x254, hb254, h⟩ := Go.L.bind_some h
     refine S_callL rfl rfl hL193 (words_Split_ok _ _ (gz_le hH hL193) (hU.mono (gz_left hH)) (e252h0.mono (gz_left hH)) hb254) ?_
     rintro _ w255 ⟨u255_0, rfl, hR255_0⟩ hx255 hL255 hle255
     have hv255_0 := hR255_0.vecG hH hL193 hx255
     refine S_pu 3 rfl ?_
     refine S_alloc zr27 rfl rfl hL255 ?_
     intro w256 b256 hL256 hle256 _
     replace hv255_0 := hv255_0.mono (gz_mono hH hle256)
     refine S_pu 1 rfl ?_
     refine S_storeBN 0 rfl rfl rfl zr27 hL256 rfl rfl (onc rfl (onc rfl on0)) ?_
     intro w257 hL257 hle257
     replace hv255_0 := hv255_0.mono (gz_mono hH hle257)
     refine S_seqnil ?_
     refine W_seq ?_
     refine W_seqr ?_
     refine S_v (r_loadBN 0 rfl underlying27 rfl zr27 hL257 rfl) rfl ?_
     refine S_v (r_build rfl (fun _ => bld27_z _)) rfl ?_
     refine S_v (r_neA rfl rfl eqg27 (eq27 _ _ _ _ )) rfl ?_
     refine S_seqnil ?_
     refine W_ifn rfl (fun hc258 => ?_) (fun hc258 => ?_)
     ·replace h := Go.L.ite_n hc258 h
      refine W_seqr ?_
      refine S_v (r_build rfl (fun _ => bld25_z _)) rfl ?_
      refine S_v (r_field rfl underlying27 rfl zr3 (by decide)) rfl ?_
      refine S_v (r_loadB1 0 rfl underlying3 rfl hL257 rfl rfl) rfl ?_
      refine S_pu 1 rfl ?_
      obtain ⟨x260, hb260, h⟩ := Go.L.bind_some h
      refine S_callL rfl rfl hL257 (words_fault_ok _ _ (gz_le hH hL257) hb260) ?_
      rintro _ w261 rfl hx261 hL261 hle261
      refine S_storeBN 3 rfl rfl rfl zr25 hL261 rfl rfl (onc rfl (onc rfl on0)) ?_
      intro w262 hL262 hle262
      refine S_storeBN 2 rfl rfl rfl zr27 hL262 rfl rfl (onc rfl (onc rfl on0)) ?_
      intro w263 hL263 hle263
      refine S_seqnil ?_
      refine W_ret ?_
      refine At_seq_ret ?_
      refine At_block_ret ?_
      refine At_cut_ret ?_
      refine At_loop_ret ?_
      replace h := Go.L.Nxt.out h hm193
      refine At_block_ret ?_
      refine At_cut_ret ?_
      obtain rfl := Option.some.inj h
      refine At_got2 rfl (.cell rfl underlying25 rfl zr25 (box_ptr (i := 3) hL263 rfl)) (.cell rfl underlying27 rfl zr27 (box_ptr (i := 2) hL263 rfl)) ?_
      exact ⟨hL263.ext, _, rfl, (Vec.nil _ _)⟩
     ·replace h := Go.L.ite_p hc258 h
      refine W_skip ?_
      refine At_seq ?_
      refine W_p 1 rfl ?_
      refine S_v (r_len rfl underlying67 hv255_0) rfl ?_
      refine S_pz 1 rfl ?_
      refine W_block ?_
      obtain ⟨n285, h⟩ := Go.L.run_some h
      refine W_loop (σ := (List ((List UInt8) × (List (Int × Int)))) × Int × (List Value) × Nat) (fun ⟨l283, s39_284, vsl283, n⟩ => [(0, v0_0), (2, .pointer (some ⟨b1, 0, none⟩)), (3, .pointer (some ⟨b2, 0, none⟩)), (4, .map (some b10)), (5, .int .i64 s19_192), (17, v0_0), (18, .int .i64 (a0.length : Int)), (19, .int .i64 s19_192), (37, u255_0), (38, .int .i64 (x254.1.length : Int)), (39, .int .i64 s39_284)]) (fun ⟨l283, s39_284, vsl283, n⟩ wr => InO w (HAppend.hAppend ([.box b256 [.int .i64 x254.2.1, .int .i64 x254.2.2] 27, mpR encS b10 (l283) (vsl283), .box b2 [.int .i64 (0 : Int), .int .i64 (0 : Int)] 27, .box b1 [.int .i64 (0 : Int), .slice none 0 0] 25] : List Res) (mT cwII 64 2 (l283) (vsl283))) wr fun Oz => Vec (.pair .st (.pair (.int .i64) (.int .i64))) (gz H w wr Oz) (u255_0) (x254.1) ∧ (l283).length = (vsl283).length ∧ Go.L.itr (words_Build_bl4 s19_192 x254) n (l283, s39_284) = some e193) (fun ⟨l283, s39_284, vsl283, n⟩ => n) (l191, (0 : Int), vsl191, n285) (.cons rfl (.cons rfl (.cons rfl (.cons rfl (.cons rfl (.cons rfl (.cons rfl (.cons rfl (.cons rfl (.cons rfl (.cons rfl (Sub.nil _)))))))))))) ⟨hL257, hv255_0, hnl191, h⟩ ?_
      rintro ⟨l283, s39_284, vsl283, nn285⟩ wr285 ⟨hL285, hf285_0, hnl283, h⟩
      obtain ⟨n285, e285, rfl, h, hm285⟩ := Go.L.itr_some h
      refine W_pz 1 rfl ?_
      refine W_seq ?_
      refine W_if rfl (fun hc287 => ?_) (fun hc287 => ?_)
      ·replace h := Go.L.ite_p hc287 h
       refine W_skip ?_
       refine At_seq ?_
       refine W_seq ?_
       refine W_block ?_
       refine W_p 1 rfl ?_
       obtain ⟨hk290, h⟩ := Go.L.chk_some h
       refine S_index rfl rfl underlying67 zr75 hf285_0 s39_284.toNat (Int.toNat_of_nonneg hk290.1).symm (idx_lt hk290) rfl ?_
       rintro p289 _ ⟨_, _, rfl, rfl, ⟨_, _, rfl, rfl, rfl⟩⟩ hp289
       refine S_v (r_loadN rfl underlying75 rfl zr75 hp289 (gz_le hH hL285)) rfl ?_
       refine S_alloc zr75 rfl rfl hL285 ?_
       intro w291 b291 hL291 hle291 _
       replace hf285_0 := hf285_0.mono (gz_mono hH hle291)
       replace hp289 := hp289.mono (gz_mono hH hle291)
       refine S_pu 1 rfl ?_
       refine S_storeBN 0 rfl rfl rfl zr75 hL291 rfl rfl (onc rfl (onc rfl (onc rfl on0))) ?_
       intro w292 hL292 hle292
       replace hf285_0 := hf285_0.mono (gz_mono hH hle292)
       replace hp289 := hp289.mono (gz_mono hH hle292)
       refine S_seqnil ?_
       refine W_naiveI (fun z0 z => Le (gz H w z0 (HAppend.hAppend ([.box b291 [.string ⟨((x254.1.getD s39_284.toNat default).1).toArray⟩, .int .i64 ((x254.1.getD s39_284.toNat default).2.1), .int .i64 ((x254.1.getD s39_284.toNat default).2.2)] 75, .box b256 [.int .i64 x254.2.1, .int .i64 x254.2.2] 27, mpR encS b10 (l283) (vsl283), .box b2 [.int .i64 (0 : Int), .int .i64 (0 : Int)] 27, .box b1 [.int .i64 (0 : Int), .slice none 0 0] 25] : List Res) (mT cwII 64 2 (l283) (vsl283)))) (hp z) ∧ z.heap[b291]? = some (.cells [.string ⟨((x254.1.getD s39_284.toNat default).1).toArray⟩, .int .i64 ((x254.1.getD s39_284.toNat default).2.1), .int .i64 ((x254.1.getD s39_284.toNat default).2.2)].toArray 75 (0, 0)) ∧ z.heap[b256]? = some (.cells [.int .i64 x254.2.1, .int .i64 x254.2.2].toArray 27 (0, 0)) ∧ z.heap[b2]? = some (.cells [.int .i64 (0 : Int), .int .i64 (0 : Int)].toArray 27 (0, 0)) ∧ z.heap[b1]? = some (.cells [.int .i64 (0 : Int), .slice none 0 0].toArray 25 (0, 0)) ∧ z.heap[b10]? = some (.map (mE encS 0 ((l283).map Prod.fst) (vsl283)).toArray (l283).length)) mixed rfl (fun w293 hx293 => ?_)
       have hL294 := hL292.call hx293
       have hle294 := fz_ext hL292 hx293
       replace hf285_0 := hf285_0.mono (gz_mono hH hle294)
       have hG295 := hL294.rG H
       refine NI_hoist 0 (np_block (np_seq (np_loop (np_block (np_block (np_cut (np_loop (np_block (np_cut np_body))))))))) ⟨hG295.trans (gz_le hH hL294), hL294.at (i := 0) rfl, hL294.at (i := 1) rfl, hL294.at (i := 3) rfl, hL294.at (i := 4) rfl, hL294.at (i := 2) rfl⟩ (by kernel_rfl) rfl (fun _ _ => RunsAt_pu rfl) rfl ?_
       refine NI_hoist 1 (np_block (np_seq (np_loop (np_block (np_block (np_cut (np_loop (np_block (np_cut np_body))))))))) ⟨hG295.trans (gz_le hH hL294), hL294.at (i := 0) rfl, hL294.at (i := 1) rfl, hL294.at (i := 3) rfl, hL294.at (i := 4) rfl, hL294.at (i := 2) rfl⟩ (by kernel_rfl) rfl (fun _ _ => r_field rfl underlying75 rfl zr9 (by decide)) rfl ?_
       refine NI_hoist 2 (np_block (np_seq (np_loop (np_block (np_block (np_cut (np_loop (np_block (np_cut np_body))))))))) ⟨hG295.trans (gz_le hH hL294), hL294.at (i := 0) rfl, hL294.at (i := 1) rfl, hL294.at (i := 3) rfl, hL294.at (i := 4) rfl, hL294.at (i := 2) rfl⟩ (by kernel_rfl) rfl (fun _ hI => r_loadH1 rfl underlying9 rfl hI.2.1 rfl) rfl ?_
       refine NI_hoist 3 (np_block (np_seq (np_loop (np_block (np_block (np_cut (np_loop (np_block (np_cut np_body))))))))) ⟨hG295.trans (gz_le hH hL294), hL294.at (i := 0) rfl, hL294.at (i := 1) rfl, hL294.at (i := 3) rfl, hL294.at (i := 4) rfl, hL294.at (i := 2) rfl⟩ (by kernel_rfl) rfl (fun _ _ => RunsAt_pu rfl) rfl ?_
       refine NI_hoist 4 (np_block (np_seq (np_loop (np_block (np_block (np_cut (np_loop (np_block (np_cut np_body))))))))) ⟨hG295.trans (gz_le hH hL294), hL294.at (i := 0) rfl, hL294.at (i := 1) rfl, hL294.at (i := 3) rfl, hL294.at (i := 4) rfl, hL294.at (i := 2) rfl⟩ (by kernel_rfl) rfl (fun _ _ => r_field rfl underlying75 rfl zr9 (by decide)) rfl ?_
       refine NI_hoist 5 (np_block (np_seq (np_loop (np_block (np_block (np_cut (np_loop (np_block (np_cut np_body))))))))) ⟨hG295.trans (gz_le hH hL294), hL294.at (i := 0) rfl, hL294.at (i := 1) rfl, hL294.at (i := 3) rfl, hL294.at (i := 4) rfl, hL294.at (i := 2) rfl⟩ (by kernel_rfl) rfl (fun _ hI => r_loadH1 rfl underlying9 rfl hI.2.1 rfl) rfl ?_
       refine NI_hoist 6 (np_block (np_seq (np_loop (np_block (np_block (np_cut (np_loop (np_block (np_cut np_body))))))))) ⟨hG295.trans (gz_le hH hL294), hL294.at (i := 0) rfl, hL294.at (i := 1) rfl, hL294.at (i := 3) rfl, hL294.at (i := 4) rfl, hL294.at (i := 2) rfl⟩ (by kernel_rfl) rfl (fun _ hI => r_lookH (k := (x254.1.getD s39_284.toNat default).1) (enc := encS) rfl rfl underlying98 key9 zeroValue40 hI.2.2.2.2.2 (by rw [List.length_map]; exact hnl283)) rfl ?_
       refine NI_hoist 7 (np_block (np_seq (np_loop (np_block (np_block (np_cut (np_loop (np_block (np_cut np_body))))))))) ⟨hG295.trans (gz_le hH hL294), hL294.at (i := 0) rfl, hL294.at (i := 1) rfl, hL294.at (i := 3) rfl, hL294.at (i := 4) rfl, hL294.at (i := 2) rfl⟩ (by kernel_rfl) rfl (fun _ _ => RunsAt_pu rfl) rfl ?_
       refine NI_hoist 8 (np_block (np_seq (np_loop (np_block (np_block (np_cut (np_loop (np_block (np_cut np_body))))))))) ⟨hG295.trans (gz_le hH hL294), hL294.at (i := 0) rfl, hL294.at (i := 1) rfl, hL294.at (i := 3) rfl, hL294.at (i := 4) rfl, hL294.at (i := 2) rfl⟩ (by kernel_rfl) rfl (fun _ _ => RunsAt_pu rfl) rfl ?_
       refine NI_hoist 9 (np_block (np_seq (np_loop (np_block (np_block (np_cut (np_loop (np_block (np_cut np_body))))))))) ⟨hG295.trans (gz_le hH hL294), hL294.at (i := 0) rfl, hL294.at (i := 1) rfl, hL294.at (i := 3) rfl, hL294.at (i := 4) rfl, hL294.at (i := 2) rfl⟩ (by kernel_rfl) rfl (fun _ _ => r_build rfl (fun _ => bld64_0_1 _ _ _)) rfl ?_
       refine NI1 (i := 10) (by kernel_rfl) rfl ?_
       refine S_litE (r := (.pair (.int .i64) (.int .i64))) (l := [(s19_192, s39_284)]) rfl (fun _ => bsl40_1 _ _ _) rfl (show 1 ≤ 9223372036854775807 by decide) hH hL294 (.c2 ⟨_, _, rfl, rfl, rfl⟩ .nil) ?_
       intro v296 w296 hx296 hL296 hle296 hv296
       replace hG295 := hG295.trans (gz_mono hH hle296)
       refine NI_nil ⟨hG295.trans (gz_le hH hL296), hL296.at (i := 0) rfl, hL296.at (i := 1) rfl, hL296.at (i := 3) rfl, hL296.at (i := 4) rfl, hL296.at (i := 2) rfl⟩ ?_
       refine NI1 (i := 11) (by kernel_rfl) rfl ?_
       obtain ⟨hk299, h⟩ := Go.L.chk_some h
       refine S_appM (A := [.box b291 [.string ⟨((x254.1.getD s39_284.toNat default).1).toArray⟩, .int .i64 ((x254.1.getD s39_284.toNat default).2.1), .int .i64 ((x254.1.getD s39_284.toNat default).2.2)] 75, .box b256 [.int .i64 x254.2.1, .int .i64 x254.2.2] 27, mpR encS b10 (l283) (vsl283), .box b2 [.int .i64 (0 : Int), .int .i64 (0 : Int)] 27, .box b1 [.int .i64 (0 : Int), .slice none 0 0] 25]) (l := l283) (vs := vsl283) (k := (x254.1.getD s39_284.toNat default).1) (z := (s19_192, s39_284)) (r := (.pair (.int .i64) (.int .i64))) (H := H) rel_II rfl rfl rfl underlying40 zr64 rfl (by decide) rfl hH hL296 hnl283 hv296 hk299 ?_
       intro v298 w298 T298 hpd298 hL298 hle298
       replace hv296 := hv296.mono (gz_mono hH hle298)
       replace hG295 := hG295.trans (gz_mono hH hle298)
       refine NI_nil ⟨hG295.trans (gz_le hH hL298), hL298.at (i := 0) rfl, hL298.at (i := 1) rfl, hL298.at (i := 3) rfl, hL298.at (i := 4) rfl, hL298.at (i := 2) rfl⟩ ?_
       refine NI1 (i := 12) (by kernel_rfl) rfl ?_
       refine S_updM (A := [.box b291 [.string ⟨((x254.1.getD s39_284.toNat default).1).toArray⟩, .int .i64 ((x254.1.getD s39_284.toNat default).2.1), .int .i64 ((x254.1.getD s39_284.toNat default).2.2)] 75, .box b256 [.int .i64 x254.2.1, .int .i64 x254.2.2] 27, mpR encS b10 (l283) (vsl283), .box b2 [.int .i64 (0 : Int), .int .i64 (0 : Int)] 27, .box b1 [.int .i64 (0 : Int), .slice none 0 0] 25]) (T := T298) 2 hpd298 rfl rfl rfl underlying98 key9 hL298 rfl ?_
       intro vs301 w301 hn301 hL301 hle301
       replace hv296 := hv296.mono (gz_mono hH hle301)
       replace hG295 := hG295.trans (gz_mono hH hle301)
       refine NI_last (by kernel_rfl) ?_
       refine NI_end (by kernel_rfl) ?_
       refine At_block ?_
       refine At_seq ?_
       refine W_region ?_
       obtain ⟨hk302, h⟩ := Go.L.chk_some h
       refine S_v (r_ar64 rfl rfl rfl hk302) rfl ?_
       refine S_pu 1 rfl ?_
       refine S_nil ?_
       have hL303 := hL301.dropAt (i := 0) rfl
       replace hG295 := hG295.trans (gz_mono hH (fz_dropAt (i := 0) rfl))
       have h := Go.L.Nxt.again h hm285
       refine At_round ((Go.L.mput ((x254.1.getD s39_284.toNat default).1) ((Go.L.mget [] ((x254.1.getD s39_284.toNat default).1) l283) ++ [(s19_192, s39_284)]) l283), (s39_284 + (1 : Int)), vs301, n285) (.cons rfl (.cons rfl (.cons rfl (.cons rfl (.cons rfl (.cons rfl (.cons rfl (.cons rfl (.cons rfl (.cons rfl (.cons rfl (Sub.nil _)))))))))))) ⟨hL303, (hf285_0.mono hG295), hn301, h⟩ (Nat.lt_succ_self _)
      ·replace h := Go.L.ite_n hc287 h
       refine W_exit ?_
       refine At_seq_exit ?_
       refine At_loop_exit ?_
       replace h := Go.L.Nxt.out h hm285
       refine At_exit ?_
       refine At_block ?_
       have hL305 := hL285.dropAt (i := 0) rfl
       refine At_cut (l283, vsl283) (.cons rfl (.cons rfl (.cons rfl (.cons rfl (.cons rfl (.cons rfl (.cons rfl (Sub.nil _)))))))) ⟨hL305, hnl283, h⟩
    ·rintro ⟨l249, vsl249⟩ wr250 ⟨hL250, hnl249, h⟩
     refine W_region ?_
     obtain ⟨hk307, h⟩ := Go.L.chk_some h
     refine S_v (r_ar64 rfl rfl rfl hk307) rfl ?_
     refine S_pu 1 rfl ?_
     refine S_nil ?_
     have h := Go.L.Nxt.again h hm193
     refine At_round (l249, (s19_192 + (1 : Int)), vsl249, n193) (.cons rfl (.cons rfl (.cons rfl (.cons rfl (.cons rfl (.cons rfl (.cons rfl (Sub.nil _)))))))) ⟨hL250, hnl249, h⟩ (Nat.lt_succ_self _)
   ·replace h := Go.L.ite_n hc195 h
    refine W_exit ?_
    refine At_seq_exit ?_
    refine At_loop_exit ?_
    replace h := Go.L.Nxt.out h hm193
    refine At_exit ?_
    refine At_cut (l191, vsl191) (.cons rfl (.cons rfl (.cons rfl (.cons rfl (Sub.nil _))))) ⟨hL193, hnl191, h⟩
  ·rintro ⟨l130, vsl130⟩ wr131 ⟨hL131, hnl130, h⟩
   refine W_p 1 rfl ?_
   refine S_v (r_len rfl underlying47 h0_0) rfl ?_
   refine S_pu 1 rfl ?_
   obtain ⟨hL310, hle310, hv310⟩ := map_pub (A := [mpR encS b10 (l130) (vsl130), .box b2 [.int .i64 (0 : Int), .int .i64 (0 : Int)] 27, .box b1 [.int .i64 (0 : Int), .slice none 0 0] 25]) (l := l130) (vs := vsl130) (e := 64) (r := (.pair (.int .i64) (.int .i64))) 0 rfl rel_II hH hnl130 hL131 rfl
   obtain ⟨x311, hb311, h⟩ := Go.L.bind_some h
   refine S_callL rfl rfl hL310 (words_build_ok _ _ (gz_le hH hL310) hv310 hb311) ?_
   rintro _ w312 ⟨u312_0, rfl, hR312_0⟩ hx312 hL312 hle312
   have hv312_0 := hR312_0.mono (gz_nw hH hL310 hx312)
   replace hv310 := hv310.mono (gz_mono hH hle312)
   refine S_pu 2 rfl ?_
   refine S_storeBN 1 rfl rfl rfl zr25 hL312 rfl rfl (onc rfl (onc hv312_0.one on0)) ?_
   intro w313 hL313 hle313
   replace hv310 := hv310.mono (gz_mono hH hle313)
   replace hv312_0 := hv312_0.mono (gz_mono hH hle313)
   refine S_storeBN 0 rfl rfl rfl zr27 hL313 rfl rfl (onc rfl (onc rfl on0)) ?_
   intro w314 hL314 hle314
   replace hv310 := hv310.mono (gz_mono hH hle314)
   replace hv312_0 := hv312_0.mono (gz_mono hH hle314)
   refine S_seqnil ?_
   refine W_ret ?_
   obtain rfl := Option.some.inj h
   refine At_got2 rfl (.cell rfl underlying25 rfl zr25 (box_ptr (i := 1) hL314 rfl)) (.cell rfl underlying27 rfl zr27 (box_ptr (i := 0) hL314 rfl)) ?_
   exact ⟨hL314.ext, _, rfl, (hv312_0.mono (gz_res hH))⟩
end Go.Proofs.YtdiieblgeaehpaaGreatDoor
