/- Generated walks: forms of indexes of words. -/
import Derived.Test.YtdiieblgeaehpaaGreatDoorP6
import Derived.Test.YtdiieblgeaehpaaGreatDoorBld
import Derived.KernelRfl
namespace Go.Proofs.YtdiieblgeaehpaaGreatDoor
open Go Go.E Go.RowKit
set_option maxHeartbeats 1000000
set_option maxRecDepth 10000
open _root_.Go.Proofs.Tryz
noncomputable def words_Index_Bytes_1_bl1 (a0 : Int) : (List UInt8) × Int → Option (((List UInt8) × Int) ⊕ ((Unit × (List UInt8)))) := fun ⟨l14, s4_15⟩ =>
 if (0 : Int) ≤ s4_15 then Go.L.chk (0 ≤ s4_15 ∧ s4_15 ≤ 63) (Go.L.chk ((0 ≤ (a0 / 2 ^ s4_15.toNat) ∧ (a0 / 2 ^ s4_15.toNat) < 2 ^ 63) ∧ (0 ≤ (1 : Int) ∧ (1 : Int) < 2 ^ 63)) (Go.L.chk (Go.E.Cap 1 (l14.length + 1)) (Go.L.chk (Go.L.I64 (s4_15 - (1 : Int))) (some (Sum.inl ((l14 ++ [((48 : UInt8) + (Go.L.u8 (((a0 / 2 ^ s4_15.toNat).toNat &&& (1 : Int).toNat : Nat) : Int)))]), (s4_15 - (1 : Int)))))))) else Option.map Sum.inr (some (((), l14)))
noncomputable def words_Index_Bytes_1_l1 (a0 : Int) (s : (List UInt8) × Int) : Option ((Unit × (List UInt8))) := Go.L.run (words_Index_Bytes_1_bl1 a0) s
noncomputable def words_Index_Bytes_1 (a0 : Int) (a1 : Unit × (List UInt8)) : Option ((Unit × (List UInt8))) :=
 Option.bind (bits_GammaSize a0) (fun x1 => Go.L.chk (Go.L.I64 (x1 - (1 : Int))) ((words_Index_Bytes_1_l1 a0) (a1.2, (x1 - (1 : Int)))))

theorem words_Index_Bytes_1_fr {w0 w : World} {H : PH} (hH : Le H (hp w0)) {O : List Res} {a0 : Int} {a1 : Unit × (List UInt8)} {ba1 : Nat} {va1_0 : Value} {va1_1 : Value} {xsa1_1 : List Value} (hL : Lcl w0 (HAppend.hAppend ([.box ba1 [va1_0, va1_1] 86, .row (va1_1) 5 1 (a1.2).length (xsa1_1)] : List Res) O) w) (ha1_0 : BAd ba1 va1_0) (hea1_1 : Elems .byte (gz H w0 w (HAppend.hAppend ([.box ba1 [va1_0, va1_1] 86, .row (va1_1) 5 1 (a1.2).length (xsa1_1)] : List Res) O)) (a1.2) xsa1_1) {r : (Unit × (List UInt8))} (h : words_Index_Bytes_1 a0 a1 = some r) :
  Ok Tryz.prog 36 [.int .i64 a0, .pointer (some ⟨ba1, 0, none⟩)] w (fun v w' => ∃ (u0 : Value) (u1 : Value) (y1 : List Value), v = .tuple #[] ∧ Lcl w0 (HAppend.hAppend ([.box ba1 [u0, u1] 86, .row u1 5 1 (r.2).length y1] : List Res) O) w' ∧ Le (fz w (HAppend.hAppend ([.box ba1 [va1_0, va1_1] 86, .row (va1_1) 5 1 (a1.2).length (xsa1_1)] : List Res) O)) (fz w' (HAppend.hAppend ([.box ba1 [u0, u1] 86, .row u1 5 1 (r.2).length y1] : List Res) O)) ∧ BAd ba1 u0 ∧ Elems .byte (gz H w0 w' (HAppend.hAppend ([.box ba1 [u0, u1] 86, .row u1 5 1 (r.2).length y1] : List Res) O)) (r.2) y1) := by
 refine Ok_enter (n := 20) [(0, .int .i64 a0), (1, .pointer (some ⟨ba1, 0, none⟩))] func36 rfl rfl rfl rfl rfl ?_
 have hT := Le.refl (fz w (HAppend.hAppend ([.box ba1 [va1_0, va1_1] 86, .row (va1_1) 5 1 (a1.2).length (xsa1_1)] : List Res) O))
 refine W_p 1 rfl ?_
 obtain ⟨x1, hb1, h⟩ := Go.L.bind_some h
 refine S_callL rfl rfl hL (bits_GammaSize_ok _ _ (gz_le hH hL) hb1) ?_
 rintro _ w2 rfl hx2 hL2 hle2
 replace hea1_1 := hea1_1.mono (gz_mono hH hle2)
 replace hT := hT.trans hle2
 refine S_pz 1 rfl ?_
 refine W_p 1 rfl ?_
 obtain ⟨hk3, h⟩ := Go.L.chk_some h
 refine S_v (r_ar64 rfl rfl rfl hk3) rfl ?_
 refine S_pz 1 rfl ?_
 refine W_block ?_
 obtain ⟨n16, h⟩ := Go.L.run_some h
 refine W_loop (σ := (List UInt8) × Int × Value × Value × (List Value) × Nat) (fun ⟨l14, s4_15, vc13, vl14, xsl14, n⟩ => [(0, .int .i64 a0), (1, .pointer (some ⟨ba1, 0, none⟩)), (4, .int .i64 s4_15)]) (fun ⟨l14, s4_15, vc13, vl14, xsl14, n⟩ wr => InO w0 (HAppend.hAppend ([.box ba1 [vc13, vl14] 86, .row (vl14) 5 1 (l14).length (xsl14)] : List Res) O) wr fun Oz => BAd ba1 (vc13) ∧ Elems .byte (gz H w0 wr Oz) (l14) (xsl14) ∧ Le (fz w (HAppend.hAppend ([.box ba1 [va1_0, va1_1] 86, .row (va1_1) 5 1 (a1.2).length (xsa1_1)] : List Res) O)) (fz wr Oz) ∧ Go.L.itr (words_Index_Bytes_1_bl1 a0) n (l14, s4_15) = some r) (fun ⟨l14, s4_15, vc13, vl14, xsl14, n⟩ => n) (a1.2, (x1 - (1 : Int)), va1_0, va1_1, xsa1_1, n16) (.cons rfl (.cons rfl (.cons rfl (Sub.nil _)))) ⟨hL2, ha1_0, hea1_1, hT, h⟩ ?_
 rintro ⟨l14, s4_15, vc13, vl14, xsl14, nn16⟩ wr16 ⟨hL16, hf16_0, hel14, hT, h⟩
 obtain ⟨n16, e16, rfl, h, hm16⟩ := Go.L.itr_some h
 refine W_seq ?_
 refine W_pz 2 rfl ?_
 refine W_if rfl (fun hc18 => ?_) (fun hc18 => ?_)
 ·replace h := Go.L.ite_p hc18 h
  refine W_skip ?_
  refine At_seq ?_
  refine W_seq ?_
  refine W_block ?_
  refine W_region ?_
  refine S_pu 2 rfl ?_
  obtain ⟨hk20, h⟩ := Go.L.chk_some h
  refine S_v (r_shrV rfl rfl hk20) rfl ?_
  obtain ⟨hk21, h⟩ := Go.L.chk_some h
  refine S_v (r_bitI rfl rfl rfl hk21) rfl ?_
  refine S_v (r_conv underlying3 underlying5 rfl (conv_64_u8 _)) rfl ?_
  refine S_v (r_ar8 (a := 48) rfl rfl rfl) rfl ?_
  obtain ⟨hk23, h⟩ := Go.L.chk_some h
  refine S_call rfl rfl (wbyte_fr (O := (HAppend.hAppend ([] : List Res) O)) (c := ((48 : UInt8) + (Go.L.u8 (((a0 / 2 ^ s4_15.toNat).toNat &&& (1 : Int).toNat : Nat) : Int)))) hH hL16 hf16_0 hel14 hk23) ?_
  rintro _ w22 ⟨u22, y22, rfl, hL22, hle22, he22⟩
  replace hT := hT.trans hle22
  refine S_nil ?_
  refine At_block ?_
  refine At_seq ?_
  refine W_region ?_
  refine S_pu 1 rfl ?_
  obtain ⟨hk24, h⟩ := Go.L.chk_some h
  refine S_v (r_ar64 rfl rfl rfl hk24) rfl ?_
  refine S_pu 1 rfl ?_
  refine S_nil ?_
  have h := Go.L.Nxt.again h hm16
  refine At_round ((l14 ++ [((48 : UInt8) + (Go.L.u8 (((a0 / 2 ^ s4_15.toNat).toNat &&& (1 : Int).toNat : Nat) : Int)))]), (s4_15 - (1 : Int)), .pointer (some ⟨ba1, 0, none⟩), u22, y22, n16) (.cons rfl (.cons rfl (.cons rfl (Sub.nil _)))) ⟨hL22, (Or.inr rfl), he22, hT, h⟩ (Nat.lt_succ_self _)
 ·replace h := Go.L.ite_n hc18 h
  refine W_exit ?_
  refine At_seq_exit ?_
  refine At_loop_exit ?_
  replace h := Go.L.Nxt.out h hm16
  refine At_exit ?_
  obtain rfl := Option.some.inj h
  refine At_got0e rfl ?_
  exact ⟨vc13, vl14, xsl14, rfl, hL16, hT, hf16_0, hel14⟩

noncomputable def words_Index_numbers_s2_k2 (s25_132 : Int) (l252 : List UInt8) : Option (((List UInt8) × Int) ⊕ ((Unit × (List UInt8)))) :=
 Go.L.chk (Go.L.I64 (s25_132 + (1 : Int))) (some (Sum.inl (l252, (s25_132 + (1 : Int)))))
noncomputable def words_Index_numbers_s2_bl5 (a0 : Int × (List ((List UInt8) × (List (Int × Int))))) (s25_132 : Int) : Int × Int × (List UInt8) × Int → Option ((Int × Int × (List UInt8) × Int) ⊕ (((List UInt8) × Int) ⊕ ((Unit × (List UInt8))))) := fun ⟨c364, c365, l368, s57_369⟩ =>
 if s57_369 < (((a0.2.getD s25_132.toNat default).2).length : Int) then Go.L.chk (0 ≤ s57_369 ∧ s57_369 < (((a0.2.getD s25_132.toNat default).2).length : Int)) (if (((a0.2.getD s25_132.toNat default).2).getD s57_369.toNat default).1 = c364 then Option.bind (words_Index_Bytes_1 (1 : Int) ((), l368)) (fun x396 => Go.L.chk (Go.L.I64 ((((a0.2.getD s25_132.toNat default).2).getD s57_369.toNat default).2 - c365)) (Option.bind (words_Index_Bytes_1 ((((a0.2.getD s25_132.toNat default).2).getD s57_369.toNat default).2 - c365) ((), x396.2)) (fun x399 => Go.L.chk (Go.L.I64 (s57_369 + (1 : Int))) (some (Sum.inl ((((a0.2.getD s25_132.toNat default).2).getD s57_369.toNat default).1, (((a0.2.getD s25_132.toNat default).2).getD s57_369.toNat default).2, x399.2, (s57_369 + (1 : Int)))))))) else Go.L.chk (Go.L.I64 ((1 : Int) + (((a0.2.getD s25_132.toNat default).2).getD s57_369.toNat default).1)) (Go.L.chk (Go.L.I64 (((1 : Int) + (((a0.2.getD s25_132.toNat default).2).getD s57_369.toNat default).1) - c364)) (Option.bind (words_Index_Bytes_1 (((1 : Int) + (((a0.2.getD s25_132.toNat default).2).getD s57_369.toNat default).1) - c364) ((), l368)) (fun x385 => Go.L.chk (Go.L.I64 ((((a0.2.getD s25_132.toNat default).2).getD s57_369.toNat default).2 + (1 : Int))) (Option.bind (words_Index_Bytes_1 ((((a0.2.getD s25_132.toNat default).2).getD s57_369.toNat default).2 + (1 : Int)) ((), x385.2)) (fun x388 => Go.L.chk (Go.L.I64 (s57_369 + (1 : Int))) (some (Sum.inl ((((a0.2.getD s25_132.toNat default).2).getD s57_369.toNat default).1, (((a0.2.getD s25_132.toNat default).2).getD s57_369.toNat default).2, x388.2, (s57_369 + (1 : Int))))))))))) else Option.map Sum.inr ((words_Index_numbers_s2_k2 s25_132) l368)
noncomputable def words_Index_numbers_s2_l5 (a0 : Int × (List ((List UInt8) × (List (Int × Int))))) (s25_132 : Int) (s : Int × Int × (List UInt8) × Int) : Option (((List UInt8) × Int) ⊕ ((Unit × (List UInt8)))) := Go.L.run (words_Index_numbers_s2_bl5 a0 s25_132) s
noncomputable def words_Index_numbers_s2_k3 (a0 : Int × (List ((List UInt8) × (List (Int × Int))))) (s25_132 : Int) (l294 : List UInt8) : Option (((List UInt8) × Int) ⊕ ((Unit × (List UInt8)))) :=
 Option.bind (words_Index_Bytes_1 (((a0.2.getD s25_132.toNat default).2).length : Int) ((), l294)) (fun x331 => (words_Index_numbers_s2_l5 a0 s25_132) ((0 : Int), (-1 : Int), x331.2, (0 : Int)))
noncomputable def words_Index_numbers_s2_bl4 (a0 : Int × (List ((List UInt8) × (List (Int × Int))))) (s25_132 : Int) : (List UInt8) × Int → Option (((List UInt8) × Int) ⊕ (((List UInt8) × Int) ⊕ ((Unit × (List UInt8))))) := fun ⟨l311, s38_312⟩ =>
 if s38_312 < (((a0.2.getD s25_132.toNat default).1).length : Int) then Go.L.chk (0 ≤ s38_312 ∧ s38_312 < (((a0.2.getD s25_132.toNat default).1).length : Int)) (Go.L.chk (Go.L.I64 (((((a0.2.getD s25_132.toNat default).1).getD s38_312.toNat default).toNat : Int) + (1 : Int))) (Option.bind (words_Index_Bytes_1 (((((a0.2.getD s25_132.toNat default).1).getD s38_312.toNat default).toNat : Int) + (1 : Int)) ((), l311)) (fun x323 => Go.L.chk (Go.L.I64 (s38_312 + (1 : Int))) (some (Sum.inl (x323.2, (s38_312 + (1 : Int)))))))) else Option.map Sum.inr ((words_Index_numbers_s2_k3 a0 s25_132) l311)
noncomputable def words_Index_numbers_s2_l4 (a0 : Int × (List ((List UInt8) × (List (Int × Int))))) (s25_132 : Int) (s : (List UInt8) × Int) : Option (((List UInt8) × Int) ⊕ ((Unit × (List UInt8)))) := Go.L.run (words_Index_numbers_s2_bl4 a0 s25_132) s
noncomputable def words_Index_numbers_s2_bl1 (a0 : Int × (List ((List UInt8) × (List (Int × Int))))) : (List UInt8) × Int → Option (((List UInt8) × Int) ⊕ ((Unit × (List UInt8)))) := fun ⟨l131, s25_132⟩ =>
 if s25_132 < (a0.2.length : Int) then Go.L.chk (0 ≤ s25_132 ∧ s25_132 < (a0.2.length : Int)) (Option.bind (words_Index_Bytes_1 (((a0.2.getD s25_132.toNat default).1).length : Int) ((), l131)) (fun x261 => Go.L.chk (((a0.2.getD s25_132.toNat default).1).length ≤ 9223372036854775807) ((words_Index_numbers_s2_l4 a0 s25_132) (x261.2, (0 : Int))))) else Option.map Sum.inr (some (((), l131)))
noncomputable def words_Index_numbers_s2_l1 (a0 : Int × (List ((List UInt8) × (List (Int × Int))))) (s : (List UInt8) × Int) : Option ((Unit × (List UInt8))) := Go.L.run (words_Index_numbers_s2_bl1 a0) s
noncomputable def words_Index_numbers_s2 (a0 : Int × (List ((List UInt8) × (List (Int × Int))))) (a1_c0 : Unit × (List UInt8)) : Option ((Unit × (List UInt8))) :=
 Go.L.chk (Go.L.I64 (a0.1 + (1 : Int))) (Option.bind (words_Index_Bytes_1 (a0.1 + (1 : Int)) ((), a1_c0.2)) (fun x4 => Go.L.chk (Go.L.I64 ((a0.2.length : Int) + (1 : Int))) (Option.bind (words_Index_Bytes_1 ((a0.2.length : Int) + (1 : Int)) ((), x4.2)) (fun x7 => (words_Index_numbers_s2_l1 a0) (x7.2, (0 : Int))))))

theorem words_Index_numbers_s2_fr {w0 w : World} {H : PH} (hH : Le H (hp w0)) {O : List Res} {a0 : Int × (List ((List UInt8) × (List (Int × Int))))} {a1_c0 : Unit × (List UInt8)} {va0_1 : Value} {ba1_c0 : Nat} {va1_c0_0 : Value} {va1_c0_1 : Value} {xsa1_c0_1 : List Value} (hL : Lcl w0 (HAppend.hAppend ([.box ba1_c0 [va1_c0_0, va1_c0_1] 86, .row (va1_c0_1) 5 1 (a1_c0.2).length (xsa1_c0_1)] : List Res) O) w) (ha0_1 : Vec (.pair .st (.vec (.pair (.int .i64) (.int .i64)))) (gz H w0 w (HAppend.hAppend ([.box ba1_c0 [va1_c0_0, va1_c0_1] 86, .row (va1_c0_1) 5 1 (a1_c0.2).length (xsa1_c0_1)] : List Res) O)) va0_1 (a0.2)) (ha1_c0_0 : BAd ba1_c0 va1_c0_0) (hea1_c0_1 : Elems .byte (gz H w0 w (HAppend.hAppend ([.box ba1_c0 [va1_c0_0, va1_c0_1] 86, .row (va1_c0_1) 5 1 (a1_c0.2).length (xsa1_c0_1)] : List Res) O)) (a1_c0.2) xsa1_c0_1) {r : (Unit × (List UInt8))} (h : words_Index_numbers_s2 a0 a1_c0 = some r) :
  Ok Tryz.prog 35 [.agg #[.int .i64 a0.1, va0_1], .func (.func 36) #[] #[.pointer (some ⟨ba1_c0, 0, none⟩)]] w (fun v w' => ∃ (u0 : Value) (u1 : Value) (y1 : List Value), v = .tuple #[] ∧ Lcl w0 (HAppend.hAppend ([.box ba1_c0 [u0, u1] 86, .row u1 5 1 (r.2).length y1] : List Res) O) w' ∧ Le (fz w (HAppend.hAppend ([.box ba1_c0 [va1_c0_0, va1_c0_1] 86, .row (va1_c0_1) 5 1 (a1_c0.2).length (xsa1_c0_1)] : List Res) O)) (fz w' (HAppend.hAppend ([.box ba1_c0 [u0, u1] 86, .row u1 5 1 (r.2).length y1] : List Res) O)) ∧ BAd ba1_c0 u0 ∧ Elems .byte (gz H w0 w' (HAppend.hAppend ([.box ba1_c0 [u0, u1] 86, .row u1 5 1 (r.2).length y1] : List Res) O)) (r.2) y1) := by
 refine Ok_enter (n := 91) [(0, .agg #[.int .i64 a0.1, va0_1]), (1, .func (.func 36) #[] #[.pointer (some ⟨ba1_c0, 0, none⟩)])] func35 rfl rfl rfl rfl rfl ?_
 have hT := Le.refl (fz w (HAppend.hAppend ([.box ba1_c0 [va1_c0_0, va1_c0_1] 86, .row (va1_c0_1) 5 1 (a1_c0.2).length (xsa1_c0_1)] : List Res) O))
 refine W_seqr ?_
 refine S_box (t := 25) rfl rfl rfl hL ?_
 intro w1 b1 hL1 hle1 _
 replace ha0_1 := ha0_1.mono (gz_mono hH hle1)
 replace hea1_c0_1 := hea1_c0_1.mono (gz_mono hH hle1)
 replace hT := hT.trans hle1
 refine S_seqnil ?_
 refine W_p 1 rfl ?_
 refine S_v (r_field rfl underlying25 rfl zr3 (by decide)) rfl ?_
 refine S_v (r_loadB1 0 rfl underlying3 rfl hL1 rfl rfl) rfl ?_
 obtain ⟨hk2, h⟩ := Go.L.chk_some h
 refine S_v (r_ar64 rfl rfl rfl hk2) rfl ?_
 have hL3 : Lcl w0 (HAppend.hAppend ([.box ba1_c0 [va1_c0_0, va1_c0_1] 86, .row (va1_c0_1) 5 1 (a1_c0.2).length (xsa1_c0_1), .box b1 [.int .i64 a0.1, va0_1] 25] : List Res) O) w1 := hL1.picks [2, 2] rfl
 have hle3 := fz_picks [2, 2] hL1 hL3 rfl
 replace ha0_1 := ha0_1.mono (gz_mono hH hle3)
 replace hea1_c0_1 := hea1_c0_1.mono (gz_mono hH hle3)
 replace hT := hT.trans hle3
 obtain ⟨x4, hb4, h⟩ := Go.L.bind_some h
 refine S_callv rfl rfl rfl (words_Index_Bytes_1_fr (a0 := (a0.1 + (1 : Int))) (a1 := ((), a1_c0.2)) (O := (HAppend.hAppend ([.box b1 [.int .i64 a0.1, va0_1] 25] : List Res) O)) hH hL3 ha1_c0_0 hea1_c0_1 hb4) ?_
 rintro _ w5 ⟨u5_0, u5_1, y5_1, rfl, hL5, hle5, hf5_0, hf5_1⟩
 replace ha0_1 := ha0_1.mono (gz_mono hH hle5)
 replace hT := hT.trans hle5
 refine S_seqnil ?_
 refine W_p 1 rfl ?_
 refine S_v (r_field rfl underlying25 rfl zr23 (by decide)) rfl ?_
 refine S_v (r_loadB1 2 rfl underlying23 rfl hL5 rfl rfl) rfl ?_
 refine S_v (r_len rfl underlying23 ha0_1) rfl ?_
 obtain ⟨hk6, h⟩ := Go.L.chk_some h
 refine S_v (r_ar64 rfl rfl rfl hk6) rfl ?_
 obtain ⟨x7, hb7, h⟩ := Go.L.bind_some h
 refine S_callv rfl rfl rfl (words_Index_Bytes_1_fr (a0 := ((a0.2.length : Int) + (1 : Int))) (a1 := ((), x4.2)) (O := (HAppend.hAppend ([.box b1 [.int .i64 a0.1, va0_1] 25] : List Res) O)) hH hL5 hf5_0 hf5_1 hb7) ?_
 rintro _ w8 ⟨u8_0, u8_1, y8_1, rfl, hL8, hle8, hf8_0, hf8_1⟩
 replace ha0_1 := ha0_1.mono (gz_mono hH hle8)
 replace hT := hT.trans hle8
 refine S_seqnil ?_
 refine W_seqr ?_
 refine S_v (r_field rfl underlying25 rfl zr23 (by decide)) rfl ?_
 refine S_v (r_loadB1 2 rfl underlying23 rfl hL8 rfl rfl) rfl ?_
 refine S_v (r_len rfl underlying23 ha0_1) rfl ?_
 refine S_pz 1 rfl ?_
 refine W_block ?_
 have hL134 : Lcl w0 (HAppend.hAppend ([.row (u8_1) 5 1 (x7.2).length (y8_1), .box ba1_c0 [u8_0, u8_1] 86, .box b1 [.int .i64 a0.1, va0_1] 25] : List Res) O) w8 := hL8.picks [1] rfl
 have hle134 := fz_picks [1] hL8 hL134 rfl
 replace ha0_1 := ha0_1.mono (gz_mono hH hle134)
 replace hf8_1 := hf8_1.mono (gz_mono hH hle134)
 replace hT := hT.trans hle134
 obtain ⟨n133, h⟩ := Go.L.run_some h
 refine W_loop (σ := (List UInt8) × Int × Value × Value × (List Value) × Nat) (fun ⟨l131, s25_132, vc129, vl131, xsl131, n⟩ => [(1, .func (.func 36) #[] #[.pointer (some ⟨ba1_c0, 0, none⟩)]), (23, va0_1), (24, .int .i64 (a0.2.length : Int)), (25, .int .i64 s25_132)]) (fun ⟨l131, s25_132, vc129, vl131, xsl131, n⟩ wr => InO w0 (HAppend.hAppend ([.row (vl131) 5 1 (l131).length (xsl131), .box ba1_c0 [vc129, vl131] 86, .box b1 [.int .i64 a0.1, va0_1] 25] : List Res) O) wr fun Oz => Vec (.pair .st (.vec (.pair (.int .i64) (.int .i64)))) (gz H w0 wr Oz) (va0_1) (a0.2) ∧ Elems .byte (gz H w0 wr Oz) (l131) (xsl131) ∧ BAd ba1_c0 (vc129) ∧ Le (fz w (HAppend.hAppend ([.box ba1_c0 [va1_c0_0, va1_c0_1] 86, .row (va1_c0_1) 5 1 (a1_c0.2).length (xsa1_c0_1)] : List Res) O)) (fz wr Oz) ∧ Go.L.itr (words_Index_numbers_s2_bl1 a0) n (l131, s25_132) = some r) (fun ⟨l131, s25_132, vc129, vl131, xsl131, n⟩ => n) (x7.2, (0 : Int), u8_0, u8_1, y8_1, n133) (.cons rfl (.cons rfl (.cons rfl (.cons rfl (Sub.nil _))))) ⟨hL134, ha0_1, hf8_1, hf8_0, hT, h⟩ ?_
 rintro ⟨l131, s25_132, vc129, vl131, xsl131, nn133⟩ wr133 ⟨hL133, hf133_0, hel131, hf133_2, hT, h⟩
 obtain ⟨n133, e133, rfl, h, hm133⟩ := Go.L.itr_some h
 refine W_pz 1 rfl ?_
 refine W_seq ?_
 refine W_if rfl (fun hc136 => ?_) (fun hc136 => ?_)
 ·replace h := Go.L.ite_p hc136 h
  refine W_skip ?_
  refine At_seq ?_
  refine W_cut (σ := (List UInt8) × Value × Value × (List Value)) (fun ⟨l252, vc250, vl252, xsl252⟩ => [(1, .func (.func 36) #[] #[.pointer (some ⟨ba1_c0, 0, none⟩)]), (23, va0_1), (24, .int .i64 (a0.2.length : Int)), (25, .int .i64 s25_132)]) (fun ⟨l252, vc250, vl252, xsl252⟩ wr => InO w0 (HAppend.hAppend ([.row (vl252) 5 1 (l252).length (xsl252), .box ba1_c0 [vc250, vl252] 86, .box b1 [.int .i64 a0.1, va0_1] 25] : List Res) O) wr fun Oz => Vec (.pair .st (.vec (.pair (.int .i64) (.int .i64)))) (gz H w0 wr Oz) (va0_1) (a0.2) ∧ Elems .byte (gz H w0 wr Oz) (l252) (xsl252) ∧ BAd ba1_c0 (vc250) ∧ Le (fz w (HAppend.hAppend ([.box ba1_c0 [va1_c0_0, va1_c0_1] 86, .row (va1_c0_1) 5 1 (a1_c0.2).length (xsa1_c0_1)] : List Res) O)) (fz wr Oz) ∧ (words_Index_numbers_s2_k2 s25_132) l252 = some e133) ?_ ?_
  ·refine W_block ?_
   refine W_seqr ?_
   obtain ⟨hk256, h⟩ := Go.L.chk_some h
   refine S_index rfl rfl underlying23 zr62 hf133_0 s25_132.toNat (Int.toNat_of_nonneg hk256.1).symm (idx_lt hk256) rfl ?_
   rintro p255 _ ⟨_, _, rfl, rfl, ⟨e255v1, rfl, e255h1⟩⟩ hp255
   refine S_v (r_loadN rfl underlying62 rfl zr62 hp255 (gz_le hH hL133)) rfl ?_
   refine S_alloc zr62 rfl rfl hL133 ?_
   intro w257 b257 hL257 hle257 _
   replace hf133_0 := hf133_0.mono (gz_mono hH hle257)
   replace hel131 := hel131.mono (gz_mono hH hle257)
   replace hp255 := hp255.mono (gz_mono hH hle257)
   replace e255h1 := e255h1.mono (gz_mono hH hle257)
   replace hT := hT.trans hle257
   refine S_storeBN 0 rfl rfl rfl zr62 hL257 rfl rfl (onc rfl (onc e255h1.one on0)) ?_
   intro w258 hL258 hle258
   replace hf133_0 := hf133_0.mono (gz_mono hH hle258)
   replace hel131 := hel131.mono (gz_mono hH hle258)
   replace hp255 := hp255.mono (gz_mono hH hle258)
   replace e255h1 := e255h1.mono (gz_mono hH hle258)
   replace hT := hT.trans hle258
   refine S_seqnil ?_
   have hG259 := hL258.rG H
   refine W_p 1 rfl ?_
   refine S_v (r_field rfl underlying62 rfl zr9 (by decide)) rfl ?_
   refine S_v (r_loadB1 0 rfl underlying9 rfl hL258 rfl rfl) rfl ?_
   refine S_v (r_lenS rfl underlying9) rfl ?_
   have hL260 : Lcl w0 (HAppend.hAppend ([.box ba1_c0 [vc129, vl131] 86, .row (vl131) 5 1 (l131).length (xsl131), .box b257 [.string ⟨((a0.2.getD s25_132.toNat default).1).toArray⟩, e255v1] 62, .box b1 [.int .i64 a0.1, va0_1] 25] : List Res) O) w258 := hL258.picks [1, 2] rfl
   have hle260 := fz_picks [1, 2] hL258 hL260 rfl
   replace hG259 := hG259.trans (gz_mono hH hle260)
   replace hT := hT.trans hle260
   obtain ⟨x261, hb261, h⟩ := Go.L.bind_some h
   refine S_callv rfl rfl rfl (words_Index_Bytes_1_fr (a0 := (((a0.2.getD s25_132.toNat default).1).length : Int)) (a1 := ((), l131)) (O := (HAppend.hAppend ([.box b257 [.string ⟨((a0.2.getD s25_132.toNat default).1).toArray⟩, e255v1] 62, .box b1 [.int .i64 a0.1, va0_1] 25] : List Res) O)) hH hL260 hf133_2 (hel131.mono hG259) hb261) ?_
   rintro _ w262 ⟨u262_0, u262_1, y262_1, rfl, hL262, hle262, hf262_0, hf262_1⟩
   replace hG259 := hG259.trans (gz_mono hH hle262)
   replace hT := hT.trans hle262
   refine S_seqnil ?_
   refine W_cut (σ := (List UInt8) × Value × Value × (List Value)) (fun ⟨l294, vc292, vl294, xsl294⟩ => [(1, .func (.func 36) #[] #[.pointer (some ⟨ba1_c0, 0, none⟩)]), (5, .pointer (some ⟨b257, 0, none⟩)), (23, va0_1), (24, .int .i64 (a0.2.length : Int)), (25, .int .i64 s25_132)]) (fun ⟨l294, vc292, vl294, xsl294⟩ wr => InO w0 (HAppend.hAppend ([.row (vl294) 5 1 (l294).length (xsl294), .box ba1_c0 [vc292, vl294] 86, .box b257 [.string ⟨((a0.2.getD s25_132.toNat default).1).toArray⟩, e255v1] 62, .box b1 [.int .i64 a0.1, va0_1] 25] : List Res) O) wr fun Oz => Vec (.pair .st (.vec (.pair (.int .i64) (.int .i64)))) (gz H w0 wr Oz) (va0_1) (a0.2) ∧ Elems .byte (gz H w0 wr Oz) (l294) (xsl294) ∧ BAd ba1_c0 (vc292) ∧ Vec (.pair (.int .i64) (.int .i64)) (gz H w0 wr Oz) (e255v1) ((a0.2.getD s25_132.toNat default).2) ∧ Le (fz w (HAppend.hAppend ([.box ba1_c0 [va1_c0_0, va1_c0_1] 86, .row (va1_c0_1) 5 1 (a1_c0.2).length (xsa1_c0_1)] : List Res) O)) (fz wr Oz) ∧ (words_Index_numbers_s2_k3 a0 s25_132) l294 = some e133) ?_ ?_
   ·refine W_seqr ?_
    refine S_v (r_field rfl underlying62 rfl zr9 (by decide)) rfl ?_
    refine S_v (r_loadB1 2 rfl underlying9 rfl hL262 rfl rfl) rfl ?_
    obtain ⟨hk298, h⟩ := Go.L.chk_some h
    refine S_s2b (H := H) rfl underlying9 underlying22 underlying5 rfl hL262 hk298 ?_
    intro v297 w297 hx297 hL297 hle297 hv297
    replace hf262_1 := hf262_1.mono (gz_mono hH hle297)
    replace hG259 := hG259.trans (gz_mono hH hle297)
    replace hT := hT.trans hle297
    refine S_v (r_len rfl underlying22 hv297) rfl ?_
    refine S_pz 1 rfl ?_
    refine W_block ?_
    have hL314 : Lcl w0 (HAppend.hAppend ([.row (u262_1) 5 1 (x261.2).length (y262_1), .box ba1_c0 [u262_0, u262_1] 86, .box b257 [.string ⟨((a0.2.getD s25_132.toNat default).1).toArray⟩, e255v1] 62, .box b1 [.int .i64 a0.1, va0_1] 25] : List Res) O) w297 := hL297.picks [1] rfl
    have hle314 := fz_picks [1] hL297 hL314 rfl
    replace hf262_1 := hf262_1.mono (gz_mono hH hle314)
    replace hv297 := hv297.mono (gz_mono hH hle314)
    replace hG259 := hG259.trans (gz_mono hH hle314)
    replace hT := hT.trans hle314
    obtain ⟨n313, h⟩ := Go.L.run_some h
    refine W_loop (σ := (List UInt8) × Int × Value × Value × (List Value) × Nat) (fun ⟨l311, s38_312, vc309, vl311, xsl311, n⟩ => [(1, .func (.func 36) #[] #[.pointer (some ⟨ba1_c0, 0, none⟩)]), (5, .pointer (some ⟨b257, 0, none⟩)), (23, va0_1), (24, .int .i64 (a0.2.length : Int)), (25, .int .i64 s25_132), (36, v297), (37, .int .i64 (((a0.2.getD s25_132.toNat default).1).length : Int)), (38, .int .i64 s38_312)]) (fun ⟨l311, s38_312, vc309, vl311, xsl311, n⟩ wr => InO w0 (HAppend.hAppend ([.row (vl311) 5 1 (l311).length (xsl311), .box ba1_c0 [vc309, vl311] 86, .box b257 [.string ⟨((a0.2.getD s25_132.toNat default).1).toArray⟩, e255v1] 62, .box b1 [.int .i64 a0.1, va0_1] 25] : List Res) O) wr fun Oz => Vec (.pair .st (.vec (.pair (.int .i64) (.int .i64)))) (gz H w0 wr Oz) (va0_1) (a0.2) ∧ Vec .byte (gz H w0 wr Oz) (v297) ((a0.2.getD s25_132.toNat default).1) ∧ Elems .byte (gz H w0 wr Oz) (l311) (xsl311) ∧ BAd ba1_c0 (vc309) ∧ Vec (.pair (.int .i64) (.int .i64)) (gz H w0 wr Oz) (e255v1) ((a0.2.getD s25_132.toNat default).2) ∧ Le (fz w (HAppend.hAppend ([.box ba1_c0 [va1_c0_0, va1_c0_1] 86, .row (va1_c0_1) 5 1 (a1_c0.2).length (xsa1_c0_1)] : List Res) O)) (fz wr Oz) ∧ Go.L.itr (words_Index_numbers_s2_bl4 a0 s25_132) n (l311, s38_312) = some e133) (fun ⟨l311, s38_312, vc309, vl311, xsl311, n⟩ => n) (x261.2, (0 : Int), u262_0, u262_1, y262_1, n313) (.cons rfl (.cons rfl (.cons rfl (.cons rfl (.cons rfl (.cons rfl (.cons rfl (.cons rfl (Sub.nil _))))))))) ⟨hL314, (hf133_0.mono hG259), hv297, hf262_1, hf262_0, (e255h1.mono hG259), hT, h⟩ ?_
    rintro ⟨l311, s38_312, vc309, vl311, xsl311, nn313⟩ wr313 ⟨hL313, hf313_0, hf313_1, hel311, hf313_3, hf313_4, hT, h⟩
    obtain ⟨n313, e313, rfl, h, hm313⟩ := Go.L.itr_some h
    have hG316 := hL313.rG H
    refine W_pz 1 rfl ?_
    refine W_seq ?_
    refine W_if rfl (fun hc317 => ?_) (fun hc317 => ?_)
    ·replace h := Go.L.ite_p hc317 h
     refine W_skip ?_
     refine At_seq ?_
     refine W_seq ?_
     refine W_block ?_
     refine W_seqr ?_
     obtain ⟨hk320, h⟩ := Go.L.chk_some h
     refine S_index rfl rfl underlying22 zr5 (hf313_1.mono hG316) s38_312.toNat (Int.toNat_of_nonneg hk320.1).symm (idx_lt hk320) rfl ?_
     rintro p319 _ rfl hp319
     refine S_v (r_load1 rfl underlying5 rfl hp319 (gz_le hH hL313)) rfl ?_
     refine S_pz 1 rfl ?_
     refine W_region ?_
     refine S_pu 2 rfl ?_
     refine S_v (r_conv underlying5 underlying3 rfl (conv_8_64 _)) rfl ?_
     obtain ⟨hk321, h⟩ := Go.L.chk_some h
     refine S_v (r_ar64 rfl rfl rfl hk321) rfl ?_
     have hL322 : Lcl w0 (HAppend.hAppend ([.box ba1_c0 [vc309, vl311] 86, .row (vl311) 5 1 (l311).length (xsl311), .box b257 [.string ⟨((a0.2.getD s25_132.toNat default).1).toArray⟩, e255v1] 62, .box b1 [.int .i64 a0.1, va0_1] 25] : List Res) O) wr313 := hL313.picks [1] rfl
     have hle322 := fz_picks [1] hL313 hL322 rfl
     replace hG316 := hG316.trans (gz_mono hH hle322)
     replace hT := hT.trans hle322
     obtain ⟨x323, hb323, h⟩ := Go.L.bind_some h
     refine S_callv rfl rfl rfl (words_Index_Bytes_1_fr (a0 := (((((a0.2.getD s25_132.toNat default).1).getD s38_312.toNat default).toNat : Int) + (1 : Int))) (a1 := ((), l311)) (O := (HAppend.hAppend ([.box b257 [.string ⟨((a0.2.getD s25_132.toNat default).1).toArray⟩, e255v1] 62, .box b1 [.int .i64 a0.1, va0_1] 25] : List Res) O)) hH hL322 hf313_3 (hel311.mono hG316) hb323) ?_
     rintro _ w324 ⟨u324_0, u324_1, y324_1, rfl, hL324, hle324, hf324_0, hf324_1⟩
     replace hG316 := hG316.trans (gz_mono hH hle324)
     replace hT := hT.trans hle324
     refine S_nil ?_
     refine At_block ?_
     refine At_seq ?_
     refine W_region ?_
     obtain ⟨hk325, h⟩ := Go.L.chk_some h
     refine S_v (r_ar64 rfl rfl rfl hk325) rfl ?_
     refine S_pu 1 rfl ?_
     refine S_nil ?_
     have hL326 : Lcl w0 (HAppend.hAppend ([.row (u324_1) 5 1 (x323.2).length (y324_1), .box ba1_c0 [u324_0, u324_1] 86, .box b257 [.string ⟨((a0.2.getD s25_132.toNat default).1).toArray⟩, e255v1] 62, .box b1 [.int .i64 a0.1, va0_1] 25] : List Res) O) w324 := hL324.picks [1] rfl
     have hle326 := fz_picks [1] hL324 hL326 rfl
     replace hf324_1 := hf324_1.mono (gz_mono hH hle326)
     replace hG316 := hG316.trans (gz_mono hH hle326)
     replace hT := hT.trans hle326
     have h := Go.L.Nxt.again h hm313
     refine At_round (x323.2, (s38_312 + (1 : Int)), u324_0, u324_1, y324_1, n313) (.cons rfl (.cons rfl (.cons rfl (.cons rfl (.cons rfl (.cons rfl (.cons rfl (.cons rfl (Sub.nil _))))))))) ⟨hL326, (hf313_0.mono hG316), (hf313_1.mono hG316), hf324_1, hf324_0, (hf313_4.mono hG316), hT, h⟩ (Nat.lt_succ_self _)
    ·replace h := Go.L.ite_n hc317 h
     refine W_exit ?_
     refine At_seq_exit ?_
     refine At_loop_exit ?_
     replace h := Go.L.Nxt.out h hm313
     refine At_exit ?_
     refine At_cut (l311, vc309, vl311, xsl311) (.cons rfl (.cons rfl (.cons rfl (.cons rfl (.cons rfl (Sub.nil _)))))) ⟨hL313, (hf313_0.mono hG316), (hel311.mono hG316), hf313_3, (hf313_4.mono hG316), hT, h⟩
   ·rintro ⟨l294, vc292, vl294, xsl294⟩ wr295 ⟨hL295, hf295_0, hel294, hf295_2, hf295_3, hT, h⟩
    have hG329 := hL295.rG H
    refine W_p 1 rfl ?_
    refine S_v (r_field rfl underlying62 rfl zr40 (by decide)) rfl ?_
    refine S_v (r_loadB1 2 rfl underlying40 rfl hL295 rfl rfl) rfl ?_
    refine S_v (r_len rfl underlying40 (hf295_3.mono hG329)) rfl ?_
    have hL330 : Lcl w0 (HAppend.hAppend ([.box ba1_c0 [vc292, vl294] 86, .row (vl294) 5 1 (l294).length (xsl294), .box b257 [.string ⟨((a0.2.getD s25_132.toNat default).1).toArray⟩, e255v1] 62, .box b1 [.int .i64 a0.1, va0_1] 25] : List Res) O) wr295 := hL295.picks [1] rfl
    have hle330 := fz_picks [1] hL295 hL330 rfl
    replace hG329 := hG329.trans (gz_mono hH hle330)
    replace hT := hT.trans hle330
    obtain ⟨x331, hb331, h⟩ := Go.L.bind_some h
    refine S_callv rfl rfl rfl (words_Index_Bytes_1_fr (a0 := (((a0.2.getD s25_132.toNat default).2).length : Int)) (a1 := ((), l294)) (O := (HAppend.hAppend ([.box b257 [.string ⟨((a0.2.getD s25_132.toNat default).1).toArray⟩, e255v1] 62, .box b1 [.int .i64 a0.1, va0_1] 25] : List Res) O)) hH hL330 hf295_2 (hel294.mono hG329) hb331) ?_
    rintro _ w332 ⟨u332_0, u332_1, y332_1, rfl, hL332, hle332, hf332_0, hf332_1⟩
    replace hG329 := hG329.trans (gz_mono hH hle332)
    replace hT := hT.trans hle332
    refine S_seqnil ?_
    refine W_seqr ?_
    refine S_v (r_build rfl (fun _ => bld64_1 _ _)) rfl ?_
    refine S_alloc zr64 rfl rfl hL332 ?_
    intro w333 b333 hL333 hle333 _
    replace hf332_1 := hf332_1.mono (gz_mono hH hle333)
    replace hG329 := hG329.trans (gz_mono hH hle333)
    replace hT := hT.trans hle333
    refine S_storeBN 0 rfl rfl rfl zr64 hL333 rfl rfl (onc rfl (onc rfl on0)) ?_
    intro w334 hL334 hle334
    replace hf332_1 := hf332_1.mono (gz_mono hH hle334)
    replace hG329 := hG329.trans (gz_mono hH hle334)
    replace hT := hT.trans hle334
    refine S_seqnil ?_
    refine W_seqr ?_
    refine S_v (r_field rfl underlying62 rfl zr40 (by decide)) rfl ?_
    refine S_v (r_loadB1 3 rfl underlying40 rfl hL334 rfl rfl) rfl ?_
    refine S_v (r_len rfl underlying40 (hf295_3.mono hG329)) rfl ?_
    refine S_pz 1 rfl ?_
    refine W_block ?_
    have hL371 : Lcl w0 (HAppend.hAppend ([.row (u332_1) 5 1 (x331.2).length (y332_1), .box b333 [.int .i64 (0 : Int), .int .i64 (-1 : Int)] 64, .box ba1_c0 [u332_0, u332_1] 86, .box b257 [.string ⟨((a0.2.getD s25_132.toNat default).1).toArray⟩, e255v1] 62, .box b1 [.int .i64 a0.1, va0_1] 25] : List Res) O) w334 := hL334.picks [2] rfl
    have hle371 := fz_picks [2] hL334 hL371 rfl
    replace hf332_1 := hf332_1.mono (gz_mono hH hle371)
    replace hG329 := hG329.trans (gz_mono hH hle371)
    replace hT := hT.trans hle371
    obtain ⟨n370, h⟩ := Go.L.run_some h
    refine W_loop (σ := Int × Int × (List UInt8) × Int × Value × Value × (List Value) × Nat) (fun ⟨c364, c365, l368, s57_369, vc366, vl368, xsl368, n⟩ => [(1, .func (.func 36) #[] #[.pointer (some ⟨ba1_c0, 0, none⟩)]), (8, .pointer (some ⟨b333, 0, none⟩)), (23, va0_1), (24, .int .i64 (a0.2.length : Int)), (25, .int .i64 s25_132), (55, e255v1), (56, .int .i64 (((a0.2.getD s25_132.toNat default).2).length : Int)), (57, .int .i64 s57_369)]) (fun ⟨c364, c365, l368, s57_369, vc366, vl368, xsl368, n⟩ wr => InO w0 (HAppend.hAppend ([.row (vl368) 5 1 (l368).length (xsl368), .box b333 [.int .i64 c364, .int .i64 c365] 64, .box ba1_c0 [vc366, vl368] 86, .box b257 [.string ⟨((a0.2.getD s25_132.toNat default).1).toArray⟩, e255v1] 62, .box b1 [.int .i64 a0.1, va0_1] 25] : List Res) O) wr fun Oz => Vec (.pair .st (.vec (.pair (.int .i64) (.int .i64)))) (gz H w0 wr Oz) (va0_1) (a0.2) ∧ Vec (.pair (.int .i64) (.int .i64)) (gz H w0 wr Oz) (e255v1) ((a0.2.getD s25_132.toNat default).2) ∧ Elems .byte (gz H w0 wr Oz) (l368) (xsl368) ∧ BAd ba1_c0 (vc366) ∧ Le (fz w (HAppend.hAppend ([.box ba1_c0 [va1_c0_0, va1_c0_1] 86, .row (va1_c0_1) 5 1 (a1_c0.2).length (xsa1_c0_1)] : List Res) O)) (fz wr Oz) ∧ Go.L.itr (words_Index_numbers_s2_bl5 a0 s25_132) n (c364, c365, l368, s57_369) = some e133) (fun ⟨c364, c365, l368, s57_369, vc366, vl368, xsl368, n⟩ => n) ((0 : Int), (-1 : Int), x331.2, (0 : Int), u332_0, u332_1, y332_1, n370) (.cons rfl (.cons rfl (.cons rfl (.cons rfl (.cons rfl (.cons rfl (.cons rfl (.cons rfl (Sub.nil _))))))))) ⟨hL371, (hf295_0.mono hG329), (hf295_3.mono hG329), hf332_1, hf332_0, hT, h⟩ ?_
    rintro ⟨c364, c365, l368, s57_369, vc366, vl368, xsl368, nn370⟩ wr370 ⟨hL370, hf370_0, hf370_1, hel368, hf370_3, hT, h⟩
    obtain ⟨n370, e370, rfl, h, hm370⟩ := Go.L.itr_some h
    have hG373 := hL370.rG H
    refine W_pz 1 rfl ?_
    refine W_seq ?_
    refine W_if rfl (fun hc374 => ?_) (fun hc374 => ?_)
    ·replace h := Go.L.ite_p hc374 h
     refine W_skip ?_
     refine At_seq ?_
     refine W_seq ?_
     refine W_block ?_
     refine W_seqr ?_
     obtain ⟨hk377, h⟩ := Go.L.chk_some h
     refine S_index rfl rfl underlying40 zr64 (hf370_1.mono hG373) s57_369.toNat (Int.toNat_of_nonneg hk377.1).symm (idx_lt hk377) rfl ?_
     rintro p376 _ ⟨_, _, rfl, rfl, rfl⟩ hp376
     refine S_v (r_loadN rfl underlying64 rfl zr64 hp376 (gz_le hH hL370)) rfl ?_
     refine S_alloc zr64 rfl rfl hL370 ?_
     intro w378 b378 hL378 hle378 _
     replace hp376 := hp376.mono (gz_mono hH hle378)
     replace hG373 := hG373.trans (gz_mono hH hle378)
     replace hT := hT.trans hle378
     refine S_storeBN 0 rfl rfl rfl zr64 hL378 rfl rfl (onc rfl (onc rfl on0)) ?_
     intro w379 hL379 hle379
     replace hp376 := hp376.mono (gz_mono hH hle379)
     replace hG373 := hG373.trans (gz_mono hH hle379)
     replace hT := hT.trans hle379
     refine S_seqnil ?_
     refine W_seq ?_
     refine W_seqr ?_
     refine S_v (r_field rfl underlying64 rfl zr3 (by decide)) rfl ?_
     refine S_v (r_loadB1 0 rfl underlying3 rfl hL379 rfl rfl) rfl ?_
     refine S_v (r_field rfl underlying64 rfl zr3 (by decide)) rfl ?_
     refine S_v (r_loadB1 2 rfl underlying3 rfl hL379 rfl rfl) rfl ?_
     refine S_pz 1 rfl ?_
     refine W_ifn rfl (fun hc380 => ?_) (fun hc380 => ?_)
     ·replace h := Go.L.ite_n hc380 h
      refine W_p 1 rfl ?_
      refine S_v (r_field rfl underlying64 rfl zr3 (by decide)) rfl ?_
      refine S_v (r_loadB1 0 rfl underlying3 rfl hL379 rfl rfl) rfl ?_
      obtain ⟨hk382, h⟩ := Go.L.chk_some h
      refine S_v (r_ar64 rfl rfl rfl hk382) rfl ?_
      refine S_v (r_field rfl underlying64 rfl zr3 (by decide)) rfl ?_
      refine S_v (r_loadB1 2 rfl underlying3 rfl hL379 rfl rfl) rfl ?_
      obtain ⟨hk383, h⟩ := Go.L.chk_some h
      refine S_v (r_ar64 rfl rfl rfl hk383) rfl ?_
      have hL384 : Lcl w0 (HAppend.hAppend ([.box ba1_c0 [vc366, vl368] 86, .row (vl368) 5 1 (l368).length (xsl368), .box b378 [.int .i64 ((((a0.2.getD s25_132.toNat default).2).getD s57_369.toNat default).1), .int .i64 ((((a0.2.getD s25_132.toNat default).2).getD s57_369.toNat default).2)] 64, .box b333 [.int .i64 c364, .int .i64 c365] 64, .box b257 [.string ⟨((a0.2.getD s25_132.toNat default).1).toArray⟩, e255v1] 62, .box b1 [.int .i64 a0.1, va0_1] 25] : List Res) O) w379 := hL379.picks [1, 3] rfl
      have hle384 := fz_picks [1, 3] hL379 hL384 rfl
      replace hG373 := hG373.trans (gz_mono hH hle384)
      replace hT := hT.trans hle384
      obtain ⟨x385, hb385, h⟩ := Go.L.bind_some h
      refine S_callv rfl rfl rfl (words_Index_Bytes_1_fr (a0 := (((1 : Int) + (((a0.2.getD s25_132.toNat default).2).getD s57_369.toNat default).1) - c364)) (a1 := ((), l368)) (O := (HAppend.hAppend ([.box b378 [.int .i64 ((((a0.2.getD s25_132.toNat default).2).getD s57_369.toNat default).1), .int .i64 ((((a0.2.getD s25_132.toNat default).2).getD s57_369.toNat default).2)] 64, .box b333 [.int .i64 c364, .int .i64 c365] 64, .box b257 [.string ⟨((a0.2.getD s25_132.toNat default).1).toArray⟩, e255v1] 62, .box b1 [.int .i64 a0.1, va0_1] 25] : List Res) O)) hH hL384 hf370_3 (hel368.mono hG373) hb385) ?_
      rintro _ w386 ⟨u386_0, u386_1, y386_1, rfl, hL386, hle386, hf386_0, hf386_1⟩
      replace hG373 := hG373.trans (gz_mono hH hle386)
      replace hT := hT.trans hle386
      refine S_seqnil ?_
      refine W_region ?_
      refine S_pu 1 rfl ?_
      refine S_v (r_field rfl underlying64 rfl zr3 (by decide)) rfl ?_
      refine S_v (r_loadB1 2 rfl underlying3 rfl hL386 rfl rfl) rfl ?_
      obtain ⟨hk387, h⟩ := Go.L.chk_some h
      refine S_v (r_ar64 rfl rfl rfl hk387) rfl ?_
      obtain ⟨x388, hb388, h⟩ := Go.L.bind_some h
      refine S_callv rfl rfl rfl (words_Index_Bytes_1_fr (a0 := ((((a0.2.getD s25_132.toNat default).2).getD s57_369.toNat default).2 + (1 : Int))) (a1 := ((), x385.2)) (O := (HAppend.hAppend ([.box b378 [.int .i64 ((((a0.2.getD s25_132.toNat default).2).getD s57_369.toNat default).1), .int .i64 ((((a0.2.getD s25_132.toNat default).2).getD s57_369.toNat default).2)] 64, .box b333 [.int .i64 c364, .int .i64 c365] 64, .box b257 [.string ⟨((a0.2.getD s25_132.toNat default).1).toArray⟩, e255v1] 62, .box b1 [.int .i64 a0.1, va0_1] 25] : List Res) O)) hH hL386 hf386_0 hf386_1 hb388) ?_
      rintro _ w389 ⟨u389_0, u389_1, y389_1, rfl, hL389, hle389, hf389_0, hf389_1⟩
      replace hG373 := hG373.trans (gz_mono hH hle389)
      replace hT := hT.trans hle389
      refine S_nil ?_
      refine At_seq ?_
      refine W_region ?_
      refine S_v (r_loadBN 2 rfl underlying64 rfl zr64 hL389 rfl) rfl ?_
      refine S_storeBN 3 rfl rfl rfl zr64 hL389 rfl rfl (onc rfl (onc rfl on0)) ?_
      intro w390 hL390 hle390
      replace hf389_1 := hf389_1.mono (gz_mono hH hle390)
      replace hG373 := hG373.trans (gz_mono hH hle390)
      replace hT := hT.trans hle390
      refine S_nil ?_
      refine At_block ?_
      refine At_seq ?_
      refine W_region ?_
      obtain ⟨hk391, h⟩ := Go.L.chk_some h
      refine S_v (r_ar64 rfl rfl rfl hk391) rfl ?_
      refine S_pu 1 rfl ?_
      refine S_nil ?_
      have hL392 := hL390.dropAt (i := 2) rfl
      replace hf389_1 := hf389_1.mono (gz_mono hH (fz_dropAt (i := 2) rfl))
      replace hG373 := hG373.trans (gz_mono hH (fz_dropAt (i := 2) rfl))
      replace hT := hT.trans (fz_dropAt (i := 2) rfl)
      have hL393 : Lcl w0 (HAppend.hAppend ([.row (u389_1) 5 1 (x388.2).length (y389_1), .box b333 [.int .i64 ((((a0.2.getD s25_132.toNat default).2).getD s57_369.toNat default).1), .int .i64 ((((a0.2.getD s25_132.toNat default).2).getD s57_369.toNat default).2)] 64, .box ba1_c0 [u389_0, u389_1] 86, .box b257 [.string ⟨((a0.2.getD s25_132.toNat default).1).toArray⟩, e255v1] 62, .box b1 [.int .i64 a0.1, va0_1] 25] : List Res) O) w390 := hL392.picks [2, 2] rfl
      have hle393 := fz_picks [2, 2] hL392 hL393 rfl
      replace hf389_1 := hf389_1.mono (gz_mono hH hle393)
      replace hG373 := hG373.trans (gz_mono hH hle393)
      replace hT := hT.trans hle393
      have h := Go.L.Nxt.again h hm370
      refine At_round ((((a0.2.getD s25_132.toNat default).2).getD s57_369.toNat default).1, (((a0.2.getD s25_132.toNat default).2).getD s57_369.toNat default).2, x388.2, (s57_369 + (1 : Int)), u389_0, u389_1, y389_1, n370) (.cons rfl (.cons rfl (.cons rfl (.cons rfl (.cons rfl (.cons rfl (.cons rfl (.cons rfl (Sub.nil _))))))))) ⟨hL393, (hf370_0.mono hG373), (hf370_1.mono hG373), hf389_1, hf389_0, hT, h⟩ (Nat.lt_succ_self _)
     ·replace h := Go.L.ite_p hc380 h
      refine W_p 1 rfl ?_
      have hL395 : Lcl w0 (HAppend.hAppend ([.box ba1_c0 [vc366, vl368] 86, .row (vl368) 5 1 (l368).length (xsl368), .box b378 [.int .i64 ((((a0.2.getD s25_132.toNat default).2).getD s57_369.toNat default).1), .int .i64 ((((a0.2.getD s25_132.toNat default).2).getD s57_369.toNat default).2)] 64, .box b333 [.int .i64 c364, .int .i64 c365] 64, .box b257 [.string ⟨((a0.2.getD s25_132.toNat default).1).toArray⟩, e255v1] 62, .box b1 [.int .i64 a0.1, va0_1] 25] : List Res) O) w379 := hL379.picks [1, 3] rfl
      have hle395 := fz_picks [1, 3] hL379 hL395 rfl
      replace hG373 := hG373.trans (gz_mono hH hle395)
      replace hT := hT.trans hle395
      obtain ⟨x396, hb396, h⟩ := Go.L.bind_some h
      refine S_callv rfl rfl rfl (words_Index_Bytes_1_fr (a0 := (1 : Int)) (a1 := ((), l368)) (O := (HAppend.hAppend ([.box b378 [.int .i64 ((((a0.2.getD s25_132.toNat default).2).getD s57_369.toNat default).1), .int .i64 ((((a0.2.getD s25_132.toNat default).2).getD s57_369.toNat default).2)] 64, .box b333 [.int .i64 c364, .int .i64 c365] 64, .box b257 [.string ⟨((a0.2.getD s25_132.toNat default).1).toArray⟩, e255v1] 62, .box b1 [.int .i64 a0.1, va0_1] 25] : List Res) O)) hH hL395 hf370_3 (hel368.mono hG373) hb396) ?_
      rintro _ w397 ⟨u397_0, u397_1, y397_1, rfl, hL397, hle397, hf397_0, hf397_1⟩
      replace hG373 := hG373.trans (gz_mono hH hle397)
      replace hT := hT.trans hle397
      refine S_seqnil ?_
      refine W_region ?_
      refine S_pu 1 rfl ?_
      refine S_v (r_field rfl underlying64 rfl zr3 (by decide)) rfl ?_
      refine S_v (r_loadB1 2 rfl underlying3 rfl hL397 rfl rfl) rfl ?_
      refine S_v (r_field rfl underlying64 rfl zr3 (by decide)) rfl ?_
      refine S_v (r_loadB1 3 rfl underlying3 rfl hL397 rfl rfl) rfl ?_
      obtain ⟨hk398, h⟩ := Go.L.chk_some h
      refine S_v (r_ar64 rfl rfl rfl hk398) rfl ?_
      obtain ⟨x399, hb399, h⟩ := Go.L.bind_some h
      refine S_callv rfl rfl rfl (words_Index_Bytes_1_fr (a0 := ((((a0.2.getD s25_132.toNat default).2).getD s57_369.toNat default).2 - c365)) (a1 := ((), x396.2)) (O := (HAppend.hAppend ([.box b378 [.int .i64 ((((a0.2.getD s25_132.toNat default).2).getD s57_369.toNat default).1), .int .i64 ((((a0.2.getD s25_132.toNat default).2).getD s57_369.toNat default).2)] 64, .box b333 [.int .i64 c364, .int .i64 c365] 64, .box b257 [.string ⟨((a0.2.getD s25_132.toNat default).1).toArray⟩, e255v1] 62, .box b1 [.int .i64 a0.1, va0_1] 25] : List Res) O)) hH hL397 hf397_0 hf397_1 hb399) ?_
      rintro _ w400 ⟨u400_0, u400_1, y400_1, rfl, hL400, hle400, hf400_0, hf400_1⟩
      replace hG373 := hG373.trans (gz_mono hH hle400)
      replace hT := hT.trans hle400
      refine S_nil ?_
      refine At_seq ?_
      refine W_region ?_
      refine S_v (r_loadBN 2 rfl underlying64 rfl zr64 hL400 rfl) rfl ?_
      refine S_storeBN 3 rfl rfl rfl zr64 hL400 rfl rfl (onc rfl (onc rfl on0)) ?_
      intro w401 hL401 hle401
      replace hf400_1 := hf400_1.mono (gz_mono hH hle401)
      replace hG373 := hG373.trans (gz_mono hH hle401)
      replace hT := hT.trans hle401
      refine S_nil ?_
      refine At_block ?_
      refine At_seq ?_
      refine W_region ?_
      obtain ⟨hk402, h⟩ := Go.L.chk_some h
      refine S_v (r_ar64 rfl rfl rfl hk402) rfl ?_
      refine S_pu 1 rfl ?_
      refine S_nil ?_
      have hL403 := hL401.dropAt (i := 2) rfl
      replace hf400_1 := hf400_1.mono (gz_mono hH (fz_dropAt (i := 2) rfl))
      replace hG373 := hG373.trans (gz_mono hH (fz_dropAt (i := 2) rfl))
      replace hT := hT.trans (fz_dropAt (i := 2) rfl)
      have hL404 : Lcl w0 (HAppend.hAppend ([.row (u400_1) 5 1 (x399.2).length (y400_1), .box b333 [.int .i64 ((((a0.2.getD s25_132.toNat default).2).getD s57_369.toNat default).1), .int .i64 ((((a0.2.getD s25_132.toNat default).2).getD s57_369.toNat default).2)] 64, .box ba1_c0 [u400_0, u400_1] 86, .box b257 [.string ⟨((a0.2.getD s25_132.toNat default).1).toArray⟩, e255v1] 62, .box b1 [.int .i64 a0.1, va0_1] 25] : List Res) O) w401 := hL403.picks [2, 2] rfl
      have hle404 := fz_picks [2, 2] hL403 hL404 rfl
      replace hf400_1 := hf400_1.mono (gz_mono hH hle404)
      replace hG373 := hG373.trans (gz_mono hH hle404)
      replace hT := hT.trans hle404
      have h := Go.L.Nxt.again h hm370
      refine At_round ((((a0.2.getD s25_132.toNat default).2).getD s57_369.toNat default).1, (((a0.2.getD s25_132.toNat default).2).getD s57_369.toNat default).2, x399.2, (s57_369 + (1 : Int)), u400_0, u400_1, y400_1, n370) (.cons rfl (.cons rfl (.cons rfl (.cons rfl (.cons rfl (.cons rfl (.cons rfl (.cons rfl (Sub.nil _))))))))) ⟨hL404, (hf370_0.mono hG373), (hf370_1.mono hG373), hf400_1, hf400_0, hT, h⟩ (Nat.lt_succ_self _)
    ·replace h := Go.L.ite_n hc374 h
     refine W_exit ?_
     refine At_seq_exit ?_
     refine At_loop_exit ?_
     replace h := Go.L.Nxt.out h hm370
     refine At_exit ?_
     refine At_block ?_
     have hL406 := hL370.dropAt (i := 1) rfl
     replace hG373 := hG373.trans (gz_mono hH (fz_dropAt (i := 1) rfl))
     replace hT := hT.trans (fz_dropAt (i := 1) rfl)
     have hL407 := hL406.dropAt (i := 2) rfl
     replace hG373 := hG373.trans (gz_mono hH (fz_dropAt (i := 2) rfl))
     replace hT := hT.trans (fz_dropAt (i := 2) rfl)
     refine At_cut (l368, vc366, vl368, xsl368) (.cons rfl (.cons rfl (.cons rfl (.cons rfl (Sub.nil _))))) ⟨hL407, (hf370_0.mono hG373), (hel368.mono hG373), hf370_3, hT, h⟩
  ·rintro ⟨l252, vc250, vl252, xsl252⟩ wr253 ⟨hL253, hf253_0, hel252, hf253_2, hT, h⟩
   refine W_region ?_
   obtain ⟨hk409, h⟩ := Go.L.chk_some h
   refine S_v (r_ar64 rfl rfl rfl hk409) rfl ?_
   refine S_pu 1 rfl ?_
   refine S_nil ?_
   have h := Go.L.Nxt.again h hm133
   refine At_round (l252, (s25_132 + (1 : Int)), vc250, vl252, xsl252, n133) (.cons rfl (.cons rfl (.cons rfl (.cons rfl (Sub.nil _))))) ⟨hL253, hf253_0, hel252, hf253_2, hT, h⟩ (Nat.lt_succ_self _)
 ·replace h := Go.L.ite_n hc136 h
  refine W_exit ?_
  refine At_seq_exit ?_
  refine At_loop_exit ?_
  replace h := Go.L.Nxt.out h hm133
  refine At_exit ?_
  obtain rfl := Option.some.inj h
  refine At_got0e rfl ?_
  have hL411 := hL133.dropAt (i := 2) rfl
  replace hf133_0 := hf133_0.mono (gz_mono hH (fz_dropAt (i := 2) rfl))
  replace hel131 := hel131.mono (gz_mono hH (fz_dropAt (i := 2) rfl))
  replace hT := hT.trans (fz_dropAt (i := 2) rfl)
  have hL412 : Lcl w0 (HAppend.hAppend ([.box ba1_c0 [vc129, vl131] 86, .row (vl131) 5 1 (l131).length (xsl131)] : List Res) O) wr133 := hL411.picks [1] rfl
  have hle412 := fz_picks [1] hL411 hL412 rfl
  replace hf133_0 := hf133_0.mono (gz_mono hH hle412)
  replace hel131 := hel131.mono (gz_mono hH hle412)
  replace hT := hT.trans hle412
  exact ⟨vc129, vl131, xsl131, rfl, hL412, hT, hf133_2, hel131⟩

noncomputable def words_Index_Bytes (a0 : Int × (List ((List UInt8) × (List (Int × Int))))) : Option ((List UInt8)) :=
 Option.bind (words_Index_numbers_s2 (a0.1, a0.2) ((), ([] : List UInt8))) (fun x5 => Go.L.chk (x5.2 ≠ []) (Option.bind (bits_Make x5.2) (fun x9 => some (x9.1.1))))

theorem words_Index_Bytes_ok (w : World) (H : PH) (hH : Le H (hp w)) {a0 : Int × (List ((List UInt8) × (List (Int × Int))))} {v0_0 : Value} (h0_0 : Vec (.pair .st (.vec (.pair (.int .i64) (.int .i64)))) H v0_0 (a0.2)) {r : (List UInt8)} (h : words_Index_Bytes a0 = some r) :
  Ok Tryz.prog 12 [.agg #[.int .i64 a0.1, v0_0]] w (fun v w' => Ext w w' ∧ ∃ u0, v = u0 ∧ Vec .byte (un H (nw w w')) u0 (r)) := by
 refine Ok_enter (n := 16) [(0, .agg #[.int .i64 a0.1, v0_0])] func12 rfl rfl rfl rfl rfl ?_
 have hL := Lcl.start w
 refine W_seqr ?_
 refine S_box (t := 25) rfl rfl rfl hL ?_
 intro w1 b1 hL1 hle1 _
 refine S_pz 1 rfl ?_
 refine W_seqr ?_
 refine S_alloc zr86 rfl rfl hL1 ?_
 intro w2 b2 hL2 hle2 _
 refine S_seqnil ?_
 refine W_seqr ?_
 refine S_v (r_loadBN 1 rfl underlying25 rfl zr25 hL2 rfl) rfl ?_
 refine S_pu 1 rfl ?_
 obtain ⟨hL3, hle3, he3⟩ := row_nilE .byte H 5 hL2
 have hL4 : Lcl w [.box b2 [.pointer none, .slice none 0 0] 86, .row (.slice none 0 0) 5 1 (([] : List UInt8)).length ([]), .box b1 [.int .i64 a0.1, v0_0] 25] w2 := hL3.picks [1] rfl
 have hle4 := fz_picks [1] hL3 hL4 rfl
 replace he3 := he3.mono (gz_mono hH hle4)
 obtain ⟨x5, hb5, h⟩ := Go.L.bind_some h
 refine S_call rfl rfl (words_Index_numbers_s2_fr (a0 := (a0.1, a0.2)) (a1_c0 := ((), ([] : List UInt8))) (O := [.box b1 [.int .i64 a0.1, v0_0] 25]) hH hL4 (h0_0.mono (gz_left hH)) (Or.inl rfl) he3 hb5) ?_
 rintro _ w6 ⟨u6_0, u6_1, y6_1, rfl, hL6, hle6, hf6_0, hf6_1⟩
 refine S_seqnil ?_
 refine W_seqr ?_
 obtain ⟨hk8, h⟩ := Go.L.chk_some h
 refine S_call rfl rfl (bstr_fr (O := [.box b1 [.int .i64 a0.1, v0_0] 25]) hH hL6 hf6_1 hk8) ?_
 rintro _ w7 ⟨rfl, hL7, hle7⟩
 obtain ⟨x9, hb9, h⟩ := Go.L.bind_some h
 refine S_callL rfl rfl hL7 (bits_Make_ok _ _ (gz_le hH hL7) hb9) ?_
 rintro _ w10 ⟨u10_0, rfl, hR10_0⟩ hx10 hL10 hle10
 have hv10_0 := hR10_0.vecG hH hL7 hx10
 refine S_pu 3 rfl ?_
 refine S_alloc zr56 rfl rfl hL10 ?_
 intro w11 b11 hL11 hle11 _
 replace hv10_0 := hv10_0.mono (gz_mono hH hle11)
 refine S_alloc zr27 rfl rfl hL11 ?_
 intro w12 b12 hL12 hle12 _
 replace hv10_0 := hv10_0.mono (gz_mono hH hle12)
 refine S_storeBN 1 rfl rfl rfl zr56 hL12 rfl rfl (onc hv10_0.one (onc rfl on0)) ?_
 intro w13 hL13 hle13
 replace hv10_0 := hv10_0.mono (gz_mono hH hle13)
 refine S_storeBN 0 rfl rfl rfl zr27 hL13 rfl rfl (onc rfl (onc rfl on0)) ?_
 intro w14 hL14 hle14
 replace hv10_0 := hv10_0.mono (gz_mono hH hle14)
 refine S_seqnil ?_
 refine W_seqr ?_
 refine S_v (r_field rfl underlying56 rfl zr22 (by decide)) rfl ?_
 refine S_v (r_loadB1 1 rfl underlying22 rfl hL14 rfl rfl) rfl ?_
 refine S_pz 1 rfl ?_
 refine W_ret ?_
 obtain rfl := Option.some.inj h
 refine At_body rfl rfl ?_
 exact ⟨hL14.ext, _, rfl, (hv10_0.mono (gz_res hH))⟩

noncomputable def words_reader_number_k1 (a0 : ((List UInt8) × Int) × Int) (x3 : Int × Int × (Int × Int)) : Option (Option (Int × (((List UInt8) × Int) × Int))) :=
 some (some (x3.1, ((a0.1.1, a0.1.2), x3.2.1)))
noncomputable def words_reader_number (a0 : ((List UInt8) × Int) × Int) (a1 : Int) : Option (Option (Int × (((List UInt8) × Int) × Int))) :=
 Option.bind (bits_ReadGamma (a0.1.1, a0.1.2) a0.2) (fun x3 => if (bif !decide (x3.2.2.1 = (0 : Int) ∧ x3.2.2.2 = (0 : Int)) then true else decide (a1 < x3.1)) then some none else (words_reader_number_k1 a0 x3))

theorem words_reader_number_fr {w0 w : World} {H : PH} (hH : Le H (hp w0)) {O : List Res} {a0 : ((List UInt8) × Int) × Int} {a1 : Int} {ba0 : Nat} {va0_0 : Value} (hL : Lcl w0 (HAppend.hAppend ([.box ba0 [va0_0, .int .i64 a0.1.2, .int .i64 a0.2] 58] : List Res) O) w) (ha0_0 : Vec .byte (gz H w0 w (HAppend.hAppend ([.box ba0 [va0_0, .int .i64 a0.1.2, .int .i64 a0.2] 58] : List Res) O)) va0_0 (a0.1.1)) {r : Option (Int × (((List UInt8) × Int) × Int))} (h : words_reader_number a0 a1 = some r) :
  OkX Tryz.prog 46 [.pointer (some ⟨ba0, 0, none⟩), .int .i64 a1] w (.iface 66 (.agg #[])) (fun v w' => XPo r v (fun r v => ∃ (u1 : Value), v = .int .i64 r.1 ∧ Lcl w0 (HAppend.hAppend ([.box ba0 [u1, .int .i64 r.2.1.2, .int .i64 r.2.2] 58] : List Res) O) w' ∧ Le (fz w (HAppend.hAppend ([.box ba0 [va0_0, .int .i64 a0.1.2, .int .i64 a0.2] 58] : List Res) O)) (fz w' (HAppend.hAppend ([.box ba0 [u1, .int .i64 r.2.1.2, .int .i64 r.2.2] 58] : List Res) O)) ∧ Vec .byte (gz H w0 w' (HAppend.hAppend ([.box ba0 [u1, .int .i64 r.2.1.2, .int .i64 r.2.2] 58] : List Res) O)) u1 (r.2.1.1)) (Lcl w0 O w' ∧ Le (fz w (HAppend.hAppend ([.box ba0 [va0_0, .int .i64 a0.1.2, .int .i64 a0.2] 58] : List Res) O)) (fz w' O))) := by
 refine OkX_enter (n := 36) [(0, .pointer (some ⟨ba0, 0, none⟩)), (1, .int .i64 a1)] func46 rfl rfl rfl rfl rfl ?_
 have hT := Le.refl (fz w (HAppend.hAppend ([.box ba0 [va0_0, .int .i64 a0.1.2, .int .i64 a0.2] 58] : List Res) O))
 refine W_pz 1 rfl ?_
 refine W_seqd (.q 0 (.q 1 (.q 2 (.q 3 (.q 4 (.q 5 (.q 6 (.q 7 (.q 8 (.q 9 (.q 10 (.q 11 (.q 12 (.h 13 (.q 14 (.q 15 (.tail 16))))))))))))))))) mixed (by kernel_rfl) (fun w1 hx1 => ?_)
 have hL2 := hL.call hx1
 have hle2 := fz_ext hL hx1
 replace ha0_0 := ha0_0.mono (gz_mono hH hle2)
 replace hT := hT.trans hle2
 refine D_pu 1 rfl ?_
 refine D_v (r_nilChk rfl) rfl rfl ?_
 refine D_v (r_field rfl underlying58 rfl zr56 (by decide)) rfl rfl ?_
 refine D_v (r_loadBP 0 2 rfl underlying56 rfl zr56 hL2 rfl rfl) rfl rfl ?_
 refine D_pu 1 rfl ?_
 refine D_v (r_nilChk rfl) rfl rfl ?_
 refine D_v (r_field rfl underlying58 rfl zr3 (by decide)) rfl rfl ?_
 refine D_v (r_loadB1 0 rfl underlying3 rfl hL2 rfl rfl) rfl rfl ?_
 obtain ⟨x3, hb3, h⟩ := Go.L.bind_some h
 have hok4 := (fun (w4 : World) (hx4 : Ext _ w4) => bits_ReadGamma_ok w4 _ (Le.refl _) ((ha0_0.mono (gz_le hH hL2)).mono hx4.le) hb3)
 refine D_call rfl rfl rfl hok4 ?_
 refine D_pu 4 rfl ?_
 refine D_alloc rfl zr27 rfl rfl hL2 ?_
 intro w5 b5 hL5 hle5
 replace ha0_0 := ha0_0.mono (gz_mono hH hle5)
 replace hT := hT.trans hle5
 refine D_pu 2 rfl ?_
 refine D_tail (fun w6 hx6 => ?_)
 have hL7 := hL5.call hx6
 have hle7 := fz_ext hL5 hx6
 replace ha0_0 := ha0_0.mono (gz_mono hH hle7)
 replace hT := hT.trans hle7
 refine S_storeBN 0 rfl rfl rfl zr27 hL7 rfl rfl (onc rfl (onc rfl on0)) ?_
 intro w8 hL8 hle8
 replace ha0_0 := ha0_0.mono (gz_mono hH hle8)
 replace hT := hT.trans hle8
 refine S_seqnil ?_
 refine W_cut (σ := Unit) (fun (_ : Unit) => [(0, .pointer (some ⟨ba0, 0, none⟩)), (5, .int .i64 x3.1), (6, .int .i64 x3.2.1)]) (fun (_ : Unit) wr => InO w0 (HAppend.hAppend ([.box b5 [.int .i64 x3.2.2.1, .int .i64 x3.2.2.2] 27, .box ba0 [va0_0, .int .i64 a0.1.2, .int .i64 a0.2] 58] : List Res) O) wr fun Oz => Vec .byte (gz H w0 wr Oz) (va0_0) (a0.1.1) ∧ Le (fz w (HAppend.hAppend ([.box ba0 [va0_0, .int .i64 a0.1.2, .int .i64 a0.2] 58] : List Res) O)) (fz wr Oz) ∧ (words_reader_number_k1 a0 x3) = some r) ?_ ?_
 ·refine W_seqr ?_
  refine S_v (r_loadBN 0 rfl underlying27 rfl zr27 hL8 rfl) rfl ?_
  refine S_v (r_build rfl (fun _ => bld27_z _)) rfl ?_
  refine S_v (r_neA rfl rfl eqg27 (eq27 _ _ _ _ )) rfl ?_
  refine S_pu 1 rfl ?_
  refine S_pickF 3 3 rfl rfl rfl rfl rfl rfl rfl ?_
  refine S_seqnil ?_
  refine W_cond rfl (fun hc15 => ?_) (fun hc15 => ?_)
  ·replace h := Go.L.ite_t hc15 h
   refine W_region ?_
   refine S_v (r_build rfl (fun _ => bld66_z _)) rfl ?_
   refine S_v (r_mkI rfl underlying66 rfl) rfl ?_
   refine S_panic rfl rfl ?_
   refine At_cut_panic ?_
   obtain rfl := Option.some.inj h
   refine At_panX ?_
   have hL17 := hL8.dropAt (i := 0) rfl
   replace ha0_0 := ha0_0.mono (gz_mono hH (fz_dropAt (i := 0) rfl))
   replace hT := hT.trans (fz_dropAt (i := 0) rfl)
   have hL18 := hL17.dropAt (i := 0) rfl
   replace ha0_0 := ha0_0.mono (gz_mono hH (fz_dropAt (i := 0) rfl))
   replace hT := hT.trans (fz_dropAt (i := 0) rfl)
   exact XPo_none ⟨hL18, hT⟩
  ·replace h := Go.L.ite_f hc15 h
   refine W_skip ?_
   refine At_cut () (.cons rfl (.cons rfl (.cons rfl (Sub.nil _)))) ⟨hL8, ha0_0, hT, h⟩
 ·rintro _ wr13 ⟨hL13, hf13_0, hT, h⟩
  refine W_p 2 rfl ?_
  refine S_v (r_nilChk rfl) rfl ?_
  refine S_v (r_field rfl underlying58 rfl zr3 (by decide)) rfl ?_
  refine S_storeB1 1 rfl rfl rfl zr3 hL13 rfl rfl ?_
  intro w21 hL21 hle21
  replace hf13_0 := hf13_0.mono (gz_mono hH hle21)
  replace hT := hT.trans hle21
  refine S_seqnil ?_
  refine W_pz 2 rfl ?_
  refine W_ret ?_
  obtain rfl := Option.some.inj h
  refine At_retX ?_
  refine At_body rfl rfl ?_
  have hL22 := hL21.dropAt (i := 0) rfl
  replace hf13_0 := hf13_0.mono (gz_mono hH (fz_dropAt (i := 0) rfl))
  replace hT := hT.trans (fz_dropAt (i := 0) rfl)
  exact XPo_some ⟨va0_0, rfl, hL22, hT, hf13_0⟩

noncomputable def words_reader_index_k3 (s4_854 : Int) (l1118 : List ((List UInt8) × (List (Int × Int)))) (c1119 : List UInt8) (c1120 : Int) (c1121 : Int) (_s107_1122 : Int) (_s108_1123 : Bool) (_s109_1124 : Bool) (_s120_1125 : Bool) : Option (((List UInt8) × Int × Int × (List ((List UInt8) × (List (Int × Int)))) × Int) ⊕ (Option ((Int × (List ((List UInt8) × (List (Int × Int))))) × (((List UInt8) × Int) × Int)))) :=
 Go.L.chk (Go.L.I64 (s4_854 - (1 : Int))) (some (Sum.inl (c1119, c1120, c1121, l1118, (s4_854 - (1 : Int)))))
noncomputable def words_reader_index_k12 (c1400 : List UInt8) (c1401 : Int) (c1402 : Int) (l1171 : List UInt8) (l1403 : List (Int × Int)) (l853 : List ((List UInt8) × (List (Int × Int)))) (s4_854 : Int) (s107_1706 : Int) (s108_1707 : Bool) (s109_1708 : Bool) (s120_1709 : Bool) : Option (((List UInt8) × Int × Int × (List ((List UInt8) × (List (Int × Int)))) × Int) ⊕ (Option ((Int × (List ((List UInt8) × (List (Int × Int))))) × (((List UInt8) × Int) × Int)))) :=
 Go.L.chk (Go.E.Cap 40 (l853.length + ([(l1171, l1403)]).length)) ((words_reader_index_k3 s4_854) (l853 ++ [(l1171, l1403)]) c1400 c1401 c1402 s107_1706 s108_1707 s109_1708 s120_1709)
noncomputable def words_reader_index_k6 (l1171 : List UInt8) (l853 : List ((List UInt8) × (List (Int × Int)))) (s4_854 : Int) (_c1397 : Int) (_c1398 : Int) (c1400 : List UInt8) (c1401 : Int) (c1402 : Int) (l1403 : List (Int × Int)) : Option (((List UInt8) × Int × Int × (List ((List UInt8) × (List (Int × Int)))) × Int) ⊕ (Option ((Int × (List ((List UInt8) × (List (Int × Int))))) × (((List UInt8) × Int) × Int)))) :=
 Option.bind (words_isWord l1171) (fun x1715 => if !x1715 then Option.map Sum.inr (some none) else if (0 : Int) < (l853.length : Int) then Go.L.chk (Go.L.I64 ((l853.length : Int) - (1 : Int))) (Go.L.chk (0 ≤ ((l853.length : Int) - (1 : Int)) ∧ ((l853.length : Int) - (1 : Int)) < (l853.length : Int)) (if (Op.bytesLess l1171 ((l853.getD (((l853.length : Int) - (1 : Int)).toNat) default).1) || decide (l1171 = (l853.getD (((l853.length : Int) - (1 : Int)).toNat) default).1)) then Option.map Sum.inr (some none) else (words_reader_index_k12 c1400 c1401 c1402 l1171 l1403 l853 s4_854) (l853.length : Int) (decide ((0 : Int) < (l853.length : Int))) (decide ((0 : Int) < (l853.length : Int))) (Op.bytesLess l1171 ((l853.getD (((l853.length : Int) - (1 : Int)).toNat) default).1) || decide (l1171 = (l853.getD (((l853.length : Int) - (1 : Int)).toNat) default).1)))) else (words_reader_index_k12 c1400 c1401 c1402 l1171 l1403 l853 s4_854) (l853.length : Int) (decide ((0 : Int) < (l853.length : Int))) (decide ((0 : Int) < (l853.length : Int))) false)
noncomputable def words_reader_index_k11 (c1530 : Int) (c1601 : Int) (c1602 : List UInt8) (c1603 : Int) (c1604 : Int) (l1498 : List (Int × Int)) (s9_1499 : Int) (_s87_1638 : Int) (_s88_1639 : Bool) : Option (((List UInt8) × Int × Int × Int × Int × (List (Int × Int)) × Int) ⊕ (((List UInt8) × Int × Int × (List ((List UInt8) × (List (Int × Int)))) × Int) ⊕ (Option ((Int × (List ((List UInt8) × (List (Int × Int))))) × (((List UInt8) × Int) × Int))))) :=
 Go.L.chk (Go.E.Cap 16 (l1498.length + ([(c1530, c1601)]).length)) (Go.L.chk (Go.L.I64 (s9_1499 - (1 : Int))) (some (Sum.inl (c1602, c1603, c1604, c1530, c1601, (l1498 ++ [(c1530, c1601)]), (s9_1499 - (1 : Int))))))
noncomputable def words_reader_index_k10 (c1530 : Int) (l1498 : List (Int × Int)) (s9_1499 : Int) (y8 : Int × (((List UInt8) × Int) × Int)) (c1601 : Int) (c1602 : List UInt8) (c1603 : Int) (c1604 : Int) : Option (((List UInt8) × Int × Int × Int × Int × (List (Int × Int)) × Int) ⊕ (((List UInt8) × Int × Int × (List ((List UInt8) × (List (Int × Int)))) × Int) ⊕ (Option ((Int × (List ((List UInt8) × (List (Int × Int))))) × (((List UInt8) × Int) × Int))))) :=
 if (y8.1 - (1 : Int)) ≤ c1530 then Option.map Sum.inr (Option.map Sum.inr (some none)) else if (2048 : Int) ≤ c1601 then Option.map Sum.inr (Option.map Sum.inr (some none)) else (words_reader_index_k11 c1530 c1601 c1602 c1603 c1604 l1498 s9_1499) c1601 (decide ((2048 : Int) ≤ c1601))
noncomputable def words_reader_index_k9 (c1526 : List UInt8) (c1527 : Int) (c1528 : Int) (c1530 : Int) (l1498 : List (Int × Int)) (s9_1499 : Int) (y8 : Int × (((List UInt8) × Int) × Int)) (c1578 : Int) : Option (((List UInt8) × Int × Int × Int × Int × (List (Int × Int)) × Int) ⊕ (((List UInt8) × Int × Int × (List ((List UInt8) × (List (Int × Int)))) × Int) ⊕ (Option ((Int × (List ((List UInt8) × (List (Int × Int))))) × (((List UInt8) × Int) × Int))))) :=
 Option.bind (words_reader_number ((c1526, c1527), c1528) (2048 : Int)) (fun x1612 => Go.L.onX x1612 (Option.map Sum.inr (Option.map Sum.inr (some none))) (fun y1624 => Go.L.chk (Go.L.I64 (c1578 + y1624.1)) ((words_reader_index_k10 c1530 l1498 s9_1499 y8) (c1578 + y1624.1) y1624.2.1.1 y1624.2.1.2 y1624.2.2)))
noncomputable def words_reader_index_k8 (c1495 : Int) (c1496 : Int) (l1498 : List (Int × Int)) (s9_1499 : Int) (y8 : Int × (((List UInt8) × Int) × Int)) (c1526 : List UInt8) (c1527 : Int) (c1528 : Int) (c1530 : Int) (_c1531 : Int) : Option (((List UInt8) × Int × Int × Int × Int × (List (Int × Int)) × Int) ⊕ (((List UInt8) × Int × Int × (List ((List UInt8) × (List (Int × Int)))) × Int) ⊕ (Option ((Int × (List ((List UInt8) × (List (Int × Int))))) × (((List UInt8) × Int) × Int))))) :=
 if c1530 = c1495 then (words_reader_index_k9 c1526 c1527 c1528 c1530 l1498 s9_1499 y8) c1496 else (words_reader_index_k9 c1526 c1527 c1528 c1530 l1498 s9_1499 y8) (-1 : Int)
noncomputable def words_reader_index_bl7 (l1171 : List UInt8) (l853 : List ((List UInt8) × (List (Int × Int)))) (s4_854 : Int) (y8 : Int × (((List UInt8) × Int) × Int)) : (List UInt8) × Int × Int × Int × Int × (List (Int × Int)) × Int → Option (((List UInt8) × Int × Int × Int × Int × (List (Int × Int)) × Int) ⊕ (((List UInt8) × Int × Int × (List ((List UInt8) × (List (Int × Int)))) × Int) ⊕ (Option ((Int × (List ((List UInt8) × (List (Int × Int))))) × (((List UInt8) × Int) × Int))))) := fun ⟨c1492, c1493, c1494, c1495, c1496, l1498, s9_1499⟩ =>
 if (0 : Int) < s9_1499 then Option.bind (words_reader_number ((c1492, c1493), c1494) (64 : Int)) (fun x1538 => Go.L.onX x1538 (Option.map Sum.inr (Option.map Sum.inr (some none))) (fun y1549 => Go.L.chk (Go.L.I64 (c1495 + y1549.1)) (Go.L.chk (Go.L.I64 ((c1495 + y1549.1) - (1 : Int))) ((words_reader_index_k8 c1495 c1496 l1498 s9_1499 y8) y1549.2.1.1 y1549.2.1.2 y1549.2.2 ((c1495 + y1549.1) - (1 : Int)) (0 : Int))))) else Option.map Sum.inr ((words_reader_index_k6 l1171 l853 s4_854) c1495 c1496 c1492 c1493 c1494 l1498)
noncomputable def words_reader_index_l7 (l1171 : List UInt8) (l853 : List ((List UInt8) × (List (Int × Int)))) (s4_854 : Int) (y8 : Int × (((List UInt8) × Int) × Int)) (s : (List UInt8) × Int × Int × Int × Int × (List (Int × Int)) × Int) : Option (((List UInt8) × Int × Int × (List ((List UInt8) × (List (Int × Int)))) × Int) ⊕ (Option ((Int × (List ((List UInt8) × (List (Int × Int))))) × (((List UInt8) × Int) × Int)))) := Go.L.run (words_reader_index_bl7 l1171 l853 s4_854 y8) s
noncomputable def words_reader_index_k4 (l853 : List ((List UInt8) × (List (Int × Int)))) (s4_854 : Int) (y8 : Int × (((List UInt8) × Int) × Int)) (l1171 : List UInt8) (c1172 : List UInt8) (c1173 : Int) (c1174 : Int) : Option (((List UInt8) × Int × Int × (List ((List UInt8) × (List (Int × Int)))) × Int) ⊕ (Option ((Int × (List ((List UInt8) × (List (Int × Int))))) × (((List UInt8) × Int) × Int)))) :=
 Go.L.chk (Go.L.I64 (c1173 + (1 : Int))) (Option.bind (words_reader_number ((c1172, c1173), c1174) (c1173 + (1 : Int))) (fun x1408 => Go.L.onX x1408 (Option.map Sum.inr (some none)) (fun y1418 => (words_reader_index_l7 l1171 l853 s4_854 y8) (y1418.2.1.1, y1418.2.1.2, y1418.2.2, (0 : Int), (-1 : Int), ([] : List (Int × Int)), y1418.1))))
noncomputable def words_reader_index_bl5 (l853 : List ((List UInt8) × (List (Int × Int)))) (s4_854 : Int) (y8 : Int × (((List UInt8) × Int) × Int)) : (List UInt8) × Int × Int × (List UInt8) × Int → Option (((List UInt8) × Int × Int × (List UInt8) × Int) ⊕ (((List UInt8) × Int × Int × (List ((List UInt8) × (List (Int × Int)))) × Int) ⊕ (Option ((Int × (List ((List UInt8) × (List (Int × Int))))) × (((List UInt8) × Int) × Int))))) := fun ⟨c1202, c1203, c1204, l1205, s6_1206⟩ =>
 if (0 : Int) < s6_1206 then Option.bind (words_reader_number ((c1202, c1203), c1204) (256 : Int)) (fun x1212 => Go.L.onX x1212 (Option.map Sum.inr (Option.map Sum.inr (some none))) (fun y1220 => Go.L.chk (Go.L.I64 (y1220.1 - (1 : Int))) (Go.L.chk (Go.E.Cap 1 (l1205.length + ([(Go.L.u8 (y1220.1 - (1 : Int)))]).length)) (Go.L.chk (Go.L.I64 (s6_1206 - (1 : Int))) (some (Sum.inl (y1220.2.1.1, y1220.2.1.2, y1220.2.2, (l1205 ++ [(Go.L.u8 (y1220.1 - (1 : Int)))]), (s6_1206 - (1 : Int))))))))) else Option.map Sum.inr ((words_reader_index_k4 l853 s4_854 y8) l1205 c1202 c1203 c1204)
noncomputable def words_reader_index_l5 (l853 : List ((List UInt8) × (List (Int × Int)))) (s4_854 : Int) (y8 : Int × (((List UInt8) × Int) × Int)) (s : (List UInt8) × Int × Int × (List UInt8) × Int) : Option (((List UInt8) × Int × Int × (List ((List UInt8) × (List (Int × Int)))) × Int) ⊕ (Option ((Int × (List ((List UInt8) × (List (Int × Int))))) × (((List UInt8) × Int) × Int)))) := Go.L.run (words_reader_index_bl5 l853 s4_854 y8) s
noncomputable def words_reader_index_k1 (y8 : Int × (((List UInt8) × Int) × Int)) (c566 : List UInt8) (c567 : Int) (c568 : Int) (l569 : List ((List UInt8) × (List (Int × Int)))) : Option (Option ((Int × (List ((List UInt8) × (List (Int × Int))))) × (((List UInt8) × Int) × Int))) :=
 some (some (((y8.1 - (1 : Int)), l569), ((c566, c567), c568)))
noncomputable def words_reader_index_bl2 (y8 : Int × (((List UInt8) × Int) × Int)) : (List UInt8) × Int × Int × (List ((List UInt8) × (List (Int × Int)))) × Int → Option (((List UInt8) × Int × Int × (List ((List UInt8) × (List (Int × Int)))) × Int) ⊕ (Option ((Int × (List ((List UInt8) × (List (Int × Int))))) × (((List UInt8) × Int) × Int)))) := fun ⟨c849, c850, c851, l853, s4_854⟩ =>
 if (0 : Int) < s4_854 then Option.bind (words_reader_number ((c849, c850), c851) (2048 : Int)) (fun x1179 => Go.L.onX x1179 (Option.map Sum.inr (some none)) (fun y1187 => (words_reader_index_l5 l853 s4_854 y8) (y1187.2.1.1, y1187.2.1.2, y1187.2.2, ([] : List UInt8), y1187.1))) else Option.map Sum.inr ((words_reader_index_k1 y8) c849 c850 c851 l853)
noncomputable def words_reader_index_l2 (y8 : Int × (((List UInt8) × Int) × Int)) (s : (List UInt8) × Int × Int × (List ((List UInt8) × (List (Int × Int)))) × Int) : Option (Option ((Int × (List ((List UInt8) × (List (Int × Int))))) × (((List UInt8) × Int) × Int))) := Go.L.run (words_reader_index_bl2 y8) s
noncomputable def words_reader_index (a0 : ((List UInt8) × Int) × Int) : Option (Option ((Int × (List ((List UInt8) × (List (Int × Int))))) × (((List UInt8) × Int) × Int))) :=
 Option.bind (words_reader_number ((a0.1.1, a0.1.2), a0.2) (65 : Int)) (fun x3 => Go.L.onX x3 (some none) (fun y8 => Go.L.chk (Go.L.I64 (y8.1 - (1 : Int))) (Go.L.chk (Go.L.I64 (y8.2.1.2 + (1 : Int))) (Option.bind (words_reader_number ((y8.2.1.1, y8.2.1.2), y8.2.2) (y8.2.1.2 + (1 : Int))) (fun x574 => Go.L.onX x574 (some none) (fun y580 => Go.L.chk (Go.L.I64 (y580.1 - (1 : Int))) ((words_reader_index_l2 y8) (y580.2.1.1, y580.2.1.2, y580.2.2, ([] : List ((List UInt8) × (List (Int × Int)))), (y580.1 - (1 : Int))))))))))

theorem words_reader_index_fr {w0 w : World} {H : PH} (hH : Le H (hp w0)) (hU : Utab H) {O : List Res} {a0 : ((List UInt8) × Int) × Int} {ba0 : Nat} {va0_0 : Value} (hL : Lcl w0 (HAppend.hAppend ([.box ba0 [va0_0, .int .i64 a0.1.2, .int .i64 a0.2] 58] : List Res) O) w) (ha0_0 : Vec .byte (gz H w0 w (HAppend.hAppend ([.box ba0 [va0_0, .int .i64 a0.1.2, .int .i64 a0.2] 58] : List Res) O)) va0_0 (a0.1.1)) {r : Option ((Int × (List ((List UInt8) × (List (Int × Int))))) × (((List UInt8) × Int) × Int))} (h : words_reader_index a0 = some r) :
  OkX Tryz.prog 22 [.pointer (some ⟨ba0, 0, none⟩)] w (.iface 66 (.agg #[])) (fun v w' => XPo r v (fun r v => ∃ (u1 : Value) (y1 : List Value) (u2 : Value), v = .agg #[.int .i64 r.1.1, u1] ∧ Lcl w0 (HAppend.hAppend ([.row u1 62 2 (r.1.2).length y1, .box ba0 [u2, .int .i64 r.2.1.2, .int .i64 r.2.2] 58] : List Res) O) w' ∧ Le (fz w (HAppend.hAppend ([.box ba0 [va0_0, .int .i64 a0.1.2, .int .i64 a0.2] 58] : List Res) O)) (fz w' (HAppend.hAppend ([.row u1 62 2 (r.1.2).length y1, .box ba0 [u2, .int .i64 r.2.1.2, .int .i64 r.2.2] 58] : List Res) O)) ∧ Elems (.pair .st (.vec (.pair (.int .i64) (.int .i64)))) (gz H w0 w' (HAppend.hAppend ([.row u1 62 2 (r.1.2).length y1, .box ba0 [u2, .int .i64 r.2.1.2, .int .i64 r.2.2] 58] : List Res) O)) (r.1.2) y1 ∧ Vec .byte (gz H w0 w' (HAppend.hAppend ([.row u1 62 2 (r.1.2).length y1, .box ba0 [u2, .int .i64 r.2.1.2, .int .i64 r.2.2] 58] : List Res) O)) u2 (r.2.1.1)) (Lcl w0 O w' ∧ Le (fz w (HAppend.hAppend ([.box ba0 [va0_0, .int .i64 a0.1.2, .int .i64 a0.2] 58] : List Res) O)) (fz w' O))) := by
 refine OkX_enter (n := 131) [(0, .pointer (some ⟨ba0, 0, none⟩))] func22 rfl rfl rfl rfl rfl ?_
 have hT := Le.refl (fz w (HAppend.hAppend ([.box ba0 [va0_0, .int .i64 a0.1.2, .int .i64 a0.2] 58] : List Res) O))
 refine W_seqr ?_
 refine S_alloc zr25 rfl rfl hL ?_
 intro w1 b1 hL1 hle1 _
 replace ha0_0 := ha0_0.mono (gz_mono hH hle1)
 replace hT := hT.trans hle1
 refine S_seqnil ?_
 refine W_p 1 rfl ?_
 have hL2 : Lcl w0 (HAppend.hAppend ([.box ba0 [va0_0, .int .i64 a0.1.2, .int .i64 a0.2] 58, .box b1 [.int .i64 (0 : Int), .slice none 0 0] 25] : List Res) O) w1 := hL1.picks [1] rfl
 have hle2 := fz_picks [1] hL1 hL2 rfl
 replace ha0_0 := ha0_0.mono (gz_mono hH hle2)
 replace hT := hT.trans hle2
 obtain ⟨x3, hb3, h⟩ := Go.L.bind_some h
 refine S_callXF rfl rfl (words_reader_number_fr (a0 := ((a0.1.1, a0.1.2), a0.2)) (a1 := (65 : Int)) (O := (HAppend.hAppend ([.box b1 [.int .i64 (0 : Int), .slice none 0 0] 25] : List Res) O)) hH hL2 ha0_0 hb3) ?_ ?_
 ·rintro rfl w5 ⟨hL5, hle5⟩
  replace ha0_0 := ha0_0.mono (gz_mono hH hle5)
  replace hT := hT.trans hle5
  replace h := Go.L.onX_none h
  refine At_seq_panic ?_
  obtain rfl := Option.some.inj h
  refine At_panX ?_
  have hL7 := hL5.dropAt (i := 0) rfl
  replace ha0_0 := ha0_0.mono (gz_mono hH (fz_dropAt (i := 0) rfl))
  replace hT := hT.trans (fz_dropAt (i := 0) rfl)
  exact XPo_none ⟨hL7, hT⟩
 rintro y8 rfl _ w4 ⟨u4_1, rfl, hL4, hle4, hf4_1⟩
 replace h := Go.L.onX_some h
 replace ha0_0 := ha0_0.mono (gz_mono hH hle4)
 replace hT := hT.trans hle4
 obtain ⟨hk9, h⟩ := Go.L.chk_some h
 refine S_v (r_ar64 rfl rfl rfl hk9) rfl ?_
 refine S_v (r_build rfl (fun _ => bld25_0 _ _)) rfl ?_
 refine S_alloc zr25 rfl rfl hL4 ?_
 intro w10 b10 hL10 hle10 _
 replace ha0_0 := ha0_0.mono (gz_mono hH hle10)
 replace hf4_1 := hf4_1.mono (gz_mono hH hle10)
 replace hT := hT.trans hle10
 refine S_storeBN 0 rfl rfl rfl zr25 hL10 rfl rfl (onc rfl (onc rfl on0)) ?_
 intro w11 hL11 hle11
 replace ha0_0 := ha0_0.mono (gz_mono hH hle11)
 replace hf4_1 := hf4_1.mono (gz_mono hH hle11)
 replace hT := hT.trans hle11
 refine S_seqnil ?_
 refine W_cut (σ := (List UInt8) × Int × Int × (List ((List UInt8) × (List (Int × Int)))) × Value × Value × (List Value)) (fun ⟨c566, c567, c568, l569, vc566, vl569, xsl569⟩ => [(2, .pointer (some ⟨b1, 0, none⟩)), (3, .pointer (some ⟨b10, 0, none⟩))]) (fun ⟨c566, c567, c568, l569, vc566, vl569, xsl569⟩ wr => InO w0 (HAppend.hAppend ([.row (vl569) 62 2 (l569).length (xsl569), .box b10 [.int .i64 (y8.1 - (1 : Int)), vl569] 25, .box ba0 [vc566, .int .i64 c567, .int .i64 c568] 58, .box b1 [.int .i64 (0 : Int), .slice none 0 0] 25] : List Res) O) wr fun Oz => Elems (.pair .st (.vec (.pair (.int .i64) (.int .i64)))) (gz H w0 wr Oz) (l569) (xsl569) ∧ Vec .byte (gz H w0 wr Oz) (vc566) (c566) ∧ Le (fz w (HAppend.hAppend ([.box ba0 [va0_0, .int .i64 a0.1.2, .int .i64 a0.2] 58] : List Res) O)) (fz wr Oz) ∧ (words_reader_index_k1 y8) c566 c567 c568 l569 = some r) ?_ ?_
 ·refine W_p 2 rfl ?_
  refine S_v (r_nilChk rfl) rfl ?_
  refine S_v (r_field rfl underlying58 rfl zr56 (by decide)) rfl ?_
  refine S_v (r_field rfl underlying56 rfl zr3 (by decide)) rfl ?_
  refine S_v (r_loadB1 1 rfl underlying3 rfl hL11 rfl rfl) rfl ?_
  obtain ⟨hk572, h⟩ := Go.L.chk_some h
  refine S_v (r_ar64 rfl rfl rfl hk572) rfl ?_
  have hL573 : Lcl w0 (HAppend.hAppend ([.box ba0 [u4_1, .int .i64 y8.2.1.2, .int .i64 y8.2.2] 58, .box b10 [.int .i64 (y8.1 - (1 : Int)), .slice none 0 0] 25, .box b1 [.int .i64 (0 : Int), .slice none 0 0] 25] : List Res) O) w11 := hL11.picks [1] rfl
  have hle573 := fz_picks [1] hL11 hL573 rfl
  replace hf4_1 := hf4_1.mono (gz_mono hH hle573)
  replace hT := hT.trans hle573
  obtain ⟨x574, hb574, h⟩ := Go.L.bind_some h
  refine S_callXF rfl rfl (words_reader_number_fr (a0 := ((y8.2.1.1, y8.2.1.2), y8.2.2)) (a1 := (y8.2.1.2 + (1 : Int))) (O := (HAppend.hAppend ([.box b10 [.int .i64 (y8.1 - (1 : Int)), .slice none 0 0] 25, .box b1 [.int .i64 (0 : Int), .slice none 0 0] 25] : List Res) O)) hH hL573 hf4_1 hb574) ?_ ?_
  ·rintro rfl w576 ⟨hL576, hle576⟩
   replace hf4_1 := hf4_1.mono (gz_mono hH hle576)
   replace hT := hT.trans hle576
   replace h := Go.L.onX_none h
   refine At_seq_panic ?_
   refine At_cut_panic ?_
   obtain rfl := Option.some.inj h
   refine At_panX ?_
   have hL578 := hL576.dropAt (i := 0) rfl
   replace hf4_1 := hf4_1.mono (gz_mono hH (fz_dropAt (i := 0) rfl))
   replace hT := hT.trans (fz_dropAt (i := 0) rfl)
   have hL579 := hL578.dropAt (i := 0) rfl
   replace hf4_1 := hf4_1.mono (gz_mono hH (fz_dropAt (i := 0) rfl))
   replace hT := hT.trans (fz_dropAt (i := 0) rfl)
   exact XPo_none ⟨hL579, hT⟩
  rintro y580 rfl _ w575 ⟨u575_1, rfl, hL575, hle575, hf575_1⟩
  replace h := Go.L.onX_some h
  replace hf4_1 := hf4_1.mono (gz_mono hH hle575)
  replace hT := hT.trans hle575
  obtain ⟨hk581, h⟩ := Go.L.chk_some h
  refine S_v (r_ar64 rfl rfl rfl hk581) rfl ?_
  refine S_pz 1 rfl ?_
  refine W_block ?_
  obtain ⟨hL856, hle856, he856⟩ := row_nilE (.pair .st (.vec (.pair (.int .i64) (.int .i64)))) H 62 hL575
  replace hf575_1 := hf575_1.mono (gz_mono hH hle856)
  replace hT := hT.trans hle856
  obtain ⟨n855, h⟩ := Go.L.run_some h
  refine W_loop (σ := (List UInt8) × Int × Int × (List ((List UInt8) × (List (Int × Int)))) × Int × Value × Value × (List Value) × Nat) (fun ⟨c849, c850, c851, l853, s4_854, vc849, vl853, xsl853, n⟩ => [(0, .pointer (some ⟨ba0, 0, none⟩)), (2, .pointer (some ⟨b1, 0, none⟩)), (3, .pointer (some ⟨b10, 0, none⟩)), (4, .int .i64 s4_854)]) (fun ⟨c849, c850, c851, l853, s4_854, vc849, vl853, xsl853, n⟩ wr => InO w0 (HAppend.hAppend ([.row (vl853) 62 2 (l853).length (xsl853), .box ba0 [vc849, .int .i64 c850, .int .i64 c851] 58, .box b10 [.int .i64 (y8.1 - (1 : Int)), vl853] 25, .box b1 [.int .i64 (0 : Int), .slice none 0 0] 25] : List Res) O) wr fun Oz => Elems (.pair .st (.vec (.pair (.int .i64) (.int .i64)))) (gz H w0 wr Oz) (l853) (xsl853) ∧ Vec .byte (gz H w0 wr Oz) (vc849) (c849) ∧ Le (fz w (HAppend.hAppend ([.box ba0 [va0_0, .int .i64 a0.1.2, .int .i64 a0.2] 58] : List Res) O)) (fz wr Oz) ∧ Go.L.itr (words_reader_index_bl2 y8) n (c849, c850, c851, l853, s4_854) = some r) (fun ⟨c849, c850, c851, l853, s4_854, vc849, vl853, xsl853, n⟩ => n) (y580.2.1.1, y580.2.1.2, y580.2.2, ([] : List ((List UInt8) × (List (Int × Int)))), (y580.1 - (1 : Int)), u575_1, .slice none 0 0, [], n855) (.cons rfl (.cons rfl (.cons rfl (.cons rfl (Sub.nil _))))) ⟨hL856, he856, hf575_1, hT, h⟩ ?_
  rintro ⟨c849, c850, c851, l853, s4_854, vc849, vl853, xsl853, nn855⟩ wr855 ⟨hL855, hel853, hfc849, hT, h⟩
  obtain ⟨n855, e855, rfl, h, hm855⟩ := Go.L.itr_some h
  refine W_seq ?_
  refine W_pz 2 rfl ?_
  refine W_if rfl (fun hc858 => ?_) (fun hc858 => ?_)
  ·replace h := Go.L.ite_p hc858 h
   refine W_skip ?_
   refine At_seq ?_
   refine W_cut (σ := (List ((List UInt8) × (List (Int × Int)))) × (List UInt8) × Int × Int × Int × Bool × Bool × Bool × Value × (List Value) × Value) (fun ⟨l1118, c1119, c1120, c1121, s107_1122, s108_1123, s109_1124, s120_1125, vl1118, xsl1118, vc1119⟩ => [(0, .pointer (some ⟨ba0, 0, none⟩)), (2, .pointer (some ⟨b1, 0, none⟩)), (3, .pointer (some ⟨b10, 0, none⟩)), (4, .int .i64 s4_854), (107, .int .i64 s107_1122), (108, .bool s108_1123), (109, .bool s109_1124), (120, .bool s120_1125)]) (fun ⟨l1118, c1119, c1120, c1121, s107_1122, s108_1123, s109_1124, s120_1125, vl1118, xsl1118, vc1119⟩ wr => InO w0 (HAppend.hAppend ([.row (vl1118) 62 2 (l1118).length (xsl1118), .box ba0 [vc1119, .int .i64 c1120, .int .i64 c1121] 58, .box b10 [.int .i64 (y8.1 - (1 : Int)), vl1118] 25, .box b1 [.int .i64 (0 : Int), .slice none 0 0] 25] : List Res) O) wr fun Oz => Elems (.pair .st (.vec (.pair (.int .i64) (.int .i64)))) (gz H w0 wr Oz) (l1118) (xsl1118) ∧ Vec .byte (gz H w0 wr Oz) (vc1119) (c1119) ∧ Le (fz w (HAppend.hAppend ([.box ba0 [va0_0, .int .i64 a0.1.2, .int .i64 a0.2] 58] : List Res) O)) (fz wr Oz) ∧ (words_reader_index_k3 s4_854) l1118 c1119 c1120 c1121 s107_1122 s108_1123 s109_1124 s120_1125 = some e855) ?_ ?_
   ·refine W_block ?_
    refine W_p 1 rfl ?_
    obtain ⟨hL1128, hle1128, he1128⟩ := row_nilE .byte H 5 hL855
    replace hel853 := hel853.mono (gz_mono hH hle1128)
    replace hfc849 := hfc849.mono (gz_mono hH hle1128)
    replace hT := hT.trans hle1128
    refine S_seqnil ?_
    refine W_cut (σ := (List UInt8) × (List UInt8) × Int × Int × Value × (List Value) × Value) (fun ⟨l1171, c1172, c1173, c1174, vl1171, xsl1171, vc1172⟩ => [(0, .pointer (some ⟨ba0, 0, none⟩)), (2, .pointer (some ⟨b1, 0, none⟩)), (3, .pointer (some ⟨b10, 0, none⟩)), (4, .int .i64 s4_854), (5, vl1171)]) (fun ⟨l1171, c1172, c1173, c1174, vl1171, xsl1171, vc1172⟩ wr => InO w0 (HAppend.hAppend ([.row (vl1171) 5 1 (l1171).length (xsl1171), .row (vl853) 62 2 (l853).length (xsl853), .box ba0 [vc1172, .int .i64 c1173, .int .i64 c1174] 58, .box b10 [.int .i64 (y8.1 - (1 : Int)), vl853] 25, .box b1 [.int .i64 (0 : Int), .slice none 0 0] 25] : List Res) O) wr fun Oz => Elems .byte (gz H w0 wr Oz) (l1171) (xsl1171) ∧ Elems (.pair .st (.vec (.pair (.int .i64) (.int .i64)))) (gz H w0 wr Oz) (l853) (xsl853) ∧ Vec .byte (gz H w0 wr Oz) (vc1172) (c1172) ∧ Le (fz w (HAppend.hAppend ([.box ba0 [va0_0, .int .i64 a0.1.2, .int .i64 a0.2] 58] : List Res) O)) (fz wr Oz) ∧ (words_reader_index_k4 l853 s4_854 y8) l1171 c1172 c1173 c1174 = some e855) ?_ ?_
    ·have hG1177 := hL1128.rG H
     refine W_p 1 rfl ?_
     have hL1178 : Lcl w0 (HAppend.hAppend ([.box ba0 [vc849, .int .i64 c850, .int .i64 c851] 58, .row (.slice none 0 0) 5 1 (([] : List UInt8)).length ([]), .row (vl853) 62 2 (l853).length (xsl853), .box b10 [.int .i64 (y8.1 - (1 : Int)), vl853] 25, .box b1 [.int .i64 (0 : Int), .slice none 0 0] 25] : List Res) O) wr855 := hL1128.picks [2] rfl
     have hle1178 := fz_picks [2] hL1128 hL1178 rfl
     replace hG1177 := hG1177.trans (gz_mono hH hle1178)
     replace hT := hT.trans hle1178
     obtain ⟨x1179, hb1179, h⟩ := Go.L.bind_some h
     refine S_callXF rfl rfl (words_reader_number_fr (a0 := ((c849, c850), c851)) (a1 := (2048 : Int)) (O := (HAppend.hAppend ([.row (.slice none 0 0) 5 1 (([] : List UInt8)).length ([]), .row (vl853) 62 2 (l853).length (xsl853), .box b10 [.int .i64 (y8.1 - (1 : Int)), vl853] 25, .box b1 [.int .i64 (0 : Int), .slice none 0 0] 25] : List Res) O)) hH hL1178 (hfc849.mono hG1177) hb1179) ?_ ?_
     ·rintro rfl w1181 ⟨hL1181, hle1181⟩
      replace hG1177 := hG1177.trans (gz_mono hH hle1181)
      replace hT := hT.trans hle1181
      replace h := Go.L.onX_none h
      refine At_seq_panic ?_
      refine At_cut_panic ?_
      refine At_block_panic ?_
      refine At_cut_panic ?_
      refine At_loop_panic ?_
      replace h := Go.L.Nxt.out h hm855
      refine At_block_panic ?_
      refine At_cut_panic ?_
      obtain rfl := Option.some.inj h
      refine At_panX ?_
      have hL1183 := hL1181.dropAt (i := 0) rfl
      replace hG1177 := hG1177.trans (gz_mono hH (fz_dropAt (i := 0) rfl))
      replace hT := hT.trans (fz_dropAt (i := 0) rfl)
      have hL1184 := hL1183.dropAt (i := 0) rfl
      replace hG1177 := hG1177.trans (gz_mono hH (fz_dropAt (i := 0) rfl))
      replace hT := hT.trans (fz_dropAt (i := 0) rfl)
      have hL1185 := hL1184.dropAt (i := 0) rfl
      replace hG1177 := hG1177.trans (gz_mono hH (fz_dropAt (i := 0) rfl))
      replace hT := hT.trans (fz_dropAt (i := 0) rfl)
      have hL1186 := hL1185.dropAt (i := 0) rfl
      replace hG1177 := hG1177.trans (gz_mono hH (fz_dropAt (i := 0) rfl))
      replace hT := hT.trans (fz_dropAt (i := 0) rfl)
      exact XPo_none ⟨hL1186, hT⟩
     rintro y1187 rfl _ w1180 ⟨u1180_1, rfl, hL1180, hle1180, hf1180_1⟩
     replace h := Go.L.onX_some h
     replace hG1177 := hG1177.trans (gz_mono hH hle1180)
     replace hT := hT.trans hle1180
     refine S_pz 1 rfl ?_
     refine W_block ?_
     obtain ⟨n1207, h⟩ := Go.L.run_some h
     refine W_loop (σ := (List UInt8) × Int × Int × (List UInt8) × Int × Value × Value × (List Value) × Nat) (fun ⟨c1202, c1203, c1204, l1205, s6_1206, vc1202, vl1205, xsl1205, n⟩ => [(0, .pointer (some ⟨ba0, 0, none⟩)), (2, .pointer (some ⟨b1, 0, none⟩)), (3, .pointer (some ⟨b10, 0, none⟩)), (4, .int .i64 s4_854), (5, vl1205), (6, .int .i64 s6_1206)]) (fun ⟨c1202, c1203, c1204, l1205, s6_1206, vc1202, vl1205, xsl1205, n⟩ wr => InO w0 (HAppend.hAppend ([.box ba0 [vc1202, .int .i64 c1203, .int .i64 c1204] 58, .row (vl1205) 5 1 (l1205).length (xsl1205), .row (vl853) 62 2 (l853).length (xsl853), .box b10 [.int .i64 (y8.1 - (1 : Int)), vl853] 25, .box b1 [.int .i64 (0 : Int), .slice none 0 0] 25] : List Res) O) wr fun Oz => Vec .byte (gz H w0 wr Oz) (vc1202) (c1202) ∧ Elems .byte (gz H w0 wr Oz) (l1205) (xsl1205) ∧ Elems (.pair .st (.vec (.pair (.int .i64) (.int .i64)))) (gz H w0 wr Oz) (l853) (xsl853) ∧ Le (fz w (HAppend.hAppend ([.box ba0 [va0_0, .int .i64 a0.1.2, .int .i64 a0.2] 58] : List Res) O)) (fz wr Oz) ∧ Go.L.itr (words_reader_index_bl5 l853 s4_854 y8) n (c1202, c1203, c1204, l1205, s6_1206) = some e855) (fun ⟨c1202, c1203, c1204, l1205, s6_1206, vc1202, vl1205, xsl1205, n⟩ => n) (y1187.2.1.1, y1187.2.1.2, y1187.2.2, ([] : List UInt8), y1187.1, u1180_1, .slice none 0 0, [], n1207) (.cons rfl (.cons rfl (.cons rfl (.cons rfl (.cons rfl (.cons rfl (Sub.nil _))))))) ⟨hL1180, hf1180_1, (he1128.mono hG1177), (hel853.mono hG1177), hT, h⟩ ?_
     rintro ⟨c1202, c1203, c1204, l1205, s6_1206, vc1202, vl1205, xsl1205, nn1207⟩ wr1207 ⟨hL1207, hfc1202, hel1205, he1207_j852, hT, h⟩
     obtain ⟨n1207, e1207, rfl, h, hm1207⟩ := Go.L.itr_some h
     refine W_seq ?_
     have hG1209 := hL1207.rG H
     refine W_pz 2 rfl ?_
     refine W_if rfl (fun hc1210 => ?_) (fun hc1210 => ?_)
     ·replace h := Go.L.ite_p hc1210 h
      refine W_skip ?_
      refine At_seq ?_
      refine W_seq ?_
      refine W_block ?_
      refine W_region ?_
      refine S_pu 2 rfl ?_
      obtain ⟨x1212, hb1212, h⟩ := Go.L.bind_some h
      refine S_callXF rfl rfl (words_reader_number_fr (a0 := ((c1202, c1203), c1204)) (a1 := (256 : Int)) (O := (HAppend.hAppend ([.row (vl1205) 5 1 (l1205).length (xsl1205), .row (vl853) 62 2 (l853).length (xsl853), .box b10 [.int .i64 (y8.1 - (1 : Int)), vl853] 25, .box b1 [.int .i64 (0 : Int), .slice none 0 0] 25] : List Res) O)) hH hL1207 (hfc1202.mono hG1209) hb1212) ?_ ?_
      ·rintro rfl w1214 ⟨hL1214, hle1214⟩
       replace hG1209 := hG1209.trans (gz_mono hH hle1214)
       replace hT := hT.trans hle1214
       replace h := Go.L.onX_none h
       refine At_block_panic ?_
       refine At_seq_panic ?_
       refine At_loop_panic ?_
       replace h := Go.L.Nxt.out h hm1207
       refine At_block_panic ?_
       refine At_cut_panic ?_
       refine At_block_panic ?_
       refine At_cut_panic ?_
       refine At_loop_panic ?_
       replace h := Go.L.Nxt.out h hm855
       refine At_block_panic ?_
       refine At_cut_panic ?_
       obtain rfl := Option.some.inj h
       refine At_panX ?_
       have hL1216 := hL1214.dropAt (i := 0) rfl
       replace hG1209 := hG1209.trans (gz_mono hH (fz_dropAt (i := 0) rfl))
       replace hT := hT.trans (fz_dropAt (i := 0) rfl)
       have hL1217 := hL1216.dropAt (i := 0) rfl
       replace hG1209 := hG1209.trans (gz_mono hH (fz_dropAt (i := 0) rfl))
       replace hT := hT.trans (fz_dropAt (i := 0) rfl)
       have hL1218 := hL1217.dropAt (i := 0) rfl
       replace hG1209 := hG1209.trans (gz_mono hH (fz_dropAt (i := 0) rfl))
       replace hT := hT.trans (fz_dropAt (i := 0) rfl)
       have hL1219 := hL1218.dropAt (i := 0) rfl
       replace hG1209 := hG1209.trans (gz_mono hH (fz_dropAt (i := 0) rfl))
       replace hT := hT.trans (fz_dropAt (i := 0) rfl)
       exact XPo_none ⟨hL1219, hT⟩
      rintro y1220 rfl _ w1213 ⟨u1213_1, rfl, hL1213, hle1213, hf1213_1⟩
      replace h := Go.L.onX_some h
      replace hG1209 := hG1209.trans (gz_mono hH hle1213)
      replace hT := hT.trans hle1213
      obtain ⟨hk1221, h⟩ := Go.L.chk_some h
      refine S_v (r_ar64 rfl rfl rfl hk1221) rfl ?_
      refine S_v (r_conv underlying3 underlying5 rfl (conv_64_u8 _)) rfl ?_
      refine S_litE (r := .byte) (l := [(Go.L.u8 (y1220.1 - (1 : Int)))]) rfl (fun _ => bsl22_1 _ _) rfl (show 1 ≤ 9223372036854775807 by decide) hH hL1213 (.c1 rfl .nil) ?_
      intro v1222 w1222 hx1222 hL1222 hle1222 hv1222
      replace hf1213_1 := hf1213_1.mono (gz_mono hH hle1222)
      replace hG1209 := hG1209.trans (gz_mono hH hle1222)
      replace hT := hT.trans hle1222
      obtain ⟨hk1224, h⟩ := Go.L.chk_some h
      refine S_appE (r := .byte) (l := l1205) (m := [(Go.L.u8 (y1220.1 - (1 : Int)))]) 1 rfl rfl underlying22 zr5 rfl (by decide) rfl hH hL1222 rfl (hel1205.mono hG1209) hv1222 hk1224 ?_
      intro v1223 w1223 xs1223 hL1223 hle1223 he1223
      replace hf1213_1 := hf1213_1.mono (gz_mono hH hle1223)
      replace hv1222 := hv1222.mono (gz_mono hH hle1223)
      replace hG1209 := hG1209.trans (gz_mono hH hle1223)
      replace hT := hT.trans hle1223
      refine S_pu 1 rfl ?_
      refine S_nil ?_
      refine At_block ?_
      refine At_seq ?_
      refine W_region ?_
      refine S_pu 1 rfl ?_
      obtain ⟨hk1225, h⟩ := Go.L.chk_some h
      refine S_v (r_ar64 rfl rfl rfl hk1225) rfl ?_
      refine S_pu 1 rfl ?_
      refine S_nil ?_
      have h := Go.L.Nxt.again h hm1207
      refine At_round (y1220.2.1.1, y1220.2.1.2, y1220.2.2, (l1205 ++ [(Go.L.u8 (y1220.1 - (1 : Int)))]), (s6_1206 - (1 : Int)), u1213_1, v1223, xs1223, n1207) (.cons rfl (.cons rfl (.cons rfl (.cons rfl (.cons rfl (.cons rfl (Sub.nil _))))))) ⟨hL1223, hf1213_1, he1223, (he1207_j852.mono hG1209), hT, h⟩ (Nat.lt_succ_self _)
     ·replace h := Go.L.ite_n hc1210 h
      refine W_exit ?_
      refine At_seq_exit ?_
      refine At_loop_exit ?_
      replace h := Go.L.Nxt.out h hm1207
      refine At_exit ?_
      have hL1227 : Lcl w0 (HAppend.hAppend ([.row (vl1205) 5 1 (l1205).length (xsl1205), .row (vl853) 62 2 (l853).length (xsl853), .box ba0 [vc1202, .int .i64 c1203, .int .i64 c1204] 58, .box b10 [.int .i64 (y8.1 - (1 : Int)), vl853] 25, .box b1 [.int .i64 (0 : Int), .slice none 0 0] 25] : List Res) O) wr1207 := hL1207.picks [2, 2] rfl
      have hle1227 := fz_picks [2, 2] hL1207 hL1227 rfl
      replace hG1209 := hG1209.trans (gz_mono hH hle1227)
      replace hT := hT.trans hle1227
      refine At_cut (l1205, c1202, c1203, c1204, vl1205, xsl1205, vc1202) (.cons rfl (.cons rfl (.cons rfl (.cons rfl (.cons rfl (Sub.nil _)))))) ⟨hL1227, (hel1205.mono hG1209), (he1207_j852.mono hG1209), (hfc1202.mono hG1209), hT, h⟩
    ·rintro ⟨l1171, c1172, c1173, c1174, vl1171, xsl1171, vc1172⟩ wr1175 ⟨hL1175, hel1171, hel853, hfc1172, hT, h⟩
     have hG1229 := hL1175.rG H
     refine W_p 1 rfl ?_
     refine S_v (r_str rfl underlying22 underlying5 underlying9 (hL1175.vecN hH (i := 0) rfl (hel1171.mono hG1229)) (Le.refl _)) rfl ?_
     refine S_v (r_build rfl (fun _ => bld62_0 _ rfl _)) rfl ?_
     refine S_alloc zr62 rfl rfl hL1175 ?_
     intro w1230 b1230 hL1230 hle1230 _
     replace hG1229 := hG1229.trans (gz_mono hH hle1230)
     replace hT := hT.trans hle1230
     refine S_storeBN 0 rfl rfl rfl zr62 hL1230 rfl rfl (onc rfl (onc rfl on0)) ?_
     intro w1231 hL1231 hle1231
     replace hG1229 := hG1229.trans (gz_mono hH hle1231)
     replace hT := hT.trans hle1231
     refine S_seqnil ?_
     refine W_seqr ?_
     refine S_v (r_build rfl (fun _ => bld64_1 _ _)) rfl ?_
     refine S_alloc zr64 rfl rfl hL1231 ?_
     intro w1232 b1232 hL1232 hle1232 _
     replace hG1229 := hG1229.trans (gz_mono hH hle1232)
     replace hT := hT.trans hle1232
     refine S_storeBN 0 rfl rfl rfl zr64 hL1232 rfl rfl (onc rfl (onc rfl on0)) ?_
     intro w1233 hL1233 hle1233
     replace hG1229 := hG1229.trans (gz_mono hH hle1233)
     replace hT := hT.trans hle1233
     refine S_seqnil ?_
     refine W_cut (σ := Int × Int × (List UInt8) × Int × Int × (List (Int × Int)) × Value × Value × (List Value)) (fun ⟨c1397, c1398, c1400, c1401, c1402, l1403, vc1400, vl1403, xsl1403⟩ => [(0, .pointer (some ⟨ba0, 0, none⟩)), (2, .pointer (some ⟨b1, 0, none⟩)), (3, .pointer (some ⟨b10, 0, none⟩)), (4, .int .i64 s4_854), (7, .pointer (some ⟨b1230, 0, none⟩))]) (fun ⟨c1397, c1398, c1400, c1401, c1402, l1403, vc1400, vl1403, xsl1403⟩ wr => InO w0 (HAppend.hAppend ([.row (vl1403) 64 2 (l1403).length (xsl1403), .box b1232 [.int .i64 c1397, .int .i64 c1398] 64, .box b1230 [.string ⟨(l1171).toArray⟩, vl1403] 62, .row (vl1171) 5 1 (l1171).length (xsl1171), .row (vl853) 62 2 (l853).length (xsl853), .box ba0 [vc1400, .int .i64 c1401, .int .i64 c1402] 58, .box b10 [.int .i64 (y8.1 - (1 : Int)), vl853] 25, .box b1 [.int .i64 (0 : Int), .slice none 0 0] 25] : List Res) O) wr fun Oz => Elems (.pair (.int .i64) (.int .i64)) (gz H w0 wr Oz) (l1403) (xsl1403) ∧ Elems .byte (gz H w0 wr Oz) (l1171) (xsl1171) ∧ Elems (.pair .st (.vec (.pair (.int .i64) (.int .i64)))) (gz H w0 wr Oz) (l853) (xsl853) ∧ Vec .byte (gz H w0 wr Oz) (vc1400) (c1400) ∧ Le (fz w (HAppend.hAppend ([.box ba0 [va0_0, .int .i64 a0.1.2, .int .i64 a0.2] 58] : List Res) O)) (fz wr Oz) ∧ (words_reader_index_k6 l1171 l853 s4_854) c1397 c1398 c1400 c1401 c1402 l1403 = some e855) ?_ ?_
     ·refine W_p 2 rfl ?_
      refine S_v (r_nilChk rfl) rfl ?_
      refine S_v (r_field rfl underlying58 rfl zr56 (by decide)) rfl ?_
      refine S_v (r_field rfl underlying56 rfl zr3 (by decide)) rfl ?_
      refine S_v (r_loadB1 4 rfl underlying3 rfl hL1233 rfl rfl) rfl ?_
      obtain ⟨hk1406, h⟩ := Go.L.chk_some h
      refine S_v (r_ar64 rfl rfl rfl hk1406) rfl ?_
      have hL1407 : Lcl w0 (HAppend.hAppend ([.box ba0 [vc1172, .int .i64 c1173, .int .i64 c1174] 58, .box b1232 [.int .i64 (0 : Int), .int .i64 (-1 : Int)] 64, .box b1230 [.string ⟨(l1171).toArray⟩, .slice none 0 0] 62, .row (vl1171) 5 1 (l1171).length (xsl1171), .row (vl853) 62 2 (l853).length (xsl853), .box b10 [.int .i64 (y8.1 - (1 : Int)), vl853] 25, .box b1 [.int .i64 (0 : Int), .slice none 0 0] 25] : List Res) O) w1233 := hL1233.picks [4] rfl
      have hle1407 := fz_picks [4] hL1233 hL1407 rfl
      replace hG1229 := hG1229.trans (gz_mono hH hle1407)
      replace hT := hT.trans hle1407
      obtain ⟨x1408, hb1408, h⟩ := Go.L.bind_some h
      refine S_callXF rfl rfl (words_reader_number_fr (a0 := ((c1172, c1173), c1174)) (a1 := (c1173 + (1 : Int))) (O := (HAppend.hAppend ([.box b1232 [.int .i64 (0 : Int), .int .i64 (-1 : Int)] 64, .box b1230 [.string ⟨(l1171).toArray⟩, .slice none 0 0] 62, .row (vl1171) 5 1 (l1171).length (xsl1171), .row (vl853) 62 2 (l853).length (xsl853), .box b10 [.int .i64 (y8.1 - (1 : Int)), vl853] 25, .box b1 [.int .i64 (0 : Int), .slice none 0 0] 25] : List Res) O)) hH hL1407 (hfc1172.mono hG1229) hb1408) ?_ ?_
      ·rintro rfl w1410 ⟨hL1410, hle1410⟩
       replace hG1229 := hG1229.trans (gz_mono hH hle1410)
       replace hT := hT.trans hle1410
       replace h := Go.L.onX_none h
       refine At_seq_panic ?_
       refine At_cut_panic ?_
       refine At_block_panic ?_
       refine At_cut_panic ?_
       refine At_loop_panic ?_
       replace h := Go.L.Nxt.out h hm855
       refine At_block_panic ?_
       refine At_cut_panic ?_
       obtain rfl := Option.some.inj h
       refine At_panX ?_
       have hL1412 := hL1410.dropAt (i := 0) rfl
       replace hG1229 := hG1229.trans (gz_mono hH (fz_dropAt (i := 0) rfl))
       replace hT := hT.trans (fz_dropAt (i := 0) rfl)
       have hL1413 := hL1412.dropAt (i := 0) rfl
       replace hG1229 := hG1229.trans (gz_mono hH (fz_dropAt (i := 0) rfl))
       replace hT := hT.trans (fz_dropAt (i := 0) rfl)
       have hL1414 := hL1413.dropAt (i := 0) rfl
       replace hG1229 := hG1229.trans (gz_mono hH (fz_dropAt (i := 0) rfl))
       replace hT := hT.trans (fz_dropAt (i := 0) rfl)
       have hL1415 := hL1414.dropAt (i := 0) rfl
       replace hG1229 := hG1229.trans (gz_mono hH (fz_dropAt (i := 0) rfl))
       replace hT := hT.trans (fz_dropAt (i := 0) rfl)
       have hL1416 := hL1415.dropAt (i := 0) rfl
       replace hG1229 := hG1229.trans (gz_mono hH (fz_dropAt (i := 0) rfl))
       replace hT := hT.trans (fz_dropAt (i := 0) rfl)
       have hL1417 := hL1416.dropAt (i := 0) rfl
       replace hG1229 := hG1229.trans (gz_mono hH (fz_dropAt (i := 0) rfl))
       replace hT := hT.trans (fz_dropAt (i := 0) rfl)
       exact XPo_none ⟨hL1417, hT⟩
      rintro y1418 rfl _ w1409 ⟨u1409_1, rfl, hL1409, hle1409, hf1409_1⟩
      replace h := Go.L.onX_some h
      replace hG1229 := hG1229.trans (gz_mono hH hle1409)
      replace hT := hT.trans hle1409
      refine S_pz 1 rfl ?_
      refine W_block ?_
      obtain ⟨hL1501, hle1501, he1501⟩ := row_nilE (.pair (.int .i64) (.int .i64)) H 64 hL1409
      replace hf1409_1 := hf1409_1.mono (gz_mono hH hle1501)
      replace hG1229 := hG1229.trans (gz_mono hH hle1501)
      replace hT := hT.trans hle1501
      obtain ⟨n1500, h⟩ := Go.L.run_some h
      refine W_loop (σ := (List UInt8) × Int × Int × Int × Int × (List (Int × Int)) × Int × Value × Value × (List Value) × Nat) (fun ⟨c1492, c1493, c1494, c1495, c1496, l1498, s9_1499, vc1492, vl1498, xsl1498, n⟩ => [(0, .pointer (some ⟨ba0, 0, none⟩)), (2, .pointer (some ⟨b1, 0, none⟩)), (3, .pointer (some ⟨b10, 0, none⟩)), (4, .int .i64 s4_854), (7, .pointer (some ⟨b1230, 0, none⟩)), (8, .pointer (some ⟨b1232, 0, none⟩)), (9, .int .i64 s9_1499)]) (fun ⟨c1492, c1493, c1494, c1495, c1496, l1498, s9_1499, vc1492, vl1498, xsl1498, n⟩ wr => InO w0 (HAppend.hAppend ([.row (vl1498) 64 2 (l1498).length (xsl1498), .box ba0 [vc1492, .int .i64 c1493, .int .i64 c1494] 58, .box b1232 [.int .i64 c1495, .int .i64 c1496] 64, .box b1230 [.string ⟨(l1171).toArray⟩, vl1498] 62, .row (vl1171) 5 1 (l1171).length (xsl1171), .row (vl853) 62 2 (l853).length (xsl853), .box b10 [.int .i64 (y8.1 - (1 : Int)), vl853] 25, .box b1 [.int .i64 (0 : Int), .slice none 0 0] 25] : List Res) O) wr fun Oz => Elems (.pair (.int .i64) (.int .i64)) (gz H w0 wr Oz) (l1498) (xsl1498) ∧ Vec .byte (gz H w0 wr Oz) (vc1492) (c1492) ∧ Elems .byte (gz H w0 wr Oz) (l1171) (xsl1171) ∧ Elems (.pair .st (.vec (.pair (.int .i64) (.int .i64)))) (gz H w0 wr Oz) (l853) (xsl853) ∧ Le (fz w (HAppend.hAppend ([.box ba0 [va0_0, .int .i64 a0.1.2, .int .i64 a0.2] 58] : List Res) O)) (fz wr Oz) ∧ Go.L.itr (words_reader_index_bl7 l1171 l853 s4_854 y8) n (c1492, c1493, c1494, c1495, c1496, l1498, s9_1499) = some e855) (fun ⟨c1492, c1493, c1494, c1495, c1496, l1498, s9_1499, vc1492, vl1498, xsl1498, n⟩ => n) (y1418.2.1.1, y1418.2.1.2, y1418.2.2, (0 : Int), (-1 : Int), ([] : List (Int × Int)), y1418.1, u1409_1, .slice none 0 0, [], n1500) (.cons rfl (.cons rfl (.cons rfl (.cons rfl (.cons rfl (.cons rfl (.cons rfl (Sub.nil _)))))))) ⟨hL1501, he1501, hf1409_1, (hel1171.mono hG1229), (hel853.mono hG1229), hT, h⟩ ?_
      rintro ⟨c1492, c1493, c1494, c1495, c1496, l1498, s9_1499, vc1492, vl1498, xsl1498, nn1500⟩ wr1500 ⟨hL1500, hel1498, hfc1492, he1500_r1128, he1500_j852, hT, h⟩
      obtain ⟨n1500, e1500, rfl, h, hm1500⟩ := Go.L.itr_some h
      refine W_seq ?_
      have hG1503 := hL1500.rG H
      refine W_pz 2 rfl ?_
      refine W_if rfl (fun hc1504 => ?_) (fun hc1504 => ?_)
      ·replace h := Go.L.ite_p hc1504 h
       refine W_skip ?_
       refine At_seq ?_
       refine W_seq ?_
       refine W_block ?_
       refine W_cut (σ := (List UInt8) × Int × Int × Int × Int × Value × Nat) (fun ⟨c1526, c1527, c1528, c1530, c1531, vc1526, bjb1529⟩ => [(0, .pointer (some ⟨ba0, 0, none⟩)), (2, .pointer (some ⟨b1, 0, none⟩)), (3, .pointer (some ⟨b10, 0, none⟩)), (4, .int .i64 s4_854), (7, .pointer (some ⟨b1230, 0, none⟩)), (8, .pointer (some ⟨b1232, 0, none⟩)), (9, .int .i64 s9_1499), (10, .pointer (some ⟨bjb1529, 0, none⟩))]) (fun ⟨c1526, c1527, c1528, c1530, c1531, vc1526, bjb1529⟩ wr => InO w0 (HAppend.hAppend ([.box bjb1529 [.int .i64 c1530, .int .i64 c1531] 64, .row (vl1498) 64 2 (l1498).length (xsl1498), .box ba0 [vc1526, .int .i64 c1527, .int .i64 c1528] 58, .box b1232 [.int .i64 c1495, .int .i64 c1496] 64, .box b1230 [.string ⟨(l1171).toArray⟩, vl1498] 62, .row (vl1171) 5 1 (l1171).length (xsl1171), .row (vl853) 62 2 (l853).length (xsl853), .box b10 [.int .i64 (y8.1 - (1 : Int)), vl853] 25, .box b1 [.int .i64 (0 : Int), .slice none 0 0] 25] : List Res) O) wr fun Oz => Elems (.pair (.int .i64) (.int .i64)) (gz H w0 wr Oz) (l1498) (xsl1498) ∧ Vec .byte (gz H w0 wr Oz) (vc1526) (c1526) ∧ Elems .byte (gz H w0 wr Oz) (l1171) (xsl1171) ∧ Elems (.pair .st (.vec (.pair (.int .i64) (.int .i64)))) (gz H w0 wr Oz) (l853) (xsl853) ∧ Le (fz w (HAppend.hAppend ([.box ba0 [va0_0, .int .i64 a0.1.2, .int .i64 a0.2] 58] : List Res) O)) (fz wr Oz) ∧ (words_reader_index_k8 c1495 c1496 l1498 s9_1499 y8) c1526 c1527 c1528 c1530 c1531 = some e1500) ?_ ?_
       ·refine W_naiveI (fun z0 z => Le (gz H w0 z0 (HAppend.hAppend ([.row (vl1498) 64 2 (l1498).length (xsl1498), .box ba0 [vc1492, .int .i64 c1493, .int .i64 c1494] 58, .box b1232 [.int .i64 c1495, .int .i64 c1496] 64, .box b1230 [.string ⟨(l1171).toArray⟩, vl1498] 62, .row (vl1171) 5 1 (l1171).length (xsl1171), .row (vl853) 62 2 (l853).length (xsl853), .box b10 [.int .i64 (y8.1 - (1 : Int)), vl853] 25, .box b1 [.int .i64 (0 : Int), .slice none 0 0] 25] : List Res) O)) (hp z) ∧ z.heap[b1232]? = some (.cells [.int .i64 c1495, .int .i64 c1496].toArray 64 (0, 0)) ∧ z.heap[b1]? = some (.cells [.int .i64 (0 : Int), .slice none 0 0].toArray 25 (0, 0))) mixed rfl (fun w1534 hx1534 => ?_)
        have hL1535 := hL1500.call hx1534
        have hle1535 := fz_ext hL1500 hx1534
        replace hG1503 := hG1503.trans (gz_mono hH hle1535)
        replace hT := hT.trans hle1535
        have hG1536 := hL1535.rG H
        refine NI_hoist 0 (np_cut (np_block (np_seq (np_loop (np_block (np_cut (np_block (np_cut (np_loop (np_block (np_cut np_bodyX))))))))))) ⟨hG1536.trans (gz_le hH hL1535), hL1535.at (i := 2) rfl, hL1535.at (i := 7) rfl⟩ (by kernel_rfl) rfl (fun _ _ => r_field rfl underlying64 rfl zr3 (by decide)) rfl ?_
        refine NI_hoist 1 (np_cut (np_block (np_seq (np_loop (np_block (np_cut (np_block (np_cut (np_loop (np_block (np_cut np_bodyX))))))))))) ⟨hG1536.trans (gz_le hH hL1535), hL1535.at (i := 2) rfl, hL1535.at (i := 7) rfl⟩ (by kernel_rfl) rfl (fun _ hI => r_loadH1 rfl underlying3 rfl hI.2.1 rfl) rfl ?_
        refine NI_hoist 2 (np_cut (np_block (np_seq (np_loop (np_block (np_cut (np_block (np_cut (np_loop (np_block (np_cut np_bodyX))))))))))) ⟨hG1536.trans (gz_le hH hL1535), hL1535.at (i := 2) rfl, hL1535.at (i := 7) rfl⟩ (by kernel_rfl) rfl (fun _ _ => RunsAt_pu rfl) rfl ?_
        refine NI2 (i := 3) (j := 7) (by kernel_rfl) rfl rfl ?_ ?_
        ·have hL1537 : Lcl w0 (HAppend.hAppend ([.box ba0 [vc1492, .int .i64 c1493, .int .i64 c1494] 58, .row (vl1498) 64 2 (l1498).length (xsl1498), .box b1232 [.int .i64 c1495, .int .i64 c1496] 64, .box b1230 [.string ⟨(l1171).toArray⟩, vl1498] 62, .row (vl1171) 5 1 (l1171).length (xsl1171), .row (vl853) 62 2 (l853).length (xsl853), .box b10 [.int .i64 (y8.1 - (1 : Int)), vl853] 25, .box b1 [.int .i64 (0 : Int), .slice none 0 0] 25] : List Res) O) w1534 := hL1535.picks [1] rfl
         have hle1537 := fz_picks [1] hL1535 hL1537 rfl
         replace hG1536 := hG1536.trans (gz_mono hH hle1537)
         replace hT := hT.trans hle1537
         obtain ⟨x1538, hb1538, h⟩ := Go.L.bind_some h
         refine S_callXF rfl rfl (words_reader_number_fr (a0 := ((c1492, c1493), c1494)) (a1 := (64 : Int)) (O := (HAppend.hAppend ([.row (vl1498) 64 2 (l1498).length (xsl1498), .box b1232 [.int .i64 c1495, .int .i64 c1496] 64, .box b1230 [.string ⟨(l1171).toArray⟩, vl1498] 62, .row (vl1171) 5 1 (l1171).length (xsl1171), .row (vl853) 62 2 (l853).length (xsl853), .box b10 [.int .i64 (y8.1 - (1 : Int)), vl853] 25, .box b1 [.int .i64 (0 : Int), .slice none 0 0] 25] : List Res) O)) hH hL1537 ((hfc1492.mono hG1503).mono hG1536) hb1538) ?_ ?_
         ·rintro rfl w1540 ⟨hL1540, hle1540⟩
          replace hG1536 := hG1536.trans (gz_mono hH hle1540)
          replace hT := hT.trans hle1540
          replace h := Go.L.onX_none h
          refine At_nI_panic ?_
          refine At_cut_panic ?_
          refine At_block_panic ?_
          refine At_seq_panic ?_
          refine At_loop_panic ?_
          replace h := Go.L.Nxt.out h hm1500
          refine At_block_panic ?_
          refine At_cut_panic ?_
          refine At_block_panic ?_
          refine At_cut_panic ?_
          refine At_loop_panic ?_
          replace h := Go.L.Nxt.out h hm855
          refine At_block_panic ?_
          refine At_cut_panic ?_
          obtain rfl := Option.some.inj h
          refine At_panX ?_
          have hL1542 := hL1540.dropAt (i := 0) rfl
          replace hG1536 := hG1536.trans (gz_mono hH (fz_dropAt (i := 0) rfl))
          replace hT := hT.trans (fz_dropAt (i := 0) rfl)
          have hL1543 := hL1542.dropAt (i := 0) rfl
          replace hG1536 := hG1536.trans (gz_mono hH (fz_dropAt (i := 0) rfl))
          replace hT := hT.trans (fz_dropAt (i := 0) rfl)
          have hL1544 := hL1543.dropAt (i := 0) rfl
          replace hG1536 := hG1536.trans (gz_mono hH (fz_dropAt (i := 0) rfl))
          replace hT := hT.trans (fz_dropAt (i := 0) rfl)
          have hL1545 := hL1544.dropAt (i := 0) rfl
          replace hG1536 := hG1536.trans (gz_mono hH (fz_dropAt (i := 0) rfl))
          replace hT := hT.trans (fz_dropAt (i := 0) rfl)
          have hL1546 := hL1545.dropAt (i := 0) rfl
          replace hG1536 := hG1536.trans (gz_mono hH (fz_dropAt (i := 0) rfl))
          replace hT := hT.trans (fz_dropAt (i := 0) rfl)
          have hL1547 := hL1546.dropAt (i := 0) rfl
          replace hG1536 := hG1536.trans (gz_mono hH (fz_dropAt (i := 0) rfl))
          replace hT := hT.trans (fz_dropAt (i := 0) rfl)
          have hL1548 := hL1547.dropAt (i := 0) rfl
          replace hG1536 := hG1536.trans (gz_mono hH (fz_dropAt (i := 0) rfl))
          replace hT := hT.trans (fz_dropAt (i := 0) rfl)
          exact XPo_none ⟨hL1548, hT⟩
         rintro y1549 rfl _ w1539 ⟨u1539_1, rfl, hL1539, hle1539, hf1539_1⟩
         replace h := Go.L.onX_some h
         replace hG1536 := hG1536.trans (gz_mono hH hle1539)
         replace hT := hT.trans hle1539
         refine NI_nil ⟨hG1536.trans (gz_le hH hL1539), hL1539.at (i := 2) rfl, hL1539.at (i := 7) rfl⟩ ?_
         obtain ⟨hk1550, h⟩ := Go.L.chk_some h
         refine NI_hoist 4 (np_cut (np_block (np_seq (np_loop (np_block (np_cut (np_block (np_cut (np_loop (np_block (np_cut np_bodyX))))))))))) ⟨hG1536.trans (gz_le hH hL1539), hL1539.at (i := 2) rfl, hL1539.at (i := 7) rfl⟩ (by kernel_rfl) rfl (fun _ _ => r_ar64 rfl rfl rfl hk1550) rfl ?_
         obtain ⟨hk1551, h⟩ := Go.L.chk_some h
         refine NI_hoist 5 (np_cut (np_block (np_seq (np_loop (np_block (np_cut (np_block (np_cut (np_loop (np_block (np_cut np_bodyX))))))))))) ⟨hG1536.trans (gz_le hH hL1539), hL1539.at (i := 2) rfl, hL1539.at (i := 7) rfl⟩ (by kernel_rfl) rfl (fun _ _ => r_ar64 rfl rfl rfl hk1551) rfl ?_
         refine NI_hoist 6 (np_cut (np_block (np_seq (np_loop (np_block (np_cut (np_block (np_cut (np_loop (np_block (np_cut np_bodyX))))))))))) ⟨hG1536.trans (gz_le hH hL1539), hL1539.at (i := 2) rfl, hL1539.at (i := 7) rfl⟩ (by kernel_rfl) rfl (fun _ _ => r_build rfl (fun _ => bld64_0 _ _)) rfl ?_
         refine NI1 (i := 7) (by kernel_rfl) rfl ?_
         refine S_alloc zr64 rfl rfl hL1539 ?_
         intro w1552 b1552 hL1552 hle1552 _
         replace hf1539_1 := hf1539_1.mono (gz_mono hH hle1552)
         replace hG1536 := hG1536.trans (gz_mono hH hle1552)
         replace hT := hT.trans hle1552
         refine NI_nil ⟨hG1536.trans (gz_le hH hL1552), hL1552.at (i := 3) rfl, hL1552.at (i := 8) rfl⟩ ?_
         refine NI1 (i := 8) (by kernel_rfl) rfl ?_
         refine S_storeBN 0 rfl rfl rfl zr64 hL1552 rfl rfl (onc rfl (onc rfl on0)) ?_
         intro w1553 hL1553 hle1553
         replace hf1539_1 := hf1539_1.mono (gz_mono hH hle1553)
         replace hG1536 := hG1536.trans (gz_mono hH hle1553)
         replace hT := hT.trans hle1553
         refine NI_last (by kernel_rfl) ?_
         refine NI_end (by kernel_rfl) ?_
         have hL1554 : Lcl w0 (HAppend.hAppend ([.box b1552 [.int .i64 ((c1495 + y1549.1) - (1 : Int)), .int .i64 (0 : Int)] 64, .row (vl1498) 64 2 (l1498).length (xsl1498), .box ba0 [u1539_1, .int .i64 y1549.2.1.2, .int .i64 y1549.2.2] 58, .box b1232 [.int .i64 c1495, .int .i64 c1496] 64, .box b1230 [.string ⟨(l1171).toArray⟩, vl1498] 62, .row (vl1171) 5 1 (l1171).length (xsl1171), .row (vl853) 62 2 (l853).length (xsl853), .box b10 [.int .i64 (y8.1 - (1 : Int)), vl853] 25, .box b1 [.int .i64 (0 : Int), .slice none 0 0] 25] : List Res) O) w1553 := hL1553.picks [2, 1] rfl
         have hle1554 := fz_picks [2, 1] hL1553 hL1554 rfl
         replace hf1539_1 := hf1539_1.mono (gz_mono hH hle1554)
         replace hG1536 := hG1536.trans (gz_mono hH hle1554)
         replace hT := hT.trans hle1554
         refine At_cut (y1549.2.1.1, y1549.2.1.2, y1549.2.2, ((c1495 + y1549.1) - (1 : Int)), (0 : Int), u1539_1, b1552) (.cons rfl (.cons rfl (.cons rfl (.cons rfl (.cons rfl (.cons rfl (.cons rfl (.cons rfl (Sub.nil _))))))))) ⟨hL1554, ((hel1498.mono hG1503).mono hG1536), hf1539_1, ((he1500_r1128.mono hG1503).mono hG1536), ((he1500_j852.mono hG1503).mono hG1536), hT, h⟩
        ·obtain ⟨x1538, hb1538, h⟩ := Go.L.bind_some h
         refine S_alloc zr64 rfl rfl hL1535 ?_
         intro w1555 b1555 hL1555 hle1555 _
         replace hG1536 := hG1536.trans (gz_mono hH hle1555)
         replace hT := hT.trans hle1555
         refine NI_nil ⟨hG1536.trans (gz_le hH hL1555), hL1555.at (i := 3) rfl, hL1555.at (i := 8) rfl⟩ ?_
         refine NI1 (i := 3) (by kernel_rfl) rfl ?_
         have hL1556 : Lcl w0 (HAppend.hAppend ([.box ba0 [vc1492, .int .i64 c1493, .int .i64 c1494] 58, .box b1555 [.int .i64 (0 : Int), .int .i64 (0 : Int)] 64, .row (vl1498) 64 2 (l1498).length (xsl1498), .box b1232 [.int .i64 c1495, .int .i64 c1496] 64, .box b1230 [.string ⟨(l1171).toArray⟩, vl1498] 62, .row (vl1171) 5 1 (l1171).length (xsl1171), .row (vl853) 62 2 (l853).length (xsl853), .box b10 [.int .i64 (y8.1 - (1 : Int)), vl853] 25, .box b1 [.int .i64 (0 : Int), .slice none 0 0] 25] : List Res) O) w1555 := hL1555.picks [2] rfl
         have hle1556 := fz_picks [2] hL1555 hL1556 rfl
         replace hG1536 := hG1536.trans (gz_mono hH hle1556)
         replace hT := hT.trans hle1556
         refine S_callXF rfl rfl (words_reader_number_fr (a0 := ((c1492, c1493), c1494)) (a1 := (64 : Int)) (O := (HAppend.hAppend ([.box b1555 [.int .i64 (0 : Int), .int .i64 (0 : Int)] 64, .row (vl1498) 64 2 (l1498).length (xsl1498), .box b1232 [.int .i64 c1495, .int .i64 c1496] 64, .box b1230 [.string ⟨(l1171).toArray⟩, vl1498] 62, .row (vl1171) 5 1 (l1171).length (xsl1171), .row (vl853) 62 2 (l853).length (xsl853), .box b10 [.int .i64 (y8.1 - (1 : Int)), vl853] 25, .box b1 [.int .i64 (0 : Int), .slice none 0 0] 25] : List Res) O)) hH hL1556 ((hfc1492.mono hG1503).mono hG1536) hb1538) ?_ ?_
         ·rintro rfl w1558 ⟨hL1558, hle1558⟩
          replace hG1536 := hG1536.trans (gz_mono hH hle1558)
          replace hT := hT.trans hle1558
          replace h := Go.L.onX_none h
          refine At_nI_panic ?_
          refine At_cut_panic ?_
          refine At_block_panic ?_
          refine At_seq_panic ?_
          refine At_loop_panic ?_
          replace h := Go.L.Nxt.out h hm1500
          refine At_block_panic ?_
          refine At_cut_panic ?_
          refine At_block_panic ?_
          refine At_cut_panic ?_
          refine At_loop_panic ?_
          replace h := Go.L.Nxt.out h hm855
          refine At_block_panic ?_
          refine At_cut_panic ?_
          obtain rfl := Option.some.inj h
          refine At_panX ?_
          have hL1560 := hL1558.dropAt (i := 0) rfl
          replace hG1536 := hG1536.trans (gz_mono hH (fz_dropAt (i := 0) rfl))
          replace hT := hT.trans (fz_dropAt (i := 0) rfl)
          have hL1561 := hL1560.dropAt (i := 0) rfl
          replace hG1536 := hG1536.trans (gz_mono hH (fz_dropAt (i := 0) rfl))
          replace hT := hT.trans (fz_dropAt (i := 0) rfl)
          have hL1562 := hL1561.dropAt (i := 0) rfl
          replace hG1536 := hG1536.trans (gz_mono hH (fz_dropAt (i := 0) rfl))
          replace hT := hT.trans (fz_dropAt (i := 0) rfl)
          have hL1563 := hL1562.dropAt (i := 0) rfl
          replace hG1536 := hG1536.trans (gz_mono hH (fz_dropAt (i := 0) rfl))
          replace hT := hT.trans (fz_dropAt (i := 0) rfl)
          have hL1564 := hL1563.dropAt (i := 0) rfl
          replace hG1536 := hG1536.trans (gz_mono hH (fz_dropAt (i := 0) rfl))
          replace hT := hT.trans (fz_dropAt (i := 0) rfl)
          have hL1565 := hL1564.dropAt (i := 0) rfl
          replace hG1536 := hG1536.trans (gz_mono hH (fz_dropAt (i := 0) rfl))
          replace hT := hT.trans (fz_dropAt (i := 0) rfl)
          have hL1566 := hL1565.dropAt (i := 0) rfl
          replace hG1536 := hG1536.trans (gz_mono hH (fz_dropAt (i := 0) rfl))
          replace hT := hT.trans (fz_dropAt (i := 0) rfl)
          have hL1567 := hL1566.dropAt (i := 0) rfl
          replace hG1536 := hG1536.trans (gz_mono hH (fz_dropAt (i := 0) rfl))
          replace hT := hT.trans (fz_dropAt (i := 0) rfl)
          exact XPo_none ⟨hL1567, hT⟩
         rintro y1549 rfl _ w1557 ⟨u1557_1, rfl, hL1557, hle1557, hf1557_1⟩
         replace h := Go.L.onX_some h
         obtain ⟨hk1550, h⟩ := Go.L.chk_some h
         obtain ⟨hk1551, h⟩ := Go.L.chk_some h
         replace hG1536 := hG1536.trans (gz_mono hH hle1557)
         replace hT := hT.trans hle1557
         refine NI_nil ⟨hG1536.trans (gz_le hH hL1557), hL1557.at (i := 3) rfl, hL1557.at (i := 8) rfl⟩ ?_
         refine NI_hoist 4 (np_cut (np_block (np_seq (np_loop (np_block (np_cut (np_block (np_cut (np_loop (np_block (np_cut np_bodyX))))))))))) ⟨hG1536.trans (gz_le hH hL1557), hL1557.at (i := 3) rfl, hL1557.at (i := 8) rfl⟩ (by kernel_rfl) rfl (fun _ _ => r_ar64 rfl rfl rfl hk1550) rfl ?_
         refine NI_hoist 5 (np_cut (np_block (np_seq (np_loop (np_block (np_cut (np_block (np_cut (np_loop (np_block (np_cut np_bodyX))))))))))) ⟨hG1536.trans (gz_le hH hL1557), hL1557.at (i := 3) rfl, hL1557.at (i := 8) rfl⟩ (by kernel_rfl) rfl (fun _ _ => r_ar64 rfl rfl rfl hk1551) rfl ?_
         refine NI_hoist 6 (np_cut (np_block (np_seq (np_loop (np_block (np_cut (np_block (np_cut (np_loop (np_block (np_cut np_bodyX))))))))))) ⟨hG1536.trans (gz_le hH hL1557), hL1557.at (i := 3) rfl, hL1557.at (i := 8) rfl⟩ (by kernel_rfl) rfl (fun _ _ => r_build rfl (fun _ => bld64_0 _ _)) rfl ?_
         refine NI1 (i := 8) (by kernel_rfl) rfl ?_
         refine S_storeBN 1 rfl rfl rfl zr64 hL1557 rfl rfl (onc rfl (onc rfl on0)) ?_
         intro w1568 hL1568 hle1568
         replace hf1557_1 := hf1557_1.mono (gz_mono hH hle1568)
         replace hG1536 := hG1536.trans (gz_mono hH hle1568)
         replace hT := hT.trans hle1568
         refine NI_last (by kernel_rfl) ?_
         refine NI_end (by kernel_rfl) ?_
         have hL1569 : Lcl w0 (HAppend.hAppend ([.box b1555 [.int .i64 ((c1495 + y1549.1) - (1 : Int)), .int .i64 (0 : Int)] 64, .row (vl1498) 64 2 (l1498).length (xsl1498), .box ba0 [u1557_1, .int .i64 y1549.2.1.2, .int .i64 y1549.2.2] 58, .box b1232 [.int .i64 c1495, .int .i64 c1496] 64, .box b1230 [.string ⟨(l1171).toArray⟩, vl1498] 62, .row (vl1171) 5 1 (l1171).length (xsl1171), .row (vl853) 62 2 (l853).length (xsl853), .box b10 [.int .i64 (y8.1 - (1 : Int)), vl853] 25, .box b1 [.int .i64 (0 : Int), .slice none 0 0] 25] : List Res) O) w1568 := hL1568.picks [2, 2] rfl
         have hle1569 := fz_picks [2, 2] hL1568 hL1569 rfl
         replace hf1557_1 := hf1557_1.mono (gz_mono hH hle1569)
         replace hG1536 := hG1536.trans (gz_mono hH hle1569)
         replace hT := hT.trans hle1569
         refine At_cut (y1549.2.1.1, y1549.2.1.2, y1549.2.2, ((c1495 + y1549.1) - (1 : Int)), (0 : Int), u1557_1, b1555) (.cons rfl (.cons rfl (.cons rfl (.cons rfl (.cons rfl (.cons rfl (.cons rfl (.cons rfl (Sub.nil _))))))))) ⟨hL1569, ((hel1498.mono hG1503).mono hG1536), hf1557_1, ((he1500_r1128.mono hG1503).mono hG1536), ((he1500_j852.mono hG1503).mono hG1536), hT, h⟩
       ·rintro ⟨c1526, c1527, c1528, c1530, c1531, vc1526, bjb1529⟩ wr1532 ⟨hL1532, he1532_j1497, hfc1526, he1532_r1128, he1532_j852, hT, h⟩
        refine W_cut (σ := Int) (fun c1578 => [(0, .pointer (some ⟨ba0, 0, none⟩)), (2, .pointer (some ⟨b1, 0, none⟩)), (3, .pointer (some ⟨b10, 0, none⟩)), (4, .int .i64 s4_854), (7, .pointer (some ⟨b1230, 0, none⟩)), (8, .pointer (some ⟨b1232, 0, none⟩)), (9, .int .i64 s9_1499), (10, .pointer (some ⟨bjb1529, 0, none⟩))]) (fun c1578 wr => InO w0 (HAppend.hAppend ([.box bjb1529 [.int .i64 c1530, .int .i64 c1578] 64, .row (vl1498) 64 2 (l1498).length (xsl1498), .box ba0 [vc1526, .int .i64 c1527, .int .i64 c1528] 58, .box b1232 [.int .i64 c1495, .int .i64 c1496] 64, .box b1230 [.string ⟨(l1171).toArray⟩, vl1498] 62, .row (vl1171) 5 1 (l1171).length (xsl1171), .row (vl853) 62 2 (l853).length (xsl853), .box b10 [.int .i64 (y8.1 - (1 : Int)), vl853] 25, .box b1 [.int .i64 (0 : Int), .slice none 0 0] 25] : List Res) O) wr fun Oz => Elems (.pair (.int .i64) (.int .i64)) (gz H w0 wr Oz) (l1498) (xsl1498) ∧ Vec .byte (gz H w0 wr Oz) (vc1526) (c1526) ∧ Elems .byte (gz H w0 wr Oz) (l1171) (xsl1171) ∧ Elems (.pair .st (.vec (.pair (.int .i64) (.int .i64)))) (gz H w0 wr Oz) (l853) (xsl853) ∧ Le (fz w (HAppend.hAppend ([.box ba0 [va0_0, .int .i64 a0.1.2, .int .i64 a0.2] 58] : List Res) O)) (fz wr Oz) ∧ (words_reader_index_k9 c1526 c1527 c1528 c1530 l1498 s9_1499 y8) c1578 = some e1500) ?_ ?_
        ·have hG1581 := hL1532.rG H
         refine W_seqr ?_
         refine S_v (r_field rfl underlying64 rfl zr3 (by decide)) rfl ?_
         refine S_v (r_loadB1 0 rfl underlying3 rfl hL1532 rfl rfl) rfl ?_
         refine S_v (r_field rfl underlying64 rfl zr3 (by decide)) rfl ?_
         refine S_v (r_loadB1 3 rfl underlying3 rfl hL1532 rfl rfl) rfl ?_
         refine S_pz 1 rfl ?_
         refine W_if rfl (fun hc1582 => ?_) (fun hc1582 => ?_)
         ·replace h := Go.L.ite_p hc1582 h
          refine W_region ?_
          refine S_v (r_field rfl underlying64 rfl zr3 (by decide)) rfl ?_
          refine S_v (r_loadB1 3 rfl underlying3 rfl hL1532 rfl rfl) rfl ?_
          refine S_v (r_field rfl underlying64 rfl zr3 (by decide)) rfl ?_
          refine S_storeB1 0 rfl rfl rfl zr3 hL1532 rfl rfl ?_
          intro w1584 hL1584 hle1584
          replace hG1581 := hG1581.trans (gz_mono hH hle1584)
          replace hT := hT.trans hle1584
          refine S_nil ?_
          refine At_cut c1496 (.cons rfl (.cons rfl (.cons rfl (.cons rfl (.cons rfl (.cons rfl (.cons rfl (.cons rfl (Sub.nil _))))))))) ⟨hL1584, (he1532_j1497.mono hG1581), (hfc1526.mono hG1581), (he1532_r1128.mono hG1581), (he1532_j852.mono hG1581), hT, h⟩
         ·replace h := Go.L.ite_n hc1582 h
          refine W_region ?_
          refine S_v (r_field rfl underlying64 rfl zr3 (by decide)) rfl ?_
          refine S_storeB1 0 rfl rfl rfl zr3 hL1532 rfl rfl ?_
          intro w1586 hL1586 hle1586
          replace hG1581 := hG1581.trans (gz_mono hH hle1586)
          replace hT := hT.trans hle1586
          refine S_nil ?_
          refine At_cut (-1 : Int) (.cons rfl (.cons rfl (.cons rfl (.cons rfl (.cons rfl (.cons rfl (.cons rfl (.cons rfl (Sub.nil _))))))))) ⟨hL1586, (he1532_j1497.mono hG1581), (hfc1526.mono hG1581), (he1532_r1128.mono hG1581), (he1532_j852.mono hG1581), hT, h⟩
        ·rintro c1578 wr1579 ⟨hL1579, he1579_j1497, hf1579_1, he1579_r1128, he1579_j852, hT, h⟩
         refine W_cut (σ := Int × (List UInt8) × Int × Int × Value) (fun ⟨c1601, c1602, c1603, c1604, vc1602⟩ => [(0, .pointer (some ⟨ba0, 0, none⟩)), (2, .pointer (some ⟨b1, 0, none⟩)), (3, .pointer (some ⟨b10, 0, none⟩)), (4, .int .i64 s4_854), (7, .pointer (some ⟨b1230, 0, none⟩)), (8, .pointer (some ⟨b1232, 0, none⟩)), (9, .int .i64 s9_1499), (10, .pointer (some ⟨bjb1529, 0, none⟩))]) (fun ⟨c1601, c1602, c1603, c1604, vc1602⟩ wr => InO w0 (HAppend.hAppend ([.box bjb1529 [.int .i64 c1530, .int .i64 c1601] 64, .row (vl1498) 64 2 (l1498).length (xsl1498), .box ba0 [vc1602, .int .i64 c1603, .int .i64 c1604] 58, .box b1232 [.int .i64 c1495, .int .i64 c1496] 64, .box b1230 [.string ⟨(l1171).toArray⟩, vl1498] 62, .row (vl1171) 5 1 (l1171).length (xsl1171), .row (vl853) 62 2 (l853).length (xsl853), .box b10 [.int .i64 (y8.1 - (1 : Int)), vl853] 25, .box b1 [.int .i64 (0 : Int), .slice none 0 0] 25] : List Res) O) wr fun Oz => Elems (.pair (.int .i64) (.int .i64)) (gz H w0 wr Oz) (l1498) (xsl1498) ∧ Vec .byte (gz H w0 wr Oz) (vc1602) (c1602) ∧ Elems .byte (gz H w0 wr Oz) (l1171) (xsl1171) ∧ Elems (.pair .st (.vec (.pair (.int .i64) (.int .i64)))) (gz H w0 wr Oz) (l853) (xsl853) ∧ Le (fz w (HAppend.hAppend ([.box ba0 [va0_0, .int .i64 a0.1.2, .int .i64 a0.2] 58] : List Res) O)) (fz wr Oz) ∧ (words_reader_index_k10 c1530 l1498 s9_1499 y8) c1601 c1602 c1603 c1604 = some e1500) ?_ ?_
         ·have hG1607 := hL1579.rG H
          refine W_naiveI (fun z0 z => Le (gz H w0 z0 (HAppend.hAppend ([.box bjb1529 [.int .i64 c1530, .int .i64 c1578] 64, .row (vl1498) 64 2 (l1498).length (xsl1498), .box ba0 [vc1526, .int .i64 c1527, .int .i64 c1528] 58, .box b1232 [.int .i64 c1495, .int .i64 c1496] 64, .box b1230 [.string ⟨(l1171).toArray⟩, vl1498] 62, .row (vl1171) 5 1 (l1171).length (xsl1171), .row (vl853) 62 2 (l853).length (xsl853), .box b10 [.int .i64 (y8.1 - (1 : Int)), vl853] 25, .box b1 [.int .i64 (0 : Int), .slice none 0 0] 25] : List Res) O)) (hp z) ∧ z.heap[bjb1529]? = some (.cells [.int .i64 c1530, .int .i64 c1578].toArray 64 (0, 0)) ∧ z.heap[b1232]? = some (.cells [.int .i64 c1495, .int .i64 c1496].toArray 64 (0, 0)) ∧ z.heap[b1]? = some (.cells [.int .i64 (0 : Int), .slice none 0 0].toArray 25 (0, 0))) mixed rfl (fun w1608 hx1608 => ?_)
          have hL1609 := hL1579.call hx1608
          have hle1609 := fz_ext hL1579 hx1608
          replace hG1607 := hG1607.trans (gz_mono hH hle1609)
          replace hT := hT.trans hle1609
          have hG1610 := hL1609.rG H
          refine NI_hoist 0 (np_cut (np_block (np_seq (np_loop (np_block (np_cut (np_block (np_cut (np_loop (np_block (np_cut np_bodyX))))))))))) ⟨hG1610.trans (gz_le hH hL1609), hL1609.at (i := 0) rfl, hL1609.at (i := 3) rfl, hL1609.at (i := 8) rfl⟩ (by kernel_rfl) rfl (fun _ _ => r_field rfl underlying64 rfl zr3 (by decide)) rfl ?_
          refine NI_hoist 1 (np_cut (np_block (np_seq (np_loop (np_block (np_cut (np_block (np_cut (np_loop (np_block (np_cut np_bodyX))))))))))) ⟨hG1610.trans (gz_le hH hL1609), hL1609.at (i := 0) rfl, hL1609.at (i := 3) rfl, hL1609.at (i := 8) rfl⟩ (by kernel_rfl) rfl (fun _ hI => r_loadH1 rfl underlying3 rfl hI.2.1 rfl) rfl ?_
          refine NI_hoist 2 (np_cut (np_block (np_seq (np_loop (np_block (np_cut (np_block (np_cut (np_loop (np_block (np_cut np_bodyX))))))))))) ⟨hG1610.trans (gz_le hH hL1609), hL1609.at (i := 0) rfl, hL1609.at (i := 3) rfl, hL1609.at (i := 8) rfl⟩ (by kernel_rfl) rfl (fun _ _ => RunsAt_pu rfl) rfl ?_
          refine NI1 (i := 3) (by kernel_rfl) rfl ?_
          have hL1611 : Lcl w0 (HAppend.hAppend ([.box ba0 [vc1526, .int .i64 c1527, .int .i64 c1528] 58, .box bjb1529 [.int .i64 c1530, .int .i64 c1578] 64, .row (vl1498) 64 2 (l1498).length (xsl1498), .box b1232 [.int .i64 c1495, .int .i64 c1496] 64, .box b1230 [.string ⟨(l1171).toArray⟩, vl1498] 62, .row (vl1171) 5 1 (l1171).length (xsl1171), .row (vl853) 62 2 (l853).length (xsl853), .box b10 [.int .i64 (y8.1 - (1 : Int)), vl853] 25, .box b1 [.int .i64 (0 : Int), .slice none 0 0] 25] : List Res) O) w1608 := hL1609.picks [2] rfl
          have hle1611 := fz_picks [2] hL1609 hL1611 rfl
          replace hG1610 := hG1610.trans (gz_mono hH hle1611)
          replace hT := hT.trans hle1611
          obtain ⟨x1612, hb1612, h⟩ := Go.L.bind_some h
          refine S_callXF rfl rfl (words_reader_number_fr (a0 := ((c1526, c1527), c1528)) (a1 := (2048 : Int)) (O := (HAppend.hAppend ([.box bjb1529 [.int .i64 c1530, .int .i64 c1578] 64, .row (vl1498) 64 2 (l1498).length (xsl1498), .box b1232 [.int .i64 c1495, .int .i64 c1496] 64, .box b1230 [.string ⟨(l1171).toArray⟩, vl1498] 62, .row (vl1171) 5 1 (l1171).length (xsl1171), .row (vl853) 62 2 (l853).length (xsl853), .box b10 [.int .i64 (y8.1 - (1 : Int)), vl853] 25, .box b1 [.int .i64 (0 : Int), .slice none 0 0] 25] : List Res) O)) hH hL1611 ((hf1579_1.mono hG1607).mono hG1610) hb1612) ?_ ?_
          ·rintro rfl w1614 ⟨hL1614, hle1614⟩
           replace hG1610 := hG1610.trans (gz_mono hH hle1614)
           replace hT := hT.trans hle1614
           replace h := Go.L.onX_none h
           refine At_nI_panic ?_
           refine At_cut_panic ?_
           refine At_block_panic ?_
           refine At_seq_panic ?_
           refine At_loop_panic ?_
           replace h := Go.L.Nxt.out h hm1500
           refine At_block_panic ?_
           refine At_cut_panic ?_
           refine At_block_panic ?_
           refine At_cut_panic ?_
           refine At_loop_panic ?_
           replace h := Go.L.Nxt.out h hm855
           refine At_block_panic ?_
           refine At_cut_panic ?_
           obtain rfl := Option.some.inj h
           refine At_panX ?_
           have hL1616 := hL1614.dropAt (i := 0) rfl
           replace hG1610 := hG1610.trans (gz_mono hH (fz_dropAt (i := 0) rfl))
           replace hT := hT.trans (fz_dropAt (i := 0) rfl)
           have hL1617 := hL1616.dropAt (i := 0) rfl
           replace hG1610 := hG1610.trans (gz_mono hH (fz_dropAt (i := 0) rfl))
           replace hT := hT.trans (fz_dropAt (i := 0) rfl)
           have hL1618 := hL1617.dropAt (i := 0) rfl
           replace hG1610 := hG1610.trans (gz_mono hH (fz_dropAt (i := 0) rfl))
           replace hT := hT.trans (fz_dropAt (i := 0) rfl)
           have hL1619 := hL1618.dropAt (i := 0) rfl
           replace hG1610 := hG1610.trans (gz_mono hH (fz_dropAt (i := 0) rfl))
           replace hT := hT.trans (fz_dropAt (i := 0) rfl)
           have hL1620 := hL1619.dropAt (i := 0) rfl
           replace hG1610 := hG1610.trans (gz_mono hH (fz_dropAt (i := 0) rfl))
           replace hT := hT.trans (fz_dropAt (i := 0) rfl)
           have hL1621 := hL1620.dropAt (i := 0) rfl
           replace hG1610 := hG1610.trans (gz_mono hH (fz_dropAt (i := 0) rfl))
           replace hT := hT.trans (fz_dropAt (i := 0) rfl)
           have hL1622 := hL1621.dropAt (i := 0) rfl
           replace hG1610 := hG1610.trans (gz_mono hH (fz_dropAt (i := 0) rfl))
           replace hT := hT.trans (fz_dropAt (i := 0) rfl)
           have hL1623 := hL1622.dropAt (i := 0) rfl
           replace hG1610 := hG1610.trans (gz_mono hH (fz_dropAt (i := 0) rfl))
           replace hT := hT.trans (fz_dropAt (i := 0) rfl)
           exact XPo_none ⟨hL1623, hT⟩
          rintro y1624 rfl _ w1613 ⟨u1613_1, rfl, hL1613, hle1613, hf1613_1⟩
          replace h := Go.L.onX_some h
          replace hG1610 := hG1610.trans (gz_mono hH hle1613)
          replace hT := hT.trans hle1613
          refine NI_nil ⟨hG1610.trans (gz_le hH hL1613), hL1613.at (i := 1) rfl, hL1613.at (i := 3) rfl, hL1613.at (i := 8) rfl⟩ ?_
          obtain ⟨hk1625, h⟩ := Go.L.chk_some h
          refine NI_hoist 4 (np_cut (np_block (np_seq (np_loop (np_block (np_cut (np_block (np_cut (np_loop (np_block (np_cut np_bodyX))))))))))) ⟨hG1610.trans (gz_le hH hL1613), hL1613.at (i := 1) rfl, hL1613.at (i := 3) rfl, hL1613.at (i := 8) rfl⟩ (by kernel_rfl) rfl (fun _ _ => r_ar64 rfl rfl rfl hk1625) rfl ?_
          refine NI_hoist 5 (np_cut (np_block (np_seq (np_loop (np_block (np_cut (np_block (np_cut (np_loop (np_block (np_cut np_bodyX))))))))))) ⟨hG1610.trans (gz_le hH hL1613), hL1613.at (i := 1) rfl, hL1613.at (i := 3) rfl, hL1613.at (i := 8) rfl⟩ (by kernel_rfl) rfl (fun _ _ => r_field rfl underlying64 rfl zr3 (by decide)) rfl ?_
          refine NI1 (i := 6) (by kernel_rfl) rfl ?_
          refine S_storeB1 1 rfl rfl rfl zr3 hL1613 rfl rfl ?_
          intro w1626 hL1626 hle1626
          replace hf1613_1 := hf1613_1.mono (gz_mono hH hle1626)
          replace hG1610 := hG1610.trans (gz_mono hH hle1626)
          replace hT := hT.trans hle1626
          refine NI_last (by kernel_rfl) ?_
          refine NI_end (by kernel_rfl) ?_
          have hL1627 : Lcl w0 (HAppend.hAppend ([.box bjb1529 [.int .i64 c1530, .int .i64 (c1578 + y1624.1)] 64, .row (vl1498) 64 2 (l1498).length (xsl1498), .box ba0 [u1613_1, .int .i64 y1624.2.1.2, .int .i64 y1624.2.2] 58, .box b1232 [.int .i64 c1495, .int .i64 c1496] 64, .box b1230 [.string ⟨(l1171).toArray⟩, vl1498] 62, .row (vl1171) 5 1 (l1171).length (xsl1171), .row (vl853) 62 2 (l853).length (xsl853), .box b10 [.int .i64 (y8.1 - (1 : Int)), vl853] 25, .box b1 [.int .i64 (0 : Int), .slice none 0 0] 25] : List Res) O) w1626 := hL1626.picks [2, 2] rfl
          have hle1627 := fz_picks [2, 2] hL1626 hL1627 rfl
          replace hf1613_1 := hf1613_1.mono (gz_mono hH hle1627)
          replace hG1610 := hG1610.trans (gz_mono hH hle1627)
          replace hT := hT.trans hle1627
          refine At_cut ((c1578 + y1624.1), y1624.2.1.1, y1624.2.1.2, y1624.2.2, u1613_1) (.cons rfl (.cons rfl (.cons rfl (.cons rfl (.cons rfl (.cons rfl (.cons rfl (.cons rfl (Sub.nil _))))))))) ⟨hL1627, ((he1579_j1497.mono hG1607).mono hG1610), hf1613_1, ((he1579_r1128.mono hG1607).mono hG1610), ((he1579_j852.mono hG1607).mono hG1610), hT, h⟩
         ·rintro ⟨c1601, c1602, c1603, c1604, vc1602⟩ wr1605 ⟨hL1605, he1605_j1497, hfc1602, he1605_r1128, he1605_j852, hT, h⟩
          refine W_cut (σ := Int × Bool) (fun ⟨s87_1638, s88_1639⟩ => [(0, .pointer (some ⟨ba0, 0, none⟩)), (2, .pointer (some ⟨b1, 0, none⟩)), (3, .pointer (some ⟨b10, 0, none⟩)), (4, .int .i64 s4_854), (7, .pointer (some ⟨b1230, 0, none⟩)), (8, .pointer (some ⟨b1232, 0, none⟩)), (9, .int .i64 s9_1499), (10, .pointer (some ⟨bjb1529, 0, none⟩)), (86, .pointer (some ⟨bjb1529, 1, none⟩)), (87, .int .i64 s87_1638), (88, .bool s88_1639)]) (fun ⟨s87_1638, s88_1639⟩ wr => InO w0 (HAppend.hAppend ([.box bjb1529 [.int .i64 c1530, .int .i64 c1601] 64, .row (vl1498) 64 2 (l1498).length (xsl1498), .box ba0 [vc1602, .int .i64 c1603, .int .i64 c1604] 58, .box b1232 [.int .i64 c1495, .int .i64 c1496] 64, .box b1230 [.string ⟨(l1171).toArray⟩, vl1498] 62, .row (vl1171) 5 1 (l1171).length (xsl1171), .row (vl853) 62 2 (l853).length (xsl853), .box b10 [.int .i64 (y8.1 - (1 : Int)), vl853] 25, .box b1 [.int .i64 (0 : Int), .slice none 0 0] 25] : List Res) O) wr fun Oz => Elems (.pair (.int .i64) (.int .i64)) (gz H w0 wr Oz) (l1498) (xsl1498) ∧ Vec .byte (gz H w0 wr Oz) (vc1602) (c1602) ∧ Elems .byte (gz H w0 wr Oz) (l1171) (xsl1171) ∧ Elems (.pair .st (.vec (.pair (.int .i64) (.int .i64)))) (gz H w0 wr Oz) (l853) (xsl853) ∧ Le (fz w (HAppend.hAppend ([.box ba0 [va0_0, .int .i64 a0.1.2, .int .i64 a0.2] 58] : List Res) O)) (fz wr Oz) ∧ (words_reader_index_k11 c1530 c1601 c1602 c1603 c1604 l1498 s9_1499) s87_1638 s88_1639 = some e1500) ?_ ?_
          ·have hG1642 := hL1605.rG H
           refine W_seqr ?_
           refine S_v (r_field rfl underlying64 rfl zr3 (by decide)) rfl ?_
           refine S_v (r_loadB1 0 rfl underlying3 rfl hL1605 rfl rfl) rfl ?_
           refine S_v (r_field rfl underlying25 rfl zr3 (by decide)) rfl ?_
           refine S_v (r_loadB1 7 rfl underlying3 rfl hL1605 rfl rfl) rfl ?_
           refine S_pu 2 rfl ?_
           refine S_split (s := 85) rfl (fun hg1643 => ?_) (fun hg1643 => ?_)
           ·replace h := Go.L.ite_p (of_decide_eq_true hg1643) h
            iterate 3 refine S_unwanted rfl rfl hg1643 rfl ?_
            refine S_v (r_pickT rfl hg1643 rfl) rfl ?_
            refine S_seqnil ?_
            refine W_true rfl ?_
            refine W_region ?_
            refine S_v (r_build rfl (fun _ => bld66_z _)) rfl ?_
            refine S_v (r_mkI rfl underlying66 rfl) rfl ?_
            refine S_panic rfl rfl ?_
            refine At_cut_panic ?_
            refine At_block_panic ?_
            refine At_seq_panic ?_
            refine At_loop_panic ?_
            replace h := Go.L.Nxt.out h hm1500
            refine At_block_panic ?_
            refine At_cut_panic ?_
            refine At_block_panic ?_
            refine At_cut_panic ?_
            refine At_loop_panic ?_
            replace h := Go.L.Nxt.out h hm855
            refine At_block_panic ?_
            refine At_cut_panic ?_
            obtain rfl := Option.some.inj h
            refine At_panX ?_
            have hL1645 := hL1605.dropAt (i := 0) rfl
            replace hG1642 := hG1642.trans (gz_mono hH (fz_dropAt (i := 0) rfl))
            replace hT := hT.trans (fz_dropAt (i := 0) rfl)
            have hL1646 := hL1645.dropAt (i := 0) rfl
            replace hG1642 := hG1642.trans (gz_mono hH (fz_dropAt (i := 0) rfl))
            replace hT := hT.trans (fz_dropAt (i := 0) rfl)
            have hL1647 := hL1646.dropAt (i := 0) rfl
            replace hG1642 := hG1642.trans (gz_mono hH (fz_dropAt (i := 0) rfl))
            replace hT := hT.trans (fz_dropAt (i := 0) rfl)
            have hL1648 := hL1647.dropAt (i := 0) rfl
            replace hG1642 := hG1642.trans (gz_mono hH (fz_dropAt (i := 0) rfl))
            replace hT := hT.trans (fz_dropAt (i := 0) rfl)
            have hL1649 := hL1648.dropAt (i := 0) rfl
            replace hG1642 := hG1642.trans (gz_mono hH (fz_dropAt (i := 0) rfl))
            replace hT := hT.trans (fz_dropAt (i := 0) rfl)
            have hL1650 := hL1649.dropAt (i := 0) rfl
            replace hG1642 := hG1642.trans (gz_mono hH (fz_dropAt (i := 0) rfl))
            replace hT := hT.trans (fz_dropAt (i := 0) rfl)
            have hL1651 := hL1650.dropAt (i := 0) rfl
            replace hG1642 := hG1642.trans (gz_mono hH (fz_dropAt (i := 0) rfl))
            replace hT := hT.trans (fz_dropAt (i := 0) rfl)
            have hL1652 := hL1651.dropAt (i := 0) rfl
            replace hG1642 := hG1642.trans (gz_mono hH (fz_dropAt (i := 0) rfl))
            replace hT := hT.trans (fz_dropAt (i := 0) rfl)
            have hL1653 := hL1652.dropAt (i := 0) rfl
            replace hG1642 := hG1642.trans (gz_mono hH (fz_dropAt (i := 0) rfl))
            replace hT := hT.trans (fz_dropAt (i := 0) rfl)
            exact XPo_none ⟨hL1653, hT⟩
           ·replace h := Go.L.ite_n (of_decide_eq_false hg1643) h
            refine S_guarded rfl rfl hg1643 ?_
            refine S_v (r_field rfl underlying64 rfl zr3 (by decide)) rfl ?_
            refine S_guarded rfl rfl hg1643 ?_
            refine S_v (r_loadB1 0 rfl underlying3 rfl hL1605 rfl rfl) rfl ?_
            refine S_guarded rfl rfl hg1643 ?_
            refine S_v (RunsAt_pu rfl) rfl ?_
            refine S_v (r_pickF rfl hg1643 rfl) rfl ?_
            refine S_seqnil ?_
            refine W_if rfl (fun hc1655 => ?_) (fun hc1655 => ?_)
            ·replace h := Go.L.ite_p hc1655 h
             refine W_region ?_
             refine S_v (r_build rfl (fun _ => bld66_z _)) rfl ?_
             refine S_v (r_mkI rfl underlying66 rfl) rfl ?_
             refine S_panic rfl rfl ?_
             refine At_cut_panic ?_
             refine At_block_panic ?_
             refine At_seq_panic ?_
             refine At_loop_panic ?_
             replace h := Go.L.Nxt.out h hm1500
             refine At_block_panic ?_
             refine At_cut_panic ?_
             refine At_block_panic ?_
             refine At_cut_panic ?_
             refine At_loop_panic ?_
             replace h := Go.L.Nxt.out h hm855
             refine At_block_panic ?_
             refine At_cut_panic ?_
             obtain rfl := Option.some.inj h
             refine At_panX ?_
             have hL1657 := hL1605.dropAt (i := 0) rfl
             replace hG1642 := hG1642.trans (gz_mono hH (fz_dropAt (i := 0) rfl))
             replace hT := hT.trans (fz_dropAt (i := 0) rfl)
             have hL1658 := hL1657.dropAt (i := 0) rfl
             replace hG1642 := hG1642.trans (gz_mono hH (fz_dropAt (i := 0) rfl))
             replace hT := hT.trans (fz_dropAt (i := 0) rfl)
             have hL1659 := hL1658.dropAt (i := 0) rfl
             replace hG1642 := hG1642.trans (gz_mono hH (fz_dropAt (i := 0) rfl))
             replace hT := hT.trans (fz_dropAt (i := 0) rfl)
             have hL1660 := hL1659.dropAt (i := 0) rfl
             replace hG1642 := hG1642.trans (gz_mono hH (fz_dropAt (i := 0) rfl))
             replace hT := hT.trans (fz_dropAt (i := 0) rfl)
             have hL1661 := hL1660.dropAt (i := 0) rfl
             replace hG1642 := hG1642.trans (gz_mono hH (fz_dropAt (i := 0) rfl))
             replace hT := hT.trans (fz_dropAt (i := 0) rfl)
             have hL1662 := hL1661.dropAt (i := 0) rfl
             replace hG1642 := hG1642.trans (gz_mono hH (fz_dropAt (i := 0) rfl))
             replace hT := hT.trans (fz_dropAt (i := 0) rfl)
             have hL1663 := hL1662.dropAt (i := 0) rfl
             replace hG1642 := hG1642.trans (gz_mono hH (fz_dropAt (i := 0) rfl))
             replace hT := hT.trans (fz_dropAt (i := 0) rfl)
             have hL1664 := hL1663.dropAt (i := 0) rfl
             replace hG1642 := hG1642.trans (gz_mono hH (fz_dropAt (i := 0) rfl))
             replace hT := hT.trans (fz_dropAt (i := 0) rfl)
             have hL1665 := hL1664.dropAt (i := 0) rfl
             replace hG1642 := hG1642.trans (gz_mono hH (fz_dropAt (i := 0) rfl))
             replace hT := hT.trans (fz_dropAt (i := 0) rfl)
             exact XPo_none ⟨hL1665, hT⟩
            ·replace h := Go.L.ite_n hc1655 h
             refine W_skip ?_
             refine At_cut (c1601, decide ((2048 : Int) ≤ c1601)) (.cons rfl (.cons rfl (.cons rfl (.cons rfl (.cons rfl (.cons rfl (.cons rfl (.cons rfl (.cons rfl (.cons rfl (.cons rfl (Sub.nil _)))))))))))) ⟨hL1605, (he1605_j1497.mono hG1642), (hfc1602.mono hG1642), (he1605_r1128.mono hG1642), (he1605_j852.mono hG1642), hT, h⟩
          ·rintro ⟨s87_1638, s88_1639⟩ wr1640 ⟨hL1640, he1640_j1497, hf1640_1, he1640_r1128, he1640_j852, hT, h⟩
           have hG1668 := hL1640.rG H
           refine W_seqr ?_
           refine S_v (r_field rfl underlying62 rfl zr40 (by decide)) rfl ?_
           refine S_v (r_loadB1 4 rfl underlying40 rfl hL1640 rfl rfl) rfl ?_
           refine S_v (r_loadBN 0 rfl underlying64 rfl zr64 hL1640 rfl) rfl ?_
           refine S_litE (r := (.pair (.int .i64) (.int .i64))) (l := [(c1530, c1601)]) rfl (fun _ => bsl40_1 _ _ _) rfl (show 1 ≤ 9223372036854775807 by decide) hH hL1640 (.c2 ⟨_, _, rfl, rfl, rfl⟩ .nil) ?_
           intro v1669 w1669 hx1669 hL1669 hle1669 hv1669
           replace hG1668 := hG1668.trans (gz_mono hH hle1669)
           replace hT := hT.trans hle1669
           obtain ⟨hk1671, h⟩ := Go.L.chk_some h
           refine S_appE (r := (.pair (.int .i64) (.int .i64))) (l := l1498) (m := [(c1530, c1601)]) 1 rfl rfl underlying40 zr64 rfl (by decide) rfl hH hL1669 rfl (he1640_j1497.mono hG1668) hv1669 hk1671 ?_
           intro v1670 w1670 xs1670 hL1670 hle1670 he1670
           replace hv1669 := hv1669.mono (gz_mono hH hle1670)
           replace hG1668 := hG1668.trans (gz_mono hH hle1670)
           replace hT := hT.trans hle1670
           refine S_v (r_field rfl underlying62 rfl zr40 (by decide)) rfl ?_
           refine S_storeB1 4 rfl rfl (row_one (hL1670.at (i := 1) rfl)) zr40 hL1670 rfl rfl ?_
           intro w1672 hL1672 hle1672
           replace hv1669 := hv1669.mono (gz_mono hH hle1672)
           replace he1670 := he1670.mono (gz_mono hH hle1672)
           replace hG1668 := hG1668.trans (gz_mono hH hle1672)
           replace hT := hT.trans hle1672
           refine S_seqnil ?_
           refine W_region ?_
           refine S_v (r_loadBN 0 rfl underlying64 rfl zr64 hL1672 rfl) rfl ?_
           refine S_storeBN 3 rfl rfl rfl zr64 hL1672 rfl rfl (onc rfl (onc rfl on0)) ?_
           intro w1673 hL1673 hle1673
           replace he1670 := he1670.mono (gz_mono hH hle1673)
           replace hG1668 := hG1668.trans (gz_mono hH hle1673)
           replace hT := hT.trans hle1673
           refine S_nil ?_
           refine At_block ?_
           refine At_seq ?_
           refine W_region ?_
           refine S_pu 1 rfl ?_
           obtain ⟨hk1674, h⟩ := Go.L.chk_some h
           refine S_v (r_ar64 rfl rfl rfl hk1674) rfl ?_
           refine S_pu 1 rfl ?_
           refine S_nil ?_
           have hL1675 := hL1673.dropAt (i := 0) rfl
           replace he1670 := he1670.mono (gz_mono hH (fz_dropAt (i := 0) rfl))
           replace hG1668 := hG1668.trans (gz_mono hH (fz_dropAt (i := 0) rfl))
           replace hT := hT.trans (fz_dropAt (i := 0) rfl)
           have h := Go.L.Nxt.again h hm1500
           refine At_round (c1602, c1603, c1604, c1530, c1601, (l1498 ++ [(c1530, c1601)]), (s9_1499 - (1 : Int)), vc1602, v1670, xs1670, n1500) (.cons rfl (.cons rfl (.cons rfl (.cons rfl (.cons rfl (.cons rfl (.cons rfl (Sub.nil _)))))))) ⟨hL1675, he1670, (hf1640_1.mono hG1668), (he1640_r1128.mono hG1668), (he1640_j852.mono hG1668), hT, h⟩ (Nat.lt_succ_self _)
      ·replace h := Go.L.ite_n hc1504 h
       refine W_exit ?_
       refine At_seq_exit ?_
       refine At_loop_exit ?_
       replace h := Go.L.Nxt.out h hm1500
       refine At_exit ?_
       have hL1677 : Lcl w0 (HAppend.hAppend ([.row (vl1171) 5 1 (l1171).length (xsl1171), .row (vl853) 62 2 (l853).length (xsl853), .row (vl1498) 64 2 (l1498).length (xsl1498), .box ba0 [vc1492, .int .i64 c1493, .int .i64 c1494] 58, .box b1232 [.int .i64 c1495, .int .i64 c1496] 64, .box b1230 [.string ⟨(l1171).toArray⟩, vl1498] 62, .box b10 [.int .i64 (y8.1 - (1 : Int)), vl853] 25, .box b1 [.int .i64 (0 : Int), .slice none 0 0] 25] : List Res) O) wr1500 := hL1500.picks [5, 5] rfl
       have hle1677 := fz_picks [5, 5] hL1500 hL1677 rfl
       replace hG1503 := hG1503.trans (gz_mono hH hle1677)
       replace hT := hT.trans hle1677
       have hL1678 : Lcl w0 (HAppend.hAppend ([.box b1232 [.int .i64 c1495, .int .i64 c1496] 64, .box b1230 [.string ⟨(l1171).toArray⟩, vl1498] 62, .row (vl1171) 5 1 (l1171).length (xsl1171), .row (vl853) 62 2 (l853).length (xsl853), .row (vl1498) 64 2 (l1498).length (xsl1498), .box ba0 [vc1492, .int .i64 c1493, .int .i64 c1494] 58, .box b10 [.int .i64 (y8.1 - (1 : Int)), vl853] 25, .box b1 [.int .i64 (0 : Int), .slice none 0 0] 25] : List Res) O) wr1500 := hL1677.picks [5, 5] rfl
       have hle1678 := fz_picks [5, 5] hL1677 hL1678 rfl
       replace hG1503 := hG1503.trans (gz_mono hH hle1678)
       replace hT := hT.trans hle1678
       have hL1679 : Lcl w0 (HAppend.hAppend ([.row (vl1498) 64 2 (l1498).length (xsl1498), .box b1232 [.int .i64 c1495, .int .i64 c1496] 64, .box b1230 [.string ⟨(l1171).toArray⟩, vl1498] 62, .row (vl1171) 5 1 (l1171).length (xsl1171), .row (vl853) 62 2 (l853).length (xsl853), .box ba0 [vc1492, .int .i64 c1493, .int .i64 c1494] 58, .box b10 [.int .i64 (y8.1 - (1 : Int)), vl853] 25, .box b1 [.int .i64 (0 : Int), .slice none 0 0] 25] : List Res) O) wr1500 := hL1678.picks [4] rfl
       have hle1679 := fz_picks [4] hL1678 hL1679 rfl
       replace hG1503 := hG1503.trans (gz_mono hH hle1679)
       replace hT := hT.trans hle1679
       refine At_cut (c1495, c1496, c1492, c1493, c1494, l1498, vc1492, vl1498, xsl1498) (.cons rfl (.cons rfl (.cons rfl (.cons rfl (.cons rfl (Sub.nil _)))))) ⟨hL1679, (hel1498.mono hG1503), (he1500_r1128.mono hG1503), (he1500_j852.mono hG1503), (hfc1492.mono hG1503), hT, h⟩
     ·rintro ⟨c1397, c1398, c1400, c1401, c1402, l1403, vc1400, vl1403, xsl1403⟩ wr1404 ⟨hL1404, hel1403, he1404_r1128, he1404_j852, hfc1400, hT, h⟩
      refine W_cut (σ := Int × Bool × Bool × Bool) (fun ⟨s107_1706, s108_1707, s109_1708, s120_1709⟩ => [(0, .pointer (some ⟨ba0, 0, none⟩)), (2, .pointer (some ⟨b1, 0, none⟩)), (3, .pointer (some ⟨b10, 0, none⟩)), (4, .int .i64 s4_854), (7, .pointer (some ⟨b1230, 0, none⟩)), (107, .int .i64 s107_1706), (108, .bool s108_1707), (109, .bool s109_1708), (120, .bool s120_1709)]) (fun ⟨s107_1706, s108_1707, s109_1708, s120_1709⟩ wr => InO w0 (HAppend.hAppend ([.row (vl1403) 64 2 (l1403).length (xsl1403), .box b1232 [.int .i64 c1397, .int .i64 c1398] 64, .box b1230 [.string ⟨(l1171).toArray⟩, vl1403] 62, .row (vl1171) 5 1 (l1171).length (xsl1171), .row (vl853) 62 2 (l853).length (xsl853), .box ba0 [vc1400, .int .i64 c1401, .int .i64 c1402] 58, .box b10 [.int .i64 (y8.1 - (1 : Int)), vl853] 25, .box b1 [.int .i64 (0 : Int), .slice none 0 0] 25] : List Res) O) wr fun Oz => Elems (.pair (.int .i64) (.int .i64)) (gz H w0 wr Oz) (l1403) (xsl1403) ∧ Elems .byte (gz H w0 wr Oz) (l1171) (xsl1171) ∧ Elems (.pair .st (.vec (.pair (.int .i64) (.int .i64)))) (gz H w0 wr Oz) (l853) (xsl853) ∧ Vec .byte (gz H w0 wr Oz) (vc1400) (c1400) ∧ Le (fz w (HAppend.hAppend ([.box ba0 [va0_0, .int .i64 a0.1.2, .int .i64 a0.2] 58] : List Res) O)) (fz wr Oz) ∧ (words_reader_index_k12 c1400 c1401 c1402 l1171 l1403 l853 s4_854) s107_1706 s108_1707 s109_1708 s120_1709 = some e855) ?_ ?_
      ·have hG1712 := hL1404.rG H
       refine W_seqr ?_
       refine S_v (r_field rfl underlying25 rfl zr23 (by decide)) rfl ?_
       refine S_v (r_loadB1 6 rfl underlying23 rfl hL1404 rfl rfl) rfl ?_
       refine S_v (r_lenR (i := 4) rfl underlying23 hL1404 rfl) rfl ?_
       refine S_pz 1 rfl ?_
       refine W_seqd (.q 0 (.q 1 (.q 2 (.q 3 (.q 4 (.q 5 (.q 6 (.q 7 (.q 8 (.q 9 (.q 10 (.q 11 (.q 12 (.q 13 (.q 14 (.q 15 (.q 16 (.q 17 (.q 18 (.q 19 (.tail 20))))))))))))))))))))) mixed (by kernel_rfl) (fun w1713 hx1713 => ?_)
       have hL1714 := hL1404.call hx1713
       have hle1714 := fz_ext hL1404 hx1713
       replace hG1712 := hG1712.trans (gz_mono hH hle1714)
       replace hT := hT.trans hle1714
       refine D_v (r_field rfl underlying62 rfl zr9 (by decide)) rfl rfl ?_
       refine D_v (r_loadB1 2 rfl underlying9 rfl hL1714 rfl rfl) rfl rfl ?_
       obtain ⟨x1715, hb1715, h⟩ := Go.L.bind_some h
       refine D_call rfl rfl rfl (fun w1716 hx1716 => words_isWord_ok _ _ (Le.refl _) (hU.mono (hH.trans (hL1714.call hx1716).arg)) hb1715) ?_
       refine D_pu 2 rfl ?_
       refine D_split (s := 106) rfl (fun hg1717 => ?_) (fun hg1717 => ?_)
       ·replace h := Go.L.ite_t hg1717 h
        iterate 3 refine D_no rfl rfl rfl rfl hg1717 rfl ?_
        iterate 10 refine D_no2 rfl rfl rfl rfl rfl ?_
        refine D_no rfl rfl rfl rfl hg1717 rfl ?_
        refine D_v (r_pickT rfl hg1717 rfl) rfl rfl ?_
        refine D_tail (fun w1719 hx1719 => ?_)
        have hL1720 := hL1714.call hx1719
        have hle1720 := fz_ext hL1714 hx1719
        replace hG1712 := hG1712.trans (gz_mono hH hle1720)
        replace hT := hT.trans hle1720
        refine S_seqnil ?_
        refine W_true rfl ?_
        refine W_region ?_
        refine S_v (r_build rfl (fun _ => bld66_z _)) rfl ?_
        refine S_v (r_mkI rfl underlying66 rfl) rfl ?_
        refine S_panic rfl rfl ?_
        refine At_cut_panic ?_
        refine At_block_panic ?_
        refine At_cut_panic ?_
        refine At_loop_panic ?_
        replace h := Go.L.Nxt.out h hm855
        refine At_block_panic ?_
        refine At_cut_panic ?_
        obtain rfl := Option.some.inj h
        refine At_panX ?_
        have hL1721 := hL1720.dropAt (i := 0) rfl
        replace hG1712 := hG1712.trans (gz_mono hH (fz_dropAt (i := 0) rfl))
        replace hT := hT.trans (fz_dropAt (i := 0) rfl)
        have hL1722 := hL1721.dropAt (i := 0) rfl
        replace hG1712 := hG1712.trans (gz_mono hH (fz_dropAt (i := 0) rfl))
        replace hT := hT.trans (fz_dropAt (i := 0) rfl)
        have hL1723 := hL1722.dropAt (i := 0) rfl
        replace hG1712 := hG1712.trans (gz_mono hH (fz_dropAt (i := 0) rfl))
        replace hT := hT.trans (fz_dropAt (i := 0) rfl)
        have hL1724 := hL1723.dropAt (i := 0) rfl
        replace hG1712 := hG1712.trans (gz_mono hH (fz_dropAt (i := 0) rfl))
        replace hT := hT.trans (fz_dropAt (i := 0) rfl)
        have hL1725 := hL1724.dropAt (i := 0) rfl
        replace hG1712 := hG1712.trans (gz_mono hH (fz_dropAt (i := 0) rfl))
        replace hT := hT.trans (fz_dropAt (i := 0) rfl)
        have hL1726 := hL1725.dropAt (i := 0) rfl
        replace hG1712 := hG1712.trans (gz_mono hH (fz_dropAt (i := 0) rfl))
        replace hT := hT.trans (fz_dropAt (i := 0) rfl)
        have hL1727 := hL1726.dropAt (i := 0) rfl
        replace hG1712 := hG1712.trans (gz_mono hH (fz_dropAt (i := 0) rfl))
        replace hT := hT.trans (fz_dropAt (i := 0) rfl)
        have hL1728 := hL1727.dropAt (i := 0) rfl
        replace hG1712 := hG1712.trans (gz_mono hH (fz_dropAt (i := 0) rfl))
        replace hT := hT.trans (fz_dropAt (i := 0) rfl)
        exact XPo_none ⟨hL1728, hT⟩
       ·replace h := Go.L.ite_f hg1717 h
        iterate 3 refine D_vg (RunsAt_pu rfl) rfl rfl rfl rfl hg1717 rfl ?_
        refine D_split (s := 109) rfl (fun hg1730 => ?_) (fun hg1730 => ?_)
        ·replace h := Go.L.ite_p (of_decide_eq_true hg1730) h
         refine D_vg (r_field rfl underlying62 rfl zr9 (by decide)) rfl rfl rfl rfl hg1730 rfl ?_
         refine D_vg (r_loadB1 2 rfl underlying9 rfl hL1714 rfl rfl) rfl rfl rfl rfl hg1730 rfl ?_
         refine D_vg (r_field rfl underlying25 rfl zr23 (by decide)) rfl rfl rfl rfl hg1730 rfl ?_
         refine D_vg (r_loadB1 6 rfl underlying23 rfl hL1714 rfl rfl) rfl rfl rfl rfl hg1730 rfl ?_
         refine D_vg (RunsAt_pu rfl) rfl rfl rfl rfl hg1730 rfl ?_
         obtain ⟨hk1732, h⟩ := Go.L.chk_some h
         refine D_vg (r_ar64 rfl rfl rfl hk1732) rfl rfl rfl rfl hg1730 rfl ?_
         obtain ⟨hk1734, h⟩ := Go.L.chk_some h
         refine D_indexg rfl rfl rfl rfl hg1730 rfl rfl underlying23 zr62 (hL1714.vecN hH (i := 4) rfl (he1404_j852.mono hG1712)) (((l853.length : Int) - (1 : Int)).toNat) (Int.toNat_of_nonneg hk1734.1).symm (idx_lt hk1734) rfl ?_
         rintro p1733 _ ⟨_, _, rfl, rfl, ⟨e1733v1, rfl, e1733h1⟩⟩ hp1733
         refine D_vg (r_field rfl underlying62 rfl zr9 (by decide)) rfl rfl rfl rfl hg1730 rfl ?_
         have hp1735 := hp1733.add 0
         refine D_vg (r_load1 rfl underlying9 rfl hp1735 (Le.refl _)) rfl rfl rfl rfl hg1730 rfl ?_
         refine D_vg (r_sle rfl rfl) rfl rfl rfl rfl hg1730 rfl ?_
         refine D_vg (r_pickT rfl hg1730 rfl) rfl rfl rfl rfl hg1717 rfl ?_
         refine D_v (r_pickF rfl hg1717 rfl) rfl rfl ?_
         refine D_tail (fun w1736 hx1736 => ?_)
         have hL1737 := hL1714.call hx1736
         have hle1737 := fz_ext hL1714 hx1736
         replace hG1712 := hG1712.trans (gz_mono hH hle1737)
         replace hT := hT.trans hle1737
         refine S_seqnil ?_
         refine W_cond rfl (fun hc1738 => ?_) (fun hc1738 => ?_)
         ·replace h := Go.L.ite_t hc1738 h
          refine W_region ?_
          refine S_v (r_build rfl (fun _ => bld66_z _)) rfl ?_
          refine S_v (r_mkI rfl underlying66 rfl) rfl ?_
          refine S_panic rfl rfl ?_
          refine At_cut_panic ?_
          refine At_block_panic ?_
          refine At_cut_panic ?_
          refine At_loop_panic ?_
          replace h := Go.L.Nxt.out h hm855
          refine At_block_panic ?_
          refine At_cut_panic ?_
          obtain rfl := Option.some.inj h
          refine At_panX ?_
          have hL1740 := hL1737.dropAt (i := 0) rfl
          replace hG1712 := hG1712.trans (gz_mono hH (fz_dropAt (i := 0) rfl))
          replace hT := hT.trans (fz_dropAt (i := 0) rfl)
          have hL1741 := hL1740.dropAt (i := 0) rfl
          replace hG1712 := hG1712.trans (gz_mono hH (fz_dropAt (i := 0) rfl))
          replace hT := hT.trans (fz_dropAt (i := 0) rfl)
          have hL1742 := hL1741.dropAt (i := 0) rfl
          replace hG1712 := hG1712.trans (gz_mono hH (fz_dropAt (i := 0) rfl))
          replace hT := hT.trans (fz_dropAt (i := 0) rfl)
          have hL1743 := hL1742.dropAt (i := 0) rfl
          replace hG1712 := hG1712.trans (gz_mono hH (fz_dropAt (i := 0) rfl))
          replace hT := hT.trans (fz_dropAt (i := 0) rfl)
          have hL1744 := hL1743.dropAt (i := 0) rfl
          replace hG1712 := hG1712.trans (gz_mono hH (fz_dropAt (i := 0) rfl))
          replace hT := hT.trans (fz_dropAt (i := 0) rfl)
          have hL1745 := hL1744.dropAt (i := 0) rfl
          replace hG1712 := hG1712.trans (gz_mono hH (fz_dropAt (i := 0) rfl))
          replace hT := hT.trans (fz_dropAt (i := 0) rfl)
          have hL1746 := hL1745.dropAt (i := 0) rfl
          replace hG1712 := hG1712.trans (gz_mono hH (fz_dropAt (i := 0) rfl))
          replace hT := hT.trans (fz_dropAt (i := 0) rfl)
          have hL1747 := hL1746.dropAt (i := 0) rfl
          replace hG1712 := hG1712.trans (gz_mono hH (fz_dropAt (i := 0) rfl))
          replace hT := hT.trans (fz_dropAt (i := 0) rfl)
          exact XPo_none ⟨hL1747, hT⟩
         ·replace h := Go.L.ite_f hc1738 h
          refine W_skip ?_
          refine At_cut ((l853.length : Int), decide ((0 : Int) < (l853.length : Int)), decide ((0 : Int) < (l853.length : Int)), (Op.bytesLess l1171 ((l853.getD (((l853.length : Int) - (1 : Int)).toNat) default).1) || decide (l1171 = (l853.getD (((l853.length : Int) - (1 : Int)).toNat) default).1))) (.cons rfl (.cons rfl (.cons rfl (.cons rfl (.cons rfl (.cons rfl (.cons rfl (.cons rfl (.cons rfl (Sub.nil _)))))))))) ⟨hL1737, (hel1403.mono hG1712), (he1404_r1128.mono hG1712), (he1404_j852.mono hG1712), (hfc1400.mono hG1712), hT, h⟩
        ·replace h := Go.L.ite_n (of_decide_eq_false hg1730) h
         iterate 10 refine D_no rfl rfl rfl rfl hg1730 rfl ?_
         refine D_vg (r_pickF rfl hg1730 rfl) rfl rfl rfl rfl hg1717 rfl ?_
         refine D_v (r_pickF rfl hg1717 rfl) rfl rfl ?_
         refine D_tail (fun w1750 hx1750 => ?_)
         have hL1751 := hL1714.call hx1750
         have hle1751 := fz_ext hL1714 hx1750
         replace hG1712 := hG1712.trans (gz_mono hH hle1751)
         replace hT := hT.trans hle1751
         refine S_seqnil ?_
         refine W_false rfl ?_
         refine W_skip ?_
         refine At_cut ((l853.length : Int), decide ((0 : Int) < (l853.length : Int)), decide ((0 : Int) < (l853.length : Int)), false) (.cons rfl (.cons rfl (.cons rfl (.cons rfl (.cons rfl (.cons rfl (.cons rfl (.cons rfl (.cons rfl (Sub.nil _)))))))))) ⟨hL1751, (hel1403.mono hG1712), (he1404_r1128.mono hG1712), (he1404_j852.mono hG1712), (hfc1400.mono hG1712), hT, h⟩
      ·rintro ⟨s107_1706, s108_1707, s109_1708, s120_1709⟩ wr1710 ⟨hL1710, hel1403, he1710_r1128, he1710_j852, hf1710_3, hT, h⟩
       have hG1753 := hL1710.rG H
       refine W_region ?_
       refine S_v (r_field rfl underlying25 rfl zr23 (by decide)) rfl ?_
       refine S_v (r_loadB1 6 rfl underlying23 rfl hL1710 rfl rfl) rfl ?_
       refine S_v (r_loadBN 2 rfl underlying62 rfl zr62 hL1710 rfl) rfl ?_
       have hv1755 := hL1710.vecG hH (i := 0) rfl (hel1403.mono hG1753)
       have hL1755 := hL1710.dropAt (i := 0) rfl
       replace hG1753 := hG1753.trans (gz_mono hH (fz_dropAt (i := 0) rfl))
       replace hT := hT.trans (fz_dropAt (i := 0) rfl)
       refine S_litE (r := (.pair .st (.vec (.pair (.int .i64) (.int .i64))))) (l := [(l1171, l1403)]) rfl (fun _ => bsl23_1 _ _ _) rfl (show 1 ≤ 9223372036854775807 by decide) hH hL1755 (.c2 ⟨_, _, rfl, rfl, ⟨_, rfl, hv1755⟩⟩ .nil) ?_
       intro v1754 w1754 hx1754 hL1754 hle1754 hv1754
       replace hv1755 := hv1755.mono (gz_mono hH hle1754)
       replace hG1753 := hG1753.trans (gz_mono hH hle1754)
       replace hT := hT.trans hle1754
       obtain ⟨hk1757, h⟩ := Go.L.chk_some h
       refine S_appE (r := (.pair .st (.vec (.pair (.int .i64) (.int .i64))))) (l := l853) (m := [(l1171, l1403)]) 3 rfl rfl underlying23 zr62 rfl (by decide) rfl hH hL1754 rfl (he1710_j852.mono hG1753) hv1754 hk1757 ?_
       intro v1756 w1756 xs1756 hL1756 hle1756 he1756
       replace hv1755 := hv1755.mono (gz_mono hH hle1756)
       replace hv1754 := hv1754.mono (gz_mono hH hle1756)
       replace hG1753 := hG1753.trans (gz_mono hH hle1756)
       replace hT := hT.trans hle1756
       refine S_v (r_field rfl underlying25 rfl zr23 (by decide)) rfl ?_
       refine S_storeB1 5 rfl rfl (row_one (hL1756.at (i := 3) rfl)) zr23 hL1756 rfl rfl ?_
       intro w1758 hL1758 hle1758
       replace hv1755 := hv1755.mono (gz_mono hH hle1758)
       replace hv1754 := hv1754.mono (gz_mono hH hle1758)
       replace he1756 := he1756.mono (gz_mono hH hle1758)
       replace hG1753 := hG1753.trans (gz_mono hH hle1758)
       replace hT := hT.trans hle1758
       refine S_nil ?_
       refine At_block ?_
       have hL1759 := hL1758.dropAt (i := 0) rfl
       replace hv1755 := hv1755.mono (gz_mono hH (fz_dropAt (i := 0) rfl))
       replace hv1754 := hv1754.mono (gz_mono hH (fz_dropAt (i := 0) rfl))
       replace he1756 := he1756.mono (gz_mono hH (fz_dropAt (i := 0) rfl))
       replace hG1753 := hG1753.trans (gz_mono hH (fz_dropAt (i := 0) rfl))
       replace hT := hT.trans (fz_dropAt (i := 0) rfl)
       have hL1760 := hL1759.dropAt (i := 0) rfl
       replace hv1755 := hv1755.mono (gz_mono hH (fz_dropAt (i := 0) rfl))
       replace hv1754 := hv1754.mono (gz_mono hH (fz_dropAt (i := 0) rfl))
       replace he1756 := he1756.mono (gz_mono hH (fz_dropAt (i := 0) rfl))
       replace hG1753 := hG1753.trans (gz_mono hH (fz_dropAt (i := 0) rfl))
       replace hT := hT.trans (fz_dropAt (i := 0) rfl)
       have hL1761 := hL1760.dropAt (i := 0) rfl
       replace hv1755 := hv1755.mono (gz_mono hH (fz_dropAt (i := 0) rfl))
       replace hv1754 := hv1754.mono (gz_mono hH (fz_dropAt (i := 0) rfl))
       replace he1756 := he1756.mono (gz_mono hH (fz_dropAt (i := 0) rfl))
       replace hG1753 := hG1753.trans (gz_mono hH (fz_dropAt (i := 0) rfl))
       replace hT := hT.trans (fz_dropAt (i := 0) rfl)
       refine At_cut ((l853 ++ [(l1171, l1403)]), c1400, c1401, c1402, s107_1706, s108_1707, s109_1708, s120_1709, v1756, xs1756, vc1400) (.cons rfl (.cons rfl (.cons rfl (.cons rfl (.cons rfl (.cons rfl (.cons rfl (.cons rfl (Sub.nil _))))))))) ⟨hL1761, he1756, (hf1710_3.mono hG1753), hT, h⟩
   ·rintro ⟨l1118, c1119, c1120, c1121, s107_1122, s108_1123, s109_1124, s120_1125, vl1118, xsl1118, vc1119⟩ wr1126 ⟨hL1126, hel1118, hfc1119, hT, h⟩
    refine W_region ?_
    refine S_pu 1 rfl ?_
    obtain ⟨hk1763, h⟩ := Go.L.chk_some h
    refine S_v (r_ar64 rfl rfl rfl hk1763) rfl ?_
    refine S_pu 1 rfl ?_
    refine S_nil ?_
    have h := Go.L.Nxt.again h hm855
    refine At_round (c1119, c1120, c1121, l1118, (s4_854 - (1 : Int)), vc1119, vl1118, xsl1118, n855) (.cons rfl (.cons rfl (.cons rfl (.cons rfl (Sub.nil _))))) ⟨hL1126, hel1118, hfc1119, hT, h⟩ (Nat.lt_succ_self _)
  ·replace h := Go.L.ite_n hc858 h
   refine W_exit ?_
   refine At_seq_exit ?_
   refine At_loop_exit ?_
   replace h := Go.L.Nxt.out h hm855
   refine At_exit ?_
   have hL1765 : Lcl w0 (HAppend.hAppend ([.row (vl853) 62 2 (l853).length (xsl853), .box b10 [.int .i64 (y8.1 - (1 : Int)), vl853] 25, .box ba0 [vc849, .int .i64 c850, .int .i64 c851] 58, .box b1 [.int .i64 (0 : Int), .slice none 0 0] 25] : List Res) O) wr855 := hL855.picks [2, 1] rfl
   have hle1765 := fz_picks [2, 1] hL855 hL1765 rfl
   replace hel853 := hel853.mono (gz_mono hH hle1765)
   replace hfc849 := hfc849.mono (gz_mono hH hle1765)
   replace hT := hT.trans hle1765
   refine At_cut (c849, c850, c851, l853, vc849, vl853, xsl853) (.cons rfl (.cons rfl (Sub.nil _))) ⟨hL1765, hel853, hfc849, hT, h⟩
 ·rintro ⟨c566, c567, c568, l569, vc566, vl569, xsl569⟩ wr570 ⟨hL570, hel569, hfc566, hT, h⟩
  refine W_seqr ?_
  refine S_v (r_loadBN 1 rfl underlying25 rfl zr25 hL570 rfl) rfl ?_
  refine S_storeBN 3 rfl rfl rfl zr25 hL570 rfl rfl (onc rfl (onc (row_one (hL570.at (i := 0) rfl)) on0)) ?_
  intro w1767 hL1767 hle1767
  replace hel569 := hel569.mono (gz_mono hH hle1767)
  replace hfc566 := hfc566.mono (gz_mono hH hle1767)
  replace hT := hT.trans hle1767
  refine S_seqnil ?_
  refine W_ret ?_
  obtain rfl := Option.some.inj h
  refine At_retX ?_
  refine At_got1 rfl (.cell rfl underlying25 rfl zr25 (box_ptr (i := 3) hL1767 rfl)) ?_
  have hL1768 := hL1767.dropAt (i := 1) rfl
  replace hel569 := hel569.mono (gz_mono hH (fz_dropAt (i := 1) rfl))
  replace hfc566 := hfc566.mono (gz_mono hH (fz_dropAt (i := 1) rfl))
  replace hT := hT.trans (fz_dropAt (i := 1) rfl)
  have hL1769 := hL1768.dropAt (i := 2) rfl
  replace hel569 := hel569.mono (gz_mono hH (fz_dropAt (i := 2) rfl))
  replace hfc566 := hfc566.mono (gz_mono hH (fz_dropAt (i := 2) rfl))
  replace hT := hT.trans (fz_dropAt (i := 2) rfl)
  exact XPo_some ⟨vl569, xsl569, vc566, rfl, hL1769, hT, hel569, hfc566⟩

noncomputable def words_Open_1_yes (_a0 : Int × (List ((List UInt8) × (List (Int × Int))))) (_a1 : Int × Int) : Option ((Int × (List ((List UInt8) × (List (Int × Int))))) × (Int × Int)) :=
 Option.bind (words_fault (16 : Int) (-1 : Int)) (fun x1 => some (((0 : Int), []), (x1.1, x1.2)))

theorem words_Open_1_yes_fr {w0 w : World} {H : PH} (hH : Le H (hp w0)) {O : List Res} {a0 : Int × (List ((List UInt8) × (List (Int × Int))))} {a1 : Int × Int} {ba0 : Nat} {va0_1 : Value} {xsa0_1 : List Value} {ba1 : Nat} (hL : Lcl w0 (HAppend.hAppend ([.box ba0 [.int .i64 a0.1, va0_1] 25, .row (va0_1) 62 2 (a0.2).length (xsa0_1), .box ba1 [.int .i64 a1.1, .int .i64 a1.2] 27] : List Res) O) w) (hea0_1 : Elems (.pair .st (.vec (.pair (.int .i64) (.int .i64)))) (gz H w0 w (HAppend.hAppend ([.box ba0 [.int .i64 a0.1, va0_1] 25, .row (va0_1) 62 2 (a0.2).length (xsa0_1), .box ba1 [.int .i64 a1.1, .int .i64 a1.2] 27] : List Res) O)) (a0.2) xsa0_1) {r : (Int × (List ((List UInt8) × (List (Int × Int))))) × (Int × Int)} (h : words_Open_1_yes a0 a1 = some r) :
  OkF Tryz.prog 20 [.pointer (some ⟨ba0, 0, none⟩), .pointer (some ⟨ba1, 0, none⟩)] (.panicking (pch (.iface 66 (.agg #[])))) (.panicking (pchR (.iface 66 (.agg #[])))) w (fun w' => ∃ (u1 : Value), Lcl w0 (HAppend.hAppend ([.box ba0 [.int .i64 r.1.1, u1] 25, .box ba1 [.int .i64 r.2.1, .int .i64 r.2.2] 27] : List Res) O) w' ∧ Le (fz w (HAppend.hAppend ([.box ba0 [.int .i64 a0.1, va0_1] 25, .row (va0_1) 62 2 (a0.2).length (xsa0_1), .box ba1 [.int .i64 a1.1, .int .i64 a1.2] 27] : List Res) O)) (fz w' (HAppend.hAppend ([.box ba0 [.int .i64 r.1.1, u1] 25, .box ba1 [.int .i64 r.2.1, .int .i64 r.2.2] 27] : List Res) O)) ∧ Vec (.pair .st (.vec (.pair (.int .i64) (.int .i64)))) (gz H w0 w' (HAppend.hAppend ([.box ba0 [.int .i64 r.1.1, u1] 25, .box ba1 [.int .i64 r.2.1, .int .i64 r.2.2] 27] : List Res) O)) u1 (r.1.2)) := by
 refine OkF_enter (pv := .iface 66 (.agg #[])) (k := 6) [(0, .pointer (some ⟨ba0, 0, none⟩)), (1, .pointer (some ⟨ba1, 0, none⟩))] func20 rfl rfl rfl rfl rfl rfl rfl .yes (r_ifT rfl underlying20) ?_
 have hT := Le.refl (fz w (HAppend.hAppend ([.box ba0 [.int .i64 a0.1, va0_1] 25, .row (va0_1) 62 2 (a0.2).length (xsa0_1), .box ba1 [.int .i64 a1.1, .int .i64 a1.2] 27] : List Res) O))
 refine W_true rfl ?_
 refine W_region ?_
 refine S_v (r_build rfl (fun _ => bld25_z _)) rfl ?_
 obtain ⟨x1, hb1, h⟩ := Go.L.bind_some h
 refine S_callL rfl rfl hL (words_fault_ok _ _ (gz_le hH hL) hb1) ?_
 rintro _ w2 rfl hx2 hL2 hle2
 replace hea0_1 := hea0_1.mono (gz_mono hH hle2)
 replace hT := hT.trans hle2
 refine S_storeBN 0 rfl rfl rfl zr25 hL2 rfl rfl (onc rfl (onc rfl on0)) ?_
 intro w3 hL3 hle3
 replace hea0_1 := hea0_1.mono (gz_mono hH hle3)
 replace hT := hT.trans hle3
 refine S_storeBN 2 rfl rfl rfl zr27 hL3 rfl rfl (onc rfl (onc rfl on0)) ?_
 intro w4 hL4 hle4
 replace hea0_1 := hea0_1.mono (gz_mono hH hle4)
 replace hT := hT.trans hle4
 refine S_nil ?_
 obtain rfl := Option.some.inj h
 refine At_got0e rfl ?_
 have hL5 := hL4.dropAt (i := 1) rfl
 replace hT := hT.trans (fz_dropAt (i := 1) rfl)
 exact ⟨.slice none 0 0, hL5, hT, (Vec.nil _ _)⟩

noncomputable def words_Open_1_yes_s2 (_a0 : Int × (List ((List UInt8) × (List (Int × Int))))) (_a1 : Int × Int) : Option ((Int × (List ((List UInt8) × (List (Int × Int))))) × (Int × Int)) :=
 Option.bind (words_fault (16 : Int) (-1 : Int)) (fun x1 => some (((0 : Int), []), (x1.1, x1.2)))

theorem words_Open_1_yes_s2_fr {w0 w : World} {H : PH} (hH : Le H (hp w0)) {O : List Res} {a0 : Int × (List ((List UInt8) × (List (Int × Int))))} {a1 : Int × Int} {ba0 : Nat} {va0_1 : Value} {ba1 : Nat} (hL : Lcl w0 (HAppend.hAppend ([.box ba0 [.int .i64 a0.1, va0_1] 25, .box ba1 [.int .i64 a1.1, .int .i64 a1.2] 27] : List Res) O) w) (ha0_1 : Vec (.pair .st (.vec (.pair (.int .i64) (.int .i64)))) (gz H w0 w (HAppend.hAppend ([.box ba0 [.int .i64 a0.1, va0_1] 25, .box ba1 [.int .i64 a1.1, .int .i64 a1.2] 27] : List Res) O)) va0_1 (a0.2)) {r : (Int × (List ((List UInt8) × (List (Int × Int))))) × (Int × Int)} (h : words_Open_1_yes_s2 a0 a1 = some r) :
  OkF Tryz.prog 20 [.pointer (some ⟨ba0, 0, none⟩), .pointer (some ⟨ba1, 0, none⟩)] (.panicking (pch (.iface 66 (.agg #[])))) (.panicking (pchR (.iface 66 (.agg #[])))) w (fun w' => ∃ (u1 : Value), Lcl w0 (HAppend.hAppend ([.box ba0 [.int .i64 r.1.1, u1] 25, .box ba1 [.int .i64 r.2.1, .int .i64 r.2.2] 27] : List Res) O) w' ∧ Le (fz w (HAppend.hAppend ([.box ba0 [.int .i64 a0.1, va0_1] 25, .box ba1 [.int .i64 a1.1, .int .i64 a1.2] 27] : List Res) O)) (fz w' (HAppend.hAppend ([.box ba0 [.int .i64 r.1.1, u1] 25, .box ba1 [.int .i64 r.2.1, .int .i64 r.2.2] 27] : List Res) O)) ∧ Vec (.pair .st (.vec (.pair (.int .i64) (.int .i64)))) (gz H w0 w' (HAppend.hAppend ([.box ba0 [.int .i64 r.1.1, u1] 25, .box ba1 [.int .i64 r.2.1, .int .i64 r.2.2] 27] : List Res) O)) u1 (r.1.2)) := by
 refine OkF_enter (pv := .iface 66 (.agg #[])) (k := 6) [(0, .pointer (some ⟨ba0, 0, none⟩)), (1, .pointer (some ⟨ba1, 0, none⟩))] func20 rfl rfl rfl rfl rfl rfl rfl .yes (r_ifT rfl underlying20) ?_
 have hT := Le.refl (fz w (HAppend.hAppend ([.box ba0 [.int .i64 a0.1, va0_1] 25, .box ba1 [.int .i64 a1.1, .int .i64 a1.2] 27] : List Res) O))
 refine W_true rfl ?_
 refine W_region ?_
 refine S_v (r_build rfl (fun _ => bld25_z _)) rfl ?_
 obtain ⟨x1, hb1, h⟩ := Go.L.bind_some h
 refine S_callL rfl rfl hL (words_fault_ok _ _ (gz_le hH hL) hb1) ?_
 rintro _ w2 rfl hx2 hL2 hle2
 replace ha0_1 := ha0_1.mono (gz_mono hH hle2)
 replace hT := hT.trans hle2
 refine S_storeBN 0 rfl rfl rfl zr25 hL2 rfl rfl (onc rfl (onc rfl on0)) ?_
 intro w3 hL3 hle3
 replace ha0_1 := ha0_1.mono (gz_mono hH hle3)
 replace hT := hT.trans hle3
 refine S_storeBN 1 rfl rfl rfl zr27 hL3 rfl rfl (onc rfl (onc rfl on0)) ?_
 intro w4 hL4 hle4
 replace ha0_1 := ha0_1.mono (gz_mono hH hle4)
 replace hT := hT.trans hle4
 refine S_nil ?_
 obtain rfl := Option.some.inj h
 refine At_got0e rfl ?_
 exact ⟨.slice none 0 0, hL4, hT, (Vec.nil _ _)⟩

noncomputable def words_Open_1_no (a0 : Int × (List ((List UInt8) × (List (Int × Int))))) (a1 : Int × Int) : Option ((Int × (List ((List UInt8) × (List (Int × Int))))) × (Int × Int)) :=
 some ((a0.1, a0.2), (a1.1, a1.2))

theorem words_Open_1_no_fr {w0 w : World} {H : PH} (_hH : Le H (hp w0)) {O : List Res} {a0 : Int × (List ((List UInt8) × (List (Int × Int))))} {a1 : Int × Int} {ba0 : Nat} {va0_1 : Value} {ba1 : Nat} (hL : Lcl w0 (HAppend.hAppend ([.box ba0 [.int .i64 a0.1, va0_1] 25, .box ba1 [.int .i64 a1.1, .int .i64 a1.2] 27] : List Res) O) w) (ha0_1 : Vec (.pair .st (.vec (.pair (.int .i64) (.int .i64)))) (gz H w0 w (HAppend.hAppend ([.box ba0 [.int .i64 a0.1, va0_1] 25, .box ba1 [.int .i64 a1.1, .int .i64 a1.2] 27] : List Res) O)) va0_1 (a0.2)) {r : (Int × (List ((List UInt8) × (List (Int × Int))))) × (Int × Int)} (h : words_Open_1_no a0 a1 = some r) :
  OkF Tryz.prog 20 [.pointer (some ⟨ba0, 0, none⟩), .pointer (some ⟨ba1, 0, none⟩)] .returning .returning w (fun w' => ∃ (u1 : Value), Lcl w0 (HAppend.hAppend ([.box ba0 [.int .i64 r.1.1, u1] 25, .box ba1 [.int .i64 r.2.1, .int .i64 r.2.2] 27] : List Res) O) w' ∧ Le (fz w (HAppend.hAppend ([.box ba0 [.int .i64 a0.1, va0_1] 25, .box ba1 [.int .i64 a1.1, .int .i64 a1.2] 27] : List Res) O)) (fz w' (HAppend.hAppend ([.box ba0 [.int .i64 r.1.1, u1] 25, .box ba1 [.int .i64 r.2.1, .int .i64 r.2.2] 27] : List Res) O)) ∧ Vec (.pair .st (.vec (.pair (.int .i64) (.int .i64)))) (gz H w0 w' (HAppend.hAppend ([.box ba0 [.int .i64 r.1.1, u1] 25, .box ba1 [.int .i64 r.2.1, .int .i64 r.2.2] 27] : List Res) O)) u1 (r.1.2)) := by
 refine OkF_enter (pv := .iface 66 (.agg #[])) (k := 6) [(0, .pointer (some ⟨ba0, 0, none⟩)), (1, .pointer (some ⟨ba1, 0, none⟩))] func20 rfl rfl rfl rfl rfl rfl rfl .no (r_ifF rfl underlying20) ?_
 have hT := Le.refl (fz w (HAppend.hAppend ([.box ba0 [.int .i64 a0.1, va0_1] 25, .box ba1 [.int .i64 a1.1, .int .i64 a1.2] 27] : List Res) O))
 refine W_false rfl ?_
 refine W_skip ?_
 obtain rfl := Option.some.inj h
 refine At_got0e rfl ?_
 exact ⟨va0_1, hL, hT, ha0_1⟩

noncomputable def words_Open_k3 (s30_155 : Int) (l195 : List ((Int × Int) × Bool)) : Option (((List ((Int × Int) × Bool)) × Int) ⊕ ((Int × (List ((List UInt8) × (List (Int × Int))))) × (Int × Int))) :=
 Go.L.chk (Go.L.I64 (s30_155 + (1 : Int))) (some (Sum.inl (l195, (s30_155 + (1 : Int)))))
noncomputable def words_Open_bl4 (s30_155 : Int) (y22 : (Int × (List ((List UInt8) × (List (Int × Int))))) × (((List UInt8) × Int) × Int)) : (List ((Int × Int) × Bool)) × Int → Option (((List ((Int × Int) × Bool)) × Int) ⊕ (((List ((Int × Int) × Bool)) × Int) ⊕ ((Int × (List ((List UInt8) × (List (Int × Int))))) × (Int × Int)))) := fun ⟨l216, s37_217⟩ =>
 if s37_217 < (((y22.1.2.getD s30_155.toNat default).2).length : Int) then Go.L.chk (0 ≤ s37_217 ∧ s37_217 < (((y22.1.2.getD s30_155.toNat default).2).length : Int)) (if (Go.L.mget false ((((y22.1.2.getD s30_155.toNat default).2).getD s37_217.toNat default).1, (((y22.1.2.getD s30_155.toNat default).2).getD s37_217.toNat default).2) l216) then Option.map Sum.inr (Option.map Sum.inr (Option.bind (words_Open_1_yes (y22.1.1, y22.1.2) ((0 : Int), (0 : Int))) (fun x231 => some ((x231.1.1, x231.1.2), (x231.2.1, x231.2.2))))) else Go.L.chk (Go.L.I64 (s37_217 + (1 : Int))) (some (Sum.inl ((Go.L.mput ((((y22.1.2.getD s30_155.toNat default).2).getD s37_217.toNat default).1, (((y22.1.2.getD s30_155.toNat default).2).getD s37_217.toNat default).2) true l216), (s37_217 + (1 : Int)))))) else Option.map Sum.inr ((words_Open_k3 s30_155) l216)
noncomputable def words_Open_l4 (s30_155 : Int) (y22 : (Int × (List ((List UInt8) × (List (Int × Int))))) × (((List UInt8) × Int) × Int)) (s : (List ((Int × Int) × Bool)) × Int) : Option (((List ((Int × Int) × Bool)) × Int) ⊕ ((Int × (List ((List UInt8) × (List (Int × Int))))) × (Int × Int))) := Go.L.run (words_Open_bl4 s30_155 y22) s
noncomputable def words_Open_k5 (y22 : (Int × (List ((List UInt8) × (List (Int × Int))))) × (((List UInt8) × Int) × Int)) (l252 : List ((List UInt8) × (List (Int × Int)))) : Option ((Int × (List ((List UInt8) × (List (Int × Int))))) × (Int × Int)) :=
 Option.bind (words_Open_1_no (y22.1.1, l252) ((0 : Int), (0 : Int))) (fun x270 => some ((x270.1.1, x270.1.2), (x270.2.1, x270.2.2)))
noncomputable def words_Open_k1 (a0 : List UInt8) (y22 : (Int × (List ((List UInt8) × (List (Int × Int))))) × (((List UInt8) × Int) × Int)) (_l110 : List ((Int × Int) × Bool)) : Option ((Int × (List ((List UInt8) × (List (Int × Int))))) × (Int × Int)) :=
 Option.bind (words_Index_Bytes (y22.1.1, y22.1.2)) (fun x256 => Option.bind (bytes_Equal x256 a0) (fun x258 => if !x258 then Option.bind (words_Open_1_yes_s2 (y22.1.1, y22.1.2) ((0 : Int), (0 : Int))) (fun x263 => some ((x263.1.1, x263.1.2), (x263.2.1, x263.2.2))) else (words_Open_k5 y22) y22.1.2))
noncomputable def words_Open_bl2 (a0 : List UInt8) (y22 : (Int × (List ((List UInt8) × (List (Int × Int))))) × (((List UInt8) × Int) × Int)) : (List ((Int × Int) × Bool)) × Int → Option (((List ((Int × Int) × Bool)) × Int) ⊕ ((Int × (List ((List UInt8) × (List (Int × Int))))) × (Int × Int))) := fun ⟨l154, s30_155⟩ =>
 if s30_155 < (y22.1.2.length : Int) then Go.L.chk (0 ≤ s30_155 ∧ s30_155 < (y22.1.2.length : Int)) ((words_Open_l4 s30_155 y22) (l154, (0 : Int))) else Option.map Sum.inr ((words_Open_k1 a0 y22) l154)
noncomputable def words_Open_l2 (a0 : List UInt8) (y22 : (Int × (List ((List UInt8) × (List (Int × Int))))) × (((List UInt8) × Int) × Int)) (s : (List ((Int × Int) × Bool)) × Int) : Option ((Int × (List ((List UInt8) × (List (Int × Int))))) × (Int × Int)) := Go.L.run (words_Open_bl2 a0 y22) s
noncomputable def words_Open (a0 : List UInt8) : Option ((Int × (List ((List UInt8) × (List (Int × Int))))) × (Int × Int)) :=
 if (16384 : Int) < (a0.length : Int) then Option.bind (words_fault (3 : Int) (-1 : Int)) (fun x5 => some (((0 : Int), []), (x5.1, x5.2))) else Option.bind (slices_Clone_byte_byte a0) (fun x10 => Go.L.chk (Go.L.I64 ((8 : Int) * (a0.length : Int))) (Option.bind (words_reader_index ((x10, ((8 : Int) * (a0.length : Int))), (0 : Int))) (fun x14 => Go.L.onX x14 (Option.bind (words_Open_1_yes ((0 : Int), ([] : List ((List UInt8) × (List (Int × Int))))) ((0 : Int), (0 : Int))) (fun x20 => some ((x20.1.1, x20.1.2), (x20.2.1, x20.2.2)))) (fun y22 => (words_Open_l2 a0 y22) (([] : List ((Int × Int) × Bool)), (0 : Int))))))

theorem words_Open_ok (w : World) (H : PH) (hH : Le H (hp w)) (hU : Utab H) {a0 : List UInt8} {v0_0 : Value} (h0_0 : Vec .byte H v0_0 (a0)) {r : (Int × (List ((List UInt8) × (List (Int × Int))))) × (Int × Int)} (h : words_Open a0 = some r) :
  Ok Tryz.prog 5 [v0_0] w (fun v w' => Ext w w' ∧ ∃ u0, v = .tuple #[.agg #[.int .i64 r.1.1, u0], .agg #[.int .i64 r.2.1, .int .i64 r.2.2]] ∧ Vec (.pair .st (.vec (.pair (.int .i64) (.int .i64)))) (un H (nw w w')) u0 (r.1.2)) := by
 refine OkD_enter (n := 59) [(0, v0_0)] func5 rfl rfl rfl rfl rfl ?_
 have hL := Lcl.start w
 refine W_seqr ?_
 refine S_alloc zr25 rfl rfl hL ?_
 intro w1 b1 hL1 hle1 _
 refine S_alloc zr27 rfl rfl hL1 ?_
 intro w2 b2 hL2 hle2 _
 refine S_seqnil ?_
 refine W_seq ?_
 refine W_p 1 rfl ?_
 refine S_v (r_len rfl underlying22 h0_0) rfl ?_
 refine S_pz 1 rfl ?_
 refine W_if rfl (fun hc3 => ?_) (fun hc3 => ?_)
 ·replace h := Go.L.ite_p hc3 h
  refine W_seqr ?_
  refine S_v (r_build rfl (fun _ => bld25_z _)) rfl ?_
  obtain ⟨x5, hb5, h⟩ := Go.L.bind_some h
  refine S_callL rfl rfl hL2 (words_fault_ok _ _ (gz_le hH hL2) hb5) ?_
  rintro _ w6 rfl hx6 hL6 hle6
  refine S_storeBN 1 rfl rfl rfl zr25 hL6 rfl rfl (onc rfl (onc rfl on0)) ?_
  intro w7 hL7 hle7
  refine S_storeBN 0 rfl rfl rfl zr27 hL7 rfl rfl (onc rfl (onc rfl on0)) ?_
  intro w8 hL8 hle8
  refine S_seqnil ?_
  refine W_ret ?_
  refine At_seq_ret ?_
  obtain rfl := Option.some.inj h
  refine At_retD0 ?_
  refine At_got2 rfl (.cell rfl underlying25 rfl zr25 (box_ptr (i := 1) hL8 rfl)) (.cell rfl underlying27 rfl zr27 (box_ptr (i := 0) hL8 rfl)) ?_
  exact ⟨hL8.ext, _, rfl, (Vec.nil _ _)⟩
 ·replace h := Go.L.ite_n hc3 h
  refine W_skip ?_
  refine At_seq ?_
  refine W_p 1 rfl ?_
  refine S_defer rfl ?_
  refine S_seqnil ?_
  refine W_p 1 rfl ?_
  obtain ⟨x10, hb10, h⟩ := Go.L.bind_some h
  refine S_callL rfl rfl hL2 (slices_Clone_byte_byte_ok _ _ (gz_le hH hL2) (h0_0.mono (gz_left hH)) hb10) ?_
  rintro u11_0 w11 ⟨_, rfl, hR11_0⟩ hx11 hL11 hle11
  have hv11_0 := hR11_0.vecG hH hL2 hx11
  refine S_pu 1 rfl ?_
  refine S_v (r_len rfl underlying22 h0_0) rfl ?_
  obtain ⟨hk12, h⟩ := Go.L.chk_some h
  refine S_v (r_ar64 rfl rfl rfl hk12) rfl ?_
  refine S_v (r_build rfl (fun _ => bld56_0_1 _ hv11_0.one _ _)) rfl ?_
  refine S_v (r_build rfl (fun _ => bld58_0 _ _ _)) rfl ?_
  refine S_box (t := 58) rfl rfl rfl hL11 ?_
  intro w13 b13 hL13 hle13 _
  replace hv11_0 := hv11_0.mono (gz_mono hH hle13)
  refine S_pz 1 rfl ?_
  refine W_p 1 rfl ?_
  obtain ⟨x14, hb14, h⟩ := Go.L.bind_some h
  refine S_callXF rfl rfl (words_reader_index_fr (a0 := ((x10, ((8 : Int) * (a0.length : Int))), (0 : Int))) (O := [.box b2 [.int .i64 (0 : Int), .int .i64 (0 : Int)] 27, .box b1 [.int .i64 (0 : Int), .slice none 0 0] 25]) hH hU hL13 hv11_0 hb14) ?_ ?_
  ·rintro rfl w16 ⟨hL16, hle16⟩
   replace hv11_0 := hv11_0.mono (gz_mono hH hle16)
   replace h := Go.L.onX_none h
   refine At_seq_panic ?_
   obtain ⟨hL18, hle18, he18⟩ := row_nilE (.pair .st (.vec (.pair (.int .i64) (.int .i64)))) H 62 hL16
   replace hv11_0 := hv11_0.mono (gz_mono hH hle18)
   have hL19 : Lcl w [.box b1 [.int .i64 (0 : Int), .slice none 0 0] 25, .row (.slice none 0 0) 62 2 (([] : List ((List UInt8) × (List (Int × Int))))).length ([]), .box b2 [.int .i64 (0 : Int), .int .i64 (0 : Int)] 27] w16 := hL18.picks [2] rfl
   have hle19 := fz_picks [2] hL18 hL19 rfl
   replace hv11_0 := hv11_0.mono (gz_mono hH hle19)
   replace he18 := he18.mono (gz_mono hH hle19)
   obtain ⟨x20, hb20, h⟩ := Go.L.bind_some h
   refine At_panD (words_Open_1_yes_fr (a0 := ((0 : Int), ([] : List ((List UInt8) × (List (Int × Int)))))) (a1 := ((0 : Int), (0 : Int))) (O := []) hH hL19 he18 hb20) ?_
   rintro w21 ⟨u21_1, hL21, hle21, hf21_1⟩ az frz
   replace hv11_0 := hv11_0.mono (gz_mono hH hle21)
   obtain rfl := Option.some.inj h
   exact ⟨_, res_got2 rfl (.cell rfl underlying25 rfl zr25 (box_ptr (i := 0) hL21 rfl)) (.cell rfl underlying27 rfl zr27 (box_ptr (i := 1) hL21 rfl)) frz, hL21.ext, _, rfl, (hf21_1.mono (gz_res hH))⟩
  rintro y22 rfl _ w15 ⟨u15_1, y15_1, u15_2, rfl, hL15, hle15, hf15_1, hf15_2⟩
  replace h := Go.L.onX_some h
  replace hv11_0 := hv11_0.mono (gz_mono hH hle15)
  refine S_storeBN 3 rfl rfl rfl zr25 hL15 rfl rfl (onc rfl (onc (row_one (hL15.at (i := 0) rfl)) on0)) ?_
  intro w23 hL23 hle23
  replace hv11_0 := hv11_0.mono (gz_mono hH hle23)
  replace hf15_1 := hf15_1.mono (gz_mono hH hle23)
  replace hf15_2 := hf15_2.mono (gz_mono hH hle23)
  refine S_seqnil ?_
  refine W_seqr ?_
  refine S_makeMap encII (Bool) rfl hL23 ?_
  intro w24 b24 hL24 hle24
  replace hf15_1 := hf15_1.mono (gz_mono hH hle24)
  replace hf15_2 := hf15_2.mono (gz_mono hH hle24)
  refine S_pz 1 rfl ?_
  refine W_cut (σ := (List ((Int × Int) × Bool))) (fun l110 => [(0, v0_0), (2, .pointer (some ⟨b1, 0, none⟩)), (3, .pointer (some ⟨b2, 0, none⟩))]) (fun l110 wr => InO w [mpR encII b24 (l110) ((l110).map fun (z : (Int × Int) × Bool) => Value.bool z.2), .row (u15_1) 62 2 (y22.1.2).length (y15_1), .box b13 [u15_2, .int .i64 y22.2.1.2, .int .i64 y22.2.2] 58, .box b2 [.int .i64 (0 : Int), .int .i64 (0 : Int)] 27, .box b1 [.int .i64 y22.1.1, u15_1] 25] wr fun Oz => Elems (.pair .st (.vec (.pair (.int .i64) (.int .i64)))) (gz H w wr Oz) (y22.1.2) (y15_1) ∧ Vec .byte (gz H w wr Oz) (u15_2) (y22.2.1.1) ∧ (words_Open_k1 a0 y22) l110 = some r) ?_ ?_
  ·refine W_seqr ?_
   refine S_v (r_field rfl underlying25 rfl zr23 (by decide)) rfl ?_
   refine S_v (r_loadB1 4 rfl underlying23 rfl hL24 rfl rfl) rfl ?_
   refine S_v (r_lenR (i := 1) rfl underlying23 hL24 rfl) rfl ?_
   refine S_pz 1 rfl ?_
   refine W_block ?_
   obtain ⟨n156, h⟩ := Go.L.run_some h
   refine W_loop (σ := (List ((Int × Int) × Bool)) × Int × Nat) (fun ⟨l154, s30_155, n⟩ => [(0, v0_0), (2, .pointer (some ⟨b1, 0, none⟩)), (3, .pointer (some ⟨b2, 0, none⟩)), (5, .map (some b24)), (28, u15_1), (29, .int .i64 (y22.1.2.length : Int)), (30, .int .i64 s30_155)]) (fun ⟨l154, s30_155, n⟩ wr => InO w [mpR encII b24 (l154) ((l154).map fun (z : (Int × Int) × Bool) => Value.bool z.2), .row (u15_1) 62 2 (y22.1.2).length (y15_1), .box b13 [u15_2, .int .i64 y22.2.1.2, .int .i64 y22.2.2] 58, .box b2 [.int .i64 (0 : Int), .int .i64 (0 : Int)] 27, .box b1 [.int .i64 y22.1.1, u15_1] 25] wr fun Oz => Elems (.pair .st (.vec (.pair (.int .i64) (.int .i64)))) (gz H w wr Oz) (y22.1.2) (y15_1) ∧ Vec .byte (gz H w wr Oz) (u15_2) (y22.2.1.1) ∧ Go.L.itr (words_Open_bl2 a0 y22) n (l154, s30_155) = some r) (fun ⟨l154, s30_155, n⟩ => n) (([] : List ((Int × Int) × Bool)), (0 : Int), n156) (.cons rfl (.cons rfl (.cons rfl (.cons rfl (.cons rfl (.cons rfl (.cons rfl (Sub.nil _)))))))) ⟨hL24, hf15_1, hf15_2, h⟩ ?_
   rintro ⟨l154, s30_155, nn156⟩ wr156 ⟨hL156, he156_r15_1, hf156_1, h⟩
   obtain ⟨n156, e156, rfl, h, hm156⟩ := Go.L.itr_some h
   refine W_pz 1 rfl ?_
   refine W_seq ?_
   refine W_if rfl (fun hc158 => ?_) (fun hc158 => ?_)
   ·replace h := Go.L.ite_p hc158 h
    refine W_skip ?_
    refine At_seq ?_
    refine W_cut (σ := (List ((Int × Int) × Bool))) (fun l195 => [(0, v0_0), (2, .pointer (some ⟨b1, 0, none⟩)), (3, .pointer (some ⟨b2, 0, none⟩)), (5, .map (some b24)), (28, u15_1), (29, .int .i64 (y22.1.2.length : Int)), (30, .int .i64 s30_155)]) (fun l195 wr => InO w [mpR encII b24 (l195) ((l195).map fun (z : (Int × Int) × Bool) => Value.bool z.2), .row (u15_1) 62 2 (y22.1.2).length (y15_1), .box b13 [u15_2, .int .i64 y22.2.1.2, .int .i64 y22.2.2] 58, .box b2 [.int .i64 (0 : Int), .int .i64 (0 : Int)] 27, .box b1 [.int .i64 y22.1.1, u15_1] 25] wr fun Oz => Elems (.pair .st (.vec (.pair (.int .i64) (.int .i64)))) (gz H w wr Oz) (y22.1.2) (y15_1) ∧ Vec .byte (gz H w wr Oz) (u15_2) (y22.2.1.1) ∧ (words_Open_k3 s30_155) l195 = some e156) ?_ ?_
    ·refine W_block ?_
     refine W_seqr ?_
     obtain ⟨hk199, h⟩ := Go.L.chk_some h
     refine S_indexR 1 rfl rfl underlying23 zr62 hL156 rfl s30_155.toNat (Int.toNat_of_nonneg hk199.1).symm (idx_lt hk199) rfl ?_
     intro p198 hp198
     obtain ⟨_, hc198, hcell198⟩ := he156_r15_1.at s30_155.toNat _ (getD_some ((idx_lt hk199)))
     obtain ⟨_, _, rfl, rfl, ⟨e198v1, rfl, e198h1⟩⟩ := hc198
     refine S_v (r_loadRN 1 rfl underlying62 rfl zr62 hL156 rfl hp198 hcell198) rfl ?_
     refine S_alloc zr62 rfl rfl hL156 ?_
     intro w200 b200 hL200 hle200 _
     replace he156_r15_1 := he156_r15_1.mono (gz_mono hH hle200)
     replace hf156_1 := hf156_1.mono (gz_mono hH hle200)
     replace e198h1 := e198h1.mono (gz_mono hH hle200)
     refine S_storeBN 0 rfl rfl rfl zr62 hL200 rfl rfl (onc rfl (onc e198h1.one on0)) ?_
     intro w201 hL201 hle201
     replace he156_r15_1 := he156_r15_1.mono (gz_mono hH hle201)
     replace hf156_1 := hf156_1.mono (gz_mono hH hle201)
     replace e198h1 := e198h1.mono (gz_mono hH hle201)
     refine S_seqnil ?_
     have hG202 := hL201.rG H
     refine W_seqr ?_
     refine S_v (r_field rfl underlying62 rfl zr40 (by decide)) rfl ?_
     refine S_v (r_loadB1 0 rfl underlying40 rfl hL201 rfl rfl) rfl ?_
     refine S_v (r_len rfl underlying40 (e198h1.mono hG202)) rfl ?_
     refine S_pz 1 rfl ?_
     refine W_block ?_
     obtain ⟨n218, h⟩ := Go.L.run_some h
     refine W_loop (σ := (List ((Int × Int) × Bool)) × Int × Nat) (fun ⟨l216, s37_217, n⟩ => [(0, v0_0), (2, .pointer (some ⟨b1, 0, none⟩)), (3, .pointer (some ⟨b2, 0, none⟩)), (5, .map (some b24)), (28, u15_1), (29, .int .i64 (y22.1.2.length : Int)), (30, .int .i64 s30_155), (35, e198v1), (36, .int .i64 (((y22.1.2.getD s30_155.toNat default).2).length : Int)), (37, .int .i64 s37_217)]) (fun ⟨l216, s37_217, n⟩ wr => InO w [.box b200 [.string ⟨((y22.1.2.getD s30_155.toNat default).1).toArray⟩, e198v1] 62, mpR encII b24 (l216) ((l216).map fun (z : (Int × Int) × Bool) => Value.bool z.2), .row (u15_1) 62 2 (y22.1.2).length (y15_1), .box b13 [u15_2, .int .i64 y22.2.1.2, .int .i64 y22.2.2] 58, .box b2 [.int .i64 (0 : Int), .int .i64 (0 : Int)] 27, .box b1 [.int .i64 y22.1.1, u15_1] 25] wr fun Oz => Vec (.pair (.int .i64) (.int .i64)) (gz H w wr Oz) (e198v1) ((y22.1.2.getD s30_155.toNat default).2) ∧ Elems (.pair .st (.vec (.pair (.int .i64) (.int .i64)))) (gz H w wr Oz) (y22.1.2) (y15_1) ∧ Vec .byte (gz H w wr Oz) (u15_2) (y22.2.1.1) ∧ Go.L.itr (words_Open_bl4 s30_155 y22) n (l216, s37_217) = some e156) (fun ⟨l216, s37_217, n⟩ => n) (l154, (0 : Int), n218) (.cons rfl (.cons rfl (.cons rfl (.cons rfl (.cons rfl (.cons rfl (.cons rfl (.cons rfl (.cons rfl (.cons rfl (Sub.nil _))))))))))) ⟨hL201, (e198h1.mono hG202), (he156_r15_1.mono hG202), (hf156_1.mono hG202), h⟩ ?_
     rintro ⟨l216, s37_217, nn218⟩ wr218 ⟨hL218, hf218_0, he218_r15_1, hf218_2, h⟩
     obtain ⟨n218, e218, rfl, h, hm218⟩ := Go.L.itr_some h
     have hG220 := hL218.rG H
     refine W_pz 1 rfl ?_
     refine W_seq ?_
     refine W_if rfl (fun hc221 => ?_) (fun hc221 => ?_)
     ·replace h := Go.L.ite_p hc221 h
      refine W_skip ?_
      refine At_seq ?_
      refine W_seq ?_
      refine W_block ?_
      refine W_seqr ?_
      obtain ⟨hk224, h⟩ := Go.L.chk_some h
      refine S_index rfl rfl underlying40 zr64 (hf218_0.mono hG220) s37_217.toNat (Int.toNat_of_nonneg hk224.1).symm (idx_lt hk224) rfl ?_
      rintro p223 _ ⟨_, _, rfl, rfl, rfl⟩ hp223
      refine S_v (r_loadN rfl underlying64 rfl zr64 hp223 (gz_le hH hL218)) rfl ?_
      refine S_alloc zr64 rfl rfl hL218 ?_
      intro w225 b225 hL225 hle225 _
      replace hp223 := hp223.mono (gz_mono hH hle225)
      replace hG220 := hG220.trans (gz_mono hH hle225)
      refine S_storeBN 0 rfl rfl rfl zr64 hL225 rfl rfl (onc rfl (onc rfl on0)) ?_
      intro w226 hL226 hle226
      replace hp223 := hp223.mono (gz_mono hH hle226)
      replace hG220 := hG220.trans (gz_mono hH hle226)
      refine S_seqnil ?_
      refine W_seq ?_
      refine W_p 1 rfl ?_
      refine S_v (r_loadBN 0 rfl underlying64 rfl zr64 hL226 rfl) rfl ?_
      refine S_v (r_lookP (l := l216) (k := ((((y22.1.2.getD s30_155.toNat default).2).getD s37_217.toNat default).1, (((y22.1.2.getD s30_155.toNat default).2).getD s37_217.toNat default).2)) (dv := false) (ev' := Value.bool) (enc := encII) 2 rfl rfl underlying60 key64 zeroValue4 hL226 rfl) rfl ?_
      refine S_seqnil ?_
      refine W_cond rfl (fun hc227 => ?_) (fun hc227 => ?_)
      ·replace h := Go.L.ite_t hc227 h
       refine W_region ?_
       refine S_v (r_build rfl (fun _ => bld66_z _)) rfl ?_
       refine S_v (r_mkI rfl underlying66 rfl) rfl ?_
       refine S_panic rfl rfl ?_
       refine At_seq_panic ?_
       refine At_block_panic ?_
       refine At_seq_panic ?_
       refine At_loop_panic ?_
       replace h := Go.L.Nxt.out h hm218
       iterate 2 refine At_block_panic ?_
       refine At_cut_panic ?_
       refine At_loop_panic ?_
       replace h := Go.L.Nxt.out h hm156
       refine At_block_panic ?_
       refine At_cut_panic ?_
       have hL229 : Lcl w [.row (u15_1) 62 2 (y22.1.2).length (y15_1), .box b2 [.int .i64 (0 : Int), .int .i64 (0 : Int)] 27, .box b225 [.int .i64 ((((y22.1.2.getD s30_155.toNat default).2).getD s37_217.toNat default).1), .int .i64 ((((y22.1.2.getD s30_155.toNat default).2).getD s37_217.toNat default).2)] 64, .box b200 [.string ⟨((y22.1.2.getD s30_155.toNat default).1).toArray⟩, e198v1] 62, mpR encII b24 (l216) ((l216).map fun (z : (Int × Int) × Bool) => Value.bool z.2), .box b13 [u15_2, .int .i64 y22.2.1.2, .int .i64 y22.2.2] 58, .box b1 [.int .i64 y22.1.1, u15_1] 25] w226 := hL226.picks [5, 4] rfl
       have hle229 := fz_picks [5, 4] hL226 hL229 rfl
       replace hG220 := hG220.trans (gz_mono hH hle229)
       have hL230 : Lcl w [.box b1 [.int .i64 y22.1.1, u15_1] 25, .row (u15_1) 62 2 (y22.1.2).length (y15_1), .box b2 [.int .i64 (0 : Int), .int .i64 (0 : Int)] 27, .box b225 [.int .i64 ((((y22.1.2.getD s30_155.toNat default).2).getD s37_217.toNat default).1), .int .i64 ((((y22.1.2.getD s30_155.toNat default).2).getD s37_217.toNat default).2)] 64, .box b200 [.string ⟨((y22.1.2.getD s30_155.toNat default).1).toArray⟩, e198v1] 62, mpR encII b24 (l216) ((l216).map fun (z : (Int × Int) × Bool) => Value.bool z.2), .box b13 [u15_2, .int .i64 y22.2.1.2, .int .i64 y22.2.2] 58] w226 := hL229.picks [6] rfl
       have hle230 := fz_picks [6] hL229 hL230 rfl
       replace hG220 := hG220.trans (gz_mono hH hle230)
       obtain ⟨x231, hb231, h⟩ := Go.L.bind_some h
       refine At_panD (words_Open_1_yes_fr (a0 := (y22.1.1, y22.1.2)) (a1 := ((0 : Int), (0 : Int))) (O := [.box b225 [.int .i64 ((((y22.1.2.getD s30_155.toNat default).2).getD s37_217.toNat default).1), .int .i64 ((((y22.1.2.getD s30_155.toNat default).2).getD s37_217.toNat default).2)] 64, .box b200 [.string ⟨((y22.1.2.getD s30_155.toNat default).1).toArray⟩, e198v1] 62, mpR encII b24 (l216) ((l216).map fun (z : (Int × Int) × Bool) => Value.bool z.2), .box b13 [u15_2, .int .i64 y22.2.1.2, .int .i64 y22.2.2] 58]) hH hL230 (he218_r15_1.mono hG220) hb231) ?_
       rintro w232 ⟨u232_1, hL232, hle232, hf232_1⟩ az frz
       replace hG220 := hG220.trans (gz_mono hH hle232)
       obtain rfl := Option.some.inj h
       exact ⟨_, res_got2 rfl (.cell rfl underlying25 rfl zr25 (box_ptr (i := 0) hL232 rfl)) (.cell rfl underlying27 rfl zr27 (box_ptr (i := 1) hL232 rfl)) frz, hL232.ext, _, rfl, (hf232_1.mono (gz_res hH))⟩
      ·replace h := Go.L.ite_f hc227 h
       refine W_skip ?_
       refine At_seq ?_
       refine W_region ?_
       refine S_pu 1 rfl ?_
       refine S_v (r_loadBN 0 rfl underlying64 rfl zr64 hL226 rfl) rfl ?_
       refine S_mapSet (l := l216) (k := ((((y22.1.2.getD s30_155.toNat default).2).getD s37_217.toNat default).1, (((y22.1.2.getD s30_155.toNat default).2).getD s37_217.toNat default).2)) (z := true) (ev' := Value.bool) (enc := encII) 2 rfl rfl rfl underlying60 key64 hL226 rfl ?_
       intro w234 hL234 hle234
       replace hG220 := hG220.trans (gz_mono hH hle234)
       refine S_nil ?_
       refine At_block ?_
       refine At_seq ?_
       refine W_region ?_
       obtain ⟨hk235, h⟩ := Go.L.chk_some h
       refine S_v (r_ar64 rfl rfl rfl hk235) rfl ?_
       refine S_pu 1 rfl ?_
       refine S_nil ?_
       have hL236 := hL234.dropAt (i := 0) rfl
       replace hG220 := hG220.trans (gz_mono hH (fz_dropAt (i := 0) rfl))
       have h := Go.L.Nxt.again h hm218
       refine At_round ((Go.L.mput ((((y22.1.2.getD s30_155.toNat default).2).getD s37_217.toNat default).1, (((y22.1.2.getD s30_155.toNat default).2).getD s37_217.toNat default).2) true l216), (s37_217 + (1 : Int)), n218) (.cons rfl (.cons rfl (.cons rfl (.cons rfl (.cons rfl (.cons rfl (.cons rfl (.cons rfl (.cons rfl (.cons rfl (Sub.nil _))))))))))) ⟨hL236, (hf218_0.mono hG220), (he218_r15_1.mono hG220), (hf218_2.mono hG220), h⟩ (Nat.lt_succ_self _)
     ·replace h := Go.L.ite_n hc221 h
      refine W_exit ?_
      refine At_seq_exit ?_
      refine At_loop_exit ?_
      replace h := Go.L.Nxt.out h hm218
      refine At_exit ?_
      refine At_block ?_
      have hL238 := hL218.dropAt (i := 0) rfl
      replace hG220 := hG220.trans (gz_mono hH (fz_dropAt (i := 0) rfl))
      refine At_cut l216 (.cons rfl (.cons rfl (.cons rfl (.cons rfl (.cons rfl (.cons rfl (.cons rfl (Sub.nil _)))))))) ⟨hL238, (he218_r15_1.mono hG220), (hf218_2.mono hG220), h⟩
    ·rintro l195 wr196 ⟨hL196, he196_r15_1, hf196_1, h⟩
     refine W_region ?_
     obtain ⟨hk240, h⟩ := Go.L.chk_some h
     refine S_v (r_ar64 rfl rfl rfl hk240) rfl ?_
     refine S_pu 1 rfl ?_
     refine S_nil ?_
     have h := Go.L.Nxt.again h hm156
     refine At_round (l195, (s30_155 + (1 : Int)), n156) (.cons rfl (.cons rfl (.cons rfl (.cons rfl (.cons rfl (.cons rfl (.cons rfl (Sub.nil _)))))))) ⟨hL196, he196_r15_1, hf196_1, h⟩ (Nat.lt_succ_self _)
   ·replace h := Go.L.ite_n hc158 h
    refine W_exit ?_
    refine At_seq_exit ?_
    refine At_loop_exit ?_
    replace h := Go.L.Nxt.out h hm156
    refine At_exit ?_
    refine At_cut l154 (.cons rfl (.cons rfl (.cons rfl (Sub.nil _)))) ⟨hL156, he156_r15_1, hf156_1, h⟩
  ·rintro l110 wr111 ⟨hL111, he111_r15_1, hf111_1, h⟩
   refine W_cut (σ := (List ((List UInt8) × (List (Int × Int)))) × Value) (fun ⟨l252, vl252⟩ => [(2, .pointer (some ⟨b1, 0, none⟩)), (3, .pointer (some ⟨b2, 0, none⟩))]) (fun ⟨l252, vl252⟩ wr => InO w [mpR encII b24 (l110) ((l110).map fun (z : (Int × Int) × Bool) => Value.bool z.2), .box b13 [u15_2, .int .i64 y22.2.1.2, .int .i64 y22.2.2] 58, .box b2 [.int .i64 (0 : Int), .int .i64 (0 : Int)] 27, .box b1 [.int .i64 y22.1.1, vl252] 25] wr fun Oz => Vec .byte (gz H w wr Oz) (u15_2) (y22.2.1.1) ∧ Vec (.pair .st (.vec (.pair (.int .i64) (.int .i64)))) (gz H w wr Oz) (vl252) (l252) ∧ (words_Open_k5 y22) l252 = some r) ?_ ?_
   ·refine W_seqr ?_
    refine S_v (r_loadBN 4 rfl underlying25 rfl zr25 hL111 rfl) rfl ?_
    have hv255 := hL111.vecG hH (i := 1) rfl he111_r15_1
    have hL255 := hL111.dropAt (i := 1) rfl
    replace hf111_1 := hf111_1.mono (gz_mono hH (fz_dropAt (i := 1) rfl))
    obtain ⟨x256, hb256, h⟩ := Go.L.bind_some h
    refine S_callL rfl rfl hL255 (words_Index_Bytes_ok _ _ (gz_le hH hL255) hv255 hb256) ?_
    rintro u257_0 w257 ⟨_, rfl, hR257_0⟩ hx257 hL257 hle257
    have hv257_0 := hR257_0.mono (gz_nw hH hL255 hx257)
    replace hf111_1 := hf111_1.mono (gz_mono hH hle257)
    replace hv255 := hv255.mono (gz_mono hH hle257)
    refine S_pu 1 rfl ?_
    obtain ⟨x258, hb258, h⟩ := Go.L.bind_some h
    refine S_callL rfl rfl hL257 (bytes_Equal_ok _ _ (gz_le hH hL257) hv257_0 (h0_0.mono (gz_left hH)) hb258) ?_
    rintro _ w259 rfl hx259 hL259 hle259
    replace hf111_1 := hf111_1.mono (gz_mono hH hle259)
    replace hv255 := hv255.mono (gz_mono hH hle259)
    replace hv257_0 := hv257_0.mono (gz_mono hH hle259)
    refine S_pz 1 rfl ?_
    refine W_cond rfl (fun hc260 => ?_) (fun hc260 => ?_)
    ·replace h := Go.L.ite_t hc260 h
     refine W_region ?_
     refine S_v (r_build rfl (fun _ => bld66_z _)) rfl ?_
     refine S_v (r_mkI rfl underlying66 rfl) rfl ?_
     refine S_panic rfl rfl ?_
     refine At_cut_panic ?_
     have hL262 : Lcl w [.box b1 [.int .i64 y22.1.1, u15_1] 25, .box b2 [.int .i64 (0 : Int), .int .i64 (0 : Int)] 27, mpR encII b24 (l110) ((l110).map fun (z : (Int × Int) × Bool) => Value.bool z.2), .box b13 [u15_2, .int .i64 y22.2.1.2, .int .i64 y22.2.2] 58] w259 := hL259.picks [2, 3] rfl
     have hle262 := fz_picks [2, 3] hL259 hL262 rfl
     replace hf111_1 := hf111_1.mono (gz_mono hH hle262)
     replace hv255 := hv255.mono (gz_mono hH hle262)
     obtain ⟨x263, hb263, h⟩ := Go.L.bind_some h
     refine At_panD (words_Open_1_yes_s2_fr (a0 := (y22.1.1, y22.1.2)) (a1 := ((0 : Int), (0 : Int))) (O := [mpR encII b24 (l110) ((l110).map fun (z : (Int × Int) × Bool) => Value.bool z.2), .box b13 [u15_2, .int .i64 y22.2.1.2, .int .i64 y22.2.2] 58]) hH hL262 hv255 hb263) ?_
     rintro w264 ⟨u264_1, hL264, hle264, hf264_1⟩ az frz
     replace hf111_1 := hf111_1.mono (gz_mono hH hle264)
     replace hv255 := hv255.mono (gz_mono hH hle264)
     obtain rfl := Option.some.inj h
     exact ⟨_, res_got2 rfl (.cell rfl underlying25 rfl zr25 (box_ptr (i := 0) hL264 rfl)) (.cell rfl underlying27 rfl zr27 (box_ptr (i := 1) hL264 rfl)) frz, hL264.ext, _, rfl, (hf264_1.mono (gz_res hH))⟩
    ·replace h := Go.L.ite_f hc260 h
     refine W_skip ?_
     refine At_cut (y22.1.2, u15_1) (.cons rfl (.cons rfl (Sub.nil _))) ⟨hL259, hf111_1, hv255, h⟩
   ·rintro ⟨l252, vl252⟩ wr253 ⟨hL253, hf253_0, hfl252, h⟩
    refine W_seqr ?_
    refine S_v (r_loadBN 3 rfl underlying25 rfl zr25 hL253 rfl) rfl ?_
    refine S_v (r_build rfl (fun _ => bld27_z _)) rfl ?_
    refine S_storeBN 3 rfl rfl rfl zr25 hL253 rfl rfl (onc rfl (onc hfl252.one on0)) ?_
    intro w267 hL267 hle267
    replace hf253_0 := hf253_0.mono (gz_mono hH hle267)
    replace hfl252 := hfl252.mono (gz_mono hH hle267)
    refine S_storeBN 2 rfl rfl rfl zr27 hL267 rfl rfl (onc rfl (onc rfl on0)) ?_
    intro w268 hL268 hle268
    replace hf253_0 := hf253_0.mono (gz_mono hH hle268)
    replace hfl252 := hfl252.mono (gz_mono hH hle268)
    refine S_seqnil ?_
    refine W_ret ?_
    have hL269 : Lcl w [.box b1 [.int .i64 y22.1.1, vl252] 25, .box b2 [.int .i64 (0 : Int), .int .i64 (0 : Int)] 27, mpR encII b24 (l110) ((l110).map fun (z : (Int × Int) × Bool) => Value.bool z.2), .box b13 [u15_2, .int .i64 y22.2.1.2, .int .i64 y22.2.2] 58] w268 := hL268.picks [2, 3] rfl
    have hle269 := fz_picks [2, 3] hL268 hL269 rfl
    replace hf253_0 := hf253_0.mono (gz_mono hH hle269)
    replace hfl252 := hfl252.mono (gz_mono hH hle269)
    obtain ⟨x270, hb270, h⟩ := Go.L.bind_some h
    refine At_retD (words_Open_1_no_fr (a0 := (y22.1.1, l252)) (a1 := ((0 : Int), (0 : Int))) (O := [mpR encII b24 (l110) ((l110).map fun (z : (Int × Int) × Bool) => Value.bool z.2), .box b13 [u15_2, .int .i64 y22.2.1.2, .int .i64 y22.2.2] 58]) hH hL269 hfl252 hb270) ?_
    rintro w271 ⟨u271_1, hL271, hle271, hf271_1⟩ az frz
    replace hf253_0 := hf253_0.mono (gz_mono hH hle271)
    replace hfl252 := hfl252.mono (gz_mono hH hle271)
    obtain rfl := Option.some.inj h
    exact ⟨_, res_got2 rfl (.cell rfl underlying25 rfl zr25 (box_ptr (i := 0) hL271 rfl)) (.cell rfl underlying27 rfl zr27 (box_ptr (i := 1) hL271 rfl)) frz, hL271.ext, _, rfl, (hf271_1.mono (gz_res hH))⟩
end Go.Proofs.YtdiieblgeaehpaaGreatDoor
