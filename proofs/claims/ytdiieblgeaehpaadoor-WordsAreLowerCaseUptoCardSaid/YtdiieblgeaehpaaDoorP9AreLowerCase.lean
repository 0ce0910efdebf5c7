/- Generated walk: a law of words. -/
import Derived.Test.YtdiieblgeaehpaaDoorP8
import Derived.KernelRfl
namespace Go.Proofs.YtdiieblgeaehpaaDoor
open Go Go.E Go.RowKit
noncomputable def law4_WordsAreLowerCase_k1 : Option (Bool) :=
 some (true)
noncomputable def law4_WordsAreLowerCase_bl2 (a0 : List UInt8) (a1 : List UInt8) (x1 : (List ((List UInt8) × Int × Int)) × (Int × Int)) (x18 : (List ((List UInt8) × Int × Int)) × (Int × Int)) (x5 : (List ((List UInt8) × Int × Int)) × (Int × Int)) : Int → Option ((Int) ⊕ (Bool)) := fun s12_560 =>
 if s12_560 < (x18.1.length : Int) then Go.L.chk (0 ≤ s12_560 ∧ s12_560 < (x18.1.length : Int)) (Go.L.chk (Go.L.I64 ((x18.1.getD s12_560.toNat default).2.2 - (1 : Int))) (Option.bind (ref3_In ((x18.1.getD s12_560.toNat default).2.1) (0 : Int) ((x18.1.getD s12_560.toNat default).2.2 - (1 : Int))) (fun x571 => if !x571 then Option.map Sum.inr (some (false)) else if ((((([] : List UInt8) ++ a0) ++ [(32 : UInt8)]) ++ a1).length : Int) < (x18.1.getD s12_560.toNat default).2.2 then Option.map Sum.inr (some (false)) else if (((x18.1.getD s12_560.toNat default).1).length : Int) ≤ (64 : Int) then Option.bind (words_Check ((x18.1.getD s12_560.toNat default).1)) (fun x581 => if x581.1 = (0 : Int) then (if s12_560 < (x1.1.length : Int) then Go.L.chk (0 ≤ s12_560 ∧ s12_560 < (x1.1.length : Int)) (if (x18.1.getD s12_560.toNat default).1 = (x1.1.getD s12_560.toNat default).1 ∧ (x18.1.getD s12_560.toNat default).2.1 = (x1.1.getD s12_560.toNat default).2.1 ∧ (x18.1.getD s12_560.toNat default).2.2 = (x1.1.getD s12_560.toNat default).2.2 then if (x1.1.length : Int) ≤ s12_560 then Go.L.chk (Go.L.I64 (s12_560 - (x1.1.length : Int))) (Go.L.chk (0 ≤ (s12_560 - (x1.1.length : Int)) ∧ (s12_560 - (x1.1.length : Int)) < (x5.1.length : Int)) (Go.L.chk (Go.L.I64 (s12_560 - (x1.1.length : Int))) (Go.L.chk (0 ≤ (s12_560 - (x1.1.length : Int)) ∧ (s12_560 - (x1.1.length : Int)) < (x5.1.length : Int)) (Go.L.chk (Go.L.I64 ((x5.1.getD ((s12_560 - (x1.1.length : Int)).toNat) default).2.1 + (a0.length : Int))) (Go.L.chk (Go.L.I64 (((x5.1.getD ((s12_560 - (x1.1.length : Int)).toNat) default).2.1 + (a0.length : Int)) + (1 : Int))) (Go.L.chk (Go.L.I64 (s12_560 - (x1.1.length : Int))) (Go.L.chk (0 ≤ (s12_560 - (x1.1.length : Int)) ∧ (s12_560 - (x1.1.length : Int)) < (x5.1.length : Int)) (Go.L.chk (Go.L.I64 ((x5.1.getD ((s12_560 - (x1.1.length : Int)).toNat) default).2.2 + (a0.length : Int))) (Go.L.chk (Go.L.I64 (((x5.1.getD ((s12_560 - (x1.1.length : Int)).toNat) default).2.2 + (a0.length : Int)) + (1 : Int))) (if (x18.1.getD s12_560.toNat default).1 = (x5.1.getD ((s12_560 - (x1.1.length : Int)).toNat) default).1 ∧ (x18.1.getD s12_560.toNat default).2.1 = (((x5.1.getD ((s12_560 - (x1.1.length : Int)).toNat) default).2.1 + (a0.length : Int)) + (1 : Int)) ∧ (x18.1.getD s12_560.toNat default).2.2 = (((x5.1.getD ((s12_560 - (x1.1.length : Int)).toNat) default).2.2 + (a0.length : Int)) + (1 : Int)) then Go.L.chk (Go.L.I64 (s12_560 + (1 : Int))) (some (Sum.inl (s12_560 + (1 : Int)))) else Option.map Sum.inr (some (false)))))))))))) else Go.L.chk (Go.L.I64 (s12_560 + (1 : Int))) (some (Sum.inl (s12_560 + (1 : Int)))) else Option.map Sum.inr (some (false))) else if (x1.1.length : Int) ≤ s12_560 then Go.L.chk (Go.L.I64 (s12_560 - (x1.1.length : Int))) (Go.L.chk (0 ≤ (s12_560 - (x1.1.length : Int)) ∧ (s12_560 - (x1.1.length : Int)) < (x5.1.length : Int)) (Go.L.chk (Go.L.I64 (s12_560 - (x1.1.length : Int))) (Go.L.chk (0 ≤ (s12_560 - (x1.1.length : Int)) ∧ (s12_560 - (x1.1.length : Int)) < (x5.1.length : Int)) (Go.L.chk (Go.L.I64 ((x5.1.getD ((s12_560 - (x1.1.length : Int)).toNat) default).2.1 + (a0.length : Int))) (Go.L.chk (Go.L.I64 (((x5.1.getD ((s12_560 - (x1.1.length : Int)).toNat) default).2.1 + (a0.length : Int)) + (1 : Int))) (Go.L.chk (Go.L.I64 (s12_560 - (x1.1.length : Int))) (Go.L.chk (0 ≤ (s12_560 - (x1.1.length : Int)) ∧ (s12_560 - (x1.1.length : Int)) < (x5.1.length : Int)) (Go.L.chk (Go.L.I64 ((x5.1.getD ((s12_560 - (x1.1.length : Int)).toNat) default).2.2 + (a0.length : Int))) (Go.L.chk (Go.L.I64 (((x5.1.getD ((s12_560 - (x1.1.length : Int)).toNat) default).2.2 + (a0.length : Int)) + (1 : Int))) (if (x18.1.getD s12_560.toNat default).1 = (x5.1.getD ((s12_560 - (x1.1.length : Int)).toNat) default).1 ∧ (x18.1.getD s12_560.toNat default).2.1 = (((x5.1.getD ((s12_560 - (x1.1.length : Int)).toNat) default).2.1 + (a0.length : Int)) + (1 : Int)) ∧ (x18.1.getD s12_560.toNat default).2.2 = (((x5.1.getD ((s12_560 - (x1.1.length : Int)).toNat) default).2.2 + (a0.length : Int)) + (1 : Int)) then Go.L.chk (Go.L.I64 (s12_560 + (1 : Int))) (some (Sum.inl (s12_560 + (1 : Int)))) else Option.map Sum.inr (some (false)))))))))))) else Go.L.chk (Go.L.I64 (s12_560 + (1 : Int))) (some (Sum.inl (s12_560 + (1 : Int))))) else Option.map Sum.inr (some (false))) else if s12_560 < (x1.1.length : Int) then Go.L.chk (0 ≤ s12_560 ∧ s12_560 < (x1.1.length : Int)) (if (x18.1.getD s12_560.toNat default).1 = (x1.1.getD s12_560.toNat default).1 ∧ (x18.1.getD s12_560.toNat default).2.1 = (x1.1.getD s12_560.toNat default).2.1 ∧ (x18.1.getD s12_560.toNat default).2.2 = (x1.1.getD s12_560.toNat default).2.2 then if (x1.1.length : Int) ≤ s12_560 then Go.L.chk (Go.L.I64 (s12_560 - (x1.1.length : Int))) (Go.L.chk (0 ≤ (s12_560 - (x1.1.length : Int)) ∧ (s12_560 - (x1.1.length : Int)) < (x5.1.length : Int)) (Go.L.chk (Go.L.I64 (s12_560 - (x1.1.length : Int))) (Go.L.chk (0 ≤ (s12_560 - (x1.1.length : Int)) ∧ (s12_560 - (x1.1.length : Int)) < (x5.1.length : Int)) (Go.L.chk (Go.L.I64 ((x5.1.getD ((s12_560 - (x1.1.length : Int)).toNat) default).2.1 + (a0.length : Int))) (Go.L.chk (Go.L.I64 (((x5.1.getD ((s12_560 - (x1.1.length : Int)).toNat) default).2.1 + (a0.length : Int)) + (1 : Int))) (Go.L.chk (Go.L.I64 (s12_560 - (x1.1.length : Int))) (Go.L.chk (0 ≤ (s12_560 - (x1.1.length : Int)) ∧ (s12_560 - (x1.1.length : Int)) < (x5.1.length : Int)) (Go.L.chk (Go.L.I64 ((x5.1.getD ((s12_560 - (x1.1.length : Int)).toNat) default).2.2 + (a0.length : Int))) (Go.L.chk (Go.L.I64 (((x5.1.getD ((s12_560 - (x1.1.length : Int)).toNat) default).2.2 + (a0.length : Int)) + (1 : Int))) (if (x18.1.getD s12_560.toNat default).1 = (x5.1.getD ((s12_560 - (x1.1.length : Int)).toNat) default).1 ∧ (x18.1.getD s12_560.toNat default).2.1 = (((x5.1.getD ((s12_560 - (x1.1.length : Int)).toNat) default).2.1 + (a0.length : Int)) + (1 : Int)) ∧ (x18.1.getD s12_560.toNat default).2.2 = (((x5.1.getD ((s12_560 - (x1.1.length : Int)).toNat) default).2.2 + (a0.length : Int)) + (1 : Int)) then Go.L.chk (Go.L.I64 (s12_560 + (1 : Int))) (some (Sum.inl (s12_560 + (1 : Int)))) else Option.map Sum.inr (some (false)))))))))))) else Go.L.chk (Go.L.I64 (s12_560 + (1 : Int))) (some (Sum.inl (s12_560 + (1 : Int)))) else Option.map Sum.inr (some (false))) else if (x1.1.length : Int) ≤ s12_560 then Go.L.chk (Go.L.I64 (s12_560 - (x1.1.length : Int))) (Go.L.chk (0 ≤ (s12_560 - (x1.1.length : Int)) ∧ (s12_560 - (x1.1.length : Int)) < (x5.1.length : Int)) (Go.L.chk (Go.L.I64 (s12_560 - (x1.1.length : Int))) (Go.L.chk (0 ≤ (s12_560 - (x1.1.length : Int)) ∧ (s12_560 - (x1.1.length : Int)) < (x5.1.length : Int)) (Go.L.chk (Go.L.I64 ((x5.1.getD ((s12_560 - (x1.1.length : Int)).toNat) default).2.1 + (a0.length : Int))) (Go.L.chk (Go.L.I64 (((x5.1.getD ((s12_560 - (x1.1.length : Int)).toNat) default).2.1 + (a0.length : Int)) + (1 : Int))) (Go.L.chk (Go.L.I64 (s12_560 - (x1.1.length : Int))) (Go.L.chk (0 ≤ (s12_560 - (x1.1.length : Int)) ∧ (s12_560 - (x1.1.length : Int)) < (x5.1.length : Int)) (Go.L.chk (Go.L.I64 ((x5.1.getD ((s12_560 - (x1.1.length : Int)).toNat) default).2.2 + (a0.length : Int))) (Go.L.chk (Go.L.I64 (((x5.1.getD ((s12_560 - (x1.1.length : Int)).toNat) default).2.2 + (a0.length : Int)) + (1 : Int))) (if (x18.1.getD s12_560.toNat default).1 = (x5.1.getD ((s12_560 - (x1.1.length : Int)).toNat) default).1 ∧ (x18.1.getD s12_560.toNat default).2.1 = (((x5.1.getD ((s12_560 - (x1.1.length : Int)).toNat) default).2.1 + (a0.length : Int)) + (1 : Int)) ∧ (x18.1.getD s12_560.toNat default).2.2 = (((x5.1.getD ((s12_560 - (x1.1.length : Int)).toNat) default).2.2 + (a0.length : Int)) + (1 : Int)) then Go.L.chk (Go.L.I64 (s12_560 + (1 : Int))) (some (Sum.inl (s12_560 + (1 : Int)))) else Option.map Sum.inr (some (false)))))))))))) else Go.L.chk (Go.L.I64 (s12_560 + (1 : Int))) (some (Sum.inl (s12_560 + (1 : Int))))))) else Option.map Sum.inr (law4_WordsAreLowerCase_k1)
noncomputable def law4_WordsAreLowerCase_l2 (a0 : List UInt8) (a1 : List UInt8) (x1 : (List ((List UInt8) × Int × Int)) × (Int × Int)) (x18 : (List ((List UInt8) × Int × Int)) × (Int × Int)) (x5 : (List ((List UInt8) × Int × Int)) × (Int × Int)) (s : Int) : Option (Bool) := Go.L.run (law4_WordsAreLowerCase_bl2 a0 a1 x1 x18 x5) s
noncomputable def law4_WordsAreLowerCase (a0 : List UInt8) (a1 : List UInt8) : Option (Bool) :=
 Option.bind (words_Split a0) (fun x1 => Option.bind (words_Split a1) (fun x5 => Go.L.chk (Go.E.Cap 1 (([] : List UInt8).length + a0.length)) (Go.L.chk (Go.E.Cap 1 ((([] : List UInt8) ++ a0).length + ([(32 : UInt8)]).length)) (Go.L.chk (Go.E.Cap 1 (((([] : List UInt8) ++ a0) ++ [(32 : UInt8)]).length + a1.length)) (Option.bind (words_Split (((([] : List UInt8) ++ a0) ++ [(32 : UInt8)]) ++ a1)) (fun x18 => Option.bind (law4_speaks) (fun x22 => if !x22 then Option.bind (law4_speaks) (fun x26 => if x26 then if x18.2.1 = (0 : Int) then some (true) else some (decide ((x18.1.length : Int) = (0 : Int))) else some (false)) else if x1.2.1 = (0 : Int) then if x5.2.1 = (0 : Int) then if x18.2.1 = (0 : Int) then Go.L.chk (Go.L.I64 ((x1.1.length : Int) + (x5.1.length : Int))) (if (x18.1.length : Int) = ((x1.1.length : Int) + (x5.1.length : Int)) then (law4_WordsAreLowerCase_l2 a0 a1 x1 x18 x5) (0 : Int) else some (false)) else Option.bind (law4_speaks) (fun x59 => if x59 then if x18.2.1 = (0 : Int) then some (true) else some (decide ((x18.1.length : Int) = (0 : Int))) else some (false)) else Option.bind (law4_speaks) (fun x48 => if x48 then if x18.2.1 = (0 : Int) then some (true) else some (decide ((x18.1.length : Int) = (0 : Int))) else some (false)) else Option.bind (law4_speaks) (fun x37 => if x37 then if x18.2.1 = (0 : Int) then some (true) else some (decide ((x18.1.length : Int) = (0 : Int))) else some (false)))))))))

set_option maxHeartbeats 1000000 in
set_option maxRecDepth 10000 in
theorem law4_WordsAreLowerCase_ok (w : World) (H : PH) (hH : Le H (hp w)) (hU : Utab H) {a0 : List UInt8} {a1 : List UInt8} {v0_0 : Value} {v1_0 : Value} (h0_0 : Vec .byte H v0_0 (a0)) (h1_0 : Vec .byte H v1_0 (a1)) {r : Bool} (h : law4_WordsAreLowerCase a0 a1 = some r) :
  Ok Tryd.prog 4 [v0_0, v1_0] w (fun v w' => Ext w w' ∧ v = .bool r) := by
 refine Ok_enter (n := 166) [(0, v0_0), (1, v1_0)] Tryd.func4 rfl rfl rfl rfl rfl ?_
 have hL := Lcl.start w
 refine W_seqr ?_
 refine S_pu 1 rfl ?_
 refine S_seqnil ?_
 refine W_seqr ?_
 refine S_pu 1 rfl ?_
 obtain ⟨x1, hb1, h⟩ := Go.L.bind_some h
 refine S_callL rfl rfl hL (words_Split_ok _ _ (gz_le hH hL) (hU.mono (gz_left hH)) (h0_0.mono (gz_left hH)) hb1) ?_
 rintro _ w2 ⟨u2_0, rfl, hR2_0⟩ hx2 hL2 hle2
 have hv2_0 := hR2_0.vecG hH hL hx2
 refine S_pu 3 rfl ?_
 refine S_alloc zr25 rfl rfl hL2 ?_
 intro w3 b3 hL3 hle3 _
 replace hv2_0 := hv2_0.mono (gz_mono hH hle3)
 refine S_pu 1 rfl ?_
 refine S_storeBN 0 rfl rfl rfl zr25 hL3 rfl rfl (onc rfl (onc rfl on0)) ?_
 intro w4 hL4 hle4
 replace hv2_0 := hv2_0.mono (gz_mono hH hle4)
 refine S_seqnil ?_
 refine W_seqr ?_
 refine S_pu 1 rfl ?_
 obtain ⟨x5, hb5, h⟩ := Go.L.bind_some h
 refine S_callL rfl rfl hL4 (words_Split_ok _ _ (gz_le hH hL4) (hU.mono (gz_left hH)) (h1_0.mono (gz_left hH)) hb5) ?_
 rintro _ w6 ⟨u6_0, rfl, hR6_0⟩ hx6 hL6 hle6
 have hv6_0 := hR6_0.vecG hH hL4 hx6
 replace hv2_0 := hv2_0.mono (gz_mono hH hle6)
 refine S_pu 3 rfl ?_
 refine S_alloc zr25 rfl rfl hL6 ?_
 intro w7 b7 hL7 hle7 _
 replace hv2_0 := hv2_0.mono (gz_mono hH hle7)
 replace hv6_0 := hv6_0.mono (gz_mono hH hle7)
 refine S_pu 1 rfl ?_
 refine S_storeBN 0 rfl rfl rfl zr25 hL7 rfl rfl (onc rfl (onc rfl on0)) ?_
 intro w8 hL8 hle8
 replace hv2_0 := hv2_0.mono (gz_mono hH hle8)
 replace hv6_0 := hv6_0.mono (gz_mono hH hle8)
 refine S_seqnil ?_
 refine W_seqr ?_
 refine S_pu 1 rfl ?_
 obtain ⟨hL9, hle9, he9⟩ := row_nilE .byte H 5 hL8
 replace hv2_0 := hv2_0.mono (gz_mono hH hle9)
 replace hv6_0 := hv6_0.mono (gz_mono hH hle9)
 refine S_seqnil ?_
 have hG10 := hL9.rG H
 refine W_seqr ?_
 refine S_pu 2 rfl ?_
 obtain ⟨hk12, h⟩ := Go.L.chk_some h
 refine S_appE (r := .byte) (l := ([] : List UInt8)) (m := a0) 0 rfl rfl Tryd.underlying22 zr5 rfl (by decide) rfl hH hL9 rfl (he9.mono hG10) (h0_0.mono (gz_left hH)) hk12 ?_
 intro v11 w11 xs11 hL11 hle11 he11
 replace hG10 := hG10.trans (gz_mono hH hle11)
 refine S_pu 1 rfl ?_
 refine S_seqnil ?_
 refine W_seqr ?_
 refine S_pu 1 rfl ?_
 refine S_litE (r := .byte) (l := [(32 : UInt8)]) rfl (fun _ => bsl22_1 _ _) rfl (show 1 ≤ 9223372036854775807 by decide) hH hL11 (.c1 rfl .nil) ?_
 intro v13 w13 hx13 hL13 hle13 hv13
 replace he11 := he11.mono (gz_mono hH hle13)
 replace hG10 := hG10.trans (gz_mono hH hle13)
 obtain ⟨hk15, h⟩ := Go.L.chk_some h
 refine S_appE (r := .byte) (l := (([] : List UInt8) ++ a0)) (m := [(32 : UInt8)]) 0 rfl rfl Tryd.underlying22 zr5 rfl (by decide) rfl hH hL13 rfl he11 hv13 hk15 ?_
 intro v14 w14 xs14 hL14 hle14 he14
 replace hv13 := hv13.mono (gz_mono hH hle14)
 replace hG10 := hG10.trans (gz_mono hH hle14)
 refine S_pu 1 rfl ?_
 refine S_seqnil ?_
 refine W_seqr ?_
 refine S_pu 2 rfl ?_
 obtain ⟨hk17, h⟩ := Go.L.chk_some h
 refine S_appE (r := .byte) (l := ((([] : List UInt8) ++ a0) ++ [(32 : UInt8)])) (m := a1) 0 rfl rfl Tryd.underlying22 zr5 rfl (by decide) rfl hH hL14 rfl he14 (h1_0.mono (gz_left hH)) hk17 ?_
 intro v16 w16 xs16 hL16 hle16 he16
 replace hG10 := hG10.trans (gz_mono hH hle16)
 refine S_pu 1 rfl ?_
 refine S_seqnil ?_
 refine W_seqr ?_
 refine S_pu 1 rfl ?_
 obtain ⟨x18, hb18, h⟩ := Go.L.bind_some h
 refine S_callL rfl rfl hL16 (words_Split_ok _ _ (Le.refl _) (hU.mono (hH.trans hL16.arg)) (hL16.vecN hH (i := 0) rfl he16) hb18) ?_
 rintro _ w19 ⟨u19_0, rfl, hR19_0⟩ hx19 hL19 hle19
 have hv19_0 := (hR19_0.ofPlain (plain_pair plain_st (plain_pair plain_int plain_int))).vecG hH hL16 hx19
 replace he16 := he16.mono (gz_mono hH hle19)
 replace hG10 := hG10.trans (gz_mono hH hle19)
 refine S_pu 3 rfl ?_
 refine S_alloc zr25 rfl rfl hL19 ?_
 intro w20 b20 hL20 hle20 _
 replace he16 := he16.mono (gz_mono hH hle20)
 replace hv19_0 := hv19_0.mono (gz_mono hH hle20)
 replace hG10 := hG10.trans (gz_mono hH hle20)
 refine S_pu 1 rfl ?_
 refine S_storeBN 0 rfl rfl rfl zr25 hL20 rfl rfl (onc rfl (onc rfl on0)) ?_
 intro w21 hL21 hle21
 replace he16 := he16.mono (gz_mono hH hle21)
 replace hv19_0 := hv19_0.mono (gz_mono hH hle21)
 replace hG10 := hG10.trans (gz_mono hH hle21)
 refine S_seqnil ?_
 refine W_seq ?_
 refine W_seqr ?_
 obtain ⟨x22, hb22, h⟩ := Go.L.bind_some h
 refine S_callL rfl rfl hL21 (law4_speaks_ok _ _ (gz_le hH hL21) (hU.mono (gz_left hH)) hb22) ?_
 rintro _ w23 rfl hx23 hL23 hle23
 replace he16 := he16.mono (gz_mono hH hle23)
 replace hv19_0 := hv19_0.mono (gz_mono hH hle23)
 replace hG10 := hG10.trans (gz_mono hH hle23)
 refine S_pu 2 rfl ?_
 refine S_split (s := 40) rfl (fun hg24 => ?_) (fun hg24 => ?_)
 ·replace h := Go.L.ite_t hg24 h
  refine S_unwanted rfl rfl hg24 rfl ?_
  refine S_unwanted rfl rfl hg24 rfl ?_
  refine S_unwanted rfl rfl hg24 rfl ?_
  refine S_v (r_pickT rfl hg24 rfl) rfl ?_
  refine S_pu 1 rfl ?_
  refine S_unwanted rfl rfl rfl rfl ?_
  refine S_unwanted rfl rfl rfl rfl ?_
  refine S_unwanted rfl rfl rfl rfl ?_
  refine S_v (r_pickT rfl rfl rfl) rfl ?_
  refine S_pu 1 rfl ?_
  refine S_unwanted rfl rfl rfl rfl ?_
  refine S_unwanted rfl rfl rfl rfl ?_
  refine S_unwanted rfl rfl rfl rfl ?_
  refine S_v (r_pickT rfl rfl rfl) rfl ?_
  refine S_seqnil ?_
  refine W_true rfl ?_
  refine W_seqr ?_
  obtain ⟨x26, hb26, h⟩ := Go.L.bind_some h
  refine S_callL rfl rfl hL23 (law4_speaks_ok _ _ (gz_le hH hL23) (hU.mono (gz_left hH)) hb26) ?_
  rintro _ w27 rfl hx27 hL27 hle27
  replace he16 := he16.mono (gz_mono hH hle27)
  replace hv19_0 := hv19_0.mono (gz_mono hH hle27)
  replace hG10 := hG10.trans (gz_mono hH hle27)
  refine S_pu 1 rfl ?_
  refine S_split (s := 56) rfl (fun hg28 => ?_) (fun hg28 => ?_)
  ·replace h := Go.L.ite_t hg28 h
   refine S_guarded rfl rfl hg28 ?_
   refine S_v (r_field rfl Tryd.underlying25 rfl zr3 (by decide)) rfl ?_
   refine S_guarded rfl rfl hg28 ?_
   refine S_v (r_loadB1 0 rfl Tryd.underlying3 rfl hL27 rfl rfl) rfl ?_
   refine S_guarded rfl rfl hg28 ?_
   refine S_v (RunsAt_pu rfl) rfl ?_
   refine S_guarded rfl rfl hg28 ?_
   refine S_v (RunsAt_pu rfl) rfl ?_
   refine S_split (s := 60) rfl (fun hg30 => ?_) (fun hg30 => ?_)
   ·replace h := Go.L.ite_p (of_decide_eq_true hg30) h
    refine S_unwanted rfl rfl hg30 rfl ?_
    refine S_unwanted rfl rfl hg30 rfl ?_
    refine S_unwanted rfl rfl hg30 rfl ?_
    refine S_guarded rfl rfl hg28 ?_
    refine S_v (r_pickT rfl hg30 rfl) rfl ?_
    refine S_v (r_pickT rfl hg28 rfl) rfl ?_
    refine S_pu 1 rfl ?_
    refine S_seqnil ?_
    refine W_ret ?_
    refine At_seq_ret ?_
    obtain rfl := Option.some.inj h
    refine At_body rfl rfl ?_
    exact ⟨hL27.ext, rfl⟩
   ·replace h := Go.L.ite_n (of_decide_eq_false hg30) h
    refine S_guarded rfl rfl hg30 ?_
    refine S_v (RunsAt_pu rfl) rfl ?_
    refine S_guarded rfl rfl hg30 ?_
    refine S_v (r_len rfl Tryd.underlying23 hv19_0) rfl ?_
    refine S_guarded rfl rfl hg30 ?_
    refine S_v (RunsAt_pu rfl) rfl ?_
    refine S_guarded rfl rfl hg28 ?_
    refine S_v (r_pickF rfl hg30 rfl) rfl ?_
    refine S_v (r_pickT rfl hg28 rfl) rfl ?_
    refine S_pu 1 rfl ?_
    refine S_seqnil ?_
    refine W_ret ?_
    refine At_seq_ret ?_
    obtain rfl := Option.some.inj h
    refine At_body rfl rfl ?_
    exact ⟨hL27.ext, rfl⟩
  ·replace h := Go.L.ite_f hg28 h
   refine S_unwanted rfl rfl hg28 rfl ?_
   refine S_unwanted rfl rfl hg28 rfl ?_
   refine S_unwanted rfl rfl hg28 rfl ?_
   refine S_unwanted rfl rfl hg28 rfl ?_
   refine S_unwanted2 rfl rfl rfl ?_
   refine S_unwanted2 rfl rfl rfl ?_
   refine S_unwanted2 rfl rfl rfl ?_
   refine S_unwanted rfl rfl hg28 rfl ?_
   refine S_v (r_pickF rfl hg28 rfl) rfl ?_
   refine S_pu 1 rfl ?_
   refine S_seqnil ?_
   refine W_ret ?_
   refine At_seq_ret ?_
   obtain rfl := Option.some.inj h
   refine At_body rfl rfl ?_
   exact ⟨hL27.ext, rfl⟩
 ·replace h := Go.L.ite_f hg24 h
  refine S_guarded rfl rfl hg24 ?_
  refine S_v (r_field rfl Tryd.underlying25 rfl zr3 (by decide)) rfl ?_
  refine S_guarded rfl rfl hg24 ?_
  refine S_v (r_loadB1 3 rfl Tryd.underlying3 rfl hL23 rfl rfl) rfl ?_
  refine S_guarded rfl rfl hg24 ?_
  refine S_v (RunsAt_pu rfl) rfl ?_
  refine S_v (r_pickF rfl hg24 rfl) rfl ?_
  refine S_pu 1 rfl ?_
  refine S_split (s := 45) rfl (fun hg35 => ?_) (fun hg35 => ?_)
  ·replace h := Go.L.ite_n (not_dec_t hg35) h
   refine S_unwanted rfl rfl hg35 rfl ?_
   refine S_unwanted rfl rfl hg35 rfl ?_
   refine S_unwanted rfl rfl hg35 rfl ?_
   refine S_v (r_pickT rfl hg35 rfl) rfl ?_
   refine S_pu 1 rfl ?_
   refine S_unwanted rfl rfl rfl rfl ?_
   refine S_unwanted rfl rfl rfl rfl ?_
   refine S_unwanted rfl rfl rfl rfl ?_
   refine S_v (r_pickT rfl rfl rfl) rfl ?_
   refine S_seqnil ?_
   refine W_true rfl ?_
   refine W_seqr ?_
   obtain ⟨x37, hb37, h⟩ := Go.L.bind_some h
   refine S_callL rfl rfl hL23 (law4_speaks_ok _ _ (gz_le hH hL23) (hU.mono (gz_left hH)) hb37) ?_
   rintro _ w38 rfl hx38 hL38 hle38
   replace he16 := he16.mono (gz_mono hH hle38)
   replace hv19_0 := hv19_0.mono (gz_mono hH hle38)
   replace hG10 := hG10.trans (gz_mono hH hle38)
   refine S_pu 1 rfl ?_
   refine S_split (s := 56) rfl (fun hg39 => ?_) (fun hg39 => ?_)
   ·replace h := Go.L.ite_t hg39 h
    refine S_guarded rfl rfl hg39 ?_
    refine S_v (r_field rfl Tryd.underlying25 rfl zr3 (by decide)) rfl ?_
    refine S_guarded rfl rfl hg39 ?_
    refine S_v (r_loadB1 0 rfl Tryd.underlying3 rfl hL38 rfl rfl) rfl ?_
    refine S_guarded rfl rfl hg39 ?_
    refine S_v (RunsAt_pu rfl) rfl ?_
    refine S_guarded rfl rfl hg39 ?_
    refine S_v (RunsAt_pu rfl) rfl ?_
    refine S_split (s := 60) rfl (fun hg41 => ?_) (fun hg41 => ?_)
    ·replace h := Go.L.ite_p (of_decide_eq_true hg41) h
     refine S_unwanted rfl rfl hg41 rfl ?_
     refine S_unwanted rfl rfl hg41 rfl ?_
     refine S_unwanted rfl rfl hg41 rfl ?_
     refine S_guarded rfl rfl hg39 ?_
     refine S_v (r_pickT rfl hg41 rfl) rfl ?_
     refine S_v (r_pickT rfl hg39 rfl) rfl ?_
     refine S_pu 1 rfl ?_
     refine S_seqnil ?_
     refine W_ret ?_
     refine At_seq_ret ?_
     obtain rfl := Option.some.inj h
     refine At_body rfl rfl ?_
     exact ⟨hL38.ext, rfl⟩
    ·replace h := Go.L.ite_n (of_decide_eq_false hg41) h
     refine S_guarded rfl rfl hg41 ?_
     refine S_v (RunsAt_pu rfl) rfl ?_
     refine S_guarded rfl rfl hg41 ?_
     refine S_v (r_len rfl Tryd.underlying23 hv19_0) rfl ?_
     refine S_guarded rfl rfl hg41 ?_
     refine S_v (RunsAt_pu rfl) rfl ?_
     refine S_guarded rfl rfl hg39 ?_
     refine S_v (r_pickF rfl hg41 rfl) rfl ?_
     refine S_v (r_pickT rfl hg39 rfl) rfl ?_
     refine S_pu 1 rfl ?_
     refine S_seqnil ?_
     refine W_ret ?_
     refine At_seq_ret ?_
     obtain rfl := Option.some.inj h
     refine At_body rfl rfl ?_
     exact ⟨hL38.ext, rfl⟩
   ·replace h := Go.L.ite_f hg39 h
    refine S_unwanted rfl rfl hg39 rfl ?_
    refine S_unwanted rfl rfl hg39 rfl ?_
    refine S_unwanted rfl rfl hg39 rfl ?_
    refine S_unwanted rfl rfl hg39 rfl ?_
    refine S_unwanted2 rfl rfl rfl ?_
    refine S_unwanted2 rfl rfl rfl ?_
    refine S_unwanted2 rfl rfl rfl ?_
    refine S_unwanted rfl rfl hg39 rfl ?_
    refine S_v (r_pickF rfl hg39 rfl) rfl ?_
    refine S_pu 1 rfl ?_
    refine S_seqnil ?_
    refine W_ret ?_
    refine At_seq_ret ?_
    obtain rfl := Option.some.inj h
    refine At_body rfl rfl ?_
    exact ⟨hL38.ext, rfl⟩
  ·replace h := Go.L.ite_p (not_dec_f hg35) h
   refine S_guarded rfl rfl hg35 ?_
   refine S_v (r_field rfl Tryd.underlying25 rfl zr3 (by decide)) rfl ?_
   refine S_guarded rfl rfl hg35 ?_
   refine S_v (r_loadB1 2 rfl Tryd.underlying3 rfl hL23 rfl rfl) rfl ?_
   refine S_guarded rfl rfl hg35 ?_
   refine S_v (RunsAt_pu rfl) rfl ?_
   refine S_v (r_pickF rfl hg35 rfl) rfl ?_
   refine S_pu 1 rfl ?_
   refine S_split (s := 50) rfl (fun hg46 => ?_) (fun hg46 => ?_)
   ·replace h := Go.L.ite_n (not_dec_t hg46) h
    refine S_unwanted rfl rfl hg46 rfl ?_
    refine S_unwanted rfl rfl hg46 rfl ?_
    refine S_unwanted rfl rfl hg46 rfl ?_
    refine S_v (r_pickT rfl hg46 rfl) rfl ?_
    refine S_seqnil ?_
    refine W_true rfl ?_
    refine W_seqr ?_
    obtain ⟨x48, hb48, h⟩ := Go.L.bind_some h
    refine S_callL rfl rfl hL23 (law4_speaks_ok _ _ (gz_le hH hL23) (hU.mono (gz_left hH)) hb48) ?_
    rintro _ w49 rfl hx49 hL49 hle49
    replace he16 := he16.mono (gz_mono hH hle49)
    replace hv19_0 := hv19_0.mono (gz_mono hH hle49)
    replace hG10 := hG10.trans (gz_mono hH hle49)
    refine S_pu 1 rfl ?_
    refine S_split (s := 56) rfl (fun hg50 => ?_) (fun hg50 => ?_)
    ·replace h := Go.L.ite_t hg50 h
     refine S_guarded rfl rfl hg50 ?_
     refine S_v (r_field rfl Tryd.underlying25 rfl zr3 (by decide)) rfl ?_
     refine S_guarded rfl rfl hg50 ?_
     refine S_v (r_loadB1 0 rfl Tryd.underlying3 rfl hL49 rfl rfl) rfl ?_
     refine S_guarded rfl rfl hg50 ?_
     refine S_v (RunsAt_pu rfl) rfl ?_
     refine S_guarded rfl rfl hg50 ?_
     refine S_v (RunsAt_pu rfl) rfl ?_
     refine S_split (s := 60) rfl (fun hg52 => ?_) (fun hg52 => ?_)
     ·replace h := Go.L.ite_p (of_decide_eq_true hg52) h
      refine S_unwanted rfl rfl hg52 rfl ?_
      refine S_unwanted rfl rfl hg52 rfl ?_
      refine S_unwanted rfl rfl hg52 rfl ?_
      refine S_guarded rfl rfl hg50 ?_
      refine S_v (r_pickT rfl hg52 rfl) rfl ?_
      refine S_v (r_pickT rfl hg50 rfl) rfl ?_
      refine S_pu 1 rfl ?_
      refine S_seqnil ?_
      refine W_ret ?_
      refine At_seq_ret ?_
      obtain rfl := Option.some.inj h
      refine At_body rfl rfl ?_
      exact ⟨hL49.ext, rfl⟩
     ·replace h := Go.L.ite_n (of_decide_eq_false hg52) h
      refine S_guarded rfl rfl hg52 ?_
      refine S_v (RunsAt_pu rfl) rfl ?_
      refine S_guarded rfl rfl hg52 ?_
      refine S_v (r_len rfl Tryd.underlying23 hv19_0) rfl ?_
      refine S_guarded rfl rfl hg52 ?_
      refine S_v (RunsAt_pu rfl) rfl ?_
      refine S_guarded rfl rfl hg50 ?_
      refine S_v (r_pickF rfl hg52 rfl) rfl ?_
      refine S_v (r_pickT rfl hg50 rfl) rfl ?_
      refine S_pu 1 rfl ?_
      refine S_seqnil ?_
      refine W_ret ?_
      refine At_seq_ret ?_
      obtain rfl := Option.some.inj h
      refine At_body rfl rfl ?_
      exact ⟨hL49.ext, rfl⟩
    ·replace h := Go.L.ite_f hg50 h
     refine S_unwanted rfl rfl hg50 rfl ?_
     refine S_unwanted rfl rfl hg50 rfl ?_
     refine S_unwanted rfl rfl hg50 rfl ?_
     refine S_unwanted rfl rfl hg50 rfl ?_
     refine S_unwanted2 rfl rfl rfl ?_
     refine S_unwanted2 rfl rfl rfl ?_
     refine S_unwanted2 rfl rfl rfl ?_
     refine S_unwanted rfl rfl hg50 rfl ?_
     refine S_v (r_pickF rfl hg50 rfl) rfl ?_
     refine S_pu 1 rfl ?_
     refine S_seqnil ?_
     refine W_ret ?_
     refine At_seq_ret ?_
     obtain rfl := Option.some.inj h
     refine At_body rfl rfl ?_
     exact ⟨hL49.ext, rfl⟩
   ·replace h := Go.L.ite_p (not_dec_f hg46) h
    refine S_guarded rfl rfl hg46 ?_
    refine S_v (r_field rfl Tryd.underlying25 rfl zr3 (by decide)) rfl ?_
    refine S_guarded rfl rfl hg46 ?_
    refine S_v (r_loadB1 0 rfl Tryd.underlying3 rfl hL23 rfl rfl) rfl ?_
    refine S_guarded rfl rfl hg46 ?_
    refine S_v (RunsAt_pu rfl) rfl ?_
    refine S_v (r_pickF rfl hg46 rfl) rfl ?_
    refine S_seqnil ?_
    refine W_ifn rfl (fun hc57 => ?_) (fun hc57 => ?_)
    ·replace h := Go.L.ite_n hc57 h
     refine W_seqr ?_
     obtain ⟨x59, hb59, h⟩ := Go.L.bind_some h
     refine S_callL rfl rfl hL23 (law4_speaks_ok _ _ (gz_le hH hL23) (hU.mono (gz_left hH)) hb59) ?_
     rintro _ w60 rfl hx60 hL60 hle60
     replace he16 := he16.mono (gz_mono hH hle60)
     replace hv19_0 := hv19_0.mono (gz_mono hH hle60)
     replace hG10 := hG10.trans (gz_mono hH hle60)
     refine S_pu 1 rfl ?_
     refine S_split (s := 56) rfl (fun hg61 => ?_) (fun hg61 => ?_)
     ·replace h := Go.L.ite_t hg61 h
      refine S_guarded rfl rfl hg61 ?_
      refine S_v (r_field rfl Tryd.underlying25 rfl zr3 (by decide)) rfl ?_
      refine S_guarded rfl rfl hg61 ?_
      refine S_v (r_loadB1 0 rfl Tryd.underlying3 rfl hL60 rfl rfl) rfl ?_
      refine S_guarded rfl rfl hg61 ?_
      refine S_v (RunsAt_pu rfl) rfl ?_
      refine S_guarded rfl rfl hg61 ?_
      refine S_v (RunsAt_pu rfl) rfl ?_
      refine S_split (s := 60) rfl (fun hg63 => ?_) (fun hg63 => ?_)
      ·replace h := Go.L.ite_p (of_decide_eq_true hg63) h
       refine S_unwanted rfl rfl hg63 rfl ?_
       refine S_unwanted rfl rfl hg63 rfl ?_
       refine S_unwanted rfl rfl hg63 rfl ?_
       refine S_guarded rfl rfl hg61 ?_
       refine S_v (r_pickT rfl hg63 rfl) rfl ?_
       refine S_v (r_pickT rfl hg61 rfl) rfl ?_
       refine S_pu 1 rfl ?_
       refine S_seqnil ?_
       refine W_ret ?_
       refine At_seq_ret ?_
       obtain rfl := Option.some.inj h
       refine At_body rfl rfl ?_
       exact ⟨hL60.ext, rfl⟩
      ·replace h := Go.L.ite_n (of_decide_eq_false hg63) h
       refine S_guarded rfl rfl hg63 ?_
       refine S_v (RunsAt_pu rfl) rfl ?_
       refine S_guarded rfl rfl hg63 ?_
       refine S_v (r_len rfl Tryd.underlying23 hv19_0) rfl ?_
       refine S_guarded rfl rfl hg63 ?_
       refine S_v (RunsAt_pu rfl) rfl ?_
       refine S_guarded rfl rfl hg61 ?_
       refine S_v (r_pickF rfl hg63 rfl) rfl ?_
       refine S_v (r_pickT rfl hg61 rfl) rfl ?_
       refine S_pu 1 rfl ?_
       refine S_seqnil ?_
       refine W_ret ?_
       refine At_seq_ret ?_
       obtain rfl := Option.some.inj h
       refine At_body rfl rfl ?_
       exact ⟨hL60.ext, rfl⟩
     ·replace h := Go.L.ite_f hg61 h
      refine S_unwanted rfl rfl hg61 rfl ?_
      refine S_unwanted rfl rfl hg61 rfl ?_
      refine S_unwanted rfl rfl hg61 rfl ?_
      refine S_unwanted rfl rfl hg61 rfl ?_
      refine S_unwanted2 rfl rfl rfl ?_
      refine S_unwanted2 rfl rfl rfl ?_
      refine S_unwanted2 rfl rfl rfl ?_
      refine S_unwanted rfl rfl hg61 rfl ?_
      refine S_v (r_pickF rfl hg61 rfl) rfl ?_
      refine S_pu 1 rfl ?_
      refine S_seqnil ?_
      refine W_ret ?_
      refine At_seq_ret ?_
      obtain rfl := Option.some.inj h
      refine At_body rfl rfl ?_
      exact ⟨hL60.ext, rfl⟩
    ·replace h := Go.L.ite_p hc57 h
     refine W_skip ?_
     refine At_seq ?_
     refine W_seq ?_
     refine W_seqr ?_
     refine S_pu 1 rfl ?_
     refine S_v (r_len rfl Tryd.underlying23 hv19_0) rfl ?_
     refine S_pu 1 rfl ?_
     refine S_v (r_len rfl Tryd.underlying23 (hv2_0.mono hG10)) rfl ?_
     refine S_pu 1 rfl ?_
     refine S_v (r_len rfl Tryd.underlying23 (hv6_0.mono hG10)) rfl ?_
     obtain ⟨hk68, h⟩ := Go.L.chk_some h
     refine S_v (r_ar64 rfl rfl rfl hk68) rfl ?_
     refine S_pu 1 rfl ?_
     refine S_seqnil ?_
     refine W_ifn rfl (fun hc69 => ?_) (fun hc69 => ?_)
     ·replace h := Go.L.ite_n hc69 h
      refine W_seqr ?_
      refine S_pu 1 rfl ?_
      refine S_seqnil ?_
      refine W_ret ?_
      refine At_seq_ret ?_
      obtain rfl := Option.some.inj h
      refine At_body rfl rfl ?_
      exact ⟨hL23.ext, rfl⟩
     ·replace h := Go.L.ite_p hc69 h
      refine W_skip ?_
      refine At_seq ?_
      refine W_cut (σ := Unit) (fun (_ : Unit) => []) (fun (_ : Unit) wr => InO w [.box b20 [.int .i64 x18.2.1, .int .i64 x18.2.2] 25, .row (v16) 5 1 ((((([] : List UInt8) ++ a0) ++ [(32 : UInt8)]) ++ a1)).length (xs16), .box b7 [.int .i64 x5.2.1, .int .i64 x5.2.2] 25, .box b3 [.int .i64 x1.2.1, .int .i64 x1.2.2] 25] wr fun Oz => Elems .byte (gz H w wr Oz) ((((([] : List UInt8) ++ a0) ++ [(32 : UInt8)]) ++ a1)) (xs16) ∧ law4_WordsAreLowerCase_k1 = some r) ?_ ?_
      ·refine W_seqr ?_
       refine S_pu 1 rfl ?_
       refine S_seqnil ?_
       refine W_block ?_
       obtain ⟨n561, h⟩ := Go.L.run_some h
       refine W_loop (σ := Int × Nat) (fun ⟨s12_560, n⟩ => [(0, v0_0), (5, u2_0), (7, u6_0), (9, v16), (10, u19_0), (12, .int .i64 s12_560)]) (fun ⟨s12_560, n⟩ wr => InO w [.box b20 [.int .i64 x18.2.1, .int .i64 x18.2.2] 25, .row (v16) 5 1 ((((([] : List UInt8) ++ a0) ++ [(32 : UInt8)]) ++ a1)).length (xs16), .box b7 [.int .i64 x5.2.1, .int .i64 x5.2.2] 25, .box b3 [.int .i64 x1.2.1, .int .i64 x1.2.2] 25] wr fun Oz => Vec (.pair .st (.pair (.int .i64) (.int .i64))) (gz H w wr Oz) (u2_0) (x1.1) ∧ Vec (.pair .st (.pair (.int .i64) (.int .i64))) (gz H w wr Oz) (u6_0) (x5.1) ∧ Vec (.pair .st (.pair (.int .i64) (.int .i64))) (gz H w wr Oz) (u19_0) (x18.1) ∧ Elems .byte (gz H w wr Oz) ((((([] : List UInt8) ++ a0) ++ [(32 : UInt8)]) ++ a1)) (xs16) ∧ Go.L.itr (law4_WordsAreLowerCase_bl2 a0 a1 x1 x18 x5) n s12_560 = some r) (fun ⟨s12_560, n⟩ => n) ((0 : Int), n561) (.cons rfl (.cons rfl (.cons rfl (.cons rfl (.cons rfl (.cons rfl (Sub.nil _))))))) ⟨hL23, (hv2_0.mono hG10), (hv6_0.mono hG10), hv19_0, he16, h⟩ ?_
       rintro ⟨s12_560, nn561⟩ wr561 ⟨hL561, hf561_0, hf561_1, hf561_2, he561_r9, h⟩
       obtain ⟨n561, e561, rfl, h, hm561⟩ := Go.L.itr_some h
       refine W_seq ?_
       have hG563 := hL561.rG H
       refine W_seqr ?_
       refine S_pu 2 rfl ?_
       refine S_v (r_len rfl Tryd.underlying23 (hf561_2.mono hG563)) rfl ?_
       refine S_pu 1 rfl ?_
       refine S_seqnil ?_
       refine W_if rfl (fun hc564 => ?_) (fun hc564 => ?_)
       ·replace h := Go.L.ite_p hc564 h
        refine W_skip ?_
        refine At_seq ?_
        refine W_seq ?_
        refine W_block ?_
        refine W_seqr ?_
        refine S_pu 2 rfl ?_
        obtain ⟨hk567, h⟩ := Go.L.chk_some h
        refine S_index rfl rfl Tryd.underlying23 zr33 (hf561_2.mono hG563) s12_560.toNat (Int.toNat_of_nonneg hk567.1).symm (idx_lt hk567) rfl ?_
        rintro p566 _ ⟨_, _, rfl, rfl, ⟨_, _, rfl, rfl, rfl⟩⟩ hp566
        refine S_v (r_loadN rfl Tryd.underlying33 rfl zr33 hp566 (gz_le hH hL561)) rfl ?_
        refine S_alloc zr33 rfl rfl hL561 ?_
        intro w568 b568 hL568 hle568 _
        replace hp566 := hp566.mono (gz_mono hH hle568)
        replace hG563 := hG563.trans (gz_mono hH hle568)
        refine S_storeBN 0 rfl rfl rfl zr33 hL568 rfl rfl (onc rfl (onc rfl (onc rfl on0))) ?_
        intro w569 hL569 hle569
        replace hp566 := hp566.mono (gz_mono hH hle569)
        replace hG563 := hG563.trans (gz_mono hH hle569)
        refine S_seqnil ?_
        refine W_seq ?_
        refine W_seqr ?_
        refine S_v (r_field rfl Tryd.underlying33 rfl zr3 (by decide)) rfl ?_
        refine S_v (r_loadB1 0 rfl Tryd.underlying3 rfl hL569 rfl rfl) rfl ?_
        refine S_v (r_field rfl Tryd.underlying33 rfl zr3 (by decide)) rfl ?_
        refine S_v (r_loadB1 0 rfl Tryd.underlying3 rfl hL569 rfl rfl) rfl ?_
        obtain ⟨hk570, h⟩ := Go.L.chk_some h
        refine S_v (r_ar64 rfl rfl rfl hk570) rfl ?_
        obtain ⟨x571, hb571, h⟩ := Go.L.bind_some h
        refine S_callL rfl rfl hL569 (ref3_In_ok _ _ (gz_le hH hL569) hb571) ?_
        rintro _ w572 rfl hx572 hL572 hle572
        replace hG563 := hG563.trans (gz_mono hH hle572)
        refine S_pu 2 rfl ?_
        refine S_split (s := 91) rfl (fun hg573 => ?_) (fun hg573 => ?_)
        ·replace h := Go.L.ite_t hg573 h
         refine S_unwanted rfl rfl hg573 rfl ?_
         refine S_unwanted rfl rfl hg573 rfl ?_
         refine S_unwanted rfl rfl hg573 rfl ?_
         refine S_unwanted rfl rfl hg573 rfl ?_
         refine S_unwanted rfl rfl hg573 rfl ?_
         refine S_v (r_pickT rfl hg573 rfl) rfl ?_
         refine S_pu 1 rfl ?_
         refine S_unwanted rfl rfl rfl rfl ?_
         refine S_unwanted rfl rfl rfl rfl ?_
         refine S_unwanted rfl rfl rfl rfl ?_
         refine S_unwanted rfl rfl rfl rfl ?_
         refine S_unwanted rfl rfl rfl rfl ?_
         refine S_unwanted2 rfl rfl rfl ?_
         refine S_unwanted2 rfl rfl rfl ?_
         refine S_unwanted2 rfl rfl rfl ?_
         refine S_unwanted2 rfl rfl rfl ?_
         refine S_unwanted2 rfl rfl rfl ?_
         refine S_unwanted rfl rfl rfl rfl ?_
         refine S_v (r_pickT rfl rfl rfl) rfl ?_
         refine S_seqnil ?_
         refine W_true rfl ?_
         refine W_seqr ?_
         refine S_pu 1 rfl ?_
         refine S_seqnil ?_
         refine W_ret ?_
         refine At_seq_ret ?_
         refine At_block_ret ?_
         refine At_seq_ret ?_
         refine At_loop_ret ?_
         replace h := Go.L.Nxt.out h hm561
         refine At_block_ret ?_
         refine At_cut_ret ?_
         obtain rfl := Option.some.inj h
         refine At_body rfl rfl ?_
         exact ⟨hL572.ext, rfl⟩
        ·replace h := Go.L.ite_f hg573 h
         refine S_guarded rfl rfl hg573 ?_
         refine S_v (r_field rfl Tryd.underlying33 rfl zr3 (by decide)) rfl ?_
         refine S_guarded rfl rfl hg573 ?_
         refine S_v (r_loadB1 0 rfl Tryd.underlying3 rfl hL572 rfl rfl) rfl ?_
         refine S_guarded rfl rfl hg573 ?_
         refine S_v (RunsAt_pu rfl) rfl ?_
         refine S_guarded rfl rfl hg573 ?_
         refine S_v (r_lenR (i := 2) rfl Tryd.underlying22 hL572 rfl) rfl ?_
         refine S_guarded rfl rfl hg573 ?_
         refine S_v (RunsAt_pu rfl) rfl ?_
         refine S_v (r_pickF rfl hg573 rfl) rfl ?_
         refine S_pu 1 rfl ?_
         refine S_split (s := 98) rfl (fun hg576 => ?_) (fun hg576 => ?_)
         ·replace h := Go.L.ite_p (of_decide_eq_true hg576) h
          refine S_unwanted rfl rfl hg576 rfl ?_
          refine S_unwanted rfl rfl hg576 rfl ?_
          refine S_unwanted rfl rfl hg576 rfl ?_
          refine S_unwanted rfl rfl hg576 rfl ?_
          refine S_unwanted rfl rfl hg576 rfl ?_
          refine S_unwanted2 rfl rfl rfl ?_
          refine S_unwanted2 rfl rfl rfl ?_
          refine S_unwanted2 rfl rfl rfl ?_
          refine S_unwanted2 rfl rfl rfl ?_
          refine S_unwanted2 rfl rfl rfl ?_
          refine S_unwanted rfl rfl hg576 rfl ?_
          refine S_v (r_pickT rfl hg576 rfl) rfl ?_
          refine S_seqnil ?_
          refine W_true rfl ?_
          refine W_seqr ?_
          refine S_pu 1 rfl ?_
          refine S_seqnil ?_
          refine W_ret ?_
          refine At_seq_ret ?_
          refine At_block_ret ?_
          refine At_seq_ret ?_
          refine At_loop_ret ?_
          replace h := Go.L.Nxt.out h hm561
          refine At_block_ret ?_
          refine At_cut_ret ?_
          obtain rfl := Option.some.inj h
          refine At_body rfl rfl ?_
          exact ⟨hL572.ext, rfl⟩
         ·replace h := Go.L.ite_n (of_decide_eq_false hg576) h
          refine S_guarded rfl rfl hg576 ?_
          refine S_v (r_field rfl Tryd.underlying33 rfl zr9 (by decide)) rfl ?_
          refine S_guarded rfl rfl hg576 ?_
          refine S_v (r_loadB1 0 rfl Tryd.underlying9 rfl hL572 rfl rfl) rfl ?_
          refine S_guarded rfl rfl hg576 ?_
          refine S_v (r_lenS rfl Tryd.underlying9) rfl ?_
          refine S_guarded rfl rfl hg576 ?_
          refine S_v (RunsAt_pu rfl) rfl ?_
          refine S_guarded rfl rfl hg576 ?_
          refine S_v (RunsAt_pu rfl) rfl ?_
          refine S_split (s := 103) rfl (fun hg579 => ?_) (fun hg579 => ?_)
          ·replace h := Go.L.ite_p (of_decide_eq_true hg579) h
           refine S_guarded rfl rfl hg579 ?_
           refine S_v (r_field rfl Tryd.underlying33 rfl zr9 (by decide)) rfl ?_
           refine S_guarded rfl rfl hg579 ?_
           refine S_v (r_loadB1 0 rfl Tryd.underlying9 rfl hL572 rfl rfl) rfl ?_
           refine S_guarded rfl rfl hg579 ?_
           obtain ⟨x581, hb581, h⟩ := Go.L.bind_some h
           refine S_callL rfl rfl hL572 (words_Check_ok _ _ (gz_le hH hL572) (hU.mono (gz_left hH)) hb581) ?_
           rintro _ w582 rfl hx582 hL582 hle582
           replace hG563 := hG563.trans (gz_mono hH hle582)
           refine S_guarded rfl rfl hg579 ?_
           refine S_v (r_part rfl Tryd.underlying25 rfl Tryd.underlying3 rfl rfl) rfl ?_
           refine S_guarded rfl rfl hg579 ?_
           refine S_v (RunsAt_pu rfl) rfl ?_
           refine S_guarded rfl rfl hg576 ?_
           refine S_v (r_pickT rfl hg579 rfl) rfl ?_
           refine S_v (r_pickF rfl hg576 rfl) rfl ?_
           refine S_seqnil ?_
           refine W_ifn rfl (fun hc583 => ?_) (fun hc583 => ?_)
           ·replace h := Go.L.ite_n hc583 h
            refine W_seqr ?_
            refine S_pu 1 rfl ?_
            refine S_seqnil ?_
            refine W_ret ?_
            refine At_seq_ret ?_
            refine At_block_ret ?_
            refine At_seq_ret ?_
            refine At_loop_ret ?_
            replace h := Go.L.Nxt.out h hm561
            refine At_block_ret ?_
            refine At_cut_ret ?_
            obtain rfl := Option.some.inj h
            refine At_body rfl rfl ?_
            exact ⟨hL582.ext, rfl⟩
           ·replace h := Go.L.ite_p hc583 h
            refine W_skip ?_
            refine At_seq ?_
            refine W_seqd (.q 0 (.q 1 (.q 2 (.q 3 (.q 4 (.q 5 (.q 6 (.q 7 (.q 8 (.q 9 (.q 10 (.q 11 (.q 12 (.q 13 (.q 14 (.q 15 (.q 16 (.q 17 (.q 18 (.q 19 (.q 20 (.q 21 (.q 22 (.q 23 (.q 24 (.q 25 (.q 26 (.q 27 (.q 28 (.q 29 (.q 30 (.q 31 (.q 32 (.q 33 (.q 34 (.q 35 (.q 36 (.q 37 (.q 38 (.q 39 (.q 40 (.q 41 (.q 42 (.q 43 (.q 44 (.q 45 (.q 46 (.q 47 (.q 48 (.q 49 (.q 50 (.q 51 (.q 52 (.q 53 (.q 54 (.tail 55)))))))))))))))))))))))))))))))))))))))))))))))))))))))) mixed (by kernel_rfl) (fun w586 hx586 => ?_)
            have hL587 := hL582.call hx586
            have hle587 := fz_ext hL582 hx586
            replace hG563 := hG563.trans (gz_mono hH hle587)
            refine D_pu 2 rfl ?_
            refine D_v (r_len rfl Tryd.underlying23 (hf561_0.mono hG563)) rfl rfl ?_
            refine D_pu 2 rfl ?_
            refine D_split (s := 115) rfl (fun hg588 => ?_) (fun hg588 => ?_)
            ·replace h := Go.L.ite_p (of_decide_eq_true hg588) h
             refine D_vg (r_loadBN 0 rfl Tryd.underlying33 rfl zr33 hL587 rfl) rfl rfl rfl rfl hg588 rfl ?_
             refine D_vg (RunsAt_pu rfl) rfl rfl rfl rfl hg588 rfl ?_
             refine D_vg (RunsAt_pu rfl) rfl rfl rfl rfl hg588 rfl ?_
             obtain ⟨hk591, h⟩ := Go.L.chk_some h
             refine D_indexg rfl rfl rfl rfl hg588 rfl rfl Tryd.underlying23 zr33 (hf561_0.mono hG563) s12_560.toNat (Int.toNat_of_nonneg hk591.1).symm (idx_lt hk591) rfl ?_
             rintro p590 _ ⟨_, _, rfl, rfl, ⟨_, _, rfl, rfl, rfl⟩⟩ hp590
             refine D_vg (r_loadN rfl Tryd.underlying33 rfl zr33 hp590 (gz_le hH hL587)) rfl rfl rfl rfl hg588 rfl ?_
             refine D_vg (r_neA rfl rfl eqg33 (eq33 _ _ _ _ _ _ )) rfl rfl rfl rfl hg588 rfl ?_
             refine D_v (r_pickT rfl hg588 rfl) rfl rfl ?_
             refine D_pu 1 rfl ?_
             refine D_split (s := 123) rfl (fun hg592 => ?_) (fun hg592 => ?_)
             ·replace h := Go.L.ite_n (not_dec_t hg592) h
              refine D_no rfl rfl rfl rfl hg592 rfl ?_
              refine D_no rfl rfl rfl rfl hg592 rfl ?_
              refine D_no rfl rfl rfl rfl hg592 rfl ?_
              refine D_no rfl rfl rfl rfl hg592 rfl ?_
              refine D_no rfl rfl rfl rfl hg592 rfl ?_
              refine D_no2 rfl rfl rfl rfl rfl ?_
              refine D_no2 rfl rfl rfl rfl rfl ?_
              refine D_no2 rfl rfl rfl rfl rfl ?_
              refine D_no2 rfl rfl rfl rfl rfl ?_
              refine D_no2 rfl rfl rfl rfl rfl ?_
              refine D_no2 rfl rfl rfl rfl rfl ?_
              refine D_no2 rfl rfl rfl rfl rfl ?_
              refine D_no2 rfl rfl rfl rfl rfl ?_
              refine D_no2 rfl rfl rfl rfl rfl ?_
              refine D_no2 rfl rfl rfl rfl rfl ?_
              refine D_no2 rfl rfl rfl rfl rfl ?_
              refine D_no2 rfl rfl rfl rfl rfl ?_
              refine D_no2 rfl rfl rfl rfl rfl ?_
              refine D_no2 rfl rfl rfl rfl rfl ?_
              refine D_no2 rfl rfl rfl rfl rfl ?_
              refine D_no2 rfl rfl rfl rfl rfl ?_
              refine D_no2 rfl rfl rfl rfl rfl ?_
              refine D_no2 rfl rfl rfl rfl rfl ?_
              refine D_no2 rfl rfl rfl rfl rfl ?_
              refine D_no2 rfl rfl rfl rfl rfl ?_
              refine D_no2 rfl rfl rfl rfl rfl ?_
              refine D_no2 rfl rfl rfl rfl rfl ?_
              refine D_no2 rfl rfl rfl rfl rfl ?_
              refine D_no2 rfl rfl rfl rfl rfl ?_
              refine D_no2 rfl rfl rfl rfl rfl ?_
              refine D_no2 rfl rfl rfl rfl rfl ?_
              refine D_no2 rfl rfl rfl rfl rfl ?_
              refine D_no2 rfl rfl rfl rfl rfl ?_
              refine D_no2 rfl rfl rfl rfl rfl ?_
              refine D_no2 rfl rfl rfl rfl rfl ?_
              refine D_no2 rfl rfl rfl rfl rfl ?_
              refine D_no2 rfl rfl rfl rfl rfl ?_
              refine D_no2 rfl rfl rfl rfl rfl ?_
              refine D_no2 rfl rfl rfl rfl rfl ?_
              refine D_no2 rfl rfl rfl rfl rfl ?_
              refine D_no rfl rfl rfl rfl hg592 rfl ?_
              refine D_v (r_pickT rfl hg592 rfl) rfl rfl ?_
              refine D_tail (fun w594 hx594 => ?_)
              have hL595 := hL587.call hx594
              have hle595 := fz_ext hL587 hx594
              replace hp590 := hp590.mono (gz_mono hH hle595)
              replace hG563 := hG563.trans (gz_mono hH hle595)
              refine S_seqnil ?_
              refine W_true rfl ?_
              refine W_seqr ?_
              refine S_pu 1 rfl ?_
              refine S_seqnil ?_
              refine W_ret ?_
              refine At_block_ret ?_
              refine At_seq_ret ?_
              refine At_loop_ret ?_
              replace h := Go.L.Nxt.out h hm561
              refine At_block_ret ?_
              refine At_cut_ret ?_
              obtain rfl := Option.some.inj h
              refine At_body rfl rfl ?_
              exact ⟨hL595.ext, rfl⟩
             ·replace h := Go.L.ite_p (not_dec_f hg592) h
              refine D_vg (RunsAt_pu rfl) rfl rfl rfl rfl hg592 rfl ?_
              refine D_vg (RunsAt_pu rfl) rfl rfl rfl rfl hg592 rfl ?_
              refine D_vg (r_len rfl Tryd.underlying23 (hf561_0.mono hG563)) rfl rfl rfl rfl hg592 rfl ?_
              refine D_vg (RunsAt_pu rfl) rfl rfl rfl rfl hg592 rfl ?_
              refine D_vg (RunsAt_pu rfl) rfl rfl rfl rfl hg592 rfl ?_
              refine D_split (s := 128) rfl (fun hg597 => ?_) (fun hg597 => ?_)
              ·replace h := Go.L.ite_p (of_decide_eq_true hg597) h
               refine D_vg (r_loadBN 0 rfl Tryd.underlying33 rfl zr33 hL587 rfl) rfl rfl rfl rfl hg597 rfl ?_
               refine D_vg (RunsAt_pu rfl) rfl rfl rfl rfl hg597 rfl ?_
               refine D_vg (RunsAt_pu rfl) rfl rfl rfl rfl hg597 rfl ?_
               refine D_vg (RunsAt_pu rfl) rfl rfl rfl rfl hg597 rfl ?_
               refine D_vg (r_len rfl Tryd.underlying23 (hf561_0.mono hG563)) rfl rfl rfl rfl hg597 rfl ?_
               obtain ⟨hk599, h⟩ := Go.L.chk_some h
               refine D_vg (r_ar64 rfl rfl rfl hk599) rfl rfl rfl rfl hg597 rfl ?_
               obtain ⟨hk601, h⟩ := Go.L.chk_some h
               refine D_indexg rfl rfl rfl rfl hg597 rfl rfl Tryd.underlying23 zr33 (hf561_1.mono hG563) ((s12_560 - (x1.1.length : Int)).toNat) (Int.toNat_of_nonneg hk601.1).symm (idx_lt hk601) rfl ?_
               rintro p600 _ ⟨_, _, rfl, rfl, ⟨_, _, rfl, rfl, rfl⟩⟩ hp600
               refine D_vg (r_field rfl Tryd.underlying33 rfl zr9 (by decide)) rfl rfl rfl rfl hg597 rfl ?_
               have hp602 := hp600.add 0
               refine D_vg (r_load1 rfl Tryd.underlying9 rfl hp602 (gz_le hH hL587)) rfl rfl rfl rfl hg597 rfl ?_
               refine D_vg (RunsAt_pu rfl) rfl rfl rfl rfl hg597 rfl ?_
               refine D_vg (RunsAt_pu rfl) rfl rfl rfl rfl hg597 rfl ?_
               refine D_vg (RunsAt_pu rfl) rfl rfl rfl rfl hg597 rfl ?_
               refine D_vg (r_len rfl Tryd.underlying23 (hf561_0.mono hG563)) rfl rfl rfl rfl hg597 rfl ?_
               obtain ⟨hk603, h⟩ := Go.L.chk_some h
               refine D_vg (r_ar64 rfl rfl rfl hk603) rfl rfl rfl rfl hg597 rfl ?_
               obtain ⟨hk605, h⟩ := Go.L.chk_some h
               refine D_indexg rfl rfl rfl rfl hg597 rfl rfl Tryd.underlying23 zr33 (hf561_1.mono hG563) ((s12_560 - (x1.1.length : Int)).toNat) (Int.toNat_of_nonneg hk605.1).symm (idx_lt hk605) rfl ?_
               rintro p604 _ ⟨_, _, rfl, rfl, ⟨_, _, rfl, rfl, rfl⟩⟩ hp604
               refine D_vg (r_field rfl Tryd.underlying33 rfl zr3 (by decide)) rfl rfl rfl rfl hg597 rfl ?_
               have hp606 := hp604.add 1
               refine D_vg (r_load1 rfl Tryd.underlying3 rfl hp606 (gz_le hH hL587)) rfl rfl rfl rfl hg597 rfl ?_
               refine D_vg (RunsAt_pu rfl) rfl rfl rfl rfl hg597 rfl ?_
               refine D_vg (r_len rfl Tryd.underlying22 h0_0) rfl rfl rfl rfl hg597 rfl ?_
               obtain ⟨hk607, h⟩ := Go.L.chk_some h
               refine D_vg (r_ar64 rfl rfl rfl hk607) rfl rfl rfl rfl hg597 rfl ?_
               obtain ⟨hk608, h⟩ := Go.L.chk_some h
               refine D_vg (r_ar64 rfl rfl rfl hk608) rfl rfl rfl rfl hg597 rfl ?_
               refine D_vg (RunsAt_pu rfl) rfl rfl rfl rfl hg597 rfl ?_
               refine D_vg (RunsAt_pu rfl) rfl rfl rfl rfl hg597 rfl ?_
               refine D_vg (RunsAt_pu rfl) rfl rfl rfl rfl hg597 rfl ?_
               refine D_vg (r_len rfl Tryd.underlying23 (hf561_0.mono hG563)) rfl rfl rfl rfl hg597 rfl ?_
               obtain ⟨hk609, h⟩ := Go.L.chk_some h
               refine D_vg (r_ar64 rfl rfl rfl hk609) rfl rfl rfl rfl hg597 rfl ?_
               obtain ⟨hk611, h⟩ := Go.L.chk_some h
               refine D_indexg rfl rfl rfl rfl hg597 rfl rfl Tryd.underlying23 zr33 (hf561_1.mono hG563) ((s12_560 - (x1.1.length : Int)).toNat) (Int.toNat_of_nonneg hk611.1).symm (idx_lt hk611) rfl ?_
               rintro p610 _ ⟨_, _, rfl, rfl, ⟨_, _, rfl, rfl, rfl⟩⟩ hp610
               refine D_vg (r_field rfl Tryd.underlying33 rfl zr3 (by decide)) rfl rfl rfl rfl hg597 rfl ?_
               have hp612 := hp610.add 2
               refine D_vg (r_load1 rfl Tryd.underlying3 rfl hp612 (gz_le hH hL587)) rfl rfl rfl rfl hg597 rfl ?_
               refine D_vg (RunsAt_pu rfl) rfl rfl rfl rfl hg597 rfl ?_
               refine D_vg (r_len rfl Tryd.underlying22 h0_0) rfl rfl rfl rfl hg597 rfl ?_
               obtain ⟨hk613, h⟩ := Go.L.chk_some h
               refine D_vg (r_ar64 rfl rfl rfl hk613) rfl rfl rfl rfl hg597 rfl ?_
               obtain ⟨hk614, h⟩ := Go.L.chk_some h
               refine D_vg (r_ar64 rfl rfl rfl hk614) rfl rfl rfl rfl hg597 rfl ?_
               refine D_vg (r_build rfl (fun _ => bld33_0_1_2 _ rfl _ _ _)) rfl rfl rfl rfl hg597 rfl ?_
               refine D_vg (r_neA rfl rfl eqg33 (eq33 _ _ _ _ _ _ )) rfl rfl rfl rfl hg597 rfl ?_
               refine D_vg (r_pickT rfl hg597 rfl) rfl rfl rfl rfl hg592 rfl ?_
               refine D_v (r_pickF rfl hg592 rfl) rfl rfl ?_
               refine D_tail (fun w615 hx615 => ?_)
               have hL616 := hL587.call hx615
               have hle616 := fz_ext hL587 hx615
               replace hp590 := hp590.mono (gz_mono hH hle616)
               replace hp600 := hp600.mono (gz_mono hH hle616)
               replace hp602 := hp602.mono (gz_mono hH hle616)
               replace hp604 := hp604.mono (gz_mono hH hle616)
               replace hp606 := hp606.mono (gz_mono hH hle616)
               replace hp610 := hp610.mono (gz_mono hH hle616)
               replace hp612 := hp612.mono (gz_mono hH hle616)
               replace hG563 := hG563.trans (gz_mono hH hle616)
               refine S_seqnil ?_
               refine W_ifn rfl (fun hc617 => ?_) (fun hc617 => ?_)
               ·replace h := Go.L.ite_n hc617 h
                refine W_seqr ?_
                refine S_pu 1 rfl ?_
                refine S_seqnil ?_
                refine W_ret ?_
                refine At_block_ret ?_
                refine At_seq_ret ?_
                refine At_loop_ret ?_
                replace h := Go.L.Nxt.out h hm561
                refine At_block_ret ?_
                refine At_cut_ret ?_
                obtain rfl := Option.some.inj h
                refine At_body rfl rfl ?_
                exact ⟨hL616.ext, rfl⟩
               ·replace h := Go.L.ite_p hc617 h
                refine W_skip ?_
                refine At_block ?_
                refine At_seq ?_
                refine W_region ?_
                refine S_pu 1 rfl ?_
                obtain ⟨hk620, h⟩ := Go.L.chk_some h
                refine S_v (r_ar64 rfl rfl rfl hk620) rfl ?_
                refine S_pu 1 rfl ?_
                refine S_nil ?_
                have hL621 := hL616.dropAt (i := 0) rfl
                replace hG563 := hG563.trans (gz_mono hH (fz_dropAt (i := 0) rfl))
                have h := Go.L.Nxt.again h hm561
                refine At_round ((s12_560 + (1 : Int)), n561) (.cons rfl (.cons rfl (.cons rfl (.cons rfl (.cons rfl (.cons rfl (Sub.nil _))))))) ⟨hL621, (hf561_0.mono hG563), (hf561_1.mono hG563), (hf561_2.mono hG563), (he561_r9.mono hG563), h⟩ (Nat.lt_succ_self _)
              ·replace h := Go.L.ite_n (of_decide_eq_false hg597) h
               refine D_no rfl rfl rfl rfl hg597 rfl ?_
               refine D_no rfl rfl rfl rfl hg597 rfl ?_
               refine D_no rfl rfl rfl rfl hg597 rfl ?_
               refine D_no rfl rfl rfl rfl hg597 rfl ?_
               refine D_no rfl rfl rfl rfl hg597 rfl ?_
               refine D_no rfl rfl rfl rfl hg597 rfl ?_
               refine D_no rfl rfl rfl rfl hg597 rfl ?_
               refine D_no rfl rfl rfl rfl hg597 rfl ?_
               refine D_no rfl rfl rfl rfl hg597 rfl ?_
               refine D_no rfl rfl rfl rfl hg597 rfl ?_
               refine D_no rfl rfl rfl rfl hg597 rfl ?_
               refine D_no rfl rfl rfl rfl hg597 rfl ?_
               refine D_no rfl rfl rfl rfl hg597 rfl ?_
               refine D_no rfl rfl rfl rfl hg597 rfl ?_
               refine D_no rfl rfl rfl rfl hg597 rfl ?_
               refine D_no rfl rfl rfl rfl hg597 rfl ?_
               refine D_no rfl rfl rfl rfl hg597 rfl ?_
               refine D_no rfl rfl rfl rfl hg597 rfl ?_
               refine D_no rfl rfl rfl rfl hg597 rfl ?_
               refine D_no rfl rfl rfl rfl hg597 rfl ?_
               refine D_no rfl rfl rfl rfl hg597 rfl ?_
               refine D_no rfl rfl rfl rfl hg597 rfl ?_
               refine D_no rfl rfl rfl rfl hg597 rfl ?_
               refine D_no rfl rfl rfl rfl hg597 rfl ?_
               refine D_no rfl rfl rfl rfl hg597 rfl ?_
               refine D_no rfl rfl rfl rfl hg597 rfl ?_
               refine D_no rfl rfl rfl rfl hg597 rfl ?_
               refine D_no rfl rfl rfl rfl hg597 rfl ?_
               refine D_no rfl rfl rfl rfl hg597 rfl ?_
               refine D_no rfl rfl rfl rfl hg597 rfl ?_
               refine D_no rfl rfl rfl rfl hg597 rfl ?_
               refine D_no rfl rfl rfl rfl hg597 rfl ?_
               refine D_no rfl rfl rfl rfl hg597 rfl ?_
               refine D_no rfl rfl rfl rfl hg597 rfl ?_
               refine D_no rfl rfl rfl rfl hg597 rfl ?_
               refine D_vg (r_pickF rfl hg597 rfl) rfl rfl rfl rfl hg592 rfl ?_
               refine D_v (r_pickF rfl hg592 rfl) rfl rfl ?_
               refine D_tail (fun w623 hx623 => ?_)
               have hL624 := hL587.call hx623
               have hle624 := fz_ext hL587 hx623
               replace hp590 := hp590.mono (gz_mono hH hle624)
               replace hG563 := hG563.trans (gz_mono hH hle624)
               refine S_seqnil ?_
               refine W_false rfl ?_
               refine W_skip ?_
               refine At_block ?_
               refine At_seq ?_
               refine W_region ?_
               refine S_pu 1 rfl ?_
               obtain ⟨hk625, h⟩ := Go.L.chk_some h
               refine S_v (r_ar64 rfl rfl rfl hk625) rfl ?_
               refine S_pu 1 rfl ?_
               refine S_nil ?_
               have hL626 := hL624.dropAt (i := 0) rfl
               replace hG563 := hG563.trans (gz_mono hH (fz_dropAt (i := 0) rfl))
               have h := Go.L.Nxt.again h hm561
               refine At_round ((s12_560 + (1 : Int)), n561) (.cons rfl (.cons rfl (.cons rfl (.cons rfl (.cons rfl (.cons rfl (Sub.nil _))))))) ⟨hL626, (hf561_0.mono hG563), (hf561_1.mono hG563), (hf561_2.mono hG563), (he561_r9.mono hG563), h⟩ (Nat.lt_succ_self _)
            ·replace h := Go.L.ite_n (of_decide_eq_false hg588) h
             refine D_no rfl rfl rfl rfl hg588 rfl ?_
             refine D_no rfl rfl rfl rfl hg588 rfl ?_
             refine D_no rfl rfl rfl rfl hg588 rfl ?_
             refine D_no rfl rfl rfl rfl hg588 rfl ?_
             refine D_no rfl rfl rfl rfl hg588 rfl ?_
             refine D_no rfl rfl rfl rfl hg588 rfl ?_
             refine D_v (r_pickF rfl hg588 rfl) rfl rfl ?_
             refine D_pu 1 rfl ?_
             refine D_vg (RunsAt_pu rfl) rfl rfl rfl rfl rfl rfl ?_
             refine D_vg (RunsAt_pu rfl) rfl rfl rfl rfl rfl rfl ?_
             refine D_vg (r_len rfl Tryd.underlying23 (hf561_0.mono hG563)) rfl rfl rfl rfl rfl rfl ?_
             refine D_vg (RunsAt_pu rfl) rfl rfl rfl rfl rfl rfl ?_
             refine D_vg (RunsAt_pu rfl) rfl rfl rfl rfl rfl rfl ?_
             refine D_split (s := 128) rfl (fun hg628 => ?_) (fun hg628 => ?_)
             ·replace h := Go.L.ite_p (of_decide_eq_true hg628) h
              refine D_vg (r_loadBN 0 rfl Tryd.underlying33 rfl zr33 hL587 rfl) rfl rfl rfl rfl hg628 rfl ?_
              refine D_vg (RunsAt_pu rfl) rfl rfl rfl rfl hg628 rfl ?_
              refine D_vg (RunsAt_pu rfl) rfl rfl rfl rfl hg628 rfl ?_
              refine D_vg (RunsAt_pu rfl) rfl rfl rfl rfl hg628 rfl ?_
              refine D_vg (r_len rfl Tryd.underlying23 (hf561_0.mono hG563)) rfl rfl rfl rfl hg628 rfl ?_
              obtain ⟨hk630, h⟩ := Go.L.chk_some h
              refine D_vg (r_ar64 rfl rfl rfl hk630) rfl rfl rfl rfl hg628 rfl ?_
              obtain ⟨hk632, h⟩ := Go.L.chk_some h
              refine D_indexg rfl rfl rfl rfl hg628 rfl rfl Tryd.underlying23 zr33 (hf561_1.mono hG563) ((s12_560 - (x1.1.length : Int)).toNat) (Int.toNat_of_nonneg hk632.1).symm (idx_lt hk632) rfl ?_
              rintro p631 _ ⟨_, _, rfl, rfl, ⟨_, _, rfl, rfl, rfl⟩⟩ hp631
              refine D_vg (r_field rfl Tryd.underlying33 rfl zr9 (by decide)) rfl rfl rfl rfl hg628 rfl ?_
              have hp633 := hp631.add 0
              refine D_vg (r_load1 rfl Tryd.underlying9 rfl hp633 (gz_le hH hL587)) rfl rfl rfl rfl hg628 rfl ?_
              refine D_vg (RunsAt_pu rfl) rfl rfl rfl rfl hg628 rfl ?_
              refine D_vg (RunsAt_pu rfl) rfl rfl rfl rfl hg628 rfl ?_
              refine D_vg (RunsAt_pu rfl) rfl rfl rfl rfl hg628 rfl ?_
              refine D_vg (r_len rfl Tryd.underlying23 (hf561_0.mono hG563)) rfl rfl rfl rfl hg628 rfl ?_
              obtain ⟨hk634, h⟩ := Go.L.chk_some h
              refine D_vg (r_ar64 rfl rfl rfl hk634) rfl rfl rfl rfl hg628 rfl ?_
              obtain ⟨hk636, h⟩ := Go.L.chk_some h
              refine D_indexg rfl rfl rfl rfl hg628 rfl rfl Tryd.underlying23 zr33 (hf561_1.mono hG563) ((s12_560 - (x1.1.length : Int)).toNat) (Int.toNat_of_nonneg hk636.1).symm (idx_lt hk636) rfl ?_
              rintro p635 _ ⟨_, _, rfl, rfl, ⟨_, _, rfl, rfl, rfl⟩⟩ hp635
              refine D_vg (r_field rfl Tryd.underlying33 rfl zr3 (by decide)) rfl rfl rfl rfl hg628 rfl ?_
              have hp637 := hp635.add 1
              refine D_vg (r_load1 rfl Tryd.underlying3 rfl hp637 (gz_le hH hL587)) rfl rfl rfl rfl hg628 rfl ?_
              refine D_vg (RunsAt_pu rfl) rfl rfl rfl rfl hg628 rfl ?_
              refine D_vg (r_len rfl Tryd.underlying22 h0_0) rfl rfl rfl rfl hg628 rfl ?_
              obtain ⟨hk638, h⟩ := Go.L.chk_some h
              refine D_vg (r_ar64 rfl rfl rfl hk638) rfl rfl rfl rfl hg628 rfl ?_
              obtain ⟨hk639, h⟩ := Go.L.chk_some h
              refine D_vg (r_ar64 rfl rfl rfl hk639) rfl rfl rfl rfl hg628 rfl ?_
              refine D_vg (RunsAt_pu rfl) rfl rfl rfl rfl hg628 rfl ?_
              refine D_vg (RunsAt_pu rfl) rfl rfl rfl rfl hg628 rfl ?_
              refine D_vg (RunsAt_pu rfl) rfl rfl rfl rfl hg628 rfl ?_
              refine D_vg (r_len rfl Tryd.underlying23 (hf561_0.mono hG563)) rfl rfl rfl rfl hg628 rfl ?_
              obtain ⟨hk640, h⟩ := Go.L.chk_some h
              refine D_vg (r_ar64 rfl rfl rfl hk640) rfl rfl rfl rfl hg628 rfl ?_
              obtain ⟨hk642, h⟩ := Go.L.chk_some h
              refine D_indexg rfl rfl rfl rfl hg628 rfl rfl Tryd.underlying23 zr33 (hf561_1.mono hG563) ((s12_560 - (x1.1.length : Int)).toNat) (Int.toNat_of_nonneg hk642.1).symm (idx_lt hk642) rfl ?_
              rintro p641 _ ⟨_, _, rfl, rfl, ⟨_, _, rfl, rfl, rfl⟩⟩ hp641
              refine D_vg (r_field rfl Tryd.underlying33 rfl zr3 (by decide)) rfl rfl rfl rfl hg628 rfl ?_
              have hp643 := hp641.add 2
              refine D_vg (r_load1 rfl Tryd.underlying3 rfl hp643 (gz_le hH hL587)) rfl rfl rfl rfl hg628 rfl ?_
              refine D_vg (RunsAt_pu rfl) rfl rfl rfl rfl hg628 rfl ?_
              refine D_vg (r_len rfl Tryd.underlying22 h0_0) rfl rfl rfl rfl hg628 rfl ?_
              obtain ⟨hk644, h⟩ := Go.L.chk_some h
              refine D_vg (r_ar64 rfl rfl rfl hk644) rfl rfl rfl rfl hg628 rfl ?_
              obtain ⟨hk645, h⟩ := Go.L.chk_some h
              refine D_vg (r_ar64 rfl rfl rfl hk645) rfl rfl rfl rfl hg628 rfl ?_
              refine D_vg (r_build rfl (fun _ => bld33_0_1_2 _ rfl _ _ _)) rfl rfl rfl rfl hg628 rfl ?_
              refine D_vg (r_neA rfl rfl eqg33 (eq33 _ _ _ _ _ _ )) rfl rfl rfl rfl hg628 rfl ?_
              refine D_vg (r_pickT rfl hg628 rfl) rfl rfl rfl rfl rfl rfl ?_
              refine D_v (r_pickF rfl rfl rfl) rfl rfl ?_
              refine D_tail (fun w646 hx646 => ?_)
              have hL647 := hL587.call hx646
              have hle647 := fz_ext hL587 hx646
              replace hp631 := hp631.mono (gz_mono hH hle647)
              replace hp633 := hp633.mono (gz_mono hH hle647)
              replace hp635 := hp635.mono (gz_mono hH hle647)
              replace hp637 := hp637.mono (gz_mono hH hle647)
              replace hp641 := hp641.mono (gz_mono hH hle647)
              replace hp643 := hp643.mono (gz_mono hH hle647)
              replace hG563 := hG563.trans (gz_mono hH hle647)
              refine S_seqnil ?_
              refine W_ifn rfl (fun hc648 => ?_) (fun hc648 => ?_)
              ·replace h := Go.L.ite_n hc648 h
               refine W_seqr ?_
               refine S_pu 1 rfl ?_
               refine S_seqnil ?_
               refine W_ret ?_
               refine At_block_ret ?_
               refine At_seq_ret ?_
               refine At_loop_ret ?_
               replace h := Go.L.Nxt.out h hm561
               refine At_block_ret ?_
               refine At_cut_ret ?_
               obtain rfl := Option.some.inj h
               refine At_body rfl rfl ?_
               exact ⟨hL647.ext, rfl⟩
              ·replace h := Go.L.ite_p hc648 h
               refine W_skip ?_
               refine At_block ?_
               refine At_seq ?_
               refine W_region ?_
               refine S_pu 1 rfl ?_
               obtain ⟨hk651, h⟩ := Go.L.chk_some h
               refine S_v (r_ar64 rfl rfl rfl hk651) rfl ?_
               refine S_pu 1 rfl ?_
               refine S_nil ?_
               have hL652 := hL647.dropAt (i := 0) rfl
               replace hG563 := hG563.trans (gz_mono hH (fz_dropAt (i := 0) rfl))
               have h := Go.L.Nxt.again h hm561
               refine At_round ((s12_560 + (1 : Int)), n561) (.cons rfl (.cons rfl (.cons rfl (.cons rfl (.cons rfl (.cons rfl (Sub.nil _))))))) ⟨hL652, (hf561_0.mono hG563), (hf561_1.mono hG563), (hf561_2.mono hG563), (he561_r9.mono hG563), h⟩ (Nat.lt_succ_self _)
             ·replace h := Go.L.ite_n (of_decide_eq_false hg628) h
              refine D_no rfl rfl rfl rfl hg628 rfl ?_
              refine D_no rfl rfl rfl rfl hg628 rfl ?_
              refine D_no rfl rfl rfl rfl hg628 rfl ?_
              refine D_no rfl rfl rfl rfl hg628 rfl ?_
              refine D_no rfl rfl rfl rfl hg628 rfl ?_
              refine D_no rfl rfl rfl rfl hg628 rfl ?_
              refine D_no rfl rfl rfl rfl hg628 rfl ?_
              refine D_no rfl rfl rfl rfl hg628 rfl ?_
              refine D_no rfl rfl rfl rfl hg628 rfl ?_
              refine D_no rfl rfl rfl rfl hg628 rfl ?_
              refine D_no rfl rfl rfl rfl hg628 rfl ?_
              refine D_no rfl rfl rfl rfl hg628 rfl ?_
              refine D_no rfl rfl rfl rfl hg628 rfl ?_
              refine D_no rfl rfl rfl rfl hg628 rfl ?_
              refine D_no rfl rfl rfl rfl hg628 rfl ?_
              refine D_no rfl rfl rfl rfl hg628 rfl ?_
              refine D_no rfl rfl rfl rfl hg628 rfl ?_
              refine D_no rfl rfl rfl rfl hg628 rfl ?_
              refine D_no rfl rfl rfl rfl hg628 rfl ?_
              refine D_no rfl rfl rfl rfl hg628 rfl ?_
              refine D_no rfl rfl rfl rfl hg628 rfl ?_
              refine D_no rfl rfl rfl rfl hg628 rfl ?_
              refine D_no rfl rfl rfl rfl hg628 rfl ?_
              refine D_no rfl rfl rfl rfl hg628 rfl ?_
              refine D_no rfl rfl rfl rfl hg628 rfl ?_
              refine D_no rfl rfl rfl rfl hg628 rfl ?_
              refine D_no rfl rfl rfl rfl hg628 rfl ?_
              refine D_no rfl rfl rfl rfl hg628 rfl ?_
              refine D_no rfl rfl rfl rfl hg628 rfl ?_
              refine D_no rfl rfl rfl rfl hg628 rfl ?_
              refine D_no rfl rfl rfl rfl hg628 rfl ?_
              refine D_no rfl rfl rfl rfl hg628 rfl ?_
              refine D_no rfl rfl rfl rfl hg628 rfl ?_
              refine D_no rfl rfl rfl rfl hg628 rfl ?_
              refine D_no rfl rfl rfl rfl hg628 rfl ?_
              refine D_vg (r_pickF rfl hg628 rfl) rfl rfl rfl rfl rfl rfl ?_
              refine D_v (r_pickF rfl rfl rfl) rfl rfl ?_
              refine D_tail (fun w654 hx654 => ?_)
              have hL655 := hL587.call hx654
              have hle655 := fz_ext hL587 hx654
              replace hG563 := hG563.trans (gz_mono hH hle655)
              refine S_seqnil ?_
              refine W_false rfl ?_
              refine W_skip ?_
              refine At_block ?_
              refine At_seq ?_
              refine W_region ?_
              refine S_pu 1 rfl ?_
              obtain ⟨hk656, h⟩ := Go.L.chk_some h
              refine S_v (r_ar64 rfl rfl rfl hk656) rfl ?_
              refine S_pu 1 rfl ?_
              refine S_nil ?_
              have hL657 := hL655.dropAt (i := 0) rfl
              replace hG563 := hG563.trans (gz_mono hH (fz_dropAt (i := 0) rfl))
              have h := Go.L.Nxt.again h hm561
              refine At_round ((s12_560 + (1 : Int)), n561) (.cons rfl (.cons rfl (.cons rfl (.cons rfl (.cons rfl (.cons rfl (Sub.nil _))))))) ⟨hL657, (hf561_0.mono hG563), (hf561_1.mono hG563), (hf561_2.mono hG563), (he561_r9.mono hG563), h⟩ (Nat.lt_succ_self _)
          ·replace h := Go.L.ite_n (of_decide_eq_false hg579) h
           refine S_unwanted rfl rfl hg579 rfl ?_
           refine S_unwanted rfl rfl hg579 rfl ?_
           refine S_unwanted rfl rfl hg579 rfl ?_
           refine S_unwanted rfl rfl hg579 rfl ?_
           refine S_unwanted rfl rfl hg579 rfl ?_
           refine S_guarded rfl rfl hg576 ?_
           refine S_v (r_pickF rfl hg579 rfl) rfl ?_
           refine S_v (r_pickF rfl hg576 rfl) rfl ?_
           refine S_seqnil ?_
           refine W_false rfl ?_
           refine W_skip ?_
           refine At_seq ?_
           refine W_seqd (.q 0 (.q 1 (.q 2 (.q 3 (.q 4 (.q 5 (.q 6 (.q 7 (.q 8 (.q 9 (.q 10 (.q 11 (.q 12 (.q 13 (.q 14 (.q 15 (.q 16 (.q 17 (.q 18 (.q 19 (.q 20 (.q 21 (.q 22 (.q 23 (.q 24 (.q 25 (.q 26 (.q 27 (.q 28 (.q 29 (.q 30 (.q 31 (.q 32 (.q 33 (.q 34 (.q 35 (.q 36 (.q 37 (.q 38 (.q 39 (.q 40 (.q 41 (.q 42 (.q 43 (.q 44 (.q 45 (.q 46 (.q 47 (.q 48 (.q 49 (.q 50 (.q 51 (.q 52 (.q 53 (.q 54 (.tail 55)))))))))))))))))))))))))))))))))))))))))))))))))))))))) mixed (by kernel_rfl) (fun w659 hx659 => ?_)
           have hL660 := hL572.call hx659
           have hle660 := fz_ext hL572 hx659
           replace hG563 := hG563.trans (gz_mono hH hle660)
           refine D_pu 2 rfl ?_
           refine D_v (r_len rfl Tryd.underlying23 (hf561_0.mono hG563)) rfl rfl ?_
           refine D_pu 2 rfl ?_
           refine D_split (s := 115) rfl (fun hg661 => ?_) (fun hg661 => ?_)
           ·replace h := Go.L.ite_p (of_decide_eq_true hg661) h
            refine D_vg (r_loadBN 0 rfl Tryd.underlying33 rfl zr33 hL660 rfl) rfl rfl rfl rfl hg661 rfl ?_
            refine D_vg (RunsAt_pu rfl) rfl rfl rfl rfl hg661 rfl ?_
            refine D_vg (RunsAt_pu rfl) rfl rfl rfl rfl hg661 rfl ?_
            obtain ⟨hk664, h⟩ := Go.L.chk_some h
            refine D_indexg rfl rfl rfl rfl hg661 rfl rfl Tryd.underlying23 zr33 (hf561_0.mono hG563) s12_560.toNat (Int.toNat_of_nonneg hk664.1).symm (idx_lt hk664) rfl ?_
            rintro p663 _ ⟨_, _, rfl, rfl, ⟨_, _, rfl, rfl, rfl⟩⟩ hp663
            refine D_vg (r_loadN rfl Tryd.underlying33 rfl zr33 hp663 (gz_le hH hL660)) rfl rfl rfl rfl hg661 rfl ?_
            refine D_vg (r_neA rfl rfl eqg33 (eq33 _ _ _ _ _ _ )) rfl rfl rfl rfl hg661 rfl ?_
            refine D_v (r_pickT rfl hg661 rfl) rfl rfl ?_
            refine D_pu 1 rfl ?_
            refine D_split (s := 123) rfl (fun hg665 => ?_) (fun hg665 => ?_)
            ·replace h := Go.L.ite_n (not_dec_t hg665) h
             refine D_no rfl rfl rfl rfl hg665 rfl ?_
             refine D_no rfl rfl rfl rfl hg665 rfl ?_
             refine D_no rfl rfl rfl rfl hg665 rfl ?_
             refine D_no rfl rfl rfl rfl hg665 rfl ?_
             refine D_no rfl rfl rfl rfl hg665 rfl ?_
             refine D_no2 rfl rfl rfl rfl rfl ?_
             refine D_no2 rfl rfl rfl rfl rfl ?_
             refine D_no2 rfl rfl rfl rfl rfl ?_
             refine D_no2 rfl rfl rfl rfl rfl ?_
             refine D_no2 rfl rfl rfl rfl rfl ?_
             refine D_no2 rfl rfl rfl rfl rfl ?_
             refine D_no2 rfl rfl rfl rfl rfl ?_
             refine D_no2 rfl rfl rfl rfl rfl ?_
             refine D_no2 rfl rfl rfl rfl rfl ?_
             refine D_no2 rfl rfl rfl rfl rfl ?_
             refine D_no2 rfl rfl rfl rfl rfl ?_
             refine D_no2 rfl rfl rfl rfl rfl ?_
             refine D_no2 rfl rfl rfl rfl rfl ?_
             refine D_no2 rfl rfl rfl rfl rfl ?_
             refine D_no2 rfl rfl rfl rfl rfl ?_
             refine D_no2 rfl rfl rfl rfl rfl ?_
             refine D_no2 rfl rfl rfl rfl rfl ?_
             refine D_no2 rfl rfl rfl rfl rfl ?_
             refine D_no2 rfl rfl rfl rfl rfl ?_
             refine D_no2 rfl rfl rfl rfl rfl ?_
             refine D_no2 rfl rfl rfl rfl rfl ?_
             refine D_no2 rfl rfl rfl rfl rfl ?_
             refine D_no2 rfl rfl rfl rfl rfl ?_
             refine D_no2 rfl rfl rfl rfl rfl ?_
             refine D_no2 rfl rfl rfl rfl rfl ?_
             refine D_no2 rfl rfl rfl rfl rfl ?_
             refine D_no2 rfl rfl rfl rfl rfl ?_
             refine D_no2 rfl rfl rfl rfl rfl ?_
             refine D_no2 rfl rfl rfl rfl rfl ?_
             refine D_no2 rfl rfl rfl rfl rfl ?_
             refine D_no2 rfl rfl rfl rfl rfl ?_
             refine D_no2 rfl rfl rfl rfl rfl ?_
             refine D_no2 rfl rfl rfl rfl rfl ?_
             refine D_no2 rfl rfl rfl rfl rfl ?_
             refine D_no2 rfl rfl rfl rfl rfl ?_
             refine D_no rfl rfl rfl rfl hg665 rfl ?_
             refine D_v (r_pickT rfl hg665 rfl) rfl rfl ?_
             refine D_tail (fun w667 hx667 => ?_)
             have hL668 := hL660.call hx667
             have hle668 := fz_ext hL660 hx667
             replace hp663 := hp663.mono (gz_mono hH hle668)
             replace hG563 := hG563.trans (gz_mono hH hle668)
             refine S_seqnil ?_
             refine W_true rfl ?_
             refine W_seqr ?_
             refine S_pu 1 rfl ?_
             refine S_seqnil ?_
             refine W_ret ?_
             refine At_block_ret ?_
             refine At_seq_ret ?_
             refine At_loop_ret ?_
             replace h := Go.L.Nxt.out h hm561
             refine At_block_ret ?_
             refine At_cut_ret ?_
             obtain rfl := Option.some.inj h
             refine At_body rfl rfl ?_
             exact ⟨hL668.ext, rfl⟩
            ·replace h := Go.L.ite_p (not_dec_f hg665) h
             refine D_vg (RunsAt_pu rfl) rfl rfl rfl rfl hg665 rfl ?_
             refine D_vg (RunsAt_pu rfl) rfl rfl rfl rfl hg665 rfl ?_
             refine D_vg (r_len rfl Tryd.underlying23 (hf561_0.mono hG563)) rfl rfl rfl rfl hg665 rfl ?_
             refine D_vg (RunsAt_pu rfl) rfl rfl rfl rfl hg665 rfl ?_
             refine D_vg (RunsAt_pu rfl) rfl rfl rfl rfl hg665 rfl ?_
             refine D_split (s := 128) rfl (fun hg670 => ?_) (fun hg670 => ?_)
             ·replace h := Go.L.ite_p (of_decide_eq_true hg670) h
              refine D_vg (r_loadBN 0 rfl Tryd.underlying33 rfl zr33 hL660 rfl) rfl rfl rfl rfl hg670 rfl ?_
              refine D_vg (RunsAt_pu rfl) rfl rfl rfl rfl hg670 rfl ?_
              refine D_vg (RunsAt_pu rfl) rfl rfl rfl rfl hg670 rfl ?_
              refine D_vg (RunsAt_pu rfl) rfl rfl rfl rfl hg670 rfl ?_
              refine D_vg (r_len rfl Tryd.underlying23 (hf561_0.mono hG563)) rfl rfl rfl rfl hg670 rfl ?_
              obtain ⟨hk672, h⟩ := Go.L.chk_some h
              refine D_vg (r_ar64 rfl rfl rfl hk672) rfl rfl rfl rfl hg670 rfl ?_
              obtain ⟨hk674, h⟩ := Go.L.chk_some h
              refine D_indexg rfl rfl rfl rfl hg670 rfl rfl Tryd.underlying23 zr33 (hf561_1.mono hG563) ((s12_560 - (x1.1.length : Int)).toNat) (Int.toNat_of_nonneg hk674.1).symm (idx_lt hk674) rfl ?_
              rintro p673 _ ⟨_, _, rfl, rfl, ⟨_, _, rfl, rfl, rfl⟩⟩ hp673
              refine D_vg (r_field rfl Tryd.underlying33 rfl zr9 (by decide)) rfl rfl rfl rfl hg670 rfl ?_
              have hp675 := hp673.add 0
              refine D_vg (r_load1 rfl Tryd.underlying9 rfl hp675 (gz_le hH hL660)) rfl rfl rfl rfl hg670 rfl ?_
              refine D_vg (RunsAt_pu rfl) rfl rfl rfl rfl hg670 rfl ?_
              refine D_vg (RunsAt_pu rfl) rfl rfl rfl rfl hg670 rfl ?_
              refine D_vg (RunsAt_pu rfl) rfl rfl rfl rfl hg670 rfl ?_
              refine D_vg (r_len rfl Tryd.underlying23 (hf561_0.mono hG563)) rfl rfl rfl rfl hg670 rfl ?_
              obtain ⟨hk676, h⟩ := Go.L.chk_some h
              refine D_vg (r_ar64 rfl rfl rfl hk676) rfl rfl rfl rfl hg670 rfl ?_
              obtain ⟨hk678, h⟩ := Go.L.chk_some h
              refine D_indexg rfl rfl rfl rfl hg670 rfl rfl Tryd.underlying23 zr33 (hf561_1.mono hG563) ((s12_560 - (x1.1.length : Int)).toNat) (Int.toNat_of_nonneg hk678.1).symm (idx_lt hk678) rfl ?_
              rintro p677 _ ⟨_, _, rfl, rfl, ⟨_, _, rfl, rfl, rfl⟩⟩ hp677
              refine D_vg (r_field rfl Tryd.underlying33 rfl zr3 (by decide)) rfl rfl rfl rfl hg670 rfl ?_
              have hp679 := hp677.add 1
              refine D_vg (r_load1 rfl Tryd.underlying3 rfl hp679 (gz_le hH hL660)) rfl rfl rfl rfl hg670 rfl ?_
              refine D_vg (RunsAt_pu rfl) rfl rfl rfl rfl hg670 rfl ?_
              refine D_vg (r_len rfl Tryd.underlying22 h0_0) rfl rfl rfl rfl hg670 rfl ?_
              obtain ⟨hk680, h⟩ := Go.L.chk_some h
              refine D_vg (r_ar64 rfl rfl rfl hk680) rfl rfl rfl rfl hg670 rfl ?_
              obtain ⟨hk681, h⟩ := Go.L.chk_some h
              refine D_vg (r_ar64 rfl rfl rfl hk681) rfl rfl rfl rfl hg670 rfl ?_
              refine D_vg (RunsAt_pu rfl) rfl rfl rfl rfl hg670 rfl ?_
              refine D_vg (RunsAt_pu rfl) rfl rfl rfl rfl hg670 rfl ?_
              refine D_vg (RunsAt_pu rfl) rfl rfl rfl rfl hg670 rfl ?_
              refine D_vg (r_len rfl Tryd.underlying23 (hf561_0.mono hG563)) rfl rfl rfl rfl hg670 rfl ?_
              obtain ⟨hk682, h⟩ := Go.L.chk_some h
              refine D_vg (r_ar64 rfl rfl rfl hk682) rfl rfl rfl rfl hg670 rfl ?_
              obtain ⟨hk684, h⟩ := Go.L.chk_some h
              refine D_indexg rfl rfl rfl rfl hg670 rfl rfl Tryd.underlying23 zr33 (hf561_1.mono hG563) ((s12_560 - (x1.1.length : Int)).toNat) (Int.toNat_of_nonneg hk684.1).symm (idx_lt hk684) rfl ?_
              rintro p683 _ ⟨_, _, rfl, rfl, ⟨_, _, rfl, rfl, rfl⟩⟩ hp683
              refine D_vg (r_field rfl Tryd.underlying33 rfl zr3 (by decide)) rfl rfl rfl rfl hg670 rfl ?_
              have hp685 := hp683.add 2
              refine D_vg (r_load1 rfl Tryd.underlying3 rfl hp685 (gz_le hH hL660)) rfl rfl rfl rfl hg670 rfl ?_
              refine D_vg (RunsAt_pu rfl) rfl rfl rfl rfl hg670 rfl ?_
              refine D_vg (r_len rfl Tryd.underlying22 h0_0) rfl rfl rfl rfl hg670 rfl ?_
              obtain ⟨hk686, h⟩ := Go.L.chk_some h
              refine D_vg (r_ar64 rfl rfl rfl hk686) rfl rfl rfl rfl hg670 rfl ?_
              obtain ⟨hk687, h⟩ := Go.L.chk_some h
              refine D_vg (r_ar64 rfl rfl rfl hk687) rfl rfl rfl rfl hg670 rfl ?_
              refine D_vg (r_build rfl (fun _ => bld33_0_1_2 _ rfl _ _ _)) rfl rfl rfl rfl hg670 rfl ?_
              refine D_vg (r_neA rfl rfl eqg33 (eq33 _ _ _ _ _ _ )) rfl rfl rfl rfl hg670 rfl ?_
              refine D_vg (r_pickT rfl hg670 rfl) rfl rfl rfl rfl hg665 rfl ?_
              refine D_v (r_pickF rfl hg665 rfl) rfl rfl ?_
              refine D_tail (fun w688 hx688 => ?_)
              have hL689 := hL660.call hx688
              have hle689 := fz_ext hL660 hx688
              replace hp663 := hp663.mono (gz_mono hH hle689)
              replace hp673 := hp673.mono (gz_mono hH hle689)
              replace hp675 := hp675.mono (gz_mono hH hle689)
              replace hp677 := hp677.mono (gz_mono hH hle689)
              replace hp679 := hp679.mono (gz_mono hH hle689)
              replace hp683 := hp683.mono (gz_mono hH hle689)
              replace hp685 := hp685.mono (gz_mono hH hle689)
              replace hG563 := hG563.trans (gz_mono hH hle689)
              refine S_seqnil ?_
              refine W_ifn rfl (fun hc690 => ?_) (fun hc690 => ?_)
              ·replace h := Go.L.ite_n hc690 h
               refine W_seqr ?_
               refine S_pu 1 rfl ?_
               refine S_seqnil ?_
               refine W_ret ?_
               refine At_block_ret ?_
               refine At_seq_ret ?_
               refine At_loop_ret ?_
               replace h := Go.L.Nxt.out h hm561
               refine At_block_ret ?_
               refine At_cut_ret ?_
               obtain rfl := Option.some.inj h
               refine At_body rfl rfl ?_
               exact ⟨hL689.ext, rfl⟩
              ·replace h := Go.L.ite_p hc690 h
               refine W_skip ?_
               refine At_block ?_
               refine At_seq ?_
               refine W_region ?_
               refine S_pu 1 rfl ?_
               obtain ⟨hk693, h⟩ := Go.L.chk_some h
               refine S_v (r_ar64 rfl rfl rfl hk693) rfl ?_
               refine S_pu 1 rfl ?_
               refine S_nil ?_
               have hL694 := hL689.dropAt (i := 0) rfl
               replace hG563 := hG563.trans (gz_mono hH (fz_dropAt (i := 0) rfl))
               have h := Go.L.Nxt.again h hm561
               refine At_round ((s12_560 + (1 : Int)), n561) (.cons rfl (.cons rfl (.cons rfl (.cons rfl (.cons rfl (.cons rfl (Sub.nil _))))))) ⟨hL694, (hf561_0.mono hG563), (hf561_1.mono hG563), (hf561_2.mono hG563), (he561_r9.mono hG563), h⟩ (Nat.lt_succ_self _)
             ·replace h := Go.L.ite_n (of_decide_eq_false hg670) h
              refine D_no rfl rfl rfl rfl hg670 rfl ?_
              refine D_no rfl rfl rfl rfl hg670 rfl ?_
              refine D_no rfl rfl rfl rfl hg670 rfl ?_
              refine D_no rfl rfl rfl rfl hg670 rfl ?_
              refine D_no rfl rfl rfl rfl hg670 rfl ?_
              refine D_no rfl rfl rfl rfl hg670 rfl ?_
              refine D_no rfl rfl rfl rfl hg670 rfl ?_
              refine D_no rfl rfl rfl rfl hg670 rfl ?_
              refine D_no rfl rfl rfl rfl hg670 rfl ?_
              refine D_no rfl rfl rfl rfl hg670 rfl ?_
              refine D_no rfl rfl rfl rfl hg670 rfl ?_
              refine D_no rfl rfl rfl rfl hg670 rfl ?_
              refine D_no rfl rfl rfl rfl hg670 rfl ?_
              refine D_no rfl rfl rfl rfl hg670 rfl ?_
              refine D_no rfl rfl rfl rfl hg670 rfl ?_
              refine D_no rfl rfl rfl rfl hg670 rfl ?_
              refine D_no rfl rfl rfl rfl hg670 rfl ?_
              refine D_no rfl rfl rfl rfl hg670 rfl ?_
              refine D_no rfl rfl rfl rfl hg670 rfl ?_
              refine D_no rfl rfl rfl rfl hg670 rfl ?_
              refine D_no rfl rfl rfl rfl hg670 rfl ?_
              refine D_no rfl rfl rfl rfl hg670 rfl ?_
              refine D_no rfl rfl rfl rfl hg670 rfl ?_
              refine D_no rfl rfl rfl rfl hg670 rfl ?_
              refine D_no rfl rfl rfl rfl hg670 rfl ?_
              refine D_no rfl rfl rfl rfl hg670 rfl ?_
              refine D_no rfl rfl rfl rfl hg670 rfl ?_
              refine D_no rfl rfl rfl rfl hg670 rfl ?_
              refine D_no rfl rfl rfl rfl hg670 rfl ?_
              refine D_no rfl rfl rfl rfl hg670 rfl ?_
              refine D_no rfl rfl rfl rfl hg670 rfl ?_
              refine D_no rfl rfl rfl rfl hg670 rfl ?_
              refine D_no rfl rfl rfl rfl hg670 rfl ?_
              refine D_no rfl rfl rfl rfl hg670 rfl ?_
              refine D_no rfl rfl rfl rfl hg670 rfl ?_
              refine D_vg (r_pickF rfl hg670 rfl) rfl rfl rfl rfl hg665 rfl ?_
              refine D_v (r_pickF rfl hg665 rfl) rfl rfl ?_
              refine D_tail (fun w696 hx696 => ?_)
              have hL697 := hL660.call hx696
              have hle697 := fz_ext hL660 hx696
              replace hp663 := hp663.mono (gz_mono hH hle697)
              replace hG563 := hG563.trans (gz_mono hH hle697)
              refine S_seqnil ?_
              refine W_false rfl ?_
              refine W_skip ?_
              refine At_block ?_
              refine At_seq ?_
              refine W_region ?_
              refine S_pu 1 rfl ?_
              obtain ⟨hk698, h⟩ := Go.L.chk_some h
              refine S_v (r_ar64 rfl rfl rfl hk698) rfl ?_
              refine S_pu 1 rfl ?_
              refine S_nil ?_
              have hL699 := hL697.dropAt (i := 0) rfl
              replace hG563 := hG563.trans (gz_mono hH (fz_dropAt (i := 0) rfl))
              have h := Go.L.Nxt.again h hm561
              refine At_round ((s12_560 + (1 : Int)), n561) (.cons rfl (.cons rfl (.cons rfl (.cons rfl (.cons rfl (.cons rfl (Sub.nil _))))))) ⟨hL699, (hf561_0.mono hG563), (hf561_1.mono hG563), (hf561_2.mono hG563), (he561_r9.mono hG563), h⟩ (Nat.lt_succ_self _)
           ·replace h := Go.L.ite_n (of_decide_eq_false hg661) h
            refine D_no rfl rfl rfl rfl hg661 rfl ?_
            refine D_no rfl rfl rfl rfl hg661 rfl ?_
            refine D_no rfl rfl rfl rfl hg661 rfl ?_
            refine D_no rfl rfl rfl rfl hg661 rfl ?_
            refine D_no rfl rfl rfl rfl hg661 rfl ?_
            refine D_no rfl rfl rfl rfl hg661 rfl ?_
            refine D_v (r_pickF rfl hg661 rfl) rfl rfl ?_
            refine D_pu 1 rfl ?_
            refine D_vg (RunsAt_pu rfl) rfl rfl rfl rfl rfl rfl ?_
            refine D_vg (RunsAt_pu rfl) rfl rfl rfl rfl rfl rfl ?_
            refine D_vg (r_len rfl Tryd.underlying23 (hf561_0.mono hG563)) rfl rfl rfl rfl rfl rfl ?_
            refine D_vg (RunsAt_pu rfl) rfl rfl rfl rfl rfl rfl ?_
            refine D_vg (RunsAt_pu rfl) rfl rfl rfl rfl rfl rfl ?_
            refine D_split (s := 128) rfl (fun hg701 => ?_) (fun hg701 => ?_)
            ·replace h := Go.L.ite_p (of_decide_eq_true hg701) h
             refine D_vg (r_loadBN 0 rfl Tryd.underlying33 rfl zr33 hL660 rfl) rfl rfl rfl rfl hg701 rfl ?_
             refine D_vg (RunsAt_pu rfl) rfl rfl rfl rfl hg701 rfl ?_
             refine D_vg (RunsAt_pu rfl) rfl rfl rfl rfl hg701 rfl ?_
             refine D_vg (RunsAt_pu rfl) rfl rfl rfl rfl hg701 rfl ?_
             refine D_vg (r_len rfl Tryd.underlying23 (hf561_0.mono hG563)) rfl rfl rfl rfl hg701 rfl ?_
             obtain ⟨hk703, h⟩ := Go.L.chk_some h
             refine D_vg (r_ar64 rfl rfl rfl hk703) rfl rfl rfl rfl hg701 rfl ?_
             obtain ⟨hk705, h⟩ := Go.L.chk_some h
             refine D_indexg rfl rfl rfl rfl hg701 rfl rfl Tryd.underlying23 zr33 (hf561_1.mono hG563) ((s12_560 - (x1.1.length : Int)).toNat) (Int.toNat_of_nonneg hk705.1).symm (idx_lt hk705) rfl ?_
             rintro p704 _ ⟨_, _, rfl, rfl, ⟨_, _, rfl, rfl, rfl⟩⟩ hp704
             refine D_vg (r_field rfl Tryd.underlying33 rfl zr9 (by decide)) rfl rfl rfl rfl hg701 rfl ?_
             have hp706 := hp704.add 0
             refine D_vg (r_load1 rfl Tryd.underlying9 rfl hp706 (gz_le hH hL660)) rfl rfl rfl rfl hg701 rfl ?_
             refine D_vg (RunsAt_pu rfl) rfl rfl rfl rfl hg701 rfl ?_
             refine D_vg (RunsAt_pu rfl) rfl rfl rfl rfl hg701 rfl ?_
             refine D_vg (RunsAt_pu rfl) rfl rfl rfl rfl hg701 rfl ?_
             refine D_vg (r_len rfl Tryd.underlying23 (hf561_0.mono hG563)) rfl rfl rfl rfl hg701 rfl ?_
             obtain ⟨hk707, h⟩ := Go.L.chk_some h
             refine D_vg (r_ar64 rfl rfl rfl hk707) rfl rfl rfl rfl hg701 rfl ?_
             obtain ⟨hk709, h⟩ := Go.L.chk_some h
             refine D_indexg rfl rfl rfl rfl hg701 rfl rfl Tryd.underlying23 zr33 (hf561_1.mono hG563) ((s12_560 - (x1.1.length : Int)).toNat) (Int.toNat_of_nonneg hk709.1).symm (idx_lt hk709) rfl ?_
             rintro p708 _ ⟨_, _, rfl, rfl, ⟨_, _, rfl, rfl, rfl⟩⟩ hp708
             refine D_vg (r_field rfl Tryd.underlying33 rfl zr3 (by decide)) rfl rfl rfl rfl hg701 rfl ?_
             have hp710 := hp708.add 1
             refine D_vg (r_load1 rfl Tryd.underlying3 rfl hp710 (gz_le hH hL660)) rfl rfl rfl rfl hg701 rfl ?_
             refine D_vg (RunsAt_pu rfl) rfl rfl rfl rfl hg701 rfl ?_
             refine D_vg (r_len rfl Tryd.underlying22 h0_0) rfl rfl rfl rfl hg701 rfl ?_
             obtain ⟨hk711, h⟩ := Go.L.chk_some h
             refine D_vg (r_ar64 rfl rfl rfl hk711) rfl rfl rfl rfl hg701 rfl ?_
             obtain ⟨hk712, h⟩ := Go.L.chk_some h
             refine D_vg (r_ar64 rfl rfl rfl hk712) rfl rfl rfl rfl hg701 rfl ?_
             refine D_vg (RunsAt_pu rfl) rfl rfl rfl rfl hg701 rfl ?_
             refine D_vg (RunsAt_pu rfl) rfl rfl rfl rfl hg701 rfl ?_
             refine D_vg (RunsAt_pu rfl) rfl rfl rfl rfl hg701 rfl ?_
             refine D_vg (r_len rfl Tryd.underlying23 (hf561_0.mono hG563)) rfl rfl rfl rfl hg701 rfl ?_
             obtain ⟨hk713, h⟩ := Go.L.chk_some h
             refine D_vg (r_ar64 rfl rfl rfl hk713) rfl rfl rfl rfl hg701 rfl ?_
             obtain ⟨hk715, h⟩ := Go.L.chk_some h
             refine D_indexg rfl rfl rfl rfl hg701 rfl rfl Tryd.underlying23 zr33 (hf561_1.mono hG563) ((s12_560 - (x1.1.length : Int)).toNat) (Int.toNat_of_nonneg hk715.1).symm (idx_lt hk715) rfl ?_
             rintro p714 _ ⟨_, _, rfl, rfl, ⟨_, _, rfl, rfl, rfl⟩⟩ hp714
             refine D_vg (r_field rfl Tryd.underlying33 rfl zr3 (by decide)) rfl rfl rfl rfl hg701 rfl ?_
             have hp716 := hp714.add 2
             refine D_vg (r_load1 rfl Tryd.underlying3 rfl hp716 (gz_le hH hL660)) rfl rfl rfl rfl hg701 rfl ?_
             refine D_vg (RunsAt_pu rfl) rfl rfl rfl rfl hg701 rfl ?_
             refine D_vg (r_len rfl Tryd.underlying22 h0_0) rfl rfl rfl rfl hg701 rfl ?_
             obtain ⟨hk717, h⟩ := Go.L.chk_some h
             refine D_vg (r_ar64 rfl rfl rfl hk717) rfl rfl rfl rfl hg701 rfl ?_
             obtain ⟨hk718, h⟩ := Go.L.chk_some h
             refine D_vg (r_ar64 rfl rfl rfl hk718) rfl rfl rfl rfl hg701 rfl ?_
             refine D_vg (r_build rfl (fun _ => bld33_0_1_2 _ rfl _ _ _)) rfl rfl rfl rfl hg701 rfl ?_
             refine D_vg (r_neA rfl rfl eqg33 (eq33 _ _ _ _ _ _ )) rfl rfl rfl rfl hg701 rfl ?_
             refine D_vg (r_pickT rfl hg701 rfl) rfl rfl rfl rfl rfl rfl ?_
             refine D_v (r_pickF rfl rfl rfl) rfl rfl ?_
             refine D_tail (fun w719 hx719 => ?_)
             have hL720 := hL660.call hx719
             have hle720 := fz_ext hL660 hx719
             replace hp704 := hp704.mono (gz_mono hH hle720)
             replace hp706 := hp706.mono (gz_mono hH hle720)
             replace hp708 := hp708.mono (gz_mono hH hle720)
             replace hp710 := hp710.mono (gz_mono hH hle720)
             replace hp714 := hp714.mono (gz_mono hH hle720)
             replace hp716 := hp716.mono (gz_mono hH hle720)
             replace hG563 := hG563.trans (gz_mono hH hle720)
             refine S_seqnil ?_
             refine W_ifn rfl (fun hc721 => ?_) (fun hc721 => ?_)
             ·replace h := Go.L.ite_n hc721 h
              refine W_seqr ?_
              refine S_pu 1 rfl ?_
              refine S_seqnil ?_
              refine W_ret ?_
              refine At_block_ret ?_
              refine At_seq_ret ?_
              refine At_loop_ret ?_
              replace h := Go.L.Nxt.out h hm561
              refine At_block_ret ?_
              refine At_cut_ret ?_
              obtain rfl := Option.some.inj h
              refine At_body rfl rfl ?_
              exact ⟨hL720.ext, rfl⟩
             ·replace h := Go.L.ite_p hc721 h
              refine W_skip ?_
              refine At_block ?_
              refine At_seq ?_
              refine W_region ?_
              refine S_pu 1 rfl ?_
              obtain ⟨hk724, h⟩ := Go.L.chk_some h
              refine S_v (r_ar64 rfl rfl rfl hk724) rfl ?_
              refine S_pu 1 rfl ?_
              refine S_nil ?_
              have hL725 := hL720.dropAt (i := 0) rfl
              replace hG563 := hG563.trans (gz_mono hH (fz_dropAt (i := 0) rfl))
              have h := Go.L.Nxt.again h hm561
              refine At_round ((s12_560 + (1 : Int)), n561) (.cons rfl (.cons rfl (.cons rfl (.cons rfl (.cons rfl (.cons rfl (Sub.nil _))))))) ⟨hL725, (hf561_0.mono hG563), (hf561_1.mono hG563), (hf561_2.mono hG563), (he561_r9.mono hG563), h⟩ (Nat.lt_succ_self _)
            ·replace h := Go.L.ite_n (of_decide_eq_false hg701) h
             refine D_no rfl rfl rfl rfl hg701 rfl ?_
             refine D_no rfl rfl rfl rfl hg701 rfl ?_
             refine D_no rfl rfl rfl rfl hg701 rfl ?_
             refine D_no rfl rfl rfl rfl hg701 rfl ?_
             refine D_no rfl rfl rfl rfl hg701 rfl ?_
             refine D_no rfl rfl rfl rfl hg701 rfl ?_
             refine D_no rfl rfl rfl rfl hg701 rfl ?_
             refine D_no rfl rfl rfl rfl hg701 rfl ?_
             refine D_no rfl rfl rfl rfl hg701 rfl ?_
             refine D_no rfl rfl rfl rfl hg701 rfl ?_
             refine D_no rfl rfl rfl rfl hg701 rfl ?_
             refine D_no rfl rfl rfl rfl hg701 rfl ?_
             refine D_no rfl rfl rfl rfl hg701 rfl ?_
             refine D_no rfl rfl rfl rfl hg701 rfl ?_
             refine D_no rfl rfl rfl rfl hg701 rfl ?_
             refine D_no rfl rfl rfl rfl hg701 rfl ?_
             refine D_no rfl rfl rfl rfl hg701 rfl ?_
             refine D_no rfl rfl rfl rfl hg701 rfl ?_
             refine D_no rfl rfl rfl rfl hg701 rfl ?_
             refine D_no rfl rfl rfl rfl hg701 rfl ?_
             refine D_no rfl rfl rfl rfl hg701 rfl ?_
             refine D_no rfl rfl rfl rfl hg701 rfl ?_
             refine D_no rfl rfl rfl rfl hg701 rfl ?_
             refine D_no rfl rfl rfl rfl hg701 rfl ?_
             refine D_no rfl rfl rfl rfl hg701 rfl ?_
             refine D_no rfl rfl rfl rfl hg701 rfl ?_
             refine D_no rfl rfl rfl rfl hg701 rfl ?_
             refine D_no rfl rfl rfl rfl hg701 rfl ?_
             refine D_no rfl rfl rfl rfl hg701 rfl ?_
             refine D_no rfl rfl rfl rfl hg701 rfl ?_
             refine D_no rfl rfl rfl rfl hg701 rfl ?_
             refine D_no rfl rfl rfl rfl hg701 rfl ?_
             refine D_no rfl rfl rfl rfl hg701 rfl ?_
             refine D_no rfl rfl rfl rfl hg701 rfl ?_
             refine D_no rfl rfl rfl rfl hg701 rfl ?_
             refine D_vg (r_pickF rfl hg701 rfl) rfl rfl rfl rfl rfl rfl ?_
             refine D_v (r_pickF rfl rfl rfl) rfl rfl ?_
             refine D_tail (fun w727 hx727 => ?_)
             have hL728 := hL660.call hx727
             have hle728 := fz_ext hL660 hx727
             replace hG563 := hG563.trans (gz_mono hH hle728)
             refine S_seqnil ?_
             refine W_false rfl ?_
             refine W_skip ?_
             refine At_block ?_
             refine At_seq ?_
             refine W_region ?_
             refine S_pu 1 rfl ?_
             obtain ⟨hk729, h⟩ := Go.L.chk_some h
             refine S_v (r_ar64 rfl rfl rfl hk729) rfl ?_
             refine S_pu 1 rfl ?_
             refine S_nil ?_
             have hL730 := hL728.dropAt (i := 0) rfl
             replace hG563 := hG563.trans (gz_mono hH (fz_dropAt (i := 0) rfl))
             have h := Go.L.Nxt.again h hm561
             refine At_round ((s12_560 + (1 : Int)), n561) (.cons rfl (.cons rfl (.cons rfl (.cons rfl (.cons rfl (.cons rfl (Sub.nil _))))))) ⟨hL730, (hf561_0.mono hG563), (hf561_1.mono hG563), (hf561_2.mono hG563), (he561_r9.mono hG563), h⟩ (Nat.lt_succ_self _)
       ·replace h := Go.L.ite_n hc564 h
        refine W_exit ?_
        refine At_seq_exit ?_
        refine At_loop_exit ?_
        replace h := Go.L.Nxt.out h hm561
        refine At_exit ?_
        refine At_cut () (Sub.nil _) ⟨hL561, (he561_r9.mono hG563), h⟩
      ·rintro _ wr397 ⟨hL397, he397_r9, h⟩
       refine W_seqr ?_
       refine S_pu 1 rfl ?_
       refine S_seqnil ?_
       refine W_ret ?_
       obtain rfl := Option.some.inj h
       refine At_body rfl rfl ?_
       exact ⟨hL397.ext, rfl⟩
end Go.Proofs.YtdiieblgeaehpaaDoor
