/- Texts of a claim, merged. -/
import Derived.Test.YtmfiaecglndldaaGreatDoorKc5
import Derived.KernelRfl
set_option linter.unusedVariables false
set_option linter.unusedSimpArgs false
section
namespace Go.Proofs.YtmfiaecglndldaaGreatDoor
open Go Go.E Go.RowKit
set_option maxHeartbeats 1000000
set_option maxRecDepth 10000
open _root_.Go.Proofs.Tryz
noncomputable def shapes_Index_Find_1 (_a0 : ((List UInt8) × Int × Int × (List UInt8)) × (List Int)) : Option (Bool) :=
 some (true)
theorem shapes_Index_Find_1_ok (w : World) (H : PH) (_hH : Le H (hp w)) {a0 : ((List UInt8) × Int × Int × (List UInt8)) × (List Int)} {v0_0 : Value} (_h0_0 : Vec (.int .i64) H v0_0 (a0.2)) {r : Bool} (h : shapes_Index_Find_1 a0 = some r) :
  Ok Tryz.prog 61 [.agg #[.string ⟨(a0.1.1).toArray⟩, .int .i64 a0.1.2.1, .int .i64 a0.1.2.2.1, .string ⟨(a0.1.2.2.2).toArray⟩, v0_0]] w (fun v w' => Ext w w' ∧ v = .bool r) := by
 refine Ok_enter (n := 3) [(0, .agg #[.string ⟨(a0.1.1).toArray⟩, .int .i64 a0.1.2.1, .int .i64 a0.1.2.2.1, .string ⟨(a0.1.2.2.2).toArray⟩, v0_0])] func61 rfl rfl rfl rfl rfl ?_
 have hL := Lcl.start w
 refine W_seqr ?_
 refine S_box (t := 96) rfl rfl rfl hL ?_
 intro w1 b1 hL1 hle1 _
 refine S_pz 1 rfl ?_
 refine W_pz 1 rfl ?_
 refine W_ret ?_
 obtain rfl := Option.some.inj h
 refine At_body rfl rfl ?_
 exact ⟨hL1.ext, rfl⟩
noncomputable def shapes_Index_collect_k1 (l54 : List Int) : Option ((List Int)) :=
 Go.L.chk (l54.length < 4611686018427387904) (Go.L.chk ((srtI l54).length ≤ 9223372036854775807) (some ((Lib.compact (srtI l54)))))
noncomputable def shapes_Index_collect_bl2 (a0 : Int × (List (((List UInt8) × Int × Int × (List UInt8)) × (List Int)))) (a1 : List UInt8) : (List Int) × Int → Option (((List Int) × Int) ⊕ ((List Int))) := fun ⟨l81, s13_82⟩ =>
 if s13_82 < (a0.2.length : Int) then Go.L.chk (0 ≤ s13_82 ∧ s13_82 < (a0.2.length : Int)) (Option.bind (shapes_Index_Find_1 ((((a0.2.getD s13_82.toNat default).1).1, ((a0.2.getD s13_82.toNat default).1).2.1, ((a0.2.getD s13_82.toNat default).1).2.2.1, ((a0.2.getD s13_82.toNat default).1).2.2.2), (a0.2.getD s13_82.toNat default).2)) (fun x92 => if x92 then Option.bind (shapes_matches a1 (((a0.2.getD s13_82.toNat default).1).1)) (fun x96 => if x96 then Go.L.chk (Go.E.Cap 8 (l81.length + ((a0.2.getD s13_82.toNat default).2).length)) (Go.L.chk (Go.L.I64 (s13_82 + (1 : Int))) (some (Sum.inl ((l81 ++ (a0.2.getD s13_82.toNat default).2), (s13_82 + (1 : Int)))))) else Go.L.chk (Go.L.I64 (s13_82 + (1 : Int))) (some (Sum.inl (l81, (s13_82 + (1 : Int)))))) else Go.L.chk (Go.L.I64 (s13_82 + (1 : Int))) (some (Sum.inl (l81, (s13_82 + (1 : Int))))))) else Option.map Sum.inr (shapes_Index_collect_k1 l81)
noncomputable def shapes_Index_collect_l2 (a0 : Int × (List (((List UInt8) × Int × Int × (List UInt8)) × (List Int)))) (a1 : List UInt8) (s : (List Int) × Int) : Option ((List Int)) := Go.L.run (shapes_Index_collect_bl2 a0 a1) s
noncomputable def shapes_Index_collect (a0 : Int × (List (((List UInt8) × Int × Int × (List UInt8)) × (List Int)))) (a1 : List UInt8) : Option ((List Int)) :=
 (shapes_Index_collect_l2 a0 a1) (([] : List Int), (0 : Int))
theorem shapes_Index_collect_fr {w0 w : World} {H : PH} (hH : Le H (hp w0)) {O : List Res} {a0 : Int × (List (((List UInt8) × Int × Int × (List UInt8)) × (List Int)))} {a1 : List UInt8} {va0_1 : Value} (hL : Lcl w0 (HAppend.hAppend ([] : List Res) O) w) (ha0_1 : Vec (.pair (.pair .st (.pair (.int .i64) (.pair (.int .i64) .st))) (.vec (.int .i64))) (gz H w0 w (HAppend.hAppend ([] : List Res) O)) va0_1 (a0.2)) {r : (List Int)} (h : shapes_Index_collect a0 a1 = some r) :
  Ok Tryz.prog 60 [.agg #[.int .i64 a0.1, va0_1], .string ⟨(a1).toArray⟩, .func (.func 61) #[] #[]] w (fun v w' => ∃ (u0 : Value) (y0 : List Value), v = u0 ∧ Lcl w0 (HAppend.hAppend ([.row u0 3 1 (r).length y0] : List Res) O) w' ∧ Le (fz w (HAppend.hAppend ([] : List Res) O)) (fz w' (HAppend.hAppend ([.row u0 3 1 (r).length y0] : List Res) O)) ∧ Elems (.int .i64) (gz H w0 w' (HAppend.hAppend ([.row u0 3 1 (r).length y0] : List Res) O)) (r) y0) := by
 refine Ok_enter (n := 36) [(0, .agg #[.int .i64 a0.1, va0_1]), (1, .string ⟨(a1).toArray⟩), (2, .func (.func 61) #[] #[])] func60 rfl rfl rfl rfl rfl ?_
 have hT := Le.refl (fz w (HAppend.hAppend ([] : List Res) O))
 refine W_seqr ?_
 refine S_box (t := 47) rfl rfl rfl hL ?_
 intro w1 b1 hL1 hle1 _
 replace ha0_1 := ha0_1.mono (gz_mono hH hle1)
 replace hT := hT.trans hle1
 refine S_pz 1 rfl ?_
 refine W_p 1 rfl ?_
 obtain ⟨hL2, hle2, he2⟩ := row_nilE (.int .i64) H 3 hL1
 replace ha0_1 := ha0_1.mono (gz_mono hH hle2)
 replace hT := hT.trans hle2
 refine S_seqnil ?_
 refine W_cut (σ := (List Int) × Value × (List Value)) (fun ⟨l54, vl54, xsl54⟩ => [(7, vl54)]) (fun ⟨l54, vl54, xsl54⟩ wr => InO w0 (HAppend.hAppend ([.row (vl54) 3 1 (l54).length (xsl54), .box b1 [.int .i64 a0.1, va0_1] 47] : List Res) O) wr fun Oz => Elems (.int .i64) (gz H w0 wr Oz) (l54) (xsl54) ∧ Vec (.pair (.pair .st (.pair (.int .i64) (.pair (.int .i64) .st))) (.vec (.int .i64))) (gz H w0 wr Oz) (va0_1) (a0.2) ∧ Le (fz w (HAppend.hAppend ([] : List Res) O)) (fz wr Oz) ∧ shapes_Index_collect_k1 l54 = some r) ?_ ?_
 ·refine W_seqr ?_
  refine S_v (r_field rfl underlying47 rfl zr45 (by decide)) rfl ?_
  refine S_v (r_loadB1 1 rfl underlying45 rfl hL2 rfl rfl) rfl ?_
  refine S_v (r_len rfl underlying45 ha0_1) rfl ?_
  refine S_pz 1 rfl ?_
  refine W_block ?_
  obtain ⟨n83, h⟩ := Go.L.run_some h
  refine W_loop (σ := (List Int) × Int × Value × (List Value) × Nat) (fun ⟨l81, s13_82, vl81, xsl81, n⟩ => [(1, .string ⟨(a1).toArray⟩), (2, .func (.func 61) #[] #[]), (7, vl81), (11, va0_1), (12, .int .i64 (a0.2.length : Int)), (13, .int .i64 s13_82)]) (fun ⟨l81, s13_82, vl81, xsl81, n⟩ wr => InO w0 (HAppend.hAppend ([.row (vl81) 3 1 (l81).length (xsl81), .box b1 [.int .i64 a0.1, va0_1] 47] : List Res) O) wr fun Oz => Vec (.pair (.pair .st (.pair (.int .i64) (.pair (.int .i64) .st))) (.vec (.int .i64))) (gz H w0 wr Oz) (va0_1) (a0.2) ∧ Elems (.int .i64) (gz H w0 wr Oz) (l81) (xsl81) ∧ Le (fz w (HAppend.hAppend ([] : List Res) O)) (fz wr Oz) ∧ Go.L.itr (shapes_Index_collect_bl2 a0 a1) n (l81, s13_82) = some r) (fun ⟨l81, s13_82, vl81, xsl81, n⟩ => n) (([] : List Int), (0 : Int), .slice none 0 0, [], n83) (.cons rfl (.cons rfl (.cons rfl (.cons rfl (.cons rfl (.cons rfl (Sub.nil _))))))) ⟨hL2, ha0_1, he2, hT, h⟩ ?_
  rintro ⟨l81, s13_82, vl81, xsl81, nn83⟩ wr83 ⟨hL83, hf83_0, hel81, hT, h⟩
  obtain ⟨n83, e83, rfl, h, hm83⟩ := Go.L.itr_some h
  refine W_pz 1 rfl ?_
  refine W_seq ?_
  refine W_if rfl (fun hc85 => ?_) (fun hc85 => ?_)
  ·replace h := Go.L.ite_p hc85 h
   refine W_skip ?_
   refine At_seq ?_
   refine W_seq ?_
   refine W_block ?_
   refine W_seqr ?_
   obtain ⟨hk88, h⟩ := Go.L.chk_some h
   refine S_index rfl rfl underlying45 zr96 hf83_0 s13_82.toNat (Int.toNat_of_nonneg hk88.1).symm (idx_lt hk88) rfl ?_
   rintro p87 _ ⟨_, _, rfl, ⟨_, _, rfl, rfl, ⟨_, _, rfl, rfl, ⟨_, _, rfl, rfl, rfl⟩⟩⟩, ⟨e87v4, rfl, e87h4⟩⟩ hp87
   refine S_v (r_loadN rfl underlying96 rfl zr96 hp87 (gz_le hH hL83)) rfl ?_
   refine S_alloc zr96 rfl rfl hL83 ?_
   intro w89 b89 hL89 hle89 _
   replace hf83_0 := hf83_0.mono (gz_mono hH hle89)
   replace hel81 := hel81.mono (gz_mono hH hle89)
   replace hp87 := hp87.mono (gz_mono hH hle89)
   replace e87h4 := e87h4.mono (gz_mono hH hle89)
   replace hT := hT.trans hle89
   refine S_storeBN 0 rfl rfl rfl zr96 hL89 rfl rfl (onc rfl (onc rfl (onc rfl (onc rfl (onc e87h4.one on0))))) ?_
   intro w90 hL90 hle90
   replace hf83_0 := hf83_0.mono (gz_mono hH hle90)
   replace hel81 := hel81.mono (gz_mono hH hle90)
   replace hp87 := hp87.mono (gz_mono hH hle90)
   replace e87h4 := e87h4.mono (gz_mono hH hle90)
   replace hT := hT.trans hle90
   refine S_seqnil ?_
   have hG91 := hL90.rG H
   refine W_p 1 rfl ?_
   refine S_v (r_loadBN 0 rfl underlying96 rfl zr96 hL90 rfl) rfl ?_
   obtain ⟨x92, hb92, h⟩ := Go.L.bind_some h
   refine S_callwL rfl rfl rfl hL90 (shapes_Index_Find_1_ok _ _ (gz_le hH hL90) (e87h4.mono hG91) hb92) ?_
   rintro _ w93 rfl hx93 hL93 hle93
   replace hG91 := hG91.trans (gz_mono hH hle93)
   replace hT := hT.trans hle93
   refine S_pu 1 rfl ?_
   refine S_split (s := 20) rfl (fun hg94 => ?_) (fun hg94 => ?_)
   ·replace h := Go.L.ite_t hg94 h
    refine S_guarded rfl rfl hg94 ?_
    refine S_v (RunsAt_pu rfl) rfl ?_
    refine S_guarded rfl rfl hg94 ?_
    refine S_v (r_field rfl underlying96 rfl zr84 (by decide)) rfl ?_
    refine S_guarded rfl rfl hg94 ?_
    refine S_v (r_field rfl underlying84 rfl zr9 (by decide)) rfl ?_
    refine S_guarded rfl rfl hg94 ?_
    refine S_v (r_loadB1 0 rfl underlying9 rfl hL93 rfl rfl) rfl ?_
    refine S_guarded rfl rfl hg94 ?_
    obtain ⟨x96, hb96, h⟩ := Go.L.bind_some h
    refine S_callL rfl rfl hL93 (shapes_matches_ok _ _ (gz_le hH hL93) hb96) ?_
    rintro _ w97 rfl hx97 hL97 hle97
    replace hG91 := hG91.trans (gz_mono hH hle97)
    replace hT := hT.trans hle97
    refine S_v (r_pickT rfl hg94 rfl) rfl ?_
    refine S_seqnil ?_
    refine W_cond rfl (fun hc98 => ?_) (fun hc98 => ?_)
    ·replace h := Go.L.ite_t hc98 h
     refine W_region ?_
     refine S_pu 1 rfl ?_
     refine S_v (r_field rfl underlying96 rfl zr52 (by decide)) rfl ?_
     refine S_v (r_loadB1 0 rfl underlying52 rfl hL97 rfl rfl) rfl ?_
     obtain ⟨hk101, h⟩ := Go.L.chk_some h
     refine S_appE (r := (.int .i64)) (l := l81) (m := (a0.2.getD s13_82.toNat default).2) 1 rfl rfl underlying52 zr3 rfl (by decide) rfl hH hL97 rfl (hel81.mono hG91) (e87h4.mono hG91) hk101 ?_
     intro v100 w100 xs100 hL100 hle100 he100
     replace hG91 := hG91.trans (gz_mono hH hle100)
     replace hT := hT.trans hle100
     refine S_pu 1 rfl ?_
     refine S_nil ?_
     refine At_block ?_
     refine At_seq ?_
     refine W_region ?_
     obtain ⟨hk102, h⟩ := Go.L.chk_some h
     refine S_v (r_ar64 rfl rfl rfl hk102) rfl ?_
     refine S_pu 1 rfl ?_
     refine S_nil ?_
     have hL103 := hL100.dropAt (i := 0) rfl
     replace he100 := he100.mono (gz_mono hH (fz_dropAt (i := 0) rfl))
     replace hG91 := hG91.trans (gz_mono hH (fz_dropAt (i := 0) rfl))
     replace hT := hT.trans (fz_dropAt (i := 0) rfl)
     have h := Go.L.Nxt.again h hm83
     refine At_round ((l81 ++ (a0.2.getD s13_82.toNat default).2), (s13_82 + (1 : Int)), v100, xs100, n83) (.cons rfl (.cons rfl (.cons rfl (.cons rfl (.cons rfl (.cons rfl (Sub.nil _))))))) ⟨hL103, (hf83_0.mono hG91), he100, hT, h⟩ (Nat.lt_succ_self _)
    ·replace h := Go.L.ite_f hc98 h
     refine W_skip ?_
     refine At_block ?_
     refine At_seq ?_
     refine W_region ?_
     obtain ⟨hk105, h⟩ := Go.L.chk_some h
     refine S_v (r_ar64 rfl rfl rfl hk105) rfl ?_
     refine S_pu 1 rfl ?_
     refine S_nil ?_
     have hL106 := hL97.dropAt (i := 0) rfl
     replace hG91 := hG91.trans (gz_mono hH (fz_dropAt (i := 0) rfl))
     replace hT := hT.trans (fz_dropAt (i := 0) rfl)
     have h := Go.L.Nxt.again h hm83
     refine At_round (l81, (s13_82 + (1 : Int)), vl81, xsl81, n83) (.cons rfl (.cons rfl (.cons rfl (.cons rfl (.cons rfl (.cons rfl (Sub.nil _))))))) ⟨hL106, (hf83_0.mono hG91), (hel81.mono hG91), hT, h⟩ (Nat.lt_succ_self _)
   ·replace h := Go.L.ite_f hg94 h
    iterate 5 refine S_unwanted rfl rfl hg94 rfl ?_
    refine S_v (r_pickF rfl hg94 rfl) rfl ?_
    refine S_seqnil ?_
    refine W_false rfl ?_
    refine W_skip ?_
    refine At_block ?_
    refine At_seq ?_
    refine W_region ?_
    obtain ⟨hk108, h⟩ := Go.L.chk_some h
    refine S_v (r_ar64 rfl rfl rfl hk108) rfl ?_
    refine S_pu 1 rfl ?_
    refine S_nil ?_
    have hL109 := hL93.dropAt (i := 0) rfl
    replace hG91 := hG91.trans (gz_mono hH (fz_dropAt (i := 0) rfl))
    replace hT := hT.trans (fz_dropAt (i := 0) rfl)
    have h := Go.L.Nxt.again h hm83
    refine At_round (l81, (s13_82 + (1 : Int)), vl81, xsl81, n83) (.cons rfl (.cons rfl (.cons rfl (.cons rfl (.cons rfl (.cons rfl (Sub.nil _))))))) ⟨hL109, (hf83_0.mono hG91), (hel81.mono hG91), hT, h⟩ (Nat.lt_succ_self _)
  ·replace h := Go.L.ite_n hc85 h
   refine W_exit ?_
   refine At_seq_exit ?_
   refine At_loop_exit ?_
   replace h := Go.L.Nxt.out h hm83
   refine At_exit ?_
   refine At_cut (l81, vl81, xsl81) (.cons rfl (Sub.nil _)) ⟨hL83, hel81, hf83_0, hT, h⟩
 ·rintro ⟨l54, vl54, xsl54⟩ wr55 ⟨hL55, hel54, hf55_1, hT, h⟩
  refine W_p 1 rfl ?_
  obtain ⟨hk113, h⟩ := Go.L.chk_some h
  refine S_sortI (i := 0) Tryz.laySI rfl ⟨Tryz.f99, _, func99, rfl, rfl⟩ rfl rfl hH hL55 rfl hel54 hk113 ?_
  intro w112 xs112 hL112 hle112 he112
  replace hf55_1 := hf55_1.mono (gz_mono hH hle112)
  replace hT := hT.trans hle112
  refine S_seqnil ?_
  refine W_p 1 rfl ?_
  obtain ⟨hk115, h⟩ := Go.L.chk_some h
  refine S_compI (i := 0) Tryz.layCI rfl ⟨Tryz.f100, _, func100, rfl, rfl⟩ rfl rfl hH hL112 rfl he112 hk115 ?_
  intro v114 w114 xs114 hL114 hle114 he114
  replace hf55_1 := hf55_1.mono (gz_mono hH hle114)
  replace hT := hT.trans hle114
  refine S_pz 1 rfl ?_
  refine W_ret ?_
  obtain rfl := Option.some.inj h
  refine At_body rfl rfl ?_
  have hL116 := hL114.dropAt (i := 1) rfl
  replace hf55_1 := hf55_1.mono (gz_mono hH (fz_dropAt (i := 1) rfl))
  replace he114 := he114.mono (gz_mono hH (fz_dropAt (i := 1) rfl))
  replace hT := hT.trans (fz_dropAt (i := 1) rfl)
  exact ⟨v114, xs114, rfl, hL116, hT, he114⟩
noncomputable def shapes_Index_Find (a0 : Int × (List (((List UInt8) × Int × Int × (List UInt8)) × (List Int)))) (a1 : List UInt8) : Option ((List Int) × (Int × Int)) :=
 Option.bind (shapes_Check a1) (fun x3 => if x3.1 = (0 : Int) ∧ x3.2 = (0 : Int) then Option.bind (shapes_Index_collect (a0.1, a0.2) a1) (fun x15 => some (x15, ((0 : Int), (0 : Int)))) else some ([], (x3.1, x3.2)))
theorem shapes_Index_Find_ok (w : World) (H : PH) (hH : Le H (hp w)) {a0 : Int × (List (((List UInt8) × Int × Int × (List UInt8)) × (List Int)))} {a1 : List UInt8} {v0_0 : Value} (h0_0 : Vec (.pair (.pair .st (.pair (.int .i64) (.pair (.int .i64) .st))) (.vec (.int .i64))) H v0_0 (a0.2)) {r : (List Int) × (Int × Int)} (h : shapes_Index_Find a0 a1 = some r) :
  Ok Tryz.prog 28 [.agg #[.int .i64 a0.1, v0_0], .string ⟨(a1).toArray⟩] w (fun v w' => Ext w w' ∧ ∃ u0, v = .tuple #[u0, .agg #[.int .i64 r.2.1, .int .i64 r.2.2]] ∧ OwnH 3 (.int .i64) H w w' u0 (r.1)) := by
 refine Ok_enter (n := 17) [(0, .agg #[.int .i64 a0.1, v0_0]), (1, .string ⟨(a1).toArray⟩)] func28 rfl rfl rfl rfl rfl ?_
 have hL := Lcl.start w
 refine W_seqr ?_
 refine S_box (t := 47) rfl rfl rfl hL ?_
 intro w1 b1 hL1 hle1 _
 refine S_pu 1 rfl ?_
 refine S_alloc zr23 rfl rfl hL1 ?_
 intro w2 b2 hL2 hle2 _
 refine S_seqnil ?_
 refine W_seq ?_
 refine W_p 1 rfl ?_
 obtain ⟨x3, hb3, h⟩ := Go.L.bind_some h
 refine S_callL rfl rfl hL2 (shapes_Check_ok _ _ (gz_le hH hL2) hb3) ?_
 rintro _ w4 rfl hx4 hL4 hle4
 refine S_alloc zr23 rfl rfl hL4 ?_
 intro w5 b5 hL5 hle5 _
 refine S_storeBN 0 rfl rfl rfl zr23 hL5 rfl rfl (onc rfl (onc rfl on0)) ?_
 intro w6 hL6 hle6
 refine S_seqnil ?_
 refine W_seqr ?_
 refine S_v (r_loadBN 0 rfl underlying23 rfl zr23 hL6 rfl) rfl ?_
 refine S_v (r_build rfl (fun _ => bld23_z _)) rfl ?_
 refine S_v (r_neA rfl rfl eqg23 (eq23 _ _ _ _ )) rfl ?_
 refine S_seqnil ?_
 refine W_ifn rfl (fun hc7 => ?_) (fun hc7 => ?_)
 ·replace h := Go.L.ite_n hc7 h
  refine W_seqd (.q 0 (.q 1 (.tail 2))) mixed (by kernel_rfl) (fun w9 hx9 => ?_)
  have hL10 := hL6.call hx9
  refine D_v (r_loadBN 0 rfl underlying23 rfl zr23 hL10 rfl) rfl rfl ?_
  refine D_pu 1 rfl ?_
  refine D_tail (fun w11 hx11 => ?_)
  have hL12 := hL10.call hx11
  refine S_storeBN 1 rfl rfl rfl zr23 hL12 rfl rfl (onc rfl (onc rfl on0)) ?_
  intro w13 hL13 hle13
  refine S_seqnil ?_
  refine W_ret ?_
  refine At_seq_ret ?_
  obtain rfl := Option.some.inj h
  refine At_got2 rfl (.tmp rfl) (.cell rfl underlying23 rfl zr23 (box_ptr (i := 1) hL13 rfl)) ?_
  exact ⟨hL13.ext, _, rfl, OwnH.nil⟩
 ·replace h := Go.L.ite_p hc7 h
  refine W_skip ?_
  refine At_seq ?_
  refine W_seqr ?_
  refine S_v (r_loadBN 2 rfl underlying47 rfl zr47 hL6 rfl) rfl ?_
  refine S_pu 1 rfl ?_
  obtain ⟨x15, hb15, h⟩ := Go.L.bind_some h
  refine S_call rfl rfl (shapes_Index_collect_fr (a0 := (a0.1, a0.2)) (a1 := a1) (O := [.box b5 [.int .i64 x3.1, .int .i64 x3.2] 23, .box b2 [.int .i64 (0 : Int), .int .i64 (0 : Int)] 23, .box b1 [.int .i64 a0.1, v0_0] 47]) hH hL6 (h0_0.mono (gz_left hH)) hb15) ?_
  rintro u16_0 w16 ⟨_, y16_0, rfl, hL16, hle16, hf16_0⟩
  refine S_v (r_build rfl (fun _ => bld23_z _)) rfl ?_
  refine S_pu 1 rfl ?_
  refine S_storeBN 2 rfl rfl rfl zr23 hL16 rfl rfl (onc rfl (onc rfl on0)) ?_
  intro w17 hL17 hle17
  replace hf16_0 := hf16_0.mono (gz_mono hH hle17)
  refine S_seqnil ?_
  refine W_ret ?_
  obtain rfl := Option.some.inj h
  refine At_got2 rfl (.tmp rfl) (.cell rfl underlying23 rfl zr23 (box_ptr (i := 2) hL17 rfl)) ?_
  exact ⟨hL17.ext, _, rfl, (hL17.ownH hH (i := 0) rfl hf16_0)⟩
noncomputable def shapes_Index_Number_1 (a0 : ((List UInt8) × Int × Int × (List UInt8)) × (List Int)) (a1 : Int) (a2 : Int) : Option (Bool × Int × Int) :=
 if a0.1.2.1 = (1 : Int) then if a1 ≤ a0.1.2.2.1 then some (decide (a0.1.2.2.1 ≤ a2), a1, a2) else some (false, a1, a2) else some (false, a1, a2)
theorem shapes_Index_Number_1_fr {w0 w : World} {H : PH} (hH : Le H (hp w0)) {O : List Res} {a0 : ((List UInt8) × Int × Int × (List UInt8)) × (List Int)} {a1 : Int} {a2 : Int} {va0_4 : Value} {ba1 : Nat} {ba2 : Nat} (hL : Lcl w0 (HAppend.hAppend ([.box ba1 [.int .i64 a1] 3, .box ba2 [.int .i64 a2] 3] : List Res) O) w) (ha0_4 : Vec (.int .i64) (gz H w0 w (HAppend.hAppend ([.box ba1 [.int .i64 a1] 3, .box ba2 [.int .i64 a2] 3] : List Res) O)) va0_4 (a0.2)) {r : Bool × Int × Int} (h : shapes_Index_Number_1 a0 a1 a2 = some r) :
  Ok Tryz.prog 62 [.agg #[.string ⟨(a0.1.1).toArray⟩, .int .i64 a0.1.2.1, .int .i64 a0.1.2.2.1, .string ⟨(a0.1.2.2.2).toArray⟩, va0_4], .pointer (some ⟨ba1, 0, none⟩), .pointer (some ⟨ba2, 0, none⟩)] w (fun v w' => v = .bool r.1 ∧ Lcl w0 (HAppend.hAppend ([.box ba1 [.int .i64 r.2.1] 3, .box ba2 [.int .i64 r.2.2] 3] : List Res) O) w' ∧ Le (fz w (HAppend.hAppend ([.box ba1 [.int .i64 a1] 3, .box ba2 [.int .i64 a2] 3] : List Res) O)) (fz w' (HAppend.hAppend ([.box ba1 [.int .i64 r.2.1] 3, .box ba2 [.int .i64 r.2.2] 3] : List Res) O))) := by
 refine Ok_enter (n := 23) [(0, .agg #[.string ⟨(a0.1.1).toArray⟩, .int .i64 a0.1.2.1, .int .i64 a0.1.2.2.1, .string ⟨(a0.1.2.2.2).toArray⟩, va0_4]), (1, .pointer (some ⟨ba1, 0, none⟩)), (2, .pointer (some ⟨ba2, 0, none⟩))] func62 rfl rfl rfl rfl rfl ?_
 have hT := Le.refl (fz w (HAppend.hAppend ([.box ba1 [.int .i64 a1] 3, .box ba2 [.int .i64 a2] 3] : List Res) O))
 refine W_seqr ?_
 refine S_box (t := 96) rfl rfl rfl hL ?_
 intro w1 b1 hL1 hle1 _
 replace ha0_4 := ha0_4.mono (gz_mono hH hle1)
 replace hT := hT.trans hle1
 refine S_pz 1 rfl ?_
 refine W_seqr ?_
 refine S_v (r_field rfl underlying96 rfl zr84 (by decide)) rfl ?_
 refine S_v (r_field rfl underlying84 rfl zr3 (by decide)) rfl ?_
 refine S_v (r_loadB1 0 rfl underlying3 rfl hL1 rfl rfl) rfl ?_
 refine S_pu 2 rfl ?_
 refine S_split (s := 9) rfl (fun hg2 => ?_) (fun hg2 => ?_)
 ·replace h := Go.L.ite_p (of_decide_eq_true hg2) h
  refine S_guarded rfl rfl hg2 ?_
  refine S_v (r_field rfl underlying96 rfl zr84 (by decide)) rfl ?_
  refine S_guarded rfl rfl hg2 ?_
  refine S_v (r_field rfl underlying84 rfl zr3 (by decide)) rfl ?_
  refine S_guarded rfl rfl hg2 ?_
  refine S_v (r_loadB1 0 rfl underlying3 rfl hL1 rfl rfl) rfl ?_
  refine S_guarded rfl rfl hg2 ?_
  refine S_v (r_loadB1 1 rfl underlying3 rfl hL1 rfl rfl) rfl ?_
  refine S_guarded rfl rfl hg2 ?_
  refine S_v (RunsAt_pu rfl) rfl ?_
  refine S_v (r_pickT rfl hg2 rfl) rfl ?_
  refine S_pu 1 rfl ?_
  refine S_split (s := 16) rfl (fun hg4 => ?_) (fun hg4 => ?_)
  ·replace h := Go.L.ite_p (of_decide_eq_true hg4) h
   refine S_guarded rfl rfl hg4 ?_
   refine S_v (r_field rfl underlying96 rfl zr84 (by decide)) rfl ?_
   refine S_guarded rfl rfl hg4 ?_
   refine S_v (r_field rfl underlying84 rfl zr3 (by decide)) rfl ?_
   refine S_guarded rfl rfl hg4 ?_
   refine S_v (r_loadB1 0 rfl underlying3 rfl hL1 rfl rfl) rfl ?_
   refine S_guarded rfl rfl hg4 ?_
   refine S_v (r_loadB1 2 rfl underlying3 rfl hL1 rfl rfl) rfl ?_
   refine S_guarded rfl rfl hg4 ?_
   refine S_v (RunsAt_pu rfl) rfl ?_
   refine S_v (r_pickT rfl hg4 rfl) rfl ?_
   refine S_pz 1 rfl ?_
   refine W_ret ?_
   obtain rfl := Option.some.inj h
   refine At_body rfl rfl ?_
   have hL6 := hL1.dropAt (i := 0) rfl
   replace ha0_4 := ha0_4.mono (gz_mono hH (fz_dropAt (i := 0) rfl))
   replace hT := hT.trans (fz_dropAt (i := 0) rfl)
   exact ⟨rfl, hL6, hT⟩
  ·replace h := Go.L.ite_n (of_decide_eq_false hg4) h
   iterate 5 refine S_unwanted rfl rfl hg4 rfl ?_
   refine S_v (r_pickF rfl hg4 rfl) rfl ?_
   refine S_pz 1 rfl ?_
   refine W_ret ?_
   obtain rfl := Option.some.inj h
   refine At_body rfl rfl ?_
   have hL8 := hL1.dropAt (i := 0) rfl
   replace ha0_4 := ha0_4.mono (gz_mono hH (fz_dropAt (i := 0) rfl))
   replace hT := hT.trans (fz_dropAt (i := 0) rfl)
   exact ⟨rfl, hL8, hT⟩
 ·replace h := Go.L.ite_n (of_decide_eq_false hg2) h
  iterate 5 refine S_unwanted rfl rfl hg2 rfl ?_
  refine S_v (r_pickF rfl hg2 rfl) rfl ?_
  refine S_pu 1 rfl ?_
  iterate 5 refine S_unwanted rfl rfl rfl rfl ?_
  refine S_v (r_pickF rfl rfl rfl) rfl ?_
  refine S_pz 1 rfl ?_
  refine W_ret ?_
  obtain rfl := Option.some.inj h
  refine At_body rfl rfl ?_
  have hL10 := hL1.dropAt (i := 0) rfl
  replace ha0_4 := ha0_4.mono (gz_mono hH (fz_dropAt (i := 0) rfl))
  replace hT := hT.trans (fz_dropAt (i := 0) rfl)
  exact ⟨rfl, hL10, hT⟩
noncomputable def shapes_Index_collect_s2_k1 (l58 : List Int) (c59 : Int) (c60 : Int) : Option ((List Int) × Int × Int) :=
 Go.L.chk (l58.length < 4611686018427387904) (Go.L.chk ((srtI l58).length ≤ 9223372036854775807) (some ((Lib.compact (srtI l58)), c59, c60)))
noncomputable def shapes_Index_collect_s2_bl2 (a0 : Int × (List (((List UInt8) × Int × Int × (List UInt8)) × (List Int)))) (a1 : List UInt8) : (List Int) × Int × Int × Int → Option (((List Int) × Int × Int × Int) ⊕ ((List Int) × Int × Int)) := fun ⟨l88, c89, c90, s13_91⟩ =>
 if s13_91 < (a0.2.length : Int) then Go.L.chk (0 ≤ s13_91 ∧ s13_91 < (a0.2.length : Int)) (Option.bind (shapes_Index_Number_1 ((((a0.2.getD s13_91.toNat default).1).1, ((a0.2.getD s13_91.toNat default).1).2.1, ((a0.2.getD s13_91.toNat default).1).2.2.1, ((a0.2.getD s13_91.toNat default).1).2.2.2), (a0.2.getD s13_91.toNat default).2) c89 c90) (fun x102 => if x102.1 then Option.bind (shapes_matches a1 (((a0.2.getD s13_91.toNat default).1).1)) (fun x106 => if x106 then Go.L.chk (Go.E.Cap 8 (l88.length + ((a0.2.getD s13_91.toNat default).2).length)) (Go.L.chk (Go.L.I64 (s13_91 + (1 : Int))) (some (Sum.inl ((l88 ++ (a0.2.getD s13_91.toNat default).2), x102.2.1, x102.2.2, (s13_91 + (1 : Int)))))) else Go.L.chk (Go.L.I64 (s13_91 + (1 : Int))) (some (Sum.inl (l88, x102.2.1, x102.2.2, (s13_91 + (1 : Int)))))) else Go.L.chk (Go.L.I64 (s13_91 + (1 : Int))) (some (Sum.inl (l88, x102.2.1, x102.2.2, (s13_91 + (1 : Int))))))) else Option.map Sum.inr (shapes_Index_collect_s2_k1 l88 c89 c90)
noncomputable def shapes_Index_collect_s2_l2 (a0 : Int × (List (((List UInt8) × Int × Int × (List UInt8)) × (List Int)))) (a1 : List UInt8) (s : (List Int) × Int × Int × Int) : Option ((List Int) × Int × Int) := Go.L.run (shapes_Index_collect_s2_bl2 a0 a1) s
noncomputable def shapes_Index_collect_s2 (a0 : Int × (List (((List UInt8) × Int × Int × (List UInt8)) × (List Int)))) (a1 : List UInt8) (a2_c0 : Int) (a2_c1 : Int) : Option ((List Int) × Int × Int) :=
 (shapes_Index_collect_s2_l2 a0 a1) (([] : List Int), a2_c0, a2_c1, (0 : Int))
theorem shapes_Index_collect_s2_fr {w0 w : World} {H : PH} (hH : Le H (hp w0)) {O : List Res} {a0 : Int × (List (((List UInt8) × Int × Int × (List UInt8)) × (List Int)))} {a1 : List UInt8} {a2_c0 : Int} {a2_c1 : Int} {va0_1 : Value} {ba2_c0 : Nat} {ba2_c1 : Nat} (hL : Lcl w0 (HAppend.hAppend ([.box ba2_c0 [.int .i64 a2_c0] 3, .box ba2_c1 [.int .i64 a2_c1] 3] : List Res) O) w) (ha0_1 : Vec (.pair (.pair .st (.pair (.int .i64) (.pair (.int .i64) .st))) (.vec (.int .i64))) (gz H w0 w (HAppend.hAppend ([.box ba2_c0 [.int .i64 a2_c0] 3, .box ba2_c1 [.int .i64 a2_c1] 3] : List Res) O)) va0_1 (a0.2)) {r : (List Int) × Int × Int} (h : shapes_Index_collect_s2 a0 a1 a2_c0 a2_c1 = some r) :
  Ok Tryz.prog 60 [.agg #[.int .i64 a0.1, va0_1], .string ⟨(a1).toArray⟩, .func (.func 62) #[] #[.pointer (some ⟨ba2_c0, 0, none⟩), .pointer (some ⟨ba2_c1, 0, none⟩)]] w (fun v w' => ∃ (u0 : Value) (y0 : List Value), v = u0 ∧ Lcl w0 (HAppend.hAppend ([.row u0 3 1 (r.1).length y0, .box ba2_c0 [.int .i64 r.2.1] 3, .box ba2_c1 [.int .i64 r.2.2] 3] : List Res) O) w' ∧ Le (fz w (HAppend.hAppend ([.box ba2_c0 [.int .i64 a2_c0] 3, .box ba2_c1 [.int .i64 a2_c1] 3] : List Res) O)) (fz w' (HAppend.hAppend ([.row u0 3 1 (r.1).length y0, .box ba2_c0 [.int .i64 r.2.1] 3, .box ba2_c1 [.int .i64 r.2.2] 3] : List Res) O)) ∧ Elems (.int .i64) (gz H w0 w' (HAppend.hAppend ([.row u0 3 1 (r.1).length y0, .box ba2_c0 [.int .i64 r.2.1] 3, .box ba2_c1 [.int .i64 r.2.2] 3] : List Res) O)) (r.1) y0) := by
 refine Ok_enter (n := 36) [(0, .agg #[.int .i64 a0.1, va0_1]), (1, .string ⟨(a1).toArray⟩), (2, .func (.func 62) #[] #[.pointer (some ⟨ba2_c0, 0, none⟩), .pointer (some ⟨ba2_c1, 0, none⟩)])] func60 rfl rfl rfl rfl rfl ?_
 have hT := Le.refl (fz w (HAppend.hAppend ([.box ba2_c0 [.int .i64 a2_c0] 3, .box ba2_c1 [.int .i64 a2_c1] 3] : List Res) O))
 refine W_seqr ?_
 refine S_box (t := 47) rfl rfl rfl hL ?_
 intro w1 b1 hL1 hle1 _
 replace ha0_1 := ha0_1.mono (gz_mono hH hle1)
 replace hT := hT.trans hle1
 refine S_pz 1 rfl ?_
 refine W_p 1 rfl ?_
 obtain ⟨hL2, hle2, he2⟩ := row_nilE (.int .i64) H 3 hL1
 replace ha0_1 := ha0_1.mono (gz_mono hH hle2)
 replace hT := hT.trans hle2
 refine S_seqnil ?_
 refine W_cut (σ := (List Int) × Int × Int × Value × (List Value)) (fun ⟨l58, c59, c60, vl58, xsl58⟩ => [(7, vl58)]) (fun ⟨l58, c59, c60, vl58, xsl58⟩ wr => InO w0 (HAppend.hAppend ([.row (vl58) 3 1 (l58).length (xsl58), .box b1 [.int .i64 a0.1, va0_1] 47, .box ba2_c0 [.int .i64 c59] 3, .box ba2_c1 [.int .i64 c60] 3] : List Res) O) wr fun Oz => Elems (.int .i64) (gz H w0 wr Oz) (l58) (xsl58) ∧ Vec (.pair (.pair .st (.pair (.int .i64) (.pair (.int .i64) .st))) (.vec (.int .i64))) (gz H w0 wr Oz) (va0_1) (a0.2) ∧ Le (fz w (HAppend.hAppend ([.box ba2_c0 [.int .i64 a2_c0] 3, .box ba2_c1 [.int .i64 a2_c1] 3] : List Res) O)) (fz wr Oz) ∧ shapes_Index_collect_s2_k1 l58 c59 c60 = some r) ?_ ?_
 ·refine W_seqr ?_
  refine S_v (r_field rfl underlying47 rfl zr45 (by decide)) rfl ?_
  refine S_v (r_loadB1 1 rfl underlying45 rfl hL2 rfl rfl) rfl ?_
  refine S_v (r_len rfl underlying45 ha0_1) rfl ?_
  refine S_pz 1 rfl ?_
  refine W_block ?_
  obtain ⟨n92, h⟩ := Go.L.run_some h
  refine W_loop (σ := (List Int) × Int × Int × Int × Value × (List Value) × Nat) (fun ⟨l88, c89, c90, s13_91, vl88, xsl88, n⟩ => [(1, .string ⟨(a1).toArray⟩), (2, .func (.func 62) #[] #[.pointer (some ⟨ba2_c0, 0, none⟩), .pointer (some ⟨ba2_c1, 0, none⟩)]), (7, vl88), (11, va0_1), (12, .int .i64 (a0.2.length : Int)), (13, .int .i64 s13_91)]) (fun ⟨l88, c89, c90, s13_91, vl88, xsl88, n⟩ wr => InO w0 (HAppend.hAppend ([.row (vl88) 3 1 (l88).length (xsl88), .box b1 [.int .i64 a0.1, va0_1] 47, .box ba2_c0 [.int .i64 c89] 3, .box ba2_c1 [.int .i64 c90] 3] : List Res) O) wr fun Oz => Vec (.pair (.pair .st (.pair (.int .i64) (.pair (.int .i64) .st))) (.vec (.int .i64))) (gz H w0 wr Oz) (va0_1) (a0.2) ∧ Elems (.int .i64) (gz H w0 wr Oz) (l88) (xsl88) ∧ Le (fz w (HAppend.hAppend ([.box ba2_c0 [.int .i64 a2_c0] 3, .box ba2_c1 [.int .i64 a2_c1] 3] : List Res) O)) (fz wr Oz) ∧ Go.L.itr (shapes_Index_collect_s2_bl2 a0 a1) n (l88, c89, c90, s13_91) = some r) (fun ⟨l88, c89, c90, s13_91, vl88, xsl88, n⟩ => n) (([] : List Int), a2_c0, a2_c1, (0 : Int), .slice none 0 0, [], n92) (.cons rfl (.cons rfl (.cons rfl (.cons rfl (.cons rfl (.cons rfl (Sub.nil _))))))) ⟨hL2, ha0_1, he2, hT, h⟩ ?_
  rintro ⟨l88, c89, c90, s13_91, vl88, xsl88, nn92⟩ wr92 ⟨hL92, hf92_0, hel88, hT, h⟩
  obtain ⟨n92, e92, rfl, h, hm92⟩ := Go.L.itr_some h
  refine W_pz 1 rfl ?_
  refine W_seq ?_
  refine W_if rfl (fun hc94 => ?_) (fun hc94 => ?_)
  ·replace h := Go.L.ite_p hc94 h
   refine W_skip ?_
   refine At_seq ?_
   refine W_seq ?_
   refine W_block ?_
   refine W_seqr ?_
   obtain ⟨hk97, h⟩ := Go.L.chk_some h
   refine S_index rfl rfl underlying45 zr96 hf92_0 s13_91.toNat (Int.toNat_of_nonneg hk97.1).symm (idx_lt hk97) rfl ?_
   rintro p96 _ ⟨_, _, rfl, ⟨_, _, rfl, rfl, ⟨_, _, rfl, rfl, ⟨_, _, rfl, rfl, rfl⟩⟩⟩, ⟨e96v4, rfl, e96h4⟩⟩ hp96
   refine S_v (r_loadN rfl underlying96 rfl zr96 hp96 (gz_le hH hL92)) rfl ?_
   refine S_alloc zr96 rfl rfl hL92 ?_
   intro w98 b98 hL98 hle98 _
   replace hf92_0 := hf92_0.mono (gz_mono hH hle98)
   replace hel88 := hel88.mono (gz_mono hH hle98)
   replace hp96 := hp96.mono (gz_mono hH hle98)
   replace e96h4 := e96h4.mono (gz_mono hH hle98)
   replace hT := hT.trans hle98
   refine S_storeBN 0 rfl rfl rfl zr96 hL98 rfl rfl (onc rfl (onc rfl (onc rfl (onc rfl (onc e96h4.one on0))))) ?_
   intro w99 hL99 hle99
   replace hf92_0 := hf92_0.mono (gz_mono hH hle99)
   replace hel88 := hel88.mono (gz_mono hH hle99)
   replace hp96 := hp96.mono (gz_mono hH hle99)
   replace e96h4 := e96h4.mono (gz_mono hH hle99)
   replace hT := hT.trans hle99
   refine S_seqnil ?_
   have hG100 := hL99.rG H
   refine W_p 1 rfl ?_
   refine S_v (r_loadBN 0 rfl underlying96 rfl zr96 hL99 rfl) rfl ?_
   have hL101 : Lcl w0 (HAppend.hAppend ([.box ba2_c0 [.int .i64 c89] 3, .box ba2_c1 [.int .i64 c90] 3, .box b98 [.string ⟨(((a0.2.getD s13_91.toNat default).1).1).toArray⟩, .int .i64 (((a0.2.getD s13_91.toNat default).1).2.1), .int .i64 (((a0.2.getD s13_91.toNat default).1).2.2.1), .string ⟨(((a0.2.getD s13_91.toNat default).1).2.2.2).toArray⟩, e96v4] 96, .row (vl88) 3 1 (l88).length (xsl88), .box b1 [.int .i64 a0.1, va0_1] 47] : List Res) O) w99 := hL99.picks [4, 4] rfl
   have hle101 := fz_picks [4, 4] hL99 hL101 rfl
   replace hG100 := hG100.trans (gz_mono hH hle101)
   replace hT := hT.trans hle101
   obtain ⟨x102, hb102, h⟩ := Go.L.bind_some h
   refine S_callv rfl rfl rfl (shapes_Index_Number_1_fr (a0 := ((((a0.2.getD s13_91.toNat default).1).1, ((a0.2.getD s13_91.toNat default).1).2.1, ((a0.2.getD s13_91.toNat default).1).2.2.1, ((a0.2.getD s13_91.toNat default).1).2.2.2), (a0.2.getD s13_91.toNat default).2)) (a1 := c89) (a2 := c90) (O := (HAppend.hAppend ([.box b98 [.string ⟨(((a0.2.getD s13_91.toNat default).1).1).toArray⟩, .int .i64 (((a0.2.getD s13_91.toNat default).1).2.1), .int .i64 (((a0.2.getD s13_91.toNat default).1).2.2.1), .string ⟨(((a0.2.getD s13_91.toNat default).1).2.2.2).toArray⟩, e96v4] 96, .row (vl88) 3 1 (l88).length (xsl88), .box b1 [.int .i64 a0.1, va0_1] 47] : List Res) O)) hH hL101 (e96h4.mono hG100) hb102) ?_
   rintro _ w103 ⟨rfl, hL103, hle103⟩
   replace hG100 := hG100.trans (gz_mono hH hle103)
   replace hT := hT.trans hle103
   refine S_pu 1 rfl ?_
   refine S_split (s := 20) rfl (fun hg104 => ?_) (fun hg104 => ?_)
   ·replace h := Go.L.ite_t hg104 h
    refine S_guarded rfl rfl hg104 ?_
    refine S_v (RunsAt_pu rfl) rfl ?_
    refine S_guarded rfl rfl hg104 ?_
    refine S_v (r_field rfl underlying96 rfl zr84 (by decide)) rfl ?_
    refine S_guarded rfl rfl hg104 ?_
    refine S_v (r_field rfl underlying84 rfl zr9 (by decide)) rfl ?_
    refine S_guarded rfl rfl hg104 ?_
    refine S_v (r_loadB1 2 rfl underlying9 rfl hL103 rfl rfl) rfl ?_
    refine S_guarded rfl rfl hg104 ?_
    obtain ⟨x106, hb106, h⟩ := Go.L.bind_some h
    refine S_callL rfl rfl hL103 (shapes_matches_ok _ _ (gz_le hH hL103) hb106) ?_
    rintro _ w107 rfl hx107 hL107 hle107
    replace hG100 := hG100.trans (gz_mono hH hle107)
    replace hT := hT.trans hle107
    refine S_v (r_pickT rfl hg104 rfl) rfl ?_
    refine S_seqnil ?_
    refine W_cond rfl (fun hc108 => ?_) (fun hc108 => ?_)
    ·replace h := Go.L.ite_t hc108 h
     refine W_region ?_
     refine S_pu 1 rfl ?_
     refine S_v (r_field rfl underlying96 rfl zr52 (by decide)) rfl ?_
     refine S_v (r_loadB1 2 rfl underlying52 rfl hL107 rfl rfl) rfl ?_
     obtain ⟨hk111, h⟩ := Go.L.chk_some h
     refine S_appE (r := (.int .i64)) (l := l88) (m := (a0.2.getD s13_91.toNat default).2) 3 rfl rfl underlying52 zr3 rfl (by decide) rfl hH hL107 rfl (hel88.mono hG100) (e96h4.mono hG100) hk111 ?_
     intro v110 w110 xs110 hL110 hle110 he110
     replace hG100 := hG100.trans (gz_mono hH hle110)
     replace hT := hT.trans hle110
     refine S_pu 1 rfl ?_
     refine S_nil ?_
     refine At_block ?_
     refine At_seq ?_
     refine W_region ?_
     obtain ⟨hk112, h⟩ := Go.L.chk_some h
     refine S_v (r_ar64 rfl rfl rfl hk112) rfl ?_
     refine S_pu 1 rfl ?_
     refine S_nil ?_
     have hL113 := hL110.dropAt (i := 2) rfl
     replace he110 := he110.mono (gz_mono hH (fz_dropAt (i := 2) rfl))
     replace hG100 := hG100.trans (gz_mono hH (fz_dropAt (i := 2) rfl))
     replace hT := hT.trans (fz_dropAt (i := 2) rfl)
     have hL114 : Lcl w0 (HAppend.hAppend ([.row (v110) 3 1 ((l88 ++ (a0.2.getD s13_91.toNat default).2)).length (xs110), .box b1 [.int .i64 a0.1, va0_1] 47, .box ba2_c0 [.int .i64 x102.2.1] 3, .box ba2_c1 [.int .i64 x102.2.2] 3] : List Res) O) w110 := hL113.picks [3, 3] rfl
     have hle114 := fz_picks [3, 3] hL113 hL114 rfl
     replace he110 := he110.mono (gz_mono hH hle114)
     replace hG100 := hG100.trans (gz_mono hH hle114)
     replace hT := hT.trans hle114
     have h := Go.L.Nxt.again h hm92
     refine At_round ((l88 ++ (a0.2.getD s13_91.toNat default).2), x102.2.1, x102.2.2, (s13_91 + (1 : Int)), v110, xs110, n92) (.cons rfl (.cons rfl (.cons rfl (.cons rfl (.cons rfl (.cons rfl (Sub.nil _))))))) ⟨hL114, (hf92_0.mono hG100), he110, hT, h⟩ (Nat.lt_succ_self _)
    ·replace h := Go.L.ite_f hc108 h
     refine W_skip ?_
     refine At_block ?_
     refine At_seq ?_
     refine W_region ?_
     obtain ⟨hk116, h⟩ := Go.L.chk_some h
     refine S_v (r_ar64 rfl rfl rfl hk116) rfl ?_
     refine S_pu 1 rfl ?_
     refine S_nil ?_
     have hL117 := hL107.dropAt (i := 2) rfl
     replace hG100 := hG100.trans (gz_mono hH (fz_dropAt (i := 2) rfl))
     replace hT := hT.trans (fz_dropAt (i := 2) rfl)
     have hL118 : Lcl w0 (HAppend.hAppend ([.row (vl88) 3 1 (l88).length (xsl88), .box b1 [.int .i64 a0.1, va0_1] 47, .box ba2_c0 [.int .i64 x102.2.1] 3, .box ba2_c1 [.int .i64 x102.2.2] 3] : List Res) O) w107 := hL117.picks [3, 3] rfl
     have hle118 := fz_picks [3, 3] hL117 hL118 rfl
     replace hG100 := hG100.trans (gz_mono hH hle118)
     replace hT := hT.trans hle118
     have h := Go.L.Nxt.again h hm92
     refine At_round (l88, x102.2.1, x102.2.2, (s13_91 + (1 : Int)), vl88, xsl88, n92) (.cons rfl (.cons rfl (.cons rfl (.cons rfl (.cons rfl (.cons rfl (Sub.nil _))))))) ⟨hL118, (hf92_0.mono hG100), (hel88.mono hG100), hT, h⟩ (Nat.lt_succ_self _)
   ·replace h := Go.L.ite_f hg104 h
    iterate 5 refine S_unwanted rfl rfl hg104 rfl ?_
    refine S_v (r_pickF rfl hg104 rfl) rfl ?_
    refine S_seqnil ?_
    refine W_false rfl ?_
    refine W_skip ?_
    refine At_block ?_
    refine At_seq ?_
    refine W_region ?_
    obtain ⟨hk120, h⟩ := Go.L.chk_some h
    refine S_v (r_ar64 rfl rfl rfl hk120) rfl ?_
    refine S_pu 1 rfl ?_
    refine S_nil ?_
    have hL121 := hL103.dropAt (i := 2) rfl
    replace hG100 := hG100.trans (gz_mono hH (fz_dropAt (i := 2) rfl))
    replace hT := hT.trans (fz_dropAt (i := 2) rfl)
    have hL122 : Lcl w0 (HAppend.hAppend ([.row (vl88) 3 1 (l88).length (xsl88), .box b1 [.int .i64 a0.1, va0_1] 47, .box ba2_c0 [.int .i64 x102.2.1] 3, .box ba2_c1 [.int .i64 x102.2.2] 3] : List Res) O) w103 := hL121.picks [3, 3] rfl
    have hle122 := fz_picks [3, 3] hL121 hL122 rfl
    replace hG100 := hG100.trans (gz_mono hH hle122)
    replace hT := hT.trans hle122
    have h := Go.L.Nxt.again h hm92
    refine At_round (l88, x102.2.1, x102.2.2, (s13_91 + (1 : Int)), vl88, xsl88, n92) (.cons rfl (.cons rfl (.cons rfl (.cons rfl (.cons rfl (.cons rfl (Sub.nil _))))))) ⟨hL122, (hf92_0.mono hG100), (hel88.mono hG100), hT, h⟩ (Nat.lt_succ_self _)
  ·replace h := Go.L.ite_n hc94 h
   refine W_exit ?_
   refine At_seq_exit ?_
   refine At_loop_exit ?_
   replace h := Go.L.Nxt.out h hm92
   refine At_exit ?_
   refine At_cut (l88, c89, c90, vl88, xsl88) (.cons rfl (Sub.nil _)) ⟨hL92, hel88, hf92_0, hT, h⟩
 ·rintro ⟨l58, c59, c60, vl58, xsl58⟩ wr61 ⟨hL61, hel58, hf61_1, hT, h⟩
  refine W_p 1 rfl ?_
  obtain ⟨hk126, h⟩ := Go.L.chk_some h
  refine S_sortI (i := 0) Tryz.laySI rfl ⟨Tryz.f99, _, func99, rfl, rfl⟩ rfl rfl hH hL61 rfl hel58 hk126 ?_
  intro w125 xs125 hL125 hle125 he125
  replace hf61_1 := hf61_1.mono (gz_mono hH hle125)
  replace hT := hT.trans hle125
  refine S_seqnil ?_
  refine W_p 1 rfl ?_
  obtain ⟨hk128, h⟩ := Go.L.chk_some h
  refine S_compI (i := 0) Tryz.layCI rfl ⟨Tryz.f100, _, func100, rfl, rfl⟩ rfl rfl hH hL125 rfl he125 hk128 ?_
  intro v127 w127 xs127 hL127 hle127 he127
  replace hf61_1 := hf61_1.mono (gz_mono hH hle127)
  replace hT := hT.trans hle127
  refine S_pz 1 rfl ?_
  refine W_ret ?_
  obtain rfl := Option.some.inj h
  refine At_body rfl rfl ?_
  have hL129 := hL127.dropAt (i := 1) rfl
  replace hf61_1 := hf61_1.mono (gz_mono hH (fz_dropAt (i := 1) rfl))
  replace he127 := he127.mono (gz_mono hH (fz_dropAt (i := 1) rfl))
  replace hT := hT.trans (fz_dropAt (i := 1) rfl)
  exact ⟨v127, xs127, rfl, hL129, hT, he127⟩
noncomputable def shapes_Index_Number (a0 : Int × (List (((List UInt8) × Int × Int × (List UInt8)) × (List Int)))) (a1 : List UInt8) (a2 : Int) (a3 : Int) : Option ((List Int) × (Int × Int)) :=
 Option.bind (shapes_Check a1) (fun x5 => if x5.1 = (0 : Int) ∧ x5.2 = (0 : Int) then (if a3 < a2 then Option.bind (shapes_fault (4 : Int) (-3 : Int)) (fun x19 => some ([], (x19.1, x19.2))) else Option.bind (shapes_Index_collect_s2 (a0.1, a0.2) a1 a2 a3) (fun x24 => some (x24.1, ((0 : Int), (0 : Int))))) else some ([], (x5.1, x5.2)))
theorem shapes_Index_Number_ok (w : World) (H : PH) (hH : Le H (hp w)) {a0 : Int × (List (((List UInt8) × Int × Int × (List UInt8)) × (List Int)))} {a1 : List UInt8} {a2 : Int} {a3 : Int} {v0_0 : Value} (h0_0 : Vec (.pair (.pair .st (.pair (.int .i64) (.pair (.int .i64) .st))) (.vec (.int .i64))) H v0_0 (a0.2)) {r : (List Int) × (Int × Int)} (h : shapes_Index_Number a0 a1 a2 a3 = some r) :
  Ok Tryz.prog 29 [.agg #[.int .i64 a0.1, v0_0], .string ⟨(a1).toArray⟩, .int .i64 a2, .int .i64 a3] w (fun v w' => Ext w w' ∧ ∃ u0, v = .tuple #[u0, .agg #[.int .i64 r.2.1, .int .i64 r.2.2]] ∧ OwnH 3 (.int .i64) H w w' u0 (r.1)) := by
 refine Ok_enter (n := 26) [(0, .agg #[.int .i64 a0.1, v0_0]), (1, .string ⟨(a1).toArray⟩), (2, .int .i64 a2), (3, .int .i64 a3)] func29 rfl rfl rfl rfl rfl ?_
 have hL := Lcl.start w
 refine W_seqr ?_
 refine S_box (t := 47) rfl rfl rfl hL ?_
 intro w1 b1 hL1 hle1 _
 refine S_box1 (t := 3) rfl rfl rfl hL1 ?_
 intro w2 b2 hL2 hle2 _
 refine S_box1 (t := 3) rfl rfl rfl hL2 ?_
 intro w3 b3 hL3 hle3 _
 refine S_pu 1 rfl ?_
 refine S_alloc zr23 rfl rfl hL3 ?_
 intro w4 b4 hL4 hle4 _
 refine S_seqnil ?_
 refine W_seq ?_
 refine W_p 1 rfl ?_
 obtain ⟨x5, hb5, h⟩ := Go.L.bind_some h
 refine S_callL rfl rfl hL4 (shapes_Check_ok _ _ (gz_le hH hL4) hb5) ?_
 rintro _ w6 rfl hx6 hL6 hle6
 refine S_alloc zr23 rfl rfl hL6 ?_
 intro w7 b7 hL7 hle7 _
 refine S_storeBN 0 rfl rfl rfl zr23 hL7 rfl rfl (onc rfl (onc rfl on0)) ?_
 intro w8 hL8 hle8
 refine S_seqnil ?_
 refine W_seqr ?_
 refine S_v (r_loadBN 0 rfl underlying23 rfl zr23 hL8 rfl) rfl ?_
 refine S_v (r_build rfl (fun _ => bld23_z _)) rfl ?_
 refine S_v (r_neA rfl rfl eqg23 (eq23 _ _ _ _ )) rfl ?_
 refine S_seqnil ?_
 refine W_ifn rfl (fun hc9 => ?_) (fun hc9 => ?_)
 ·replace h := Go.L.ite_n hc9 h
  refine W_seqd (.q 0 (.q 1 (.tail 2))) mixed (by kernel_rfl) (fun w11 hx11 => ?_)
  have hL12 := hL8.call hx11
  refine D_v (r_loadBN 0 rfl underlying23 rfl zr23 hL12 rfl) rfl rfl ?_
  refine D_pu 1 rfl ?_
  refine D_tail (fun w13 hx13 => ?_)
  have hL14 := hL12.call hx13
  refine S_storeBN 1 rfl rfl rfl zr23 hL14 rfl rfl (onc rfl (onc rfl on0)) ?_
  intro w15 hL15 hle15
  refine S_seqnil ?_
  refine W_ret ?_
  refine At_seq_ret ?_
  obtain rfl := Option.some.inj h
  refine At_got2 rfl (.tmp rfl) (.cell rfl underlying23 rfl zr23 (box_ptr (i := 1) hL15 rfl)) ?_
  exact ⟨hL15.ext, _, rfl, OwnH.nil⟩
 ·replace h := Go.L.ite_p hc9 h
  refine W_skip ?_
  refine At_seq ?_
  refine W_seq ?_
  refine W_seqr ?_
  refine S_v (r_loadB1 3 rfl underlying3 rfl hL8 rfl rfl) rfl ?_
  refine S_v (r_loadB1 2 rfl underlying3 rfl hL8 rfl rfl) rfl ?_
  refine S_pz 1 rfl ?_
  refine W_if rfl (fun hc17 => ?_) (fun hc17 => ?_)
  ·replace h := Go.L.ite_p hc17 h
   refine W_seqr ?_
   obtain ⟨x19, hb19, h⟩ := Go.L.bind_some h
   refine S_callL rfl rfl hL8 (shapes_fault_ok _ _ (gz_le hH hL8) hb19) ?_
   rintro _ w20 rfl hx20 hL20 hle20
   refine S_pu 1 rfl ?_
   refine S_storeBN 1 rfl rfl rfl zr23 hL20 rfl rfl (onc rfl (onc rfl on0)) ?_
   intro w21 hL21 hle21
   refine S_seqnil ?_
   refine W_ret ?_
   refine At_seq_ret ?_
   obtain rfl := Option.some.inj h
   refine At_got2 rfl (.tmp rfl) (.cell rfl underlying23 rfl zr23 (box_ptr (i := 1) hL21 rfl)) ?_
   exact ⟨hL21.ext, _, rfl, OwnH.nil⟩
  ·replace h := Go.L.ite_n hc17 h
   refine W_skip ?_
   refine At_seq ?_
   refine W_seqr ?_
   refine S_v (r_loadBN 4 rfl underlying47 rfl zr47 hL8 rfl) rfl ?_
   refine S_pu 2 rfl ?_
   have hL23 : Lcl w [.box b2 [.int .i64 a2] 3, .box b3 [.int .i64 a3] 3, .box b7 [.int .i64 x5.1, .int .i64 x5.2] 23, .box b4 [.int .i64 (0 : Int), .int .i64 (0 : Int)] 23, .box b1 [.int .i64 a0.1, v0_0] 47] w8 := hL8.picks [2, 3] rfl
   have hle23 := fz_picks [2, 3] hL8 hL23 rfl
   obtain ⟨x24, hb24, h⟩ := Go.L.bind_some h
   refine S_call rfl rfl (shapes_Index_collect_s2_fr (a0 := (a0.1, a0.2)) (a1 := a1) (a2_c0 := a2) (a2_c1 := a3) (O := [.box b7 [.int .i64 x5.1, .int .i64 x5.2] 23, .box b4 [.int .i64 (0 : Int), .int .i64 (0 : Int)] 23, .box b1 [.int .i64 a0.1, v0_0] 47]) hH hL23 (h0_0.mono (gz_left hH)) hb24) ?_
   rintro u25_0 w25 ⟨_, y25_0, rfl, hL25, hle25, hf25_0⟩
   refine S_v (r_build rfl (fun _ => bld23_z _)) rfl ?_
   refine S_pu 1 rfl ?_
   refine S_storeBN 4 rfl rfl rfl zr23 hL25 rfl rfl (onc rfl (onc rfl on0)) ?_
   intro w26 hL26 hle26
   replace hf25_0 := hf25_0.mono (gz_mono hH hle26)
   refine S_seqnil ?_
   refine W_ret ?_
   obtain rfl := Option.some.inj h
   refine At_got2 rfl (.tmp rfl) (.cell rfl underlying23 rfl zr23 (box_ptr (i := 4) hL26 rfl)) ?_
   exact ⟨hL26.ext, _, rfl, (hL26.ownH hH (i := 0) rfl hf25_0)⟩
noncomputable def shapes_Index_Text_1 (a0 : ((List UInt8) × Int × Int × (List UInt8)) × (List Int)) (a1 : List UInt8) : Option (Bool × (List UInt8)) :=
 if a0.1.2.1 = (2 : Int) then some (decide (a0.1.2.2.2 = a1), a1) else some (false, a1)
theorem shapes_Index_Text_1_fr {w0 w : World} {H : PH} (hH : Le H (hp w0)) {O : List Res} {a0 : ((List UInt8) × Int × Int × (List UInt8)) × (List Int)} {a1 : List UInt8} {va0_4 : Value} {ba1 : Nat} {va1_0 : Value} (hL : Lcl w0 (HAppend.hAppend ([.box ba1 [va1_0] 35] : List Res) O) w) (ha0_4 : Vec (.int .i64) (gz H w0 w (HAppend.hAppend ([.box ba1 [va1_0] 35] : List Res) O)) va0_4 (a0.2)) (ha1_0 : Vec .byte (gz H w0 w (HAppend.hAppend ([.box ba1 [va1_0] 35] : List Res) O)) va1_0 (a1)) {r : Bool × (List UInt8)} (h : shapes_Index_Text_1 a0 a1 = some r) :
  Ok Tryz.prog 63 [.agg #[.string ⟨(a0.1.1).toArray⟩, .int .i64 a0.1.2.1, .int .i64 a0.1.2.2.1, .string ⟨(a0.1.2.2.2).toArray⟩, va0_4], .pointer (some ⟨ba1, 0, none⟩)] w (fun v w' => ∃ (u1 : Value), v = .bool r.1 ∧ Lcl w0 (HAppend.hAppend ([.box ba1 [u1] 35] : List Res) O) w' ∧ Le (fz w (HAppend.hAppend ([.box ba1 [va1_0] 35] : List Res) O)) (fz w' (HAppend.hAppend ([.box ba1 [u1] 35] : List Res) O)) ∧ Vec .byte (gz H w0 w' (HAppend.hAppend ([.box ba1 [u1] 35] : List Res) O)) u1 (r.2)) := by
 refine Ok_enter (n := 16) [(0, .agg #[.string ⟨(a0.1.1).toArray⟩, .int .i64 a0.1.2.1, .int .i64 a0.1.2.2.1, .string ⟨(a0.1.2.2.2).toArray⟩, va0_4]), (1, .pointer (some ⟨ba1, 0, none⟩))] func63 rfl rfl rfl rfl rfl ?_
 have hT := Le.refl (fz w (HAppend.hAppend ([.box ba1 [va1_0] 35] : List Res) O))
 refine W_seqr ?_
 refine S_box (t := 96) rfl rfl rfl hL ?_
 intro w1 b1 hL1 hle1 _
 replace ha0_4 := ha0_4.mono (gz_mono hH hle1)
 replace ha1_0 := ha1_0.mono (gz_mono hH hle1)
 replace hT := hT.trans hle1
 refine S_pz 1 rfl ?_
 refine W_seqr ?_
 refine S_v (r_field rfl underlying96 rfl zr84 (by decide)) rfl ?_
 refine S_v (r_field rfl underlying84 rfl zr3 (by decide)) rfl ?_
 refine S_v (r_loadB1 0 rfl underlying3 rfl hL1 rfl rfl) rfl ?_
 refine S_pu 2 rfl ?_
 refine S_split (s := 8) rfl (fun hg2 => ?_) (fun hg2 => ?_)
 ·replace h := Go.L.ite_p (of_decide_eq_true hg2) h
  refine S_guarded rfl rfl hg2 ?_
  refine S_v (r_field rfl underlying96 rfl zr84 (by decide)) rfl ?_
  refine S_guarded rfl rfl hg2 ?_
  refine S_v (r_field rfl underlying84 rfl zr9 (by decide)) rfl ?_
  refine S_guarded rfl rfl hg2 ?_
  refine S_v (r_loadB1 0 rfl underlying9 rfl hL1 rfl rfl) rfl ?_
  refine S_guarded rfl rfl hg2 ?_
  refine S_v (r_loadB1 1 rfl underlying35 rfl hL1 rfl rfl) rfl ?_
  refine S_guarded rfl rfl hg2 ?_
  refine S_v (r_str rfl underlying35 underlying5 underlying9 ha1_0 (gz_le hH hL1)) rfl ?_
  refine S_guarded rfl rfl hg2 ?_
  refine S_v (r_seq rfl rfl) rfl ?_
  refine S_v (r_pickT rfl hg2 rfl) rfl ?_
  refine S_pz 1 rfl ?_
  refine W_ret ?_
  obtain rfl := Option.some.inj h
  refine At_body rfl rfl ?_
  have hL4 := hL1.dropAt (i := 0) rfl
  replace ha0_4 := ha0_4.mono (gz_mono hH (fz_dropAt (i := 0) rfl))
  replace ha1_0 := ha1_0.mono (gz_mono hH (fz_dropAt (i := 0) rfl))
  replace hT := hT.trans (fz_dropAt (i := 0) rfl)
  exact ⟨va1_0, rfl, hL4, hT, ha1_0⟩
 ·replace h := Go.L.ite_n (of_decide_eq_false hg2) h
  iterate 6 refine S_unwanted rfl rfl hg2 rfl ?_
  refine S_v (r_pickF rfl hg2 rfl) rfl ?_
  refine S_pz 1 rfl ?_
  refine W_ret ?_
  obtain rfl := Option.some.inj h
  refine At_body rfl rfl ?_
  have hL6 := hL1.dropAt (i := 0) rfl
  replace ha0_4 := ha0_4.mono (gz_mono hH (fz_dropAt (i := 0) rfl))
  replace ha1_0 := ha1_0.mono (gz_mono hH (fz_dropAt (i := 0) rfl))
  replace hT := hT.trans (fz_dropAt (i := 0) rfl)
  exact ⟨va1_0, rfl, hL6, hT, ha1_0⟩
noncomputable def shapes_Index_collect_s3_k1 (l59 : List Int) (c60 : List UInt8) : Option ((List Int) × (List UInt8)) :=
 Go.L.chk (l59.length < 4611686018427387904) (Go.L.chk ((srtI l59).length ≤ 9223372036854775807) (some ((Lib.compact (srtI l59)), c60)))
noncomputable def shapes_Index_collect_s3_bl2 (a0 : Int × (List (((List UInt8) × Int × Int × (List UInt8)) × (List Int)))) (a1 : List UInt8) : (List Int) × (List UInt8) × Int → Option (((List Int) × (List UInt8) × Int) ⊕ ((List Int) × (List UInt8))) := fun ⟨l89, c90, s13_91⟩ =>
 if s13_91 < (a0.2.length : Int) then Go.L.chk (0 ≤ s13_91 ∧ s13_91 < (a0.2.length : Int)) (Option.bind (shapes_Index_Text_1 ((((a0.2.getD s13_91.toNat default).1).1, ((a0.2.getD s13_91.toNat default).1).2.1, ((a0.2.getD s13_91.toNat default).1).2.2.1, ((a0.2.getD s13_91.toNat default).1).2.2.2), (a0.2.getD s13_91.toNat default).2) c90) (fun x102 => if x102.1 then Option.bind (shapes_matches a1 (((a0.2.getD s13_91.toNat default).1).1)) (fun x106 => if x106 then Go.L.chk (Go.E.Cap 8 (l89.length + ((a0.2.getD s13_91.toNat default).2).length)) (Go.L.chk (Go.L.I64 (s13_91 + (1 : Int))) (some (Sum.inl ((l89 ++ (a0.2.getD s13_91.toNat default).2), x102.2, (s13_91 + (1 : Int)))))) else Go.L.chk (Go.L.I64 (s13_91 + (1 : Int))) (some (Sum.inl (l89, x102.2, (s13_91 + (1 : Int)))))) else Go.L.chk (Go.L.I64 (s13_91 + (1 : Int))) (some (Sum.inl (l89, x102.2, (s13_91 + (1 : Int))))))) else Option.map Sum.inr (shapes_Index_collect_s3_k1 l89 c90)
noncomputable def shapes_Index_collect_s3_l2 (a0 : Int × (List (((List UInt8) × Int × Int × (List UInt8)) × (List Int)))) (a1 : List UInt8) (s : (List Int) × (List UInt8) × Int) : Option ((List Int) × (List UInt8)) := Go.L.run (shapes_Index_collect_s3_bl2 a0 a1) s
noncomputable def shapes_Index_collect_s3 (a0 : Int × (List (((List UInt8) × Int × Int × (List UInt8)) × (List Int)))) (a1 : List UInt8) (a2_c0 : List UInt8) : Option ((List Int) × (List UInt8)) :=
 (shapes_Index_collect_s3_l2 a0 a1) (([] : List Int), a2_c0, (0 : Int))
theorem shapes_Index_collect_s3_fr {w0 w : World} {H : PH} (hH : Le H (hp w0)) {O : List Res} {a0 : Int × (List (((List UInt8) × Int × Int × (List UInt8)) × (List Int)))} {a1 : List UInt8} {a2_c0 : List UInt8} {va0_1 : Value} {ba2_c0 : Nat} {va2_c0_0 : Value} (hL : Lcl w0 (HAppend.hAppend ([.box ba2_c0 [va2_c0_0] 35] : List Res) O) w) (ha0_1 : Vec (.pair (.pair .st (.pair (.int .i64) (.pair (.int .i64) .st))) (.vec (.int .i64))) (gz H w0 w (HAppend.hAppend ([.box ba2_c0 [va2_c0_0] 35] : List Res) O)) va0_1 (a0.2)) (ha2_c0_0 : Vec .byte (gz H w0 w (HAppend.hAppend ([.box ba2_c0 [va2_c0_0] 35] : List Res) O)) va2_c0_0 (a2_c0)) {r : (List Int) × (List UInt8)} (h : shapes_Index_collect_s3 a0 a1 a2_c0 = some r) :
  Ok Tryz.prog 60 [.agg #[.int .i64 a0.1, va0_1], .string ⟨(a1).toArray⟩, .func (.func 63) #[] #[.pointer (some ⟨ba2_c0, 0, none⟩)]] w (fun v w' => ∃ (u0 : Value) (y0 : List Value) (u1 : Value), v = u0 ∧ Lcl w0 (HAppend.hAppend ([.row u0 3 1 (r.1).length y0, .box ba2_c0 [u1] 35] : List Res) O) w' ∧ Le (fz w (HAppend.hAppend ([.box ba2_c0 [va2_c0_0] 35] : List Res) O)) (fz w' (HAppend.hAppend ([.row u0 3 1 (r.1).length y0, .box ba2_c0 [u1] 35] : List Res) O)) ∧ Elems (.int .i64) (gz H w0 w' (HAppend.hAppend ([.row u0 3 1 (r.1).length y0, .box ba2_c0 [u1] 35] : List Res) O)) (r.1) y0 ∧ Vec .byte (gz H w0 w' (HAppend.hAppend ([.row u0 3 1 (r.1).length y0, .box ba2_c0 [u1] 35] : List Res) O)) u1 (r.2)) := by
 refine Ok_enter (n := 36) [(0, .agg #[.int .i64 a0.1, va0_1]), (1, .string ⟨(a1).toArray⟩), (2, .func (.func 63) #[] #[.pointer (some ⟨ba2_c0, 0, none⟩)])] func60 rfl rfl rfl rfl rfl ?_
 have hT := Le.refl (fz w (HAppend.hAppend ([.box ba2_c0 [va2_c0_0] 35] : List Res) O))
 refine W_seqr ?_
 refine S_box (t := 47) rfl rfl rfl hL ?_
 intro w1 b1 hL1 hle1 _
 replace ha0_1 := ha0_1.mono (gz_mono hH hle1)
 replace ha2_c0_0 := ha2_c0_0.mono (gz_mono hH hle1)
 replace hT := hT.trans hle1
 refine S_pz 1 rfl ?_
 refine W_p 1 rfl ?_
 obtain ⟨hL2, hle2, he2⟩ := row_nilE (.int .i64) H 3 hL1
 replace ha0_1 := ha0_1.mono (gz_mono hH hle2)
 replace ha2_c0_0 := ha2_c0_0.mono (gz_mono hH hle2)
 replace hT := hT.trans hle2
 refine S_seqnil ?_
 refine W_cut (σ := (List Int) × (List UInt8) × Value × (List Value) × Value) (fun ⟨l59, c60, vl59, xsl59, vc60⟩ => [(7, vl59)]) (fun ⟨l59, c60, vl59, xsl59, vc60⟩ wr => InO w0 (HAppend.hAppend ([.row (vl59) 3 1 (l59).length (xsl59), .box b1 [.int .i64 a0.1, va0_1] 47, .box ba2_c0 [vc60] 35] : List Res) O) wr fun Oz => Elems (.int .i64) (gz H w0 wr Oz) (l59) (xsl59) ∧ Vec (.pair (.pair .st (.pair (.int .i64) (.pair (.int .i64) .st))) (.vec (.int .i64))) (gz H w0 wr Oz) (va0_1) (a0.2) ∧ Vec .byte (gz H w0 wr Oz) (vc60) (c60) ∧ Le (fz w (HAppend.hAppend ([.box ba2_c0 [va2_c0_0] 35] : List Res) O)) (fz wr Oz) ∧ shapes_Index_collect_s3_k1 l59 c60 = some r) ?_ ?_
 ·have hG63 := hL2.rG H
  refine W_seqr ?_
  refine S_v (r_field rfl underlying47 rfl zr45 (by decide)) rfl ?_
  refine S_v (r_loadB1 1 rfl underlying45 rfl hL2 rfl rfl) rfl ?_
  refine S_v (r_len rfl underlying45 (ha0_1.mono hG63)) rfl ?_
  refine S_pz 1 rfl ?_
  refine W_block ?_
  obtain ⟨n92, h⟩ := Go.L.run_some h
  refine W_loop (σ := (List Int) × (List UInt8) × Int × Value × (List Value) × Value × Nat) (fun ⟨l89, c90, s13_91, vl89, xsl89, vc90, n⟩ => [(1, .string ⟨(a1).toArray⟩), (2, .func (.func 63) #[] #[.pointer (some ⟨ba2_c0, 0, none⟩)]), (7, vl89), (11, va0_1), (12, .int .i64 (a0.2.length : Int)), (13, .int .i64 s13_91)]) (fun ⟨l89, c90, s13_91, vl89, xsl89, vc90, n⟩ wr => InO w0 (HAppend.hAppend ([.row (vl89) 3 1 (l89).length (xsl89), .box b1 [.int .i64 a0.1, va0_1] 47, .box ba2_c0 [vc90] 35] : List Res) O) wr fun Oz => Vec (.pair (.pair .st (.pair (.int .i64) (.pair (.int .i64) .st))) (.vec (.int .i64))) (gz H w0 wr Oz) (va0_1) (a0.2) ∧ Elems (.int .i64) (gz H w0 wr Oz) (l89) (xsl89) ∧ Vec .byte (gz H w0 wr Oz) (vc90) (c90) ∧ Le (fz w (HAppend.hAppend ([.box ba2_c0 [va2_c0_0] 35] : List Res) O)) (fz wr Oz) ∧ Go.L.itr (shapes_Index_collect_s3_bl2 a0 a1) n (l89, c90, s13_91) = some r) (fun ⟨l89, c90, s13_91, vl89, xsl89, vc90, n⟩ => n) (([] : List Int), a2_c0, (0 : Int), .slice none 0 0, [], va2_c0_0, n92) (.cons rfl (.cons rfl (.cons rfl (.cons rfl (.cons rfl (.cons rfl (Sub.nil _))))))) ⟨hL2, (ha0_1.mono hG63), (he2.mono hG63), (ha2_c0_0.mono hG63), hT, h⟩ ?_
  rintro ⟨l89, c90, s13_91, vl89, xsl89, vc90, nn92⟩ wr92 ⟨hL92, hf92_0, hel89, hfc90, hT, h⟩
  obtain ⟨n92, e92, rfl, h, hm92⟩ := Go.L.itr_some h
  have hG94 := hL92.rG H
  refine W_pz 1 rfl ?_
  refine W_seq ?_
  refine W_if rfl (fun hc95 => ?_) (fun hc95 => ?_)
  ·replace h := Go.L.ite_p hc95 h
   refine W_skip ?_
   refine At_seq ?_
   refine W_seq ?_
   refine W_block ?_
   refine W_seqr ?_
   obtain ⟨hk98, h⟩ := Go.L.chk_some h
   refine S_index rfl rfl underlying45 zr96 (hf92_0.mono hG94) s13_91.toNat (Int.toNat_of_nonneg hk98.1).symm (idx_lt hk98) rfl ?_
   rintro p97 _ ⟨_, _, rfl, ⟨_, _, rfl, rfl, ⟨_, _, rfl, rfl, ⟨_, _, rfl, rfl, rfl⟩⟩⟩, ⟨e97v4, rfl, e97h4⟩⟩ hp97
   refine S_v (r_loadN rfl underlying96 rfl zr96 hp97 (gz_le hH hL92)) rfl ?_
   refine S_alloc zr96 rfl rfl hL92 ?_
   intro w99 b99 hL99 hle99 _
   replace hp97 := hp97.mono (gz_mono hH hle99)
   replace e97h4 := e97h4.mono (gz_mono hH hle99)
   replace hG94 := hG94.trans (gz_mono hH hle99)
   replace hT := hT.trans hle99
   refine S_storeBN 0 rfl rfl rfl zr96 hL99 rfl rfl (onc rfl (onc rfl (onc rfl (onc rfl (onc e97h4.one on0))))) ?_
   intro w100 hL100 hle100
   replace hp97 := hp97.mono (gz_mono hH hle100)
   replace e97h4 := e97h4.mono (gz_mono hH hle100)
   replace hG94 := hG94.trans (gz_mono hH hle100)
   replace hT := hT.trans hle100
   refine S_seqnil ?_
   refine W_p 1 rfl ?_
   refine S_v (r_loadBN 0 rfl underlying96 rfl zr96 hL100 rfl) rfl ?_
   have hL101 : Lcl w0 (HAppend.hAppend ([.box ba2_c0 [vc90] 35, .box b99 [.string ⟨(((a0.2.getD s13_91.toNat default).1).1).toArray⟩, .int .i64 (((a0.2.getD s13_91.toNat default).1).2.1), .int .i64 (((a0.2.getD s13_91.toNat default).1).2.2.1), .string ⟨(((a0.2.getD s13_91.toNat default).1).2.2.2).toArray⟩, e97v4] 96, .row (vl89) 3 1 (l89).length (xsl89), .box b1 [.int .i64 a0.1, va0_1] 47] : List Res) O) w100 := hL100.picks [3] rfl
   have hle101 := fz_picks [3] hL100 hL101 rfl
   replace e97h4 := e97h4.mono (gz_mono hH hle101)
   replace hG94 := hG94.trans (gz_mono hH hle101)
   replace hT := hT.trans hle101
   obtain ⟨x102, hb102, h⟩ := Go.L.bind_some h
   refine S_callv rfl rfl rfl (shapes_Index_Text_1_fr (a0 := ((((a0.2.getD s13_91.toNat default).1).1, ((a0.2.getD s13_91.toNat default).1).2.1, ((a0.2.getD s13_91.toNat default).1).2.2.1, ((a0.2.getD s13_91.toNat default).1).2.2.2), (a0.2.getD s13_91.toNat default).2)) (a1 := c90) (O := (HAppend.hAppend ([.box b99 [.string ⟨(((a0.2.getD s13_91.toNat default).1).1).toArray⟩, .int .i64 (((a0.2.getD s13_91.toNat default).1).2.1), .int .i64 (((a0.2.getD s13_91.toNat default).1).2.2.1), .string ⟨(((a0.2.getD s13_91.toNat default).1).2.2.2).toArray⟩, e97v4] 96, .row (vl89) 3 1 (l89).length (xsl89), .box b1 [.int .i64 a0.1, va0_1] 47] : List Res) O)) hH hL101 e97h4 (hfc90.mono hG94) hb102) ?_
   rintro _ w103 ⟨u103_1, rfl, hL103, hle103, hf103_1⟩
   replace e97h4 := e97h4.mono (gz_mono hH hle103)
   replace hG94 := hG94.trans (gz_mono hH hle103)
   replace hT := hT.trans hle103
   refine S_pu 1 rfl ?_
   refine S_split (s := 20) rfl (fun hg104 => ?_) (fun hg104 => ?_)
   ·replace h := Go.L.ite_t hg104 h
    refine S_guarded rfl rfl hg104 ?_
    refine S_v (RunsAt_pu rfl) rfl ?_
    refine S_guarded rfl rfl hg104 ?_
    refine S_v (r_field rfl underlying96 rfl zr84 (by decide)) rfl ?_
    refine S_guarded rfl rfl hg104 ?_
    refine S_v (r_field rfl underlying84 rfl zr9 (by decide)) rfl ?_
    refine S_guarded rfl rfl hg104 ?_
    refine S_v (r_loadB1 1 rfl underlying9 rfl hL103 rfl rfl) rfl ?_
    refine S_guarded rfl rfl hg104 ?_
    obtain ⟨x106, hb106, h⟩ := Go.L.bind_some h
    refine S_callL rfl rfl hL103 (shapes_matches_ok _ _ (gz_le hH hL103) hb106) ?_
    rintro _ w107 rfl hx107 hL107 hle107
    replace e97h4 := e97h4.mono (gz_mono hH hle107)
    replace hf103_1 := hf103_1.mono (gz_mono hH hle107)
    replace hG94 := hG94.trans (gz_mono hH hle107)
    replace hT := hT.trans hle107
    refine S_v (r_pickT rfl hg104 rfl) rfl ?_
    refine S_seqnil ?_
    refine W_cond rfl (fun hc108 => ?_) (fun hc108 => ?_)
    ·replace h := Go.L.ite_t hc108 h
     refine W_region ?_
     refine S_pu 1 rfl ?_
     refine S_v (r_field rfl underlying96 rfl zr52 (by decide)) rfl ?_
     refine S_v (r_loadB1 1 rfl underlying52 rfl hL107 rfl rfl) rfl ?_
     obtain ⟨hk111, h⟩ := Go.L.chk_some h
     refine S_appE (r := (.int .i64)) (l := l89) (m := (a0.2.getD s13_91.toNat default).2) 2 rfl rfl underlying52 zr3 rfl (by decide) rfl hH hL107 rfl (hel89.mono hG94) e97h4 hk111 ?_
     intro v110 w110 xs110 hL110 hle110 he110
     replace e97h4 := e97h4.mono (gz_mono hH hle110)
     replace hf103_1 := hf103_1.mono (gz_mono hH hle110)
     replace hG94 := hG94.trans (gz_mono hH hle110)
     replace hT := hT.trans hle110
     refine S_pu 1 rfl ?_
     refine S_nil ?_
     refine At_block ?_
     refine At_seq ?_
     have hG112 := hL110.rG H
     refine W_region ?_
     obtain ⟨hk113, h⟩ := Go.L.chk_some h
     refine S_v (r_ar64 rfl rfl rfl hk113) rfl ?_
     refine S_pu 1 rfl ?_
     refine S_nil ?_
     have hL114 := hL110.dropAt (i := 1) rfl
     replace hG112 := hG112.trans (gz_mono hH (fz_dropAt (i := 1) rfl))
     replace hT := hT.trans (fz_dropAt (i := 1) rfl)
     have hL115 : Lcl w0 (HAppend.hAppend ([.row (v110) 3 1 ((l89 ++ (a0.2.getD s13_91.toNat default).2)).length (xs110), .box b1 [.int .i64 a0.1, va0_1] 47, .box ba2_c0 [u103_1] 35] : List Res) O) w110 := hL114.picks [2, 2] rfl
     have hle115 := fz_picks [2, 2] hL114 hL115 rfl
     replace hG112 := hG112.trans (gz_mono hH hle115)
     replace hT := hT.trans hle115
     have h := Go.L.Nxt.again h hm92
     refine At_round ((l89 ++ (a0.2.getD s13_91.toNat default).2), x102.2, (s13_91 + (1 : Int)), v110, xs110, u103_1, n92) (.cons rfl (.cons rfl (.cons rfl (.cons rfl (.cons rfl (.cons rfl (Sub.nil _))))))) ⟨hL115, ((hf92_0.mono hG94).mono hG112), (he110.mono hG112), (hf103_1.mono hG112), hT, h⟩ (Nat.lt_succ_self _)
    ·replace h := Go.L.ite_f hc108 h
     refine W_skip ?_
     refine At_block ?_
     refine At_seq ?_
     refine W_region ?_
     obtain ⟨hk117, h⟩ := Go.L.chk_some h
     refine S_v (r_ar64 rfl rfl rfl hk117) rfl ?_
     refine S_pu 1 rfl ?_
     refine S_nil ?_
     have hL118 := hL107.dropAt (i := 1) rfl
     replace e97h4 := e97h4.mono (gz_mono hH (fz_dropAt (i := 1) rfl))
     replace hf103_1 := hf103_1.mono (gz_mono hH (fz_dropAt (i := 1) rfl))
     replace hG94 := hG94.trans (gz_mono hH (fz_dropAt (i := 1) rfl))
     replace hT := hT.trans (fz_dropAt (i := 1) rfl)
     have hL119 : Lcl w0 (HAppend.hAppend ([.row (vl89) 3 1 (l89).length (xsl89), .box b1 [.int .i64 a0.1, va0_1] 47, .box ba2_c0 [u103_1] 35] : List Res) O) w107 := hL118.picks [2, 2] rfl
     have hle119 := fz_picks [2, 2] hL118 hL119 rfl
     replace e97h4 := e97h4.mono (gz_mono hH hle119)
     replace hf103_1 := hf103_1.mono (gz_mono hH hle119)
     replace hG94 := hG94.trans (gz_mono hH hle119)
     replace hT := hT.trans hle119
     have h := Go.L.Nxt.again h hm92
     refine At_round (l89, x102.2, (s13_91 + (1 : Int)), vl89, xsl89, u103_1, n92) (.cons rfl (.cons rfl (.cons rfl (.cons rfl (.cons rfl (.cons rfl (Sub.nil _))))))) ⟨hL119, (hf92_0.mono hG94), (hel89.mono hG94), hf103_1, hT, h⟩ (Nat.lt_succ_self _)
   ·replace h := Go.L.ite_f hg104 h
    iterate 5 refine S_unwanted rfl rfl hg104 rfl ?_
    refine S_v (r_pickF rfl hg104 rfl) rfl ?_
    refine S_seqnil ?_
    refine W_false rfl ?_
    refine W_skip ?_
    refine At_block ?_
    refine At_seq ?_
    refine W_region ?_
    obtain ⟨hk121, h⟩ := Go.L.chk_some h
    refine S_v (r_ar64 rfl rfl rfl hk121) rfl ?_
    refine S_pu 1 rfl ?_
    refine S_nil ?_
    have hL122 := hL103.dropAt (i := 1) rfl
    replace e97h4 := e97h4.mono (gz_mono hH (fz_dropAt (i := 1) rfl))
    replace hf103_1 := hf103_1.mono (gz_mono hH (fz_dropAt (i := 1) rfl))
    replace hG94 := hG94.trans (gz_mono hH (fz_dropAt (i := 1) rfl))
    replace hT := hT.trans (fz_dropAt (i := 1) rfl)
    have hL123 : Lcl w0 (HAppend.hAppend ([.row (vl89) 3 1 (l89).length (xsl89), .box b1 [.int .i64 a0.1, va0_1] 47, .box ba2_c0 [u103_1] 35] : List Res) O) w103 := hL122.picks [2, 2] rfl
    have hle123 := fz_picks [2, 2] hL122 hL123 rfl
    replace e97h4 := e97h4.mono (gz_mono hH hle123)
    replace hf103_1 := hf103_1.mono (gz_mono hH hle123)
    replace hG94 := hG94.trans (gz_mono hH hle123)
    replace hT := hT.trans hle123
    have h := Go.L.Nxt.again h hm92
    refine At_round (l89, x102.2, (s13_91 + (1 : Int)), vl89, xsl89, u103_1, n92) (.cons rfl (.cons rfl (.cons rfl (.cons rfl (.cons rfl (.cons rfl (Sub.nil _))))))) ⟨hL123, (hf92_0.mono hG94), (hel89.mono hG94), hf103_1, hT, h⟩ (Nat.lt_succ_self _)
  ·replace h := Go.L.ite_n hc95 h
   refine W_exit ?_
   refine At_seq_exit ?_
   refine At_loop_exit ?_
   replace h := Go.L.Nxt.out h hm92
   refine At_exit ?_
   refine At_cut (l89, c90, vl89, xsl89, vc90) (.cons rfl (Sub.nil _)) ⟨hL92, (hel89.mono hG94), (hf92_0.mono hG94), (hfc90.mono hG94), hT, h⟩
 ·rintro ⟨l59, c60, vl59, xsl59, vc60⟩ wr61 ⟨hL61, hel59, hf61_1, hfc60, hT, h⟩
  have hG126 := hL61.rG H
  refine W_p 1 rfl ?_
  obtain ⟨hk128, h⟩ := Go.L.chk_some h
  refine S_sortI (i := 0) Tryz.laySI rfl ⟨Tryz.f99, _, func99, rfl, rfl⟩ rfl rfl hH hL61 rfl (hel59.mono hG126) hk128 ?_
  intro w127 xs127 hL127 hle127 he127
  replace hG126 := hG126.trans (gz_mono hH hle127)
  replace hT := hT.trans hle127
  refine S_seqnil ?_
  refine W_p 1 rfl ?_
  obtain ⟨hk130, h⟩ := Go.L.chk_some h
  refine S_compI (i := 0) Tryz.layCI rfl ⟨Tryz.f100, _, func100, rfl, rfl⟩ rfl rfl hH hL127 rfl he127 hk130 ?_
  intro v129 w129 xs129 hL129 hle129 he129
  replace hG126 := hG126.trans (gz_mono hH hle129)
  replace hT := hT.trans hle129
  refine S_pz 1 rfl ?_
  refine W_ret ?_
  obtain rfl := Option.some.inj h
  refine At_body rfl rfl ?_
  have hL131 := hL129.dropAt (i := 1) rfl
  replace he129 := he129.mono (gz_mono hH (fz_dropAt (i := 1) rfl))
  replace hG126 := hG126.trans (gz_mono hH (fz_dropAt (i := 1) rfl))
  replace hT := hT.trans (fz_dropAt (i := 1) rfl)
  exact ⟨v129, xs129, vc60, rfl, hL131, hT, he129, (hfc60.mono hG126)⟩
noncomputable def shapes_Index_Text (a0 : Int × (List (((List UInt8) × Int × Int × (List UInt8)) × (List Int)))) (a1 : List UInt8) (a2 : List UInt8) : Option ((List Int) × (Int × Int)) :=
 Option.bind (shapes_Check a1) (fun x4 => if x4.1 = (0 : Int) ∧ x4.2 = (0 : Int) then (if (4000 : Int) < (a2.length : Int) then Option.bind (shapes_fault (3 : Int) (-2 : Int)) (fun x18 => some ([], (x18.1, x18.2))) else Option.bind (shapes_Index_collect_s3 (a0.1, a0.2) a1 a2) (fun x23 => some (x23.1, ((0 : Int), (0 : Int))))) else some ([], (x4.1, x4.2)))
theorem shapes_Index_Text_ok (w : World) (H : PH) (hH : Le H (hp w)) {a0 : Int × (List (((List UInt8) × Int × Int × (List UInt8)) × (List Int)))} {a1 : List UInt8} {a2 : List UInt8} {v0_0 : Value} {v2_0 : Value} (h0_0 : Vec (.pair (.pair .st (.pair (.int .i64) (.pair (.int .i64) .st))) (.vec (.int .i64))) H v0_0 (a0.2)) (h2_0 : Vec .byte H v2_0 (a2)) {r : (List Int) × (Int × Int)} (h : shapes_Index_Text a0 a1 a2 = some r) :
  Ok Tryz.prog 30 [.agg #[.int .i64 a0.1, v0_0], .string ⟨(a1).toArray⟩, v2_0] w (fun v w' => Ext w w' ∧ ∃ u0, v = .tuple #[u0, .agg #[.int .i64 r.2.1, .int .i64 r.2.2]] ∧ OwnH 3 (.int .i64) H w w' u0 (r.1)) := by
 refine Ok_enter (n := 24) [(0, .agg #[.int .i64 a0.1, v0_0]), (1, .string ⟨(a1).toArray⟩), (2, v2_0)] func30 rfl rfl rfl rfl rfl ?_
 have hL := Lcl.start w
 refine W_seqr ?_
 refine S_box (t := 47) rfl rfl rfl hL ?_
 intro w1 b1 hL1 hle1 _
 refine S_box1 (t := 35) rfl h2_0.one rfl hL1 ?_
 intro w2 b2 hL2 hle2 _
 refine S_pu 1 rfl ?_
 refine S_alloc zr23 rfl rfl hL2 ?_
 intro w3 b3 hL3 hle3 _
 refine S_seqnil ?_
 refine W_seq ?_
 refine W_p 1 rfl ?_
 obtain ⟨x4, hb4, h⟩ := Go.L.bind_some h
 refine S_callL rfl rfl hL3 (shapes_Check_ok _ _ (gz_le hH hL3) hb4) ?_
 rintro _ w5 rfl hx5 hL5 hle5
 refine S_alloc zr23 rfl rfl hL5 ?_
 intro w6 b6 hL6 hle6 _
 refine S_storeBN 0 rfl rfl rfl zr23 hL6 rfl rfl (onc rfl (onc rfl on0)) ?_
 intro w7 hL7 hle7
 refine S_seqnil ?_
 refine W_seqr ?_
 refine S_v (r_loadBN 0 rfl underlying23 rfl zr23 hL7 rfl) rfl ?_
 refine S_v (r_build rfl (fun _ => bld23_z _)) rfl ?_
 refine S_v (r_neA rfl rfl eqg23 (eq23 _ _ _ _ )) rfl ?_
 refine S_seqnil ?_
 refine W_ifn rfl (fun hc8 => ?_) (fun hc8 => ?_)
 ·replace h := Go.L.ite_n hc8 h
  refine W_seqd (.q 0 (.q 1 (.tail 2))) mixed (by kernel_rfl) (fun w10 hx10 => ?_)
  have hL11 := hL7.call hx10
  refine D_v (r_loadBN 0 rfl underlying23 rfl zr23 hL11 rfl) rfl rfl ?_
  refine D_pu 1 rfl ?_
  refine D_tail (fun w12 hx12 => ?_)
  have hL13 := hL11.call hx12
  refine S_storeBN 1 rfl rfl rfl zr23 hL13 rfl rfl (onc rfl (onc rfl on0)) ?_
  intro w14 hL14 hle14
  refine S_seqnil ?_
  refine W_ret ?_
  refine At_seq_ret ?_
  obtain rfl := Option.some.inj h
  refine At_got2 rfl (.tmp rfl) (.cell rfl underlying23 rfl zr23 (box_ptr (i := 1) hL14 rfl)) ?_
  exact ⟨hL14.ext, _, rfl, OwnH.nil⟩
 ·replace h := Go.L.ite_p hc8 h
  refine W_skip ?_
  refine At_seq ?_
  refine W_seq ?_
  refine W_seqr ?_
  refine S_v (r_loadB1 2 rfl underlying35 rfl hL7 rfl rfl) rfl ?_
  refine S_v (r_len rfl underlying35 h2_0) rfl ?_
  refine S_pz 1 rfl ?_
  refine W_if rfl (fun hc16 => ?_) (fun hc16 => ?_)
  ·replace h := Go.L.ite_p hc16 h
   refine W_seqr ?_
   obtain ⟨x18, hb18, h⟩ := Go.L.bind_some h
   refine S_callL rfl rfl hL7 (shapes_fault_ok _ _ (gz_le hH hL7) hb18) ?_
   rintro _ w19 rfl hx19 hL19 hle19
   refine S_pu 1 rfl ?_
   refine S_storeBN 1 rfl rfl rfl zr23 hL19 rfl rfl (onc rfl (onc rfl on0)) ?_
   intro w20 hL20 hle20
   refine S_seqnil ?_
   refine W_ret ?_
   refine At_seq_ret ?_
   obtain rfl := Option.some.inj h
   refine At_got2 rfl (.tmp rfl) (.cell rfl underlying23 rfl zr23 (box_ptr (i := 1) hL20 rfl)) ?_
   exact ⟨hL20.ext, _, rfl, OwnH.nil⟩
  ·replace h := Go.L.ite_n hc16 h
   refine W_skip ?_
   refine At_seq ?_
   refine W_seqr ?_
   refine S_v (r_loadBN 3 rfl underlying47 rfl zr47 hL7 rfl) rfl ?_
   refine S_pu 2 rfl ?_
   have hL22 : Lcl w [.box b2 [v2_0] 35, .box b6 [.int .i64 x4.1, .int .i64 x4.2] 23, .box b3 [.int .i64 (0 : Int), .int .i64 (0 : Int)] 23, .box b1 [.int .i64 a0.1, v0_0] 47] w7 := hL7.picks [2] rfl
   have hle22 := fz_picks [2] hL7 hL22 rfl
   obtain ⟨x23, hb23, h⟩ := Go.L.bind_some h
   refine S_call rfl rfl (shapes_Index_collect_s3_fr (a0 := (a0.1, a0.2)) (a1 := a1) (a2_c0 := a2) (O := [.box b6 [.int .i64 x4.1, .int .i64 x4.2] 23, .box b3 [.int .i64 (0 : Int), .int .i64 (0 : Int)] 23, .box b1 [.int .i64 a0.1, v0_0] 47]) hH hL22 (h0_0.mono (gz_left hH)) (h2_0.mono (gz_left hH)) hb23) ?_
   rintro u24_0 w24 ⟨_, y24_0, u24_1, rfl, hL24, hle24, hf24_0, hf24_1⟩
   refine S_v (r_build rfl (fun _ => bld23_z _)) rfl ?_
   refine S_pu 1 rfl ?_
   refine S_storeBN 3 rfl rfl rfl zr23 hL24 rfl rfl (onc rfl (onc rfl on0)) ?_
   intro w25 hL25 hle25
   replace hf24_0 := hf24_0.mono (gz_mono hH hle25)
   replace hf24_1 := hf24_1.mono (gz_mono hH hle25)
   refine S_seqnil ?_
   refine W_ret ?_
   obtain rfl := Option.some.inj h
   refine At_got2 rfl (.tmp rfl) (.cell rfl underlying23 rfl zr23 (box_ptr (i := 3) hL25 rfl)) ?_
   exact ⟨hL25.ext, _, rfl, (hL25.ownH hH (i := 0) rfl hf24_0)⟩
end Go.Proofs.YtmfiaecglndldaaGreatDoor
end
section
namespace Go.Proofs.YtmfiaecglndldaaGreatDoor
open Go Go.E Go.RowKit
set_option maxHeartbeats 1000000
set_option maxRecDepth 10000
open _root_.Go.Proofs.Tryz
noncomputable def shapes_entry_valid_k1 : Option (Bool) :=
 some (true)
noncomputable def shapes_entry_valid_bl2 (a0 : ((List UInt8) × Int × Int × (List UInt8)) × (List Int)) (a1 : Int) : Int → Option ((Int) ⊕ (Bool)) := fun s48_73 =>
 if s48_73 < (a0.2.length : Int) then Go.L.chk (0 ≤ s48_73 ∧ s48_73 < (a0.2.length : Int)) (if (a0.2.getD s48_73.toNat default < (0 : Int)) ∨ (a1 ≤ a0.2.getD s48_73.toNat default) then Option.map Sum.inr (some (false)) else if (0 : Int) < s48_73 then Go.L.chk (Go.L.I64 (s48_73 - (1 : Int))) (Go.L.chk (0 ≤ (s48_73 - (1 : Int)) ∧ (s48_73 - (1 : Int)) < (a0.2.length : Int)) (if a0.2.getD s48_73.toNat default ≤ a0.2.getD ((s48_73 - (1 : Int)).toNat) default then Option.map Sum.inr (some (false)) else Go.L.chk (Go.L.I64 (s48_73 + (1 : Int))) (some (Sum.inl (s48_73 + (1 : Int)))))) else Go.L.chk (Go.L.I64 (s48_73 + (1 : Int))) (some (Sum.inl (s48_73 + (1 : Int))))) else Option.map Sum.inr (shapes_entry_valid_k1)
noncomputable def shapes_entry_valid_l2 (a0 : ((List UInt8) × Int × Int × (List UInt8)) × (List Int)) (a1 : Int) (s : Int) : Option (Bool) := Go.L.run (shapes_entry_valid_bl2 a0 a1) s
noncomputable def shapes_entry_valid_k3 : Option (Bool) :=
 some (true)
noncomputable def shapes_entry_valid_bl4 (a0 : ((List UInt8) × Int × Int × (List UInt8)) × (List Int)) (a1 : Int) : Int → Option ((Int) ⊕ (Bool)) := fun s48_166 =>
 if s48_166 < (a0.2.length : Int) then Go.L.chk (0 ≤ s48_166 ∧ s48_166 < (a0.2.length : Int)) (if (a0.2.getD s48_166.toNat default < (0 : Int)) ∨ (a1 ≤ a0.2.getD s48_166.toNat default) then Option.map Sum.inr (some (false)) else if (0 : Int) < s48_166 then Go.L.chk (Go.L.I64 (s48_166 - (1 : Int))) (Go.L.chk (0 ≤ (s48_166 - (1 : Int)) ∧ (s48_166 - (1 : Int)) < (a0.2.length : Int)) (if a0.2.getD s48_166.toNat default ≤ a0.2.getD ((s48_166 - (1 : Int)).toNat) default then Option.map Sum.inr (some (false)) else Go.L.chk (Go.L.I64 (s48_166 + (1 : Int))) (some (Sum.inl (s48_166 + (1 : Int)))))) else Go.L.chk (Go.L.I64 (s48_166 + (1 : Int))) (some (Sum.inl (s48_166 + (1 : Int))))) else Option.map Sum.inr (shapes_entry_valid_k3)
noncomputable def shapes_entry_valid_l4 (a0 : ((List UInt8) × Int × Int × (List UInt8)) × (List Int)) (a1 : Int) (s : Int) : Option (Bool) := Go.L.run (shapes_entry_valid_bl4 a0 a1) s
noncomputable def shapes_entry_valid_k5 : Option (Bool) :=
 some (true)
noncomputable def shapes_entry_valid_bl6 (a0 : ((List UInt8) × Int × Int × (List UInt8)) × (List Int)) (a1 : Int) : Int → Option ((Int) ⊕ (Bool)) := fun s48_259 =>
 if s48_259 < (a0.2.length : Int) then Go.L.chk (0 ≤ s48_259 ∧ s48_259 < (a0.2.length : Int)) (if (a0.2.getD s48_259.toNat default < (0 : Int)) ∨ (a1 ≤ a0.2.getD s48_259.toNat default) then Option.map Sum.inr (some (false)) else if (0 : Int) < s48_259 then Go.L.chk (Go.L.I64 (s48_259 - (1 : Int))) (Go.L.chk (0 ≤ (s48_259 - (1 : Int)) ∧ (s48_259 - (1 : Int)) < (a0.2.length : Int)) (if a0.2.getD s48_259.toNat default ≤ a0.2.getD ((s48_259 - (1 : Int)).toNat) default then Option.map Sum.inr (some (false)) else Go.L.chk (Go.L.I64 (s48_259 + (1 : Int))) (some (Sum.inl (s48_259 + (1 : Int)))))) else Go.L.chk (Go.L.I64 (s48_259 + (1 : Int))) (some (Sum.inl (s48_259 + (1 : Int))))) else Option.map Sum.inr (shapes_entry_valid_k5)
noncomputable def shapes_entry_valid_l6 (a0 : ((List UInt8) × Int × Int × (List UInt8)) × (List Int)) (a1 : Int) (s : Int) : Option (Bool) := Go.L.run (shapes_entry_valid_bl6 a0 a1) s
noncomputable def shapes_entry_valid_k7 : Option (Bool) :=
 some (true)
noncomputable def shapes_entry_valid_bl8 (a0 : ((List UInt8) × Int × Int × (List UInt8)) × (List Int)) (a1 : Int) : Int → Option ((Int) ⊕ (Bool)) := fun s48_354 =>
 if s48_354 < (a0.2.length : Int) then Go.L.chk (0 ≤ s48_354 ∧ s48_354 < (a0.2.length : Int)) (if (a0.2.getD s48_354.toNat default < (0 : Int)) ∨ (a1 ≤ a0.2.getD s48_354.toNat default) then Option.map Sum.inr (some (false)) else if (0 : Int) < s48_354 then Go.L.chk (Go.L.I64 (s48_354 - (1 : Int))) (Go.L.chk (0 ≤ (s48_354 - (1 : Int)) ∧ (s48_354 - (1 : Int)) < (a0.2.length : Int)) (if a0.2.getD s48_354.toNat default ≤ a0.2.getD ((s48_354 - (1 : Int)).toNat) default then Option.map Sum.inr (some (false)) else Go.L.chk (Go.L.I64 (s48_354 + (1 : Int))) (some (Sum.inl (s48_354 + (1 : Int)))))) else Go.L.chk (Go.L.I64 (s48_354 + (1 : Int))) (some (Sum.inl (s48_354 + (1 : Int))))) else Option.map Sum.inr (shapes_entry_valid_k7)
noncomputable def shapes_entry_valid_l8 (a0 : ((List UInt8) × Int × Int × (List UInt8)) × (List Int)) (a1 : Int) (s : Int) : Option (Bool) := Go.L.run (shapes_entry_valid_bl8 a0 a1) s
noncomputable def shapes_entry_valid_k9 : Option (Bool) :=
 some (true)
noncomputable def shapes_entry_valid_bl10 (a0 : ((List UInt8) × Int × Int × (List UInt8)) × (List Int)) (a1 : Int) : Int → Option ((Int) ⊕ (Bool)) := fun s48_449 =>
 if s48_449 < (a0.2.length : Int) then Go.L.chk (0 ≤ s48_449 ∧ s48_449 < (a0.2.length : Int)) (if (a0.2.getD s48_449.toNat default < (0 : Int)) ∨ (a1 ≤ a0.2.getD s48_449.toNat default) then Option.map Sum.inr (some (false)) else if (0 : Int) < s48_449 then Go.L.chk (Go.L.I64 (s48_449 - (1 : Int))) (Go.L.chk (0 ≤ (s48_449 - (1 : Int)) ∧ (s48_449 - (1 : Int)) < (a0.2.length : Int)) (if a0.2.getD s48_449.toNat default ≤ a0.2.getD ((s48_449 - (1 : Int)).toNat) default then Option.map Sum.inr (some (false)) else Go.L.chk (Go.L.I64 (s48_449 + (1 : Int))) (some (Sum.inl (s48_449 + (1 : Int)))))) else Go.L.chk (Go.L.I64 (s48_449 + (1 : Int))) (some (Sum.inl (s48_449 + (1 : Int))))) else Option.map Sum.inr (shapes_entry_valid_k9)
noncomputable def shapes_entry_valid_l10 (a0 : ((List UInt8) × Int × Int × (List UInt8)) × (List Int)) (a1 : Int) (s : Int) : Option (Bool) := Go.L.run (shapes_entry_valid_bl10 a0 a1) s
noncomputable def shapes_entry_valid_k11 : Option (Bool) :=
 some (true)
noncomputable def shapes_entry_valid_bl12 (a0 : ((List UInt8) × Int × Int × (List UInt8)) × (List Int)) (a1 : Int) : Int → Option ((Int) ⊕ (Bool)) := fun s48_540 =>
 if s48_540 < (a0.2.length : Int) then Go.L.chk (0 ≤ s48_540 ∧ s48_540 < (a0.2.length : Int)) (if (a0.2.getD s48_540.toNat default < (0 : Int)) ∨ (a1 ≤ a0.2.getD s48_540.toNat default) then Option.map Sum.inr (some (false)) else if (0 : Int) < s48_540 then Go.L.chk (Go.L.I64 (s48_540 - (1 : Int))) (Go.L.chk (0 ≤ (s48_540 - (1 : Int)) ∧ (s48_540 - (1 : Int)) < (a0.2.length : Int)) (if a0.2.getD s48_540.toNat default ≤ a0.2.getD ((s48_540 - (1 : Int)).toNat) default then Option.map Sum.inr (some (false)) else Go.L.chk (Go.L.I64 (s48_540 + (1 : Int))) (some (Sum.inl (s48_540 + (1 : Int)))))) else Go.L.chk (Go.L.I64 (s48_540 + (1 : Int))) (some (Sum.inl (s48_540 + (1 : Int))))) else Option.map Sum.inr (shapes_entry_valid_k11)
noncomputable def shapes_entry_valid_l12 (a0 : ((List UInt8) × Int × Int × (List UInt8)) × (List Int)) (a1 : Int) (s : Int) : Option (Bool) := Go.L.run (shapes_entry_valid_bl12 a0 a1) s
noncomputable def shapes_entry_valid_k13 : Option (Bool) :=
 some (true)
noncomputable def shapes_entry_valid_bl14 (a0 : ((List UInt8) × Int × Int × (List UInt8)) × (List Int)) (a1 : Int) : Int → Option ((Int) ⊕ (Bool)) := fun s48_631 =>
 if s48_631 < (a0.2.length : Int) then Go.L.chk (0 ≤ s48_631 ∧ s48_631 < (a0.2.length : Int)) (if (a0.2.getD s48_631.toNat default < (0 : Int)) ∨ (a1 ≤ a0.2.getD s48_631.toNat default) then Option.map Sum.inr (some (false)) else if (0 : Int) < s48_631 then Go.L.chk (Go.L.I64 (s48_631 - (1 : Int))) (Go.L.chk (0 ≤ (s48_631 - (1 : Int)) ∧ (s48_631 - (1 : Int)) < (a0.2.length : Int)) (if a0.2.getD s48_631.toNat default ≤ a0.2.getD ((s48_631 - (1 : Int)).toNat) default then Option.map Sum.inr (some (false)) else Go.L.chk (Go.L.I64 (s48_631 + (1 : Int))) (some (Sum.inl (s48_631 + (1 : Int)))))) else Go.L.chk (Go.L.I64 (s48_631 + (1 : Int))) (some (Sum.inl (s48_631 + (1 : Int))))) else Option.map Sum.inr (shapes_entry_valid_k13)
noncomputable def shapes_entry_valid_l14 (a0 : ((List UInt8) × Int × Int × (List UInt8)) × (List Int)) (a1 : Int) (s : Int) : Option (Bool) := Go.L.run (shapes_entry_valid_bl14 a0 a1) s
noncomputable def shapes_entry_valid_k15 : Option (Bool) :=
 some (true)
noncomputable def shapes_entry_valid_bl16 (a0 : ((List UInt8) × Int × Int × (List UInt8)) × (List Int)) (a1 : Int) : Int → Option ((Int) ⊕ (Bool)) := fun s48_726 =>
 if s48_726 < (a0.2.length : Int) then Go.L.chk (0 ≤ s48_726 ∧ s48_726 < (a0.2.length : Int)) (if (a0.2.getD s48_726.toNat default < (0 : Int)) ∨ (a1 ≤ a0.2.getD s48_726.toNat default) then Option.map Sum.inr (some (false)) else if (0 : Int) < s48_726 then Go.L.chk (Go.L.I64 (s48_726 - (1 : Int))) (Go.L.chk (0 ≤ (s48_726 - (1 : Int)) ∧ (s48_726 - (1 : Int)) < (a0.2.length : Int)) (if a0.2.getD s48_726.toNat default ≤ a0.2.getD ((s48_726 - (1 : Int)).toNat) default then Option.map Sum.inr (some (false)) else Go.L.chk (Go.L.I64 (s48_726 + (1 : Int))) (some (Sum.inl (s48_726 + (1 : Int)))))) else Go.L.chk (Go.L.I64 (s48_726 + (1 : Int))) (some (Sum.inl (s48_726 + (1 : Int))))) else Option.map Sum.inr (shapes_entry_valid_k15)
noncomputable def shapes_entry_valid_l16 (a0 : ((List UInt8) × Int × Int × (List UInt8)) × (List Int)) (a1 : Int) (s : Int) : Option (Bool) := Go.L.run (shapes_entry_valid_bl16 a0 a1) s
noncomputable def shapes_entry_valid_k17 : Option (Bool) :=
 some (true)
noncomputable def shapes_entry_valid_bl18 (a0 : ((List UInt8) × Int × Int × (List UInt8)) × (List Int)) (a1 : Int) : Int → Option ((Int) ⊕ (Bool)) := fun s48_817 =>
 if s48_817 < (a0.2.length : Int) then Go.L.chk (0 ≤ s48_817 ∧ s48_817 < (a0.2.length : Int)) (if (a0.2.getD s48_817.toNat default < (0 : Int)) ∨ (a1 ≤ a0.2.getD s48_817.toNat default) then Option.map Sum.inr (some (false)) else if (0 : Int) < s48_817 then Go.L.chk (Go.L.I64 (s48_817 - (1 : Int))) (Go.L.chk (0 ≤ (s48_817 - (1 : Int)) ∧ (s48_817 - (1 : Int)) < (a0.2.length : Int)) (if a0.2.getD s48_817.toNat default ≤ a0.2.getD ((s48_817 - (1 : Int)).toNat) default then Option.map Sum.inr (some (false)) else Go.L.chk (Go.L.I64 (s48_817 + (1 : Int))) (some (Sum.inl (s48_817 + (1 : Int)))))) else Go.L.chk (Go.L.I64 (s48_817 + (1 : Int))) (some (Sum.inl (s48_817 + (1 : Int))))) else Option.map Sum.inr (shapes_entry_valid_k17)
noncomputable def shapes_entry_valid_l18 (a0 : ((List UInt8) × Int × Int × (List UInt8)) × (List Int)) (a1 : Int) (s : Int) : Option (Bool) := Go.L.run (shapes_entry_valid_bl18 a0 a1) s
noncomputable def shapes_entry_valid_k19 : Option (Bool) :=
 some (true)
noncomputable def shapes_entry_valid_bl20 (a0 : ((List UInt8) × Int × Int × (List UInt8)) × (List Int)) (a1 : Int) : Int → Option ((Int) ⊕ (Bool)) := fun s48_908 =>
 if s48_908 < (a0.2.length : Int) then Go.L.chk (0 ≤ s48_908 ∧ s48_908 < (a0.2.length : Int)) (if (a0.2.getD s48_908.toNat default < (0 : Int)) ∨ (a1 ≤ a0.2.getD s48_908.toNat default) then Option.map Sum.inr (some (false)) else if (0 : Int) < s48_908 then Go.L.chk (Go.L.I64 (s48_908 - (1 : Int))) (Go.L.chk (0 ≤ (s48_908 - (1 : Int)) ∧ (s48_908 - (1 : Int)) < (a0.2.length : Int)) (if a0.2.getD s48_908.toNat default ≤ a0.2.getD ((s48_908 - (1 : Int)).toNat) default then Option.map Sum.inr (some (false)) else Go.L.chk (Go.L.I64 (s48_908 + (1 : Int))) (some (Sum.inl (s48_908 + (1 : Int)))))) else Go.L.chk (Go.L.I64 (s48_908 + (1 : Int))) (some (Sum.inl (s48_908 + (1 : Int))))) else Option.map Sum.inr (shapes_entry_valid_k19)
noncomputable def shapes_entry_valid_l20 (a0 : ((List UInt8) × Int × Int × (List UInt8)) × (List Int)) (a1 : Int) (s : Int) : Option (Bool) := Go.L.run (shapes_entry_valid_bl20 a0 a1) s
noncomputable def shapes_entry_valid (a0 : ((List UInt8) × Int × Int × (List UInt8)) × (List Int)) (a1 : Int) : Option (Bool) :=
 Option.bind (shapes_isPath a0.1.1) (fun x2 => if !x2 then (if !x2 then some (false) else (shapes_entry_valid_l2 a0 a1) (0 : Int)) else (if a0.1.2.1 < (1 : Int) then (if a0.1.2.1 < (1 : Int) then some (false) else (shapes_entry_valid_l4 a0 a1) (0 : Int)) else (if (4 : Int) < a0.1.2.1 then (if (4 : Int) < a0.1.2.1 then some (false) else (shapes_entry_valid_l6 a0 a1) (0 : Int)) else (if a0.1.2.2.1 = (0 : Int) then if a0.1.2.2.2 = ([] : List UInt8) then if (a0.2.length : Int) = (0 : Int) then some (false) else (shapes_entry_valid_l20 a0 a1) (0 : Int) else if a0.1.2.1 = (2 : Int) then (if (a0.2.length : Int) = (0 : Int) then some (false) else (shapes_entry_valid_l18 a0 a1) (0 : Int)) else (if a0.1.2.1 = (2 : Int) then (shapes_entry_valid_l16 a0 a1) (0 : Int) else some (false)) else if a0.1.2.1 = (1 : Int) then (if a0.1.2.2.2 = ([] : List UInt8) then if (a0.2.length : Int) = (0 : Int) then some (false) else (shapes_entry_valid_l14 a0 a1) (0 : Int) else if a0.1.2.1 = (2 : Int) then (if (a0.2.length : Int) = (0 : Int) then some (false) else (shapes_entry_valid_l12 a0 a1) (0 : Int)) else (if a0.1.2.1 = (2 : Int) then (shapes_entry_valid_l10 a0 a1) (0 : Int) else some (false))) else (if a0.1.2.1 = (1 : Int) then (shapes_entry_valid_l8 a0 a1) (0 : Int) else some (false))))))
theorem shapes_entry_valid_ok (w : World) (H : PH) (hH : Le H (hp w)) {a0 : ((List UInt8) × Int × Int × (List UInt8)) × (List Int)} {a1 : Int} {v0_0 : Value} (h0_0 : Vec (.int .i64) H v0_0 (a0.2)) {r : Bool} (h : shapes_entry_valid a0 a1 = some r) :
  Ok Tryz.prog 71 [.agg #[.string ⟨(a0.1.1).toArray⟩, .int .i64 a0.1.2.1, .int .i64 a0.1.2.2.1, .string ⟨(a0.1.2.2.2).toArray⟩, v0_0], .int .i64 a1] w (fun v w' => Ext w w' ∧ v = .bool r) := by
 refine Ok_enter (n := 75) [(0, .agg #[.string ⟨(a0.1.1).toArray⟩, .int .i64 a0.1.2.1, .int .i64 a0.1.2.2.1, .string ⟨(a0.1.2.2.2).toArray⟩, v0_0]), (1, .int .i64 a1)] func71 rfl rfl rfl rfl rfl ?_
 have hL := Lcl.start w
 refine W_seqr ?_
 refine S_box (t := 96) rfl rfl rfl hL ?_
 intro w1 b1 hL1 hle1 _
 refine S_pz 1 rfl ?_
 refine W_seq ?_
 refine W_block ?_
 refine W_seq ?_
 refine W_seqr ?_
 refine S_v (r_field rfl underlying96 rfl zr84 (by decide)) rfl ?_
 refine S_v (r_field rfl underlying84 rfl zr9 (by decide)) rfl ?_
 refine S_v (r_loadB1 0 rfl underlying9 rfl hL1 rfl rfl) rfl ?_
 obtain ⟨x2, hb2, h⟩ := Go.L.bind_some h
 refine S_callL rfl rfl hL1 (shapes_isPath_ok _ _ (gz_le hH hL1) hb2) ?_
 rintro _ w3 rfl hx3 hL3 hle3
 refine S_pz 2 rfl ?_
 refine W_cond rfl (fun hc4 => ?_) (fun hc4 => ?_)
 ·replace h := Go.L.ite_t hc4 h
  refine W_skip ?_
  refine At_seq ?_
  refine W_cond rfl (fun hc6 => ?_) (fun hc6 => ?_)
  ·replace h := Go.L.ite_t hc6 h
   refine W_pz 1 rfl ?_
   refine W_ret ?_
   refine At_block_ret ?_
   refine At_seq_ret ?_
   obtain rfl := Option.some.inj h
   refine At_body rfl rfl ?_
   exact ⟨hL3.ext, rfl⟩
  ·replace h := Go.L.ite_f hc6 h
   refine W_skip ?_
   refine At_block ?_
   refine At_seq ?_
   refine W_cut (σ := Unit) (fun (_ : Unit) => []) (fun (_ : Unit) wr => Lcl w [.box b1 [.string ⟨(a0.1.1).toArray⟩, .int .i64 a0.1.2.1, .int .i64 a0.1.2.2.1, .string ⟨(a0.1.2.2.2).toArray⟩, v0_0] 96] wr ∧ shapes_entry_valid_k1 = some r) ?_ ?_
   ·refine W_seqr ?_
    refine S_v (r_field rfl underlying96 rfl zr52 (by decide)) rfl ?_
    refine S_v (r_loadB1 0 rfl underlying52 rfl hL3 rfl rfl) rfl ?_
    refine S_v (r_len rfl underlying52 h0_0) rfl ?_
    refine S_pz 1 rfl ?_
    refine W_block ?_
    obtain ⟨n74, h⟩ := Go.L.run_some h
    refine W_loop (σ := Int × Nat) (fun ⟨s48_73, n⟩ => [(1, .int .i64 a1), (2, .pointer (some ⟨b1, 0, none⟩)), (46, v0_0), (47, .int .i64 (a0.2.length : Int)), (48, .int .i64 s48_73)]) (fun ⟨s48_73, n⟩ wr => Lcl w [.box b1 [.string ⟨(a0.1.1).toArray⟩, .int .i64 a0.1.2.1, .int .i64 a0.1.2.2.1, .string ⟨(a0.1.2.2.2).toArray⟩, v0_0] 96] wr ∧ Go.L.itr (shapes_entry_valid_bl2 a0 a1) n s48_73 = some r) (fun ⟨s48_73, n⟩ => n) ((0 : Int), n74) (.cons rfl (.cons rfl (.cons rfl (.cons rfl (.cons rfl (Sub.nil _)))))) ⟨hL3, h⟩ ?_
    rintro ⟨s48_73, nn74⟩ wr74 ⟨hL74, h⟩
    obtain ⟨n74, e74, rfl, h, hm74⟩ := Go.L.itr_some h
    refine W_pz 1 rfl ?_
    refine W_seq ?_
    refine W_if rfl (fun hc76 => ?_) (fun hc76 => ?_)
    ·replace h := Go.L.ite_p hc76 h
     refine W_skip ?_
     refine At_seq ?_
     refine W_seq ?_
     refine W_block ?_
     refine W_p 1 rfl ?_
     obtain ⟨hk79, h⟩ := Go.L.chk_some h
     refine S_index rfl rfl underlying52 zr3 h0_0 s48_73.toNat (Int.toNat_of_nonneg hk79.1).symm (idx_lt hk79) rfl ?_
     rintro p78 _ rfl hp78
     refine S_v (r_load1 rfl underlying3 rfl hp78 (hH.trans hL74.arg)) rfl ?_
     refine S_pz 2 rfl ?_
     refine W_p 3 rfl ?_
     refine S_or 3 2 rfl rfl rfl rfl rfl rfl ?_
     refine S_pu 1 rfl ?_
     refine S_split (s := 60) rfl (fun hg80 => ?_) (fun hg80 => ?_)
     ·replace h := Go.L.ite_p (of_decide_eq_true hg80) h
      iterate 3 refine S_unwanted rfl rfl hg80 rfl ?_
      iterate 8 refine S_unwanted2 rfl rfl rfl ?_
      refine S_unwanted rfl rfl hg80 rfl ?_
      refine S_v (r_pickT rfl hg80 rfl) rfl ?_
      refine S_seqnil ?_
      refine W_true rfl ?_
      refine W_pz 1 rfl ?_
      refine W_ret ?_
      refine At_block_ret ?_
      refine At_seq_ret ?_
      refine At_loop_ret ?_
      replace h := Go.L.Nxt.out h hm74
      refine At_block_ret ?_
      refine At_cut_ret ?_
      obtain rfl := Option.some.inj h
      refine At_body rfl rfl ?_
      exact ⟨hL74.ext, rfl⟩
     ·replace h := Go.L.ite_n (of_decide_eq_false hg80) h
      refine S_guarded rfl rfl hg80 ?_
      refine S_v (RunsAt_pu rfl) rfl ?_
      refine S_guarded rfl rfl hg80 ?_
      refine S_v (RunsAt_pu rfl) rfl ?_
      refine S_guarded rfl rfl hg80 ?_
      refine S_v (RunsAt_pu rfl) rfl ?_
      refine S_split (s := 63) rfl (fun hg83 => ?_) (fun hg83 => ?_)
      ·replace h := Go.L.ite_p (of_decide_eq_true hg83) h
       refine S_guarded rfl rfl hg83 ?_
       refine S_v (RunsAt_pu rfl) rfl ?_
       refine S_guarded rfl rfl hg83 ?_
       refine S_v (r_field rfl underlying96 rfl zr52 (by decide)) rfl ?_
       refine S_guarded rfl rfl hg83 ?_
       refine S_v (r_loadB1 0 rfl underlying52 rfl hL74 rfl rfl) rfl ?_
       refine S_guarded rfl rfl hg83 ?_
       refine S_v (RunsAt_pu rfl) rfl ?_
       refine S_guarded rfl rfl hg83 ?_
       obtain ⟨hk85, h⟩ := Go.L.chk_some h
       refine S_v (r_ar64 rfl rfl rfl hk85) rfl ?_
       refine S_guarded rfl rfl hg83 ?_
       obtain ⟨hk87, h⟩ := Go.L.chk_some h
       refine S_index rfl rfl underlying52 zr3 h0_0 ((s48_73 - (1 : Int)).toNat) (Int.toNat_of_nonneg hk87.1).symm (idx_lt hk87) rfl ?_
       rintro p86 _ rfl hp86
       refine S_guarded rfl rfl hg83 ?_
       refine S_v (r_load1 rfl underlying3 rfl hp86 (hH.trans hL74.arg)) rfl ?_
       refine S_guarded rfl rfl hg83 ?_
       refine S_v (RunsAt_pu rfl) rfl ?_
       refine S_guarded rfl rfl hg80 ?_
       refine S_v (r_pickT rfl hg83 rfl) rfl ?_
       refine S_v (r_pickF rfl hg80 rfl) rfl ?_
       refine S_seqnil ?_
       refine W_if rfl (fun hc88 => ?_) (fun hc88 => ?_)
       ·replace h := Go.L.ite_p hc88 h
        refine W_pz 1 rfl ?_
        refine W_ret ?_
        refine At_block_ret ?_
        refine At_seq_ret ?_
        refine At_loop_ret ?_
        replace h := Go.L.Nxt.out h hm74
        refine At_block_ret ?_
        refine At_cut_ret ?_
        obtain rfl := Option.some.inj h
        refine At_body rfl rfl ?_
        exact ⟨hL74.ext, rfl⟩
       ·replace h := Go.L.ite_n hc88 h
        refine W_skip ?_
        refine At_block ?_
        refine At_seq ?_
        refine W_region ?_
        obtain ⟨hk91, h⟩ := Go.L.chk_some h
        refine S_v (r_ar64 rfl rfl rfl hk91) rfl ?_
        refine S_pu 1 rfl ?_
        refine S_nil ?_
        have h := Go.L.Nxt.again h hm74
        refine At_round ((s48_73 + (1 : Int)), n74) (.cons rfl (.cons rfl (.cons rfl (.cons rfl (.cons rfl (Sub.nil _)))))) ⟨hL74, h⟩ (Nat.lt_succ_self _)
      ·replace h := Go.L.ite_n (of_decide_eq_false hg83) h
       iterate 8 refine S_unwanted rfl rfl hg83 rfl ?_
       refine S_guarded rfl rfl hg80 ?_
       refine S_v (r_pickF rfl hg83 rfl) rfl ?_
       refine S_v (r_pickF rfl hg80 rfl) rfl ?_
       refine S_seqnil ?_
       refine W_false rfl ?_
       refine W_skip ?_
       refine At_block ?_
       refine At_seq ?_
       refine W_region ?_
       obtain ⟨hk93, h⟩ := Go.L.chk_some h
       refine S_v (r_ar64 rfl rfl rfl hk93) rfl ?_
       refine S_pu 1 rfl ?_
       refine S_nil ?_
       have h := Go.L.Nxt.again h hm74
       refine At_round ((s48_73 + (1 : Int)), n74) (.cons rfl (.cons rfl (.cons rfl (.cons rfl (.cons rfl (Sub.nil _)))))) ⟨hL74, h⟩ (Nat.lt_succ_self _)
    ·replace h := Go.L.ite_n hc76 h
     refine W_exit ?_
     refine At_seq_exit ?_
     refine At_loop_exit ?_
     replace h := Go.L.Nxt.out h hm74
     refine At_exit ?_
     refine At_cut () (Sub.nil _) ⟨hL74, h⟩
   ·rintro _ wr51 ⟨hL51, h⟩
    refine W_pz 1 rfl ?_
    refine W_ret ?_
    obtain rfl := Option.some.inj h
    refine At_body rfl rfl ?_
    exact ⟨hL51.ext, rfl⟩
 ·replace h := Go.L.ite_f hc4 h
  refine W_seqr ?_
  refine S_v (r_field rfl underlying96 rfl zr84 (by decide)) rfl ?_
  refine S_v (r_field rfl underlying84 rfl zr3 (by decide)) rfl ?_
  refine S_v (r_loadB1 0 rfl underlying3 rfl hL3 rfl rfl) rfl ?_
  refine S_pz 2 rfl ?_
  refine W_if rfl (fun hc97 => ?_) (fun hc97 => ?_)
  ·replace h := Go.L.ite_p hc97 h
   refine W_skip ?_
   refine At_seq ?_
   refine W_if rfl (fun hc99 => ?_) (fun hc99 => ?_)
   ·replace h := Go.L.ite_p hc99 h
    refine W_pz 1 rfl ?_
    refine W_ret ?_
    refine At_block_ret ?_
    refine At_seq_ret ?_
    obtain rfl := Option.some.inj h
    refine At_body rfl rfl ?_
    exact ⟨hL3.ext, rfl⟩
   ·replace h := Go.L.ite_n hc99 h
    refine W_skip ?_
    refine At_block ?_
    refine At_seq ?_
    refine W_cut (σ := Unit) (fun (_ : Unit) => []) (fun (_ : Unit) wr => Lcl w [.box b1 [.string ⟨(a0.1.1).toArray⟩, .int .i64 a0.1.2.1, .int .i64 a0.1.2.2.1, .string ⟨(a0.1.2.2.2).toArray⟩, v0_0] 96] wr ∧ shapes_entry_valid_k3 = some r) ?_ ?_
    ·refine W_seqr ?_
     refine S_v (r_field rfl underlying96 rfl zr52 (by decide)) rfl ?_
     refine S_v (r_loadB1 0 rfl underlying52 rfl hL3 rfl rfl) rfl ?_
     refine S_v (r_len rfl underlying52 h0_0) rfl ?_
     refine S_pz 1 rfl ?_
     refine W_block ?_
     obtain ⟨n167, h⟩ := Go.L.run_some h
     refine W_loop (σ := Int × Nat) (fun ⟨s48_166, n⟩ => [(1, .int .i64 a1), (2, .pointer (some ⟨b1, 0, none⟩)), (46, v0_0), (47, .int .i64 (a0.2.length : Int)), (48, .int .i64 s48_166)]) (fun ⟨s48_166, n⟩ wr => Lcl w [.box b1 [.string ⟨(a0.1.1).toArray⟩, .int .i64 a0.1.2.1, .int .i64 a0.1.2.2.1, .string ⟨(a0.1.2.2.2).toArray⟩, v0_0] 96] wr ∧ Go.L.itr (shapes_entry_valid_bl4 a0 a1) n s48_166 = some r) (fun ⟨s48_166, n⟩ => n) ((0 : Int), n167) (.cons rfl (.cons rfl (.cons rfl (.cons rfl (.cons rfl (Sub.nil _)))))) ⟨hL3, h⟩ ?_
     rintro ⟨s48_166, nn167⟩ wr167 ⟨hL167, h⟩
     obtain ⟨n167, e167, rfl, h, hm167⟩ := Go.L.itr_some h
     refine W_pz 1 rfl ?_
     refine W_seq ?_
     refine W_if rfl (fun hc169 => ?_) (fun hc169 => ?_)
     ·replace h := Go.L.ite_p hc169 h
      refine W_skip ?_
      refine At_seq ?_
      refine W_seq ?_
      refine W_block ?_
      refine W_p 1 rfl ?_
      obtain ⟨hk172, h⟩ := Go.L.chk_some h
      refine S_index rfl rfl underlying52 zr3 h0_0 s48_166.toNat (Int.toNat_of_nonneg hk172.1).symm (idx_lt hk172) rfl ?_
      rintro p171 _ rfl hp171
      refine S_v (r_load1 rfl underlying3 rfl hp171 (hH.trans hL167.arg)) rfl ?_
      refine S_pz 2 rfl ?_
      refine W_p 3 rfl ?_
      refine S_or 3 2 rfl rfl rfl rfl rfl rfl ?_
      refine S_pu 1 rfl ?_
      refine S_split (s := 60) rfl (fun hg173 => ?_) (fun hg173 => ?_)
      ·replace h := Go.L.ite_p (of_decide_eq_true hg173) h
       iterate 3 refine S_unwanted rfl rfl hg173 rfl ?_
       iterate 8 refine S_unwanted2 rfl rfl rfl ?_
       refine S_unwanted rfl rfl hg173 rfl ?_
       refine S_v (r_pickT rfl hg173 rfl) rfl ?_
       refine S_seqnil ?_
       refine W_true rfl ?_
       refine W_pz 1 rfl ?_
       refine W_ret ?_
       refine At_block_ret ?_
       refine At_seq_ret ?_
       refine At_loop_ret ?_
       replace h := Go.L.Nxt.out h hm167
       refine At_block_ret ?_
       refine At_cut_ret ?_
       obtain rfl := Option.some.inj h
       refine At_body rfl rfl ?_
       exact ⟨hL167.ext, rfl⟩
      ·replace h := Go.L.ite_n (of_decide_eq_false hg173) h
       refine S_guarded rfl rfl hg173 ?_
       refine S_v (RunsAt_pu rfl) rfl ?_
       refine S_guarded rfl rfl hg173 ?_
       refine S_v (RunsAt_pu rfl) rfl ?_
       refine S_guarded rfl rfl hg173 ?_
       refine S_v (RunsAt_pu rfl) rfl ?_
       refine S_split (s := 63) rfl (fun hg176 => ?_) (fun hg176 => ?_)
       ·replace h := Go.L.ite_p (of_decide_eq_true hg176) h
        refine S_guarded rfl rfl hg176 ?_
        refine S_v (RunsAt_pu rfl) rfl ?_
        refine S_guarded rfl rfl hg176 ?_
        refine S_v (r_field rfl underlying96 rfl zr52 (by decide)) rfl ?_
        refine S_guarded rfl rfl hg176 ?_
        refine S_v (r_loadB1 0 rfl underlying52 rfl hL167 rfl rfl) rfl ?_
        refine S_guarded rfl rfl hg176 ?_
        refine S_v (RunsAt_pu rfl) rfl ?_
        refine S_guarded rfl rfl hg176 ?_
        obtain ⟨hk178, h⟩ := Go.L.chk_some h
        refine S_v (r_ar64 rfl rfl rfl hk178) rfl ?_
        refine S_guarded rfl rfl hg176 ?_
        obtain ⟨hk180, h⟩ := Go.L.chk_some h
        refine S_index rfl rfl underlying52 zr3 h0_0 ((s48_166 - (1 : Int)).toNat) (Int.toNat_of_nonneg hk180.1).symm (idx_lt hk180) rfl ?_
        rintro p179 _ rfl hp179
        refine S_guarded rfl rfl hg176 ?_
        refine S_v (r_load1 rfl underlying3 rfl hp179 (hH.trans hL167.arg)) rfl ?_
        refine S_guarded rfl rfl hg176 ?_
        refine S_v (RunsAt_pu rfl) rfl ?_
        refine S_guarded rfl rfl hg173 ?_
        refine S_v (r_pickT rfl hg176 rfl) rfl ?_
        refine S_v (r_pickF rfl hg173 rfl) rfl ?_
        refine S_seqnil ?_
        refine W_if rfl (fun hc181 => ?_) (fun hc181 => ?_)
        ·replace h := Go.L.ite_p hc181 h
         refine W_pz 1 rfl ?_
         refine W_ret ?_
         refine At_block_ret ?_
         refine At_seq_ret ?_
         refine At_loop_ret ?_
         replace h := Go.L.Nxt.out h hm167
         refine At_block_ret ?_
         refine At_cut_ret ?_
         obtain rfl := Option.some.inj h
         refine At_body rfl rfl ?_
         exact ⟨hL167.ext, rfl⟩
        ·replace h := Go.L.ite_n hc181 h
         refine W_skip ?_
         refine At_block ?_
         refine At_seq ?_
         refine W_region ?_
         obtain ⟨hk184, h⟩ := Go.L.chk_some h
         refine S_v (r_ar64 rfl rfl rfl hk184) rfl ?_
         refine S_pu 1 rfl ?_
         refine S_nil ?_
         have h := Go.L.Nxt.again h hm167
         refine At_round ((s48_166 + (1 : Int)), n167) (.cons rfl (.cons rfl (.cons rfl (.cons rfl (.cons rfl (Sub.nil _)))))) ⟨hL167, h⟩ (Nat.lt_succ_self _)
       ·replace h := Go.L.ite_n (of_decide_eq_false hg176) h
        iterate 8 refine S_unwanted rfl rfl hg176 rfl ?_
        refine S_guarded rfl rfl hg173 ?_
        refine S_v (r_pickF rfl hg176 rfl) rfl ?_
        refine S_v (r_pickF rfl hg173 rfl) rfl ?_
        refine S_seqnil ?_
        refine W_false rfl ?_
        refine W_skip ?_
        refine At_block ?_
        refine At_seq ?_
        refine W_region ?_
        obtain ⟨hk186, h⟩ := Go.L.chk_some h
        refine S_v (r_ar64 rfl rfl rfl hk186) rfl ?_
        refine S_pu 1 rfl ?_
        refine S_nil ?_
        have h := Go.L.Nxt.again h hm167
        refine At_round ((s48_166 + (1 : Int)), n167) (.cons rfl (.cons rfl (.cons rfl (.cons rfl (.cons rfl (Sub.nil _)))))) ⟨hL167, h⟩ (Nat.lt_succ_self _)
     ·replace h := Go.L.ite_n hc169 h
      refine W_exit ?_
      refine At_seq_exit ?_
      refine At_loop_exit ?_
      replace h := Go.L.Nxt.out h hm167
      refine At_exit ?_
      refine At_cut () (Sub.nil _) ⟨hL167, h⟩
    ·rintro _ wr144 ⟨hL144, h⟩
     refine W_pz 1 rfl ?_
     refine W_ret ?_
     obtain rfl := Option.some.inj h
     refine At_body rfl rfl ?_
     exact ⟨hL144.ext, rfl⟩
  ·replace h := Go.L.ite_n hc97 h
   refine W_seqr ?_
   refine S_v (r_field rfl underlying96 rfl zr84 (by decide)) rfl ?_
   refine S_v (r_field rfl underlying84 rfl zr3 (by decide)) rfl ?_
   refine S_v (r_loadB1 0 rfl underlying3 rfl hL3 rfl rfl) rfl ?_
   refine S_pz 2 rfl ?_
   refine W_if rfl (fun hc190 => ?_) (fun hc190 => ?_)
   ·replace h := Go.L.ite_p hc190 h
    refine W_skip ?_
    refine At_seq ?_
    refine W_if rfl (fun hc192 => ?_) (fun hc192 => ?_)
    ·replace h := Go.L.ite_p hc192 h
     refine W_pz 1 rfl ?_
     refine W_ret ?_
     refine At_block_ret ?_
     refine At_seq_ret ?_
     obtain rfl := Option.some.inj h
     refine At_body rfl rfl ?_
     exact ⟨hL3.ext, rfl⟩
    ·replace h := Go.L.ite_n hc192 h
     refine W_skip ?_
     refine At_block ?_
     refine At_seq ?_
     refine W_cut (σ := Unit) (fun (_ : Unit) => []) (fun (_ : Unit) wr => Lcl w [.box b1 [.string ⟨(a0.1.1).toArray⟩, .int .i64 a0.1.2.1, .int .i64 a0.1.2.2.1, .string ⟨(a0.1.2.2.2).toArray⟩, v0_0] 96] wr ∧ shapes_entry_valid_k5 = some r) ?_ ?_
     ·refine W_seqr ?_
      refine S_v (r_field rfl underlying96 rfl zr52 (by decide)) rfl ?_
      refine S_v (r_loadB1 0 rfl underlying52 rfl hL3 rfl rfl) rfl ?_
      refine S_v (r_len rfl underlying52 h0_0) rfl ?_
      refine S_pz 1 rfl ?_
      refine W_block ?_
      obtain ⟨n260, h⟩ := Go.L.run_some h
      refine W_loop (σ := Int × Nat) (fun ⟨s48_259, n⟩ => [(1, .int .i64 a1), (2, .pointer (some ⟨b1, 0, none⟩)), (46, v0_0), (47, .int .i64 (a0.2.length : Int)), (48, .int .i64 s48_259)]) (fun ⟨s48_259, n⟩ wr => Lcl w [.box b1 [.string ⟨(a0.1.1).toArray⟩, .int .i64 a0.1.2.1, .int .i64 a0.1.2.2.1, .string ⟨(a0.1.2.2.2).toArray⟩, v0_0] 96] wr ∧ Go.L.itr (shapes_entry_valid_bl6 a0 a1) n s48_259 = some r) (fun ⟨s48_259, n⟩ => n) ((0 : Int), n260) (.cons rfl (.cons rfl (.cons rfl (.cons rfl (.cons rfl (Sub.nil _)))))) ⟨hL3, h⟩ ?_
      rintro ⟨s48_259, nn260⟩ wr260 ⟨hL260, h⟩
      obtain ⟨n260, e260, rfl, h, hm260⟩ := Go.L.itr_some h
      refine W_pz 1 rfl ?_
      refine W_seq ?_
      refine W_if rfl (fun hc262 => ?_) (fun hc262 => ?_)
      ·replace h := Go.L.ite_p hc262 h
       refine W_skip ?_
       refine At_seq ?_
       refine W_seq ?_
       refine W_block ?_
       refine W_p 1 rfl ?_
       obtain ⟨hk265, h⟩ := Go.L.chk_some h
       refine S_index rfl rfl underlying52 zr3 h0_0 s48_259.toNat (Int.toNat_of_nonneg hk265.1).symm (idx_lt hk265) rfl ?_
       rintro p264 _ rfl hp264
       refine S_v (r_load1 rfl underlying3 rfl hp264 (hH.trans hL260.arg)) rfl ?_
       refine S_pz 2 rfl ?_
       refine W_p 3 rfl ?_
       refine S_or 3 2 rfl rfl rfl rfl rfl rfl ?_
       refine S_pu 1 rfl ?_
       refine S_split (s := 60) rfl (fun hg266 => ?_) (fun hg266 => ?_)
       ·replace h := Go.L.ite_p (of_decide_eq_true hg266) h
        iterate 3 refine S_unwanted rfl rfl hg266 rfl ?_
        iterate 8 refine S_unwanted2 rfl rfl rfl ?_
        refine S_unwanted rfl rfl hg266 rfl ?_
        refine S_v (r_pickT rfl hg266 rfl) rfl ?_
        refine S_seqnil ?_
        refine W_true rfl ?_
        refine W_pz 1 rfl ?_
        refine W_ret ?_
        refine At_block_ret ?_
        refine At_seq_ret ?_
        refine At_loop_ret ?_
        replace h := Go.L.Nxt.out h hm260
        refine At_block_ret ?_
        refine At_cut_ret ?_
        obtain rfl := Option.some.inj h
        refine At_body rfl rfl ?_
        exact ⟨hL260.ext, rfl⟩
       ·replace h := Go.L.ite_n (of_decide_eq_false hg266) h
        refine S_guarded rfl rfl hg266 ?_
        refine S_v (RunsAt_pu rfl) rfl ?_
        refine S_guarded rfl rfl hg266 ?_
        refine S_v (RunsAt_pu rfl) rfl ?_
        refine S_guarded rfl rfl hg266 ?_
        refine S_v (RunsAt_pu rfl) rfl ?_
        refine S_split (s := 63) rfl (fun hg269 => ?_) (fun hg269 => ?_)
        ·replace h := Go.L.ite_p (of_decide_eq_true hg269) h
         refine S_guarded rfl rfl hg269 ?_
         refine S_v (RunsAt_pu rfl) rfl ?_
         refine S_guarded rfl rfl hg269 ?_
         refine S_v (r_field rfl underlying96 rfl zr52 (by decide)) rfl ?_
         refine S_guarded rfl rfl hg269 ?_
         refine S_v (r_loadB1 0 rfl underlying52 rfl hL260 rfl rfl) rfl ?_
         refine S_guarded rfl rfl hg269 ?_
         refine S_v (RunsAt_pu rfl) rfl ?_
         refine S_guarded rfl rfl hg269 ?_
         obtain ⟨hk271, h⟩ := Go.L.chk_some h
         refine S_v (r_ar64 rfl rfl rfl hk271) rfl ?_
         refine S_guarded rfl rfl hg269 ?_
         obtain ⟨hk273, h⟩ := Go.L.chk_some h
         refine S_index rfl rfl underlying52 zr3 h0_0 ((s48_259 - (1 : Int)).toNat) (Int.toNat_of_nonneg hk273.1).symm (idx_lt hk273) rfl ?_
         rintro p272 _ rfl hp272
         refine S_guarded rfl rfl hg269 ?_
         refine S_v (r_load1 rfl underlying3 rfl hp272 (hH.trans hL260.arg)) rfl ?_
         refine S_guarded rfl rfl hg269 ?_
         refine S_v (RunsAt_pu rfl) rfl ?_
         refine S_guarded rfl rfl hg266 ?_
         refine S_v (r_pickT rfl hg269 rfl) rfl ?_
         refine S_v (r_pickF rfl hg266 rfl) rfl ?_
         refine S_seqnil ?_
         refine W_if rfl (fun hc274 => ?_) (fun hc274 => ?_)
         ·replace h := Go.L.ite_p hc274 h
          refine W_pz 1 rfl ?_
          refine W_ret ?_
          refine At_block_ret ?_
          refine At_seq_ret ?_
          refine At_loop_ret ?_
          replace h := Go.L.Nxt.out h hm260
          refine At_block_ret ?_
          refine At_cut_ret ?_
          obtain rfl := Option.some.inj h
          refine At_body rfl rfl ?_
          exact ⟨hL260.ext, rfl⟩
         ·replace h := Go.L.ite_n hc274 h
          refine W_skip ?_
          refine At_block ?_
          refine At_seq ?_
          refine W_region ?_
          obtain ⟨hk277, h⟩ := Go.L.chk_some h
          refine S_v (r_ar64 rfl rfl rfl hk277) rfl ?_
          refine S_pu 1 rfl ?_
          refine S_nil ?_
          have h := Go.L.Nxt.again h hm260
          refine At_round ((s48_259 + (1 : Int)), n260) (.cons rfl (.cons rfl (.cons rfl (.cons rfl (.cons rfl (Sub.nil _)))))) ⟨hL260, h⟩ (Nat.lt_succ_self _)
        ·replace h := Go.L.ite_n (of_decide_eq_false hg269) h
         iterate 8 refine S_unwanted rfl rfl hg269 rfl ?_
         refine S_guarded rfl rfl hg266 ?_
         refine S_v (r_pickF rfl hg269 rfl) rfl ?_
         refine S_v (r_pickF rfl hg266 rfl) rfl ?_
         refine S_seqnil ?_
         refine W_false rfl ?_
         refine W_skip ?_
         refine At_block ?_
         refine At_seq ?_
         refine W_region ?_
         obtain ⟨hk279, h⟩ := Go.L.chk_some h
         refine S_v (r_ar64 rfl rfl rfl hk279) rfl ?_
         refine S_pu 1 rfl ?_
         refine S_nil ?_
         have h := Go.L.Nxt.again h hm260
         refine At_round ((s48_259 + (1 : Int)), n260) (.cons rfl (.cons rfl (.cons rfl (.cons rfl (.cons rfl (Sub.nil _)))))) ⟨hL260, h⟩ (Nat.lt_succ_self _)
      ·replace h := Go.L.ite_n hc262 h
       refine W_exit ?_
       refine At_seq_exit ?_
       refine At_loop_exit ?_
       replace h := Go.L.Nxt.out h hm260
       refine At_exit ?_
       refine At_cut () (Sub.nil _) ⟨hL260, h⟩
     ·rintro _ wr237 ⟨hL237, h⟩
      refine W_pz 1 rfl ?_
      refine W_ret ?_
      obtain rfl := Option.some.inj h
      refine At_body rfl rfl ?_
      exact ⟨hL237.ext, rfl⟩
   ·replace h := Go.L.ite_n hc190 h
    refine W_seqr ?_
    refine S_v (r_field rfl underlying96 rfl zr84 (by decide)) rfl ?_
    refine S_v (r_field rfl underlying84 rfl zr3 (by decide)) rfl ?_
    refine S_v (r_loadB1 0 rfl underlying3 rfl hL3 rfl rfl) rfl ?_
    refine S_pu 2 rfl ?_
    refine S_split (s := 25) rfl (fun hg283 => ?_) (fun hg283 => ?_)
    ·replace h := Go.L.ite_n (not_dec_t hg283) h
     refine S_guarded rfl rfl hg283 ?_
     refine S_v (r_field rfl underlying96 rfl zr84 (by decide)) rfl ?_
     refine S_guarded rfl rfl hg283 ?_
     refine S_v (r_field rfl underlying84 rfl zr3 (by decide)) rfl ?_
     refine S_guarded rfl rfl hg283 ?_
     refine S_v (r_loadB1 0 rfl underlying3 rfl hL3 rfl rfl) rfl ?_
     refine S_guarded rfl rfl hg283 ?_
     refine S_v (RunsAt_pu rfl) rfl ?_
     refine S_v (r_pickT rfl hg283 rfl) rfl ?_
     refine S_pz 1 rfl ?_
     refine W_ifn rfl (fun hc285 => ?_) (fun hc285 => ?_)
     ·replace h := Go.L.ite_n hc285 h
      refine W_skip ?_
      refine At_seq ?_
      refine W_ifn rfl (fun hc287 => ?_) (fun hc287 => ?_)
      ·replace h := Go.L.ite_n hc287 h
       refine W_pz 1 rfl ?_
       refine W_ret ?_
       refine At_block_ret ?_
       refine At_seq_ret ?_
       obtain rfl := Option.some.inj h
       refine At_body rfl rfl ?_
       exact ⟨hL3.ext, rfl⟩
      ·replace h := Go.L.ite_p hc287 h
       refine W_skip ?_
       refine At_block ?_
       refine At_seq ?_
       refine W_cut (σ := Unit) (fun (_ : Unit) => []) (fun (_ : Unit) wr => Lcl w [.box b1 [.string ⟨(a0.1.1).toArray⟩, .int .i64 a0.1.2.1, .int .i64 a0.1.2.2.1, .string ⟨(a0.1.2.2.2).toArray⟩, v0_0] 96] wr ∧ shapes_entry_valid_k7 = some r) ?_ ?_
       ·refine W_seqr ?_
        refine S_v (r_field rfl underlying96 rfl zr52 (by decide)) rfl ?_
        refine S_v (r_loadB1 0 rfl underlying52 rfl hL3 rfl rfl) rfl ?_
        refine S_v (r_len rfl underlying52 h0_0) rfl ?_
        refine S_pz 1 rfl ?_
        refine W_block ?_
        obtain ⟨n355, h⟩ := Go.L.run_some h
        refine W_loop (σ := Int × Nat) (fun ⟨s48_354, n⟩ => [(1, .int .i64 a1), (2, .pointer (some ⟨b1, 0, none⟩)), (46, v0_0), (47, .int .i64 (a0.2.length : Int)), (48, .int .i64 s48_354)]) (fun ⟨s48_354, n⟩ wr => Lcl w [.box b1 [.string ⟨(a0.1.1).toArray⟩, .int .i64 a0.1.2.1, .int .i64 a0.1.2.2.1, .string ⟨(a0.1.2.2.2).toArray⟩, v0_0] 96] wr ∧ Go.L.itr (shapes_entry_valid_bl8 a0 a1) n s48_354 = some r) (fun ⟨s48_354, n⟩ => n) ((0 : Int), n355) (.cons rfl (.cons rfl (.cons rfl (.cons rfl (.cons rfl (Sub.nil _)))))) ⟨hL3, h⟩ ?_
        rintro ⟨s48_354, nn355⟩ wr355 ⟨hL355, h⟩
        obtain ⟨n355, e355, rfl, h, hm355⟩ := Go.L.itr_some h
        refine W_pz 1 rfl ?_
        refine W_seq ?_
        refine W_if rfl (fun hc357 => ?_) (fun hc357 => ?_)
        ·replace h := Go.L.ite_p hc357 h
         refine W_skip ?_
         refine At_seq ?_
         refine W_seq ?_
         refine W_block ?_
         refine W_p 1 rfl ?_
         obtain ⟨hk360, h⟩ := Go.L.chk_some h
         refine S_index rfl rfl underlying52 zr3 h0_0 s48_354.toNat (Int.toNat_of_nonneg hk360.1).symm (idx_lt hk360) rfl ?_
         rintro p359 _ rfl hp359
         refine S_v (r_load1 rfl underlying3 rfl hp359 (hH.trans hL355.arg)) rfl ?_
         refine S_pz 2 rfl ?_
         refine W_p 3 rfl ?_
         refine S_or 3 2 rfl rfl rfl rfl rfl rfl ?_
         refine S_pu 1 rfl ?_
         refine S_split (s := 60) rfl (fun hg361 => ?_) (fun hg361 => ?_)
         ·replace h := Go.L.ite_p (of_decide_eq_true hg361) h
          iterate 3 refine S_unwanted rfl rfl hg361 rfl ?_
          iterate 8 refine S_unwanted2 rfl rfl rfl ?_
          refine S_unwanted rfl rfl hg361 rfl ?_
          refine S_v (r_pickT rfl hg361 rfl) rfl ?_
          refine S_seqnil ?_
          refine W_true rfl ?_
          refine W_pz 1 rfl ?_
          refine W_ret ?_
          refine At_block_ret ?_
          refine At_seq_ret ?_
          refine At_loop_ret ?_
          replace h := Go.L.Nxt.out h hm355
          refine At_block_ret ?_
          refine At_cut_ret ?_
          obtain rfl := Option.some.inj h
          refine At_body rfl rfl ?_
          exact ⟨hL355.ext, rfl⟩
         ·replace h := Go.L.ite_n (of_decide_eq_false hg361) h
          refine S_guarded rfl rfl hg361 ?_
          refine S_v (RunsAt_pu rfl) rfl ?_
          refine S_guarded rfl rfl hg361 ?_
          refine S_v (RunsAt_pu rfl) rfl ?_
          refine S_guarded rfl rfl hg361 ?_
          refine S_v (RunsAt_pu rfl) rfl ?_
          refine S_split (s := 63) rfl (fun hg364 => ?_) (fun hg364 => ?_)
          ·replace h := Go.L.ite_p (of_decide_eq_true hg364) h
           refine S_guarded rfl rfl hg364 ?_
           refine S_v (RunsAt_pu rfl) rfl ?_
           refine S_guarded rfl rfl hg364 ?_
           refine S_v (r_field rfl underlying96 rfl zr52 (by decide)) rfl ?_
           refine S_guarded rfl rfl hg364 ?_
           refine S_v (r_loadB1 0 rfl underlying52 rfl hL355 rfl rfl) rfl ?_
           refine S_guarded rfl rfl hg364 ?_
           refine S_v (RunsAt_pu rfl) rfl ?_
           refine S_guarded rfl rfl hg364 ?_
           obtain ⟨hk366, h⟩ := Go.L.chk_some h
           refine S_v (r_ar64 rfl rfl rfl hk366) rfl ?_
           refine S_guarded rfl rfl hg364 ?_
           obtain ⟨hk368, h⟩ := Go.L.chk_some h
           refine S_index rfl rfl underlying52 zr3 h0_0 ((s48_354 - (1 : Int)).toNat) (Int.toNat_of_nonneg hk368.1).symm (idx_lt hk368) rfl ?_
           rintro p367 _ rfl hp367
           refine S_guarded rfl rfl hg364 ?_
           refine S_v (r_load1 rfl underlying3 rfl hp367 (hH.trans hL355.arg)) rfl ?_
           refine S_guarded rfl rfl hg364 ?_
           refine S_v (RunsAt_pu rfl) rfl ?_
           refine S_guarded rfl rfl hg361 ?_
           refine S_v (r_pickT rfl hg364 rfl) rfl ?_
           refine S_v (r_pickF rfl hg361 rfl) rfl ?_
           refine S_seqnil ?_
           refine W_if rfl (fun hc369 => ?_) (fun hc369 => ?_)
           ·replace h := Go.L.ite_p hc369 h
            refine W_pz 1 rfl ?_
            refine W_ret ?_
            refine At_block_ret ?_
            refine At_seq_ret ?_
            refine At_loop_ret ?_
            replace h := Go.L.Nxt.out h hm355
            refine At_block_ret ?_
            refine At_cut_ret ?_
            obtain rfl := Option.some.inj h
            refine At_body rfl rfl ?_
            exact ⟨hL355.ext, rfl⟩
           ·replace h := Go.L.ite_n hc369 h
            refine W_skip ?_
            refine At_block ?_
            refine At_seq ?_
            refine W_region ?_
            obtain ⟨hk372, h⟩ := Go.L.chk_some h
            refine S_v (r_ar64 rfl rfl rfl hk372) rfl ?_
            refine S_pu 1 rfl ?_
            refine S_nil ?_
            have h := Go.L.Nxt.again h hm355
            refine At_round ((s48_354 + (1 : Int)), n355) (.cons rfl (.cons rfl (.cons rfl (.cons rfl (.cons rfl (Sub.nil _)))))) ⟨hL355, h⟩ (Nat.lt_succ_self _)
          ·replace h := Go.L.ite_n (of_decide_eq_false hg364) h
           iterate 8 refine S_unwanted rfl rfl hg364 rfl ?_
           refine S_guarded rfl rfl hg361 ?_
           refine S_v (r_pickF rfl hg364 rfl) rfl ?_
           refine S_v (r_pickF rfl hg361 rfl) rfl ?_
           refine S_seqnil ?_
           refine W_false rfl ?_
           refine W_skip ?_
           refine At_block ?_
           refine At_seq ?_
           refine W_region ?_
           obtain ⟨hk374, h⟩ := Go.L.chk_some h
           refine S_v (r_ar64 rfl rfl rfl hk374) rfl ?_
           refine S_pu 1 rfl ?_
           refine S_nil ?_
           have h := Go.L.Nxt.again h hm355
           refine At_round ((s48_354 + (1 : Int)), n355) (.cons rfl (.cons rfl (.cons rfl (.cons rfl (.cons rfl (Sub.nil _)))))) ⟨hL355, h⟩ (Nat.lt_succ_self _)
        ·replace h := Go.L.ite_n hc357 h
         refine W_exit ?_
         refine At_seq_exit ?_
         refine At_loop_exit ?_
         replace h := Go.L.Nxt.out h hm355
         refine At_exit ?_
         refine At_cut () (Sub.nil _) ⟨hL355, h⟩
       ·rintro _ wr332 ⟨hL332, h⟩
        refine W_pz 1 rfl ?_
        refine W_ret ?_
        obtain rfl := Option.some.inj h
        refine At_body rfl rfl ?_
        exact ⟨hL332.ext, rfl⟩
     ·replace h := Go.L.ite_p hc285 h
      refine W_seqr ?_
      refine S_v (r_field rfl underlying96 rfl zr84 (by decide)) rfl ?_
      refine S_v (r_field rfl underlying84 rfl zr9 (by decide)) rfl ?_
      refine S_v (r_loadB1 0 rfl underlying9 rfl hL3 rfl rfl) rfl ?_
      refine S_v (r_sne rfl rfl) rfl ?_
      refine S_pu 1 rfl ?_
      refine S_split (s := 35) rfl (fun hg378 => ?_) (fun hg378 => ?_)
      ·replace h := Go.L.ite_n (not_dec_t hg378) h
       refine S_guarded rfl rfl hg378 ?_
       refine S_v (r_field rfl underlying96 rfl zr84 (by decide)) rfl ?_
       refine S_guarded rfl rfl hg378 ?_
       refine S_v (r_field rfl underlying84 rfl zr3 (by decide)) rfl ?_
       refine S_guarded rfl rfl hg378 ?_
       refine S_v (r_loadB1 0 rfl underlying3 rfl hL3 rfl rfl) rfl ?_
       refine S_guarded rfl rfl hg378 ?_
       refine S_v (RunsAt_pu rfl) rfl ?_
       refine S_v (r_pickT rfl hg378 rfl) rfl ?_
       refine S_pz 1 rfl ?_
       refine W_ifn rfl (fun hc380 => ?_) (fun hc380 => ?_)
       ·replace h := Go.L.ite_n hc380 h
        refine W_skip ?_
        refine At_seq ?_
        refine W_ifn rfl (fun hc382 => ?_) (fun hc382 => ?_)
        ·replace h := Go.L.ite_n hc382 h
         refine W_pz 1 rfl ?_
         refine W_ret ?_
         refine At_block_ret ?_
         refine At_seq_ret ?_
         obtain rfl := Option.some.inj h
         refine At_body rfl rfl ?_
         exact ⟨hL3.ext, rfl⟩
        ·replace h := Go.L.ite_p hc382 h
         refine W_skip ?_
         refine At_block ?_
         refine At_seq ?_
         refine W_cut (σ := Unit) (fun (_ : Unit) => []) (fun (_ : Unit) wr => Lcl w [.box b1 [.string ⟨(a0.1.1).toArray⟩, .int .i64 a0.1.2.1, .int .i64 a0.1.2.2.1, .string ⟨(a0.1.2.2.2).toArray⟩, v0_0] 96] wr ∧ shapes_entry_valid_k9 = some r) ?_ ?_
         ·refine W_seqr ?_
          refine S_v (r_field rfl underlying96 rfl zr52 (by decide)) rfl ?_
          refine S_v (r_loadB1 0 rfl underlying52 rfl hL3 rfl rfl) rfl ?_
          refine S_v (r_len rfl underlying52 h0_0) rfl ?_
          refine S_pz 1 rfl ?_
          refine W_block ?_
          obtain ⟨n450, h⟩ := Go.L.run_some h
          refine W_loop (σ := Int × Nat) (fun ⟨s48_449, n⟩ => [(1, .int .i64 a1), (2, .pointer (some ⟨b1, 0, none⟩)), (46, v0_0), (47, .int .i64 (a0.2.length : Int)), (48, .int .i64 s48_449)]) (fun ⟨s48_449, n⟩ wr => Lcl w [.box b1 [.string ⟨(a0.1.1).toArray⟩, .int .i64 a0.1.2.1, .int .i64 a0.1.2.2.1, .string ⟨(a0.1.2.2.2).toArray⟩, v0_0] 96] wr ∧ Go.L.itr (shapes_entry_valid_bl10 a0 a1) n s48_449 = some r) (fun ⟨s48_449, n⟩ => n) ((0 : Int), n450) (.cons rfl (.cons rfl (.cons rfl (.cons rfl (.cons rfl (Sub.nil _)))))) ⟨hL3, h⟩ ?_
          rintro ⟨s48_449, nn450⟩ wr450 ⟨hL450, h⟩
          obtain ⟨n450, e450, rfl, h, hm450⟩ := Go.L.itr_some h
          refine W_pz 1 rfl ?_
          refine W_seq ?_
          refine W_if rfl (fun hc452 => ?_) (fun hc452 => ?_)
          ·replace h := Go.L.ite_p hc452 h
           refine W_skip ?_
           refine At_seq ?_
           refine W_seq ?_
           refine W_block ?_
           refine W_p 1 rfl ?_
           obtain ⟨hk455, h⟩ := Go.L.chk_some h
           refine S_index rfl rfl underlying52 zr3 h0_0 s48_449.toNat (Int.toNat_of_nonneg hk455.1).symm (idx_lt hk455) rfl ?_
           rintro p454 _ rfl hp454
           refine S_v (r_load1 rfl underlying3 rfl hp454 (hH.trans hL450.arg)) rfl ?_
           refine S_pz 2 rfl ?_
           refine W_p 3 rfl ?_
           refine S_or 3 2 rfl rfl rfl rfl rfl rfl ?_
           refine S_pu 1 rfl ?_
           refine S_split (s := 60) rfl (fun hg456 => ?_) (fun hg456 => ?_)
           ·replace h := Go.L.ite_p (of_decide_eq_true hg456) h
            iterate 3 refine S_unwanted rfl rfl hg456 rfl ?_
            iterate 8 refine S_unwanted2 rfl rfl rfl ?_
            refine S_unwanted rfl rfl hg456 rfl ?_
            refine S_v (r_pickT rfl hg456 rfl) rfl ?_
            refine S_seqnil ?_
            refine W_true rfl ?_
            refine W_pz 1 rfl ?_
            refine W_ret ?_
            refine At_block_ret ?_
            refine At_seq_ret ?_
            refine At_loop_ret ?_
            replace h := Go.L.Nxt.out h hm450
            refine At_block_ret ?_
            refine At_cut_ret ?_
            obtain rfl := Option.some.inj h
            refine At_body rfl rfl ?_
            exact ⟨hL450.ext, rfl⟩
           ·replace h := Go.L.ite_n (of_decide_eq_false hg456) h
            refine S_guarded rfl rfl hg456 ?_
            refine S_v (RunsAt_pu rfl) rfl ?_
            refine S_guarded rfl rfl hg456 ?_
            refine S_v (RunsAt_pu rfl) rfl ?_
            refine S_guarded rfl rfl hg456 ?_
            refine S_v (RunsAt_pu rfl) rfl ?_
            refine S_split (s := 63) rfl (fun hg459 => ?_) (fun hg459 => ?_)
            ·replace h := Go.L.ite_p (of_decide_eq_true hg459) h
             refine S_guarded rfl rfl hg459 ?_
             refine S_v (RunsAt_pu rfl) rfl ?_
             refine S_guarded rfl rfl hg459 ?_
             refine S_v (r_field rfl underlying96 rfl zr52 (by decide)) rfl ?_
             refine S_guarded rfl rfl hg459 ?_
             refine S_v (r_loadB1 0 rfl underlying52 rfl hL450 rfl rfl) rfl ?_
             refine S_guarded rfl rfl hg459 ?_
             refine S_v (RunsAt_pu rfl) rfl ?_
             refine S_guarded rfl rfl hg459 ?_
             obtain ⟨hk461, h⟩ := Go.L.chk_some h
             refine S_v (r_ar64 rfl rfl rfl hk461) rfl ?_
             refine S_guarded rfl rfl hg459 ?_
             obtain ⟨hk463, h⟩ := Go.L.chk_some h
             refine S_index rfl rfl underlying52 zr3 h0_0 ((s48_449 - (1 : Int)).toNat) (Int.toNat_of_nonneg hk463.1).symm (idx_lt hk463) rfl ?_
             rintro p462 _ rfl hp462
             refine S_guarded rfl rfl hg459 ?_
             refine S_v (r_load1 rfl underlying3 rfl hp462 (hH.trans hL450.arg)) rfl ?_
             refine S_guarded rfl rfl hg459 ?_
             refine S_v (RunsAt_pu rfl) rfl ?_
             refine S_guarded rfl rfl hg456 ?_
             refine S_v (r_pickT rfl hg459 rfl) rfl ?_
             refine S_v (r_pickF rfl hg456 rfl) rfl ?_
             refine S_seqnil ?_
             refine W_if rfl (fun hc464 => ?_) (fun hc464 => ?_)
             ·replace h := Go.L.ite_p hc464 h
              refine W_pz 1 rfl ?_
              refine W_ret ?_
              refine At_block_ret ?_
              refine At_seq_ret ?_
              refine At_loop_ret ?_
              replace h := Go.L.Nxt.out h hm450
              refine At_block_ret ?_
              refine At_cut_ret ?_
              obtain rfl := Option.some.inj h
              refine At_body rfl rfl ?_
              exact ⟨hL450.ext, rfl⟩
             ·replace h := Go.L.ite_n hc464 h
              refine W_skip ?_
              refine At_block ?_
              refine At_seq ?_
              refine W_region ?_
              obtain ⟨hk467, h⟩ := Go.L.chk_some h
              refine S_v (r_ar64 rfl rfl rfl hk467) rfl ?_
              refine S_pu 1 rfl ?_
              refine S_nil ?_
              have h := Go.L.Nxt.again h hm450
              refine At_round ((s48_449 + (1 : Int)), n450) (.cons rfl (.cons rfl (.cons rfl (.cons rfl (.cons rfl (Sub.nil _)))))) ⟨hL450, h⟩ (Nat.lt_succ_self _)
            ·replace h := Go.L.ite_n (of_decide_eq_false hg459) h
             iterate 8 refine S_unwanted rfl rfl hg459 rfl ?_
             refine S_guarded rfl rfl hg456 ?_
             refine S_v (r_pickF rfl hg459 rfl) rfl ?_
             refine S_v (r_pickF rfl hg456 rfl) rfl ?_
             refine S_seqnil ?_
             refine W_false rfl ?_
             refine W_skip ?_
             refine At_block ?_
             refine At_seq ?_
             refine W_region ?_
             obtain ⟨hk469, h⟩ := Go.L.chk_some h
             refine S_v (r_ar64 rfl rfl rfl hk469) rfl ?_
             refine S_pu 1 rfl ?_
             refine S_nil ?_
             have h := Go.L.Nxt.again h hm450
             refine At_round ((s48_449 + (1 : Int)), n450) (.cons rfl (.cons rfl (.cons rfl (.cons rfl (.cons rfl (Sub.nil _)))))) ⟨hL450, h⟩ (Nat.lt_succ_self _)
          ·replace h := Go.L.ite_n hc452 h
           refine W_exit ?_
           refine At_seq_exit ?_
           refine At_loop_exit ?_
           replace h := Go.L.Nxt.out h hm450
           refine At_exit ?_
           refine At_cut () (Sub.nil _) ⟨hL450, h⟩
         ·rintro _ wr427 ⟨hL427, h⟩
          refine W_pz 1 rfl ?_
          refine W_ret ?_
          obtain rfl := Option.some.inj h
          refine At_body rfl rfl ?_
          exact ⟨hL427.ext, rfl⟩
       ·replace h := Go.L.ite_p hc380 h
        refine W_region ?_
        refine S_v (r_field rfl underlying96 rfl zr52 (by decide)) rfl ?_
        refine S_v (r_loadB1 0 rfl underlying52 rfl hL3 rfl rfl) rfl ?_
        refine S_v (r_len rfl underlying52 h0_0) rfl ?_
        refine S_pu 2 rfl ?_
        refine S_nil ?_
        refine At_seq ?_
        refine W_if rfl (fun hc473 => ?_) (fun hc473 => ?_)
        ·replace h := Go.L.ite_p hc473 h
         refine W_pz 1 rfl ?_
         refine W_ret ?_
         refine At_block_ret ?_
         refine At_seq_ret ?_
         obtain rfl := Option.some.inj h
         refine At_body rfl rfl ?_
         exact ⟨hL3.ext, rfl⟩
        ·replace h := Go.L.ite_n hc473 h
         refine W_skip ?_
         refine At_block ?_
         refine At_seq ?_
         refine W_cut (σ := Unit) (fun (_ : Unit) => []) (fun (_ : Unit) wr => Lcl w [.box b1 [.string ⟨(a0.1.1).toArray⟩, .int .i64 a0.1.2.1, .int .i64 a0.1.2.2.1, .string ⟨(a0.1.2.2.2).toArray⟩, v0_0] 96] wr ∧ shapes_entry_valid_k11 = some r) ?_ ?_
         ·refine W_seqr ?_
          refine S_v (r_field rfl underlying96 rfl zr52 (by decide)) rfl ?_
          refine S_v (r_loadB1 0 rfl underlying52 rfl hL3 rfl rfl) rfl ?_
          refine S_v (r_len rfl underlying52 h0_0) rfl ?_
          refine S_pz 1 rfl ?_
          refine W_block ?_
          obtain ⟨n541, h⟩ := Go.L.run_some h
          refine W_loop (σ := Int × Nat) (fun ⟨s48_540, n⟩ => [(1, .int .i64 a1), (2, .pointer (some ⟨b1, 0, none⟩)), (46, v0_0), (47, .int .i64 (a0.2.length : Int)), (48, .int .i64 s48_540)]) (fun ⟨s48_540, n⟩ wr => Lcl w [.box b1 [.string ⟨(a0.1.1).toArray⟩, .int .i64 a0.1.2.1, .int .i64 a0.1.2.2.1, .string ⟨(a0.1.2.2.2).toArray⟩, v0_0] 96] wr ∧ Go.L.itr (shapes_entry_valid_bl12 a0 a1) n s48_540 = some r) (fun ⟨s48_540, n⟩ => n) ((0 : Int), n541) (.cons rfl (.cons rfl (.cons rfl (.cons rfl (.cons rfl (Sub.nil _)))))) ⟨hL3, h⟩ ?_
          rintro ⟨s48_540, nn541⟩ wr541 ⟨hL541, h⟩
          obtain ⟨n541, e541, rfl, h, hm541⟩ := Go.L.itr_some h
          refine W_pz 1 rfl ?_
          refine W_seq ?_
          refine W_if rfl (fun hc543 => ?_) (fun hc543 => ?_)
          ·replace h := Go.L.ite_p hc543 h
           refine W_skip ?_
           refine At_seq ?_
           refine W_seq ?_
           refine W_block ?_
           refine W_p 1 rfl ?_
           obtain ⟨hk546, h⟩ := Go.L.chk_some h
           refine S_index rfl rfl underlying52 zr3 h0_0 s48_540.toNat (Int.toNat_of_nonneg hk546.1).symm (idx_lt hk546) rfl ?_
           rintro p545 _ rfl hp545
           refine S_v (r_load1 rfl underlying3 rfl hp545 (hH.trans hL541.arg)) rfl ?_
           refine S_pz 2 rfl ?_
           refine W_p 3 rfl ?_
           refine S_or 3 2 rfl rfl rfl rfl rfl rfl ?_
           refine S_pu 1 rfl ?_
           refine S_split (s := 60) rfl (fun hg547 => ?_) (fun hg547 => ?_)
           ·replace h := Go.L.ite_p (of_decide_eq_true hg547) h
            iterate 3 refine S_unwanted rfl rfl hg547 rfl ?_
            iterate 8 refine S_unwanted2 rfl rfl rfl ?_
            refine S_unwanted rfl rfl hg547 rfl ?_
            refine S_v (r_pickT rfl hg547 rfl) rfl ?_
            refine S_seqnil ?_
            refine W_true rfl ?_
            refine W_pz 1 rfl ?_
            refine W_ret ?_
            refine At_block_ret ?_
            refine At_seq_ret ?_
            refine At_loop_ret ?_
            replace h := Go.L.Nxt.out h hm541
            refine At_block_ret ?_
            refine At_cut_ret ?_
            obtain rfl := Option.some.inj h
            refine At_body rfl rfl ?_
            exact ⟨hL541.ext, rfl⟩
           ·replace h := Go.L.ite_n (of_decide_eq_false hg547) h
            refine S_guarded rfl rfl hg547 ?_
            refine S_v (RunsAt_pu rfl) rfl ?_
            refine S_guarded rfl rfl hg547 ?_
            refine S_v (RunsAt_pu rfl) rfl ?_
            refine S_guarded rfl rfl hg547 ?_
            refine S_v (RunsAt_pu rfl) rfl ?_
            refine S_split (s := 63) rfl (fun hg550 => ?_) (fun hg550 => ?_)
            ·replace h := Go.L.ite_p (of_decide_eq_true hg550) h
             refine S_guarded rfl rfl hg550 ?_
             refine S_v (RunsAt_pu rfl) rfl ?_
             refine S_guarded rfl rfl hg550 ?_
             refine S_v (r_field rfl underlying96 rfl zr52 (by decide)) rfl ?_
             refine S_guarded rfl rfl hg550 ?_
             refine S_v (r_loadB1 0 rfl underlying52 rfl hL541 rfl rfl) rfl ?_
             refine S_guarded rfl rfl hg550 ?_
             refine S_v (RunsAt_pu rfl) rfl ?_
             refine S_guarded rfl rfl hg550 ?_
             obtain ⟨hk552, h⟩ := Go.L.chk_some h
             refine S_v (r_ar64 rfl rfl rfl hk552) rfl ?_
             refine S_guarded rfl rfl hg550 ?_
             obtain ⟨hk554, h⟩ := Go.L.chk_some h
             refine S_index rfl rfl underlying52 zr3 h0_0 ((s48_540 - (1 : Int)).toNat) (Int.toNat_of_nonneg hk554.1).symm (idx_lt hk554) rfl ?_
             rintro p553 _ rfl hp553
             refine S_guarded rfl rfl hg550 ?_
             refine S_v (r_load1 rfl underlying3 rfl hp553 (hH.trans hL541.arg)) rfl ?_
             refine S_guarded rfl rfl hg550 ?_
             refine S_v (RunsAt_pu rfl) rfl ?_
             refine S_guarded rfl rfl hg547 ?_
             refine S_v (r_pickT rfl hg550 rfl) rfl ?_
             refine S_v (r_pickF rfl hg547 rfl) rfl ?_
             refine S_seqnil ?_
             refine W_if rfl (fun hc555 => ?_) (fun hc555 => ?_)
             ·replace h := Go.L.ite_p hc555 h
              refine W_pz 1 rfl ?_
              refine W_ret ?_
              refine At_block_ret ?_
              refine At_seq_ret ?_
              refine At_loop_ret ?_
              replace h := Go.L.Nxt.out h hm541
              refine At_block_ret ?_
              refine At_cut_ret ?_
              obtain rfl := Option.some.inj h
              refine At_body rfl rfl ?_
              exact ⟨hL541.ext, rfl⟩
             ·replace h := Go.L.ite_n hc555 h
              refine W_skip ?_
              refine At_block ?_
              refine At_seq ?_
              refine W_region ?_
              obtain ⟨hk558, h⟩ := Go.L.chk_some h
              refine S_v (r_ar64 rfl rfl rfl hk558) rfl ?_
              refine S_pu 1 rfl ?_
              refine S_nil ?_
              have h := Go.L.Nxt.again h hm541
              refine At_round ((s48_540 + (1 : Int)), n541) (.cons rfl (.cons rfl (.cons rfl (.cons rfl (.cons rfl (Sub.nil _)))))) ⟨hL541, h⟩ (Nat.lt_succ_self _)
            ·replace h := Go.L.ite_n (of_decide_eq_false hg550) h
             iterate 8 refine S_unwanted rfl rfl hg550 rfl ?_
             refine S_guarded rfl rfl hg547 ?_
             refine S_v (r_pickF rfl hg550 rfl) rfl ?_
             refine S_v (r_pickF rfl hg547 rfl) rfl ?_
             refine S_seqnil ?_
             refine W_false rfl ?_
             refine W_skip ?_
             refine At_block ?_
             refine At_seq ?_
             refine W_region ?_
             obtain ⟨hk560, h⟩ := Go.L.chk_some h
             refine S_v (r_ar64 rfl rfl rfl hk560) rfl ?_
             refine S_pu 1 rfl ?_
             refine S_nil ?_
             have h := Go.L.Nxt.again h hm541
             refine At_round ((s48_540 + (1 : Int)), n541) (.cons rfl (.cons rfl (.cons rfl (.cons rfl (.cons rfl (Sub.nil _)))))) ⟨hL541, h⟩ (Nat.lt_succ_self _)
          ·replace h := Go.L.ite_n hc543 h
           refine W_exit ?_
           refine At_seq_exit ?_
           refine At_loop_exit ?_
           replace h := Go.L.Nxt.out h hm541
           refine At_exit ?_
           refine At_cut () (Sub.nil _) ⟨hL541, h⟩
         ·rintro _ wr518 ⟨hL518, h⟩
          refine W_pz 1 rfl ?_
          refine W_ret ?_
          obtain rfl := Option.some.inj h
          refine At_body rfl rfl ?_
          exact ⟨hL518.ext, rfl⟩
      ·replace h := Go.L.ite_p (not_dec_f hg378) h
       iterate 4 refine S_unwanted rfl rfl hg378 rfl ?_
       refine S_v (r_pickF rfl hg378 rfl) rfl ?_
       refine S_pz 1 rfl ?_
       refine W_false rfl ?_
       refine W_region ?_
       refine S_v (r_field rfl underlying96 rfl zr52 (by decide)) rfl ?_
       refine S_v (r_loadB1 0 rfl underlying52 rfl hL3 rfl rfl) rfl ?_
       refine S_v (r_len rfl underlying52 h0_0) rfl ?_
       refine S_pu 2 rfl ?_
       refine S_nil ?_
       refine At_seq ?_
       refine W_if rfl (fun hc564 => ?_) (fun hc564 => ?_)
       ·replace h := Go.L.ite_p hc564 h
        refine W_pz 1 rfl ?_
        refine W_ret ?_
        refine At_block_ret ?_
        refine At_seq_ret ?_
        obtain rfl := Option.some.inj h
        refine At_body rfl rfl ?_
        exact ⟨hL3.ext, rfl⟩
       ·replace h := Go.L.ite_n hc564 h
        refine W_skip ?_
        refine At_block ?_
        refine At_seq ?_
        refine W_cut (σ := Unit) (fun (_ : Unit) => []) (fun (_ : Unit) wr => Lcl w [.box b1 [.string ⟨(a0.1.1).toArray⟩, .int .i64 a0.1.2.1, .int .i64 a0.1.2.2.1, .string ⟨(a0.1.2.2.2).toArray⟩, v0_0] 96] wr ∧ shapes_entry_valid_k13 = some r) ?_ ?_
        ·refine W_seqr ?_
         refine S_v (r_field rfl underlying96 rfl zr52 (by decide)) rfl ?_
         refine S_v (r_loadB1 0 rfl underlying52 rfl hL3 rfl rfl) rfl ?_
         refine S_v (r_len rfl underlying52 h0_0) rfl ?_
         refine S_pz 1 rfl ?_
         refine W_block ?_
         obtain ⟨n632, h⟩ := Go.L.run_some h
         refine W_loop (σ := Int × Nat) (fun ⟨s48_631, n⟩ => [(1, .int .i64 a1), (2, .pointer (some ⟨b1, 0, none⟩)), (46, v0_0), (47, .int .i64 (a0.2.length : Int)), (48, .int .i64 s48_631)]) (fun ⟨s48_631, n⟩ wr => Lcl w [.box b1 [.string ⟨(a0.1.1).toArray⟩, .int .i64 a0.1.2.1, .int .i64 a0.1.2.2.1, .string ⟨(a0.1.2.2.2).toArray⟩, v0_0] 96] wr ∧ Go.L.itr (shapes_entry_valid_bl14 a0 a1) n s48_631 = some r) (fun ⟨s48_631, n⟩ => n) ((0 : Int), n632) (.cons rfl (.cons rfl (.cons rfl (.cons rfl (.cons rfl (Sub.nil _)))))) ⟨hL3, h⟩ ?_
         rintro ⟨s48_631, nn632⟩ wr632 ⟨hL632, h⟩
         obtain ⟨n632, e632, rfl, h, hm632⟩ := Go.L.itr_some h
         refine W_pz 1 rfl ?_
         refine W_seq ?_
         refine W_if rfl (fun hc634 => ?_) (fun hc634 => ?_)
         ·replace h := Go.L.ite_p hc634 h
          refine W_skip ?_
          refine At_seq ?_
          refine W_seq ?_
          refine W_block ?_
          refine W_p 1 rfl ?_
          obtain ⟨hk637, h⟩ := Go.L.chk_some h
          refine S_index rfl rfl underlying52 zr3 h0_0 s48_631.toNat (Int.toNat_of_nonneg hk637.1).symm (idx_lt hk637) rfl ?_
          rintro p636 _ rfl hp636
          refine S_v (r_load1 rfl underlying3 rfl hp636 (hH.trans hL632.arg)) rfl ?_
          refine S_pz 2 rfl ?_
          refine W_p 3 rfl ?_
          refine S_or 3 2 rfl rfl rfl rfl rfl rfl ?_
          refine S_pu 1 rfl ?_
          refine S_split (s := 60) rfl (fun hg638 => ?_) (fun hg638 => ?_)
          ·replace h := Go.L.ite_p (of_decide_eq_true hg638) h
           iterate 3 refine S_unwanted rfl rfl hg638 rfl ?_
           iterate 8 refine S_unwanted2 rfl rfl rfl ?_
           refine S_unwanted rfl rfl hg638 rfl ?_
           refine S_v (r_pickT rfl hg638 rfl) rfl ?_
           refine S_seqnil ?_
           refine W_true rfl ?_
           refine W_pz 1 rfl ?_
           refine W_ret ?_
           refine At_block_ret ?_
           refine At_seq_ret ?_
           refine At_loop_ret ?_
           replace h := Go.L.Nxt.out h hm632
           refine At_block_ret ?_
           refine At_cut_ret ?_
           obtain rfl := Option.some.inj h
           refine At_body rfl rfl ?_
           exact ⟨hL632.ext, rfl⟩
          ·replace h := Go.L.ite_n (of_decide_eq_false hg638) h
           refine S_guarded rfl rfl hg638 ?_
           refine S_v (RunsAt_pu rfl) rfl ?_
           refine S_guarded rfl rfl hg638 ?_
           refine S_v (RunsAt_pu rfl) rfl ?_
           refine S_guarded rfl rfl hg638 ?_
           refine S_v (RunsAt_pu rfl) rfl ?_
           refine S_split (s := 63) rfl (fun hg641 => ?_) (fun hg641 => ?_)
           ·replace h := Go.L.ite_p (of_decide_eq_true hg641) h
            refine S_guarded rfl rfl hg641 ?_
            refine S_v (RunsAt_pu rfl) rfl ?_
            refine S_guarded rfl rfl hg641 ?_
            refine S_v (r_field rfl underlying96 rfl zr52 (by decide)) rfl ?_
            refine S_guarded rfl rfl hg641 ?_
            refine S_v (r_loadB1 0 rfl underlying52 rfl hL632 rfl rfl) rfl ?_
            refine S_guarded rfl rfl hg641 ?_
            refine S_v (RunsAt_pu rfl) rfl ?_
            refine S_guarded rfl rfl hg641 ?_
            obtain ⟨hk643, h⟩ := Go.L.chk_some h
            refine S_v (r_ar64 rfl rfl rfl hk643) rfl ?_
            refine S_guarded rfl rfl hg641 ?_
            obtain ⟨hk645, h⟩ := Go.L.chk_some h
            refine S_index rfl rfl underlying52 zr3 h0_0 ((s48_631 - (1 : Int)).toNat) (Int.toNat_of_nonneg hk645.1).symm (idx_lt hk645) rfl ?_
            rintro p644 _ rfl hp644
            refine S_guarded rfl rfl hg641 ?_
            refine S_v (r_load1 rfl underlying3 rfl hp644 (hH.trans hL632.arg)) rfl ?_
            refine S_guarded rfl rfl hg641 ?_
            refine S_v (RunsAt_pu rfl) rfl ?_
            refine S_guarded rfl rfl hg638 ?_
            refine S_v (r_pickT rfl hg641 rfl) rfl ?_
            refine S_v (r_pickF rfl hg638 rfl) rfl ?_
            refine S_seqnil ?_
            refine W_if rfl (fun hc646 => ?_) (fun hc646 => ?_)
            ·replace h := Go.L.ite_p hc646 h
             refine W_pz 1 rfl ?_
             refine W_ret ?_
             refine At_block_ret ?_
             refine At_seq_ret ?_
             refine At_loop_ret ?_
             replace h := Go.L.Nxt.out h hm632
             refine At_block_ret ?_
             refine At_cut_ret ?_
             obtain rfl := Option.some.inj h
             refine At_body rfl rfl ?_
             exact ⟨hL632.ext, rfl⟩
            ·replace h := Go.L.ite_n hc646 h
             refine W_skip ?_
             refine At_block ?_
             refine At_seq ?_
             refine W_region ?_
             obtain ⟨hk649, h⟩ := Go.L.chk_some h
             refine S_v (r_ar64 rfl rfl rfl hk649) rfl ?_
             refine S_pu 1 rfl ?_
             refine S_nil ?_
             have h := Go.L.Nxt.again h hm632
             refine At_round ((s48_631 + (1 : Int)), n632) (.cons rfl (.cons rfl (.cons rfl (.cons rfl (.cons rfl (Sub.nil _)))))) ⟨hL632, h⟩ (Nat.lt_succ_self _)
           ·replace h := Go.L.ite_n (of_decide_eq_false hg641) h
            iterate 8 refine S_unwanted rfl rfl hg641 rfl ?_
            refine S_guarded rfl rfl hg638 ?_
            refine S_v (r_pickF rfl hg641 rfl) rfl ?_
            refine S_v (r_pickF rfl hg638 rfl) rfl ?_
            refine S_seqnil ?_
            refine W_false rfl ?_
            refine W_skip ?_
            refine At_block ?_
            refine At_seq ?_
            refine W_region ?_
            obtain ⟨hk651, h⟩ := Go.L.chk_some h
            refine S_v (r_ar64 rfl rfl rfl hk651) rfl ?_
            refine S_pu 1 rfl ?_
            refine S_nil ?_
            have h := Go.L.Nxt.again h hm632
            refine At_round ((s48_631 + (1 : Int)), n632) (.cons rfl (.cons rfl (.cons rfl (.cons rfl (.cons rfl (Sub.nil _)))))) ⟨hL632, h⟩ (Nat.lt_succ_self _)
         ·replace h := Go.L.ite_n hc634 h
          refine W_exit ?_
          refine At_seq_exit ?_
          refine At_loop_exit ?_
          replace h := Go.L.Nxt.out h hm632
          refine At_exit ?_
          refine At_cut () (Sub.nil _) ⟨hL632, h⟩
        ·rintro _ wr609 ⟨hL609, h⟩
         refine W_pz 1 rfl ?_
         refine W_ret ?_
         obtain rfl := Option.some.inj h
         refine At_body rfl rfl ?_
         exact ⟨hL609.ext, rfl⟩
    ·replace h := Go.L.ite_p (not_dec_f hg283) h
     iterate 4 refine S_unwanted rfl rfl hg283 rfl ?_
     refine S_v (r_pickF rfl hg283 rfl) rfl ?_
     refine S_pz 1 rfl ?_
     refine W_false rfl ?_
     refine W_seqr ?_
     refine S_v (r_field rfl underlying96 rfl zr84 (by decide)) rfl ?_
     refine S_v (r_field rfl underlying84 rfl zr9 (by decide)) rfl ?_
     refine S_v (r_loadB1 0 rfl underlying9 rfl hL3 rfl rfl) rfl ?_
     refine S_v (r_sne rfl rfl) rfl ?_
     refine S_pu 1 rfl ?_
     refine S_split (s := 35) rfl (fun hg655 => ?_) (fun hg655 => ?_)
     ·replace h := Go.L.ite_n (not_dec_t hg655) h
      refine S_guarded rfl rfl hg655 ?_
      refine S_v (r_field rfl underlying96 rfl zr84 (by decide)) rfl ?_
      refine S_guarded rfl rfl hg655 ?_
      refine S_v (r_field rfl underlying84 rfl zr3 (by decide)) rfl ?_
      refine S_guarded rfl rfl hg655 ?_
      refine S_v (r_loadB1 0 rfl underlying3 rfl hL3 rfl rfl) rfl ?_
      refine S_guarded rfl rfl hg655 ?_
      refine S_v (RunsAt_pu rfl) rfl ?_
      refine S_v (r_pickT rfl hg655 rfl) rfl ?_
      refine S_pz 1 rfl ?_
      refine W_ifn rfl (fun hc657 => ?_) (fun hc657 => ?_)
      ·replace h := Go.L.ite_n hc657 h
       refine W_skip ?_
       refine At_seq ?_
       refine W_ifn rfl (fun hc659 => ?_) (fun hc659 => ?_)
       ·replace h := Go.L.ite_n hc659 h
        refine W_pz 1 rfl ?_
        refine W_ret ?_
        refine At_block_ret ?_
        refine At_seq_ret ?_
        obtain rfl := Option.some.inj h
        refine At_body rfl rfl ?_
        exact ⟨hL3.ext, rfl⟩
       ·replace h := Go.L.ite_p hc659 h
        refine W_skip ?_
        refine At_block ?_
        refine At_seq ?_
        refine W_cut (σ := Unit) (fun (_ : Unit) => []) (fun (_ : Unit) wr => Lcl w [.box b1 [.string ⟨(a0.1.1).toArray⟩, .int .i64 a0.1.2.1, .int .i64 a0.1.2.2.1, .string ⟨(a0.1.2.2.2).toArray⟩, v0_0] 96] wr ∧ shapes_entry_valid_k15 = some r) ?_ ?_
        ·refine W_seqr ?_
         refine S_v (r_field rfl underlying96 rfl zr52 (by decide)) rfl ?_
         refine S_v (r_loadB1 0 rfl underlying52 rfl hL3 rfl rfl) rfl ?_
         refine S_v (r_len rfl underlying52 h0_0) rfl ?_
         refine S_pz 1 rfl ?_
         refine W_block ?_
         obtain ⟨n727, h⟩ := Go.L.run_some h
         refine W_loop (σ := Int × Nat) (fun ⟨s48_726, n⟩ => [(1, .int .i64 a1), (2, .pointer (some ⟨b1, 0, none⟩)), (46, v0_0), (47, .int .i64 (a0.2.length : Int)), (48, .int .i64 s48_726)]) (fun ⟨s48_726, n⟩ wr => Lcl w [.box b1 [.string ⟨(a0.1.1).toArray⟩, .int .i64 a0.1.2.1, .int .i64 a0.1.2.2.1, .string ⟨(a0.1.2.2.2).toArray⟩, v0_0] 96] wr ∧ Go.L.itr (shapes_entry_valid_bl16 a0 a1) n s48_726 = some r) (fun ⟨s48_726, n⟩ => n) ((0 : Int), n727) (.cons rfl (.cons rfl (.cons rfl (.cons rfl (.cons rfl (Sub.nil _)))))) ⟨hL3, h⟩ ?_
         rintro ⟨s48_726, nn727⟩ wr727 ⟨hL727, h⟩
         obtain ⟨n727, e727, rfl, h, hm727⟩ := Go.L.itr_some h
         refine W_pz 1 rfl ?_
         refine W_seq ?_
         refine W_if rfl (fun hc729 => ?_) (fun hc729 => ?_)
         ·replace h := Go.L.ite_p hc729 h
          refine W_skip ?_
          refine At_seq ?_
          refine W_seq ?_
          refine W_block ?_
          refine W_p 1 rfl ?_
          obtain ⟨hk732, h⟩ := Go.L.chk_some h
          refine S_index rfl rfl underlying52 zr3 h0_0 s48_726.toNat (Int.toNat_of_nonneg hk732.1).symm (idx_lt hk732) rfl ?_
          rintro p731 _ rfl hp731
          refine S_v (r_load1 rfl underlying3 rfl hp731 (hH.trans hL727.arg)) rfl ?_
          refine S_pz 2 rfl ?_
          refine W_p 3 rfl ?_
          refine S_or 3 2 rfl rfl rfl rfl rfl rfl ?_
          refine S_pu 1 rfl ?_
          refine S_split (s := 60) rfl (fun hg733 => ?_) (fun hg733 => ?_)
          ·replace h := Go.L.ite_p (of_decide_eq_true hg733) h
           iterate 3 refine S_unwanted rfl rfl hg733 rfl ?_
           iterate 8 refine S_unwanted2 rfl rfl rfl ?_
           refine S_unwanted rfl rfl hg733 rfl ?_
           refine S_v (r_pickT rfl hg733 rfl) rfl ?_
           refine S_seqnil ?_
           refine W_true rfl ?_
           refine W_pz 1 rfl ?_
           refine W_ret ?_
           refine At_block_ret ?_
           refine At_seq_ret ?_
           refine At_loop_ret ?_
           replace h := Go.L.Nxt.out h hm727
           refine At_block_ret ?_
           refine At_cut_ret ?_
           obtain rfl := Option.some.inj h
           refine At_body rfl rfl ?_
           exact ⟨hL727.ext, rfl⟩
          ·replace h := Go.L.ite_n (of_decide_eq_false hg733) h
           refine S_guarded rfl rfl hg733 ?_
           refine S_v (RunsAt_pu rfl) rfl ?_
           refine S_guarded rfl rfl hg733 ?_
           refine S_v (RunsAt_pu rfl) rfl ?_
           refine S_guarded rfl rfl hg733 ?_
           refine S_v (RunsAt_pu rfl) rfl ?_
           refine S_split (s := 63) rfl (fun hg736 => ?_) (fun hg736 => ?_)
           ·replace h := Go.L.ite_p (of_decide_eq_true hg736) h
            refine S_guarded rfl rfl hg736 ?_
            refine S_v (RunsAt_pu rfl) rfl ?_
            refine S_guarded rfl rfl hg736 ?_
            refine S_v (r_field rfl underlying96 rfl zr52 (by decide)) rfl ?_
            refine S_guarded rfl rfl hg736 ?_
            refine S_v (r_loadB1 0 rfl underlying52 rfl hL727 rfl rfl) rfl ?_
            refine S_guarded rfl rfl hg736 ?_
            refine S_v (RunsAt_pu rfl) rfl ?_
            refine S_guarded rfl rfl hg736 ?_
            obtain ⟨hk738, h⟩ := Go.L.chk_some h
            refine S_v (r_ar64 rfl rfl rfl hk738) rfl ?_
            refine S_guarded rfl rfl hg736 ?_
            obtain ⟨hk740, h⟩ := Go.L.chk_some h
            refine S_index rfl rfl underlying52 zr3 h0_0 ((s48_726 - (1 : Int)).toNat) (Int.toNat_of_nonneg hk740.1).symm (idx_lt hk740) rfl ?_
            rintro p739 _ rfl hp739
            refine S_guarded rfl rfl hg736 ?_
            refine S_v (r_load1 rfl underlying3 rfl hp739 (hH.trans hL727.arg)) rfl ?_
            refine S_guarded rfl rfl hg736 ?_
            refine S_v (RunsAt_pu rfl) rfl ?_
            refine S_guarded rfl rfl hg733 ?_
            refine S_v (r_pickT rfl hg736 rfl) rfl ?_
            refine S_v (r_pickF rfl hg733 rfl) rfl ?_
            refine S_seqnil ?_
            refine W_if rfl (fun hc741 => ?_) (fun hc741 => ?_)
            ·replace h := Go.L.ite_p hc741 h
             refine W_pz 1 rfl ?_
             refine W_ret ?_
             refine At_block_ret ?_
             refine At_seq_ret ?_
             refine At_loop_ret ?_
             replace h := Go.L.Nxt.out h hm727
             refine At_block_ret ?_
             refine At_cut_ret ?_
             obtain rfl := Option.some.inj h
             refine At_body rfl rfl ?_
             exact ⟨hL727.ext, rfl⟩
            ·replace h := Go.L.ite_n hc741 h
             refine W_skip ?_
             refine At_block ?_
             refine At_seq ?_
             refine W_region ?_
             obtain ⟨hk744, h⟩ := Go.L.chk_some h
             refine S_v (r_ar64 rfl rfl rfl hk744) rfl ?_
             refine S_pu 1 rfl ?_
             refine S_nil ?_
             have h := Go.L.Nxt.again h hm727
             refine At_round ((s48_726 + (1 : Int)), n727) (.cons rfl (.cons rfl (.cons rfl (.cons rfl (.cons rfl (Sub.nil _)))))) ⟨hL727, h⟩ (Nat.lt_succ_self _)
           ·replace h := Go.L.ite_n (of_decide_eq_false hg736) h
            iterate 8 refine S_unwanted rfl rfl hg736 rfl ?_
            refine S_guarded rfl rfl hg733 ?_
            refine S_v (r_pickF rfl hg736 rfl) rfl ?_
            refine S_v (r_pickF rfl hg733 rfl) rfl ?_
            refine S_seqnil ?_
            refine W_false rfl ?_
            refine W_skip ?_
            refine At_block ?_
            refine At_seq ?_
            refine W_region ?_
            obtain ⟨hk746, h⟩ := Go.L.chk_some h
            refine S_v (r_ar64 rfl rfl rfl hk746) rfl ?_
            refine S_pu 1 rfl ?_
            refine S_nil ?_
            have h := Go.L.Nxt.again h hm727
            refine At_round ((s48_726 + (1 : Int)), n727) (.cons rfl (.cons rfl (.cons rfl (.cons rfl (.cons rfl (Sub.nil _)))))) ⟨hL727, h⟩ (Nat.lt_succ_self _)
         ·replace h := Go.L.ite_n hc729 h
          refine W_exit ?_
          refine At_seq_exit ?_
          refine At_loop_exit ?_
          replace h := Go.L.Nxt.out h hm727
          refine At_exit ?_
          refine At_cut () (Sub.nil _) ⟨hL727, h⟩
        ·rintro _ wr704 ⟨hL704, h⟩
         refine W_pz 1 rfl ?_
         refine W_ret ?_
         obtain rfl := Option.some.inj h
         refine At_body rfl rfl ?_
         exact ⟨hL704.ext, rfl⟩
      ·replace h := Go.L.ite_p hc657 h
       refine W_region ?_
       refine S_v (r_field rfl underlying96 rfl zr52 (by decide)) rfl ?_
       refine S_v (r_loadB1 0 rfl underlying52 rfl hL3 rfl rfl) rfl ?_
       refine S_v (r_len rfl underlying52 h0_0) rfl ?_
       refine S_pu 2 rfl ?_
       refine S_nil ?_
       refine At_seq ?_
       refine W_if rfl (fun hc750 => ?_) (fun hc750 => ?_)
       ·replace h := Go.L.ite_p hc750 h
        refine W_pz 1 rfl ?_
        refine W_ret ?_
        refine At_block_ret ?_
        refine At_seq_ret ?_
        obtain rfl := Option.some.inj h
        refine At_body rfl rfl ?_
        exact ⟨hL3.ext, rfl⟩
       ·replace h := Go.L.ite_n hc750 h
        refine W_skip ?_
        refine At_block ?_
        refine At_seq ?_
        refine W_cut (σ := Unit) (fun (_ : Unit) => []) (fun (_ : Unit) wr => Lcl w [.box b1 [.string ⟨(a0.1.1).toArray⟩, .int .i64 a0.1.2.1, .int .i64 a0.1.2.2.1, .string ⟨(a0.1.2.2.2).toArray⟩, v0_0] 96] wr ∧ shapes_entry_valid_k17 = some r) ?_ ?_
        ·refine W_seqr ?_
         refine S_v (r_field rfl underlying96 rfl zr52 (by decide)) rfl ?_
         refine S_v (r_loadB1 0 rfl underlying52 rfl hL3 rfl rfl) rfl ?_
         refine S_v (r_len rfl underlying52 h0_0) rfl ?_
         refine S_pz 1 rfl ?_
         refine W_block ?_
         obtain ⟨n818, h⟩ := Go.L.run_some h
         refine W_loop (σ := Int × Nat) (fun ⟨s48_817, n⟩ => [(1, .int .i64 a1), (2, .pointer (some ⟨b1, 0, none⟩)), (46, v0_0), (47, .int .i64 (a0.2.length : Int)), (48, .int .i64 s48_817)]) (fun ⟨s48_817, n⟩ wr => Lcl w [.box b1 [.string ⟨(a0.1.1).toArray⟩, .int .i64 a0.1.2.1, .int .i64 a0.1.2.2.1, .string ⟨(a0.1.2.2.2).toArray⟩, v0_0] 96] wr ∧ Go.L.itr (shapes_entry_valid_bl18 a0 a1) n s48_817 = some r) (fun ⟨s48_817, n⟩ => n) ((0 : Int), n818) (.cons rfl (.cons rfl (.cons rfl (.cons rfl (.cons rfl (Sub.nil _)))))) ⟨hL3, h⟩ ?_
         rintro ⟨s48_817, nn818⟩ wr818 ⟨hL818, h⟩
         obtain ⟨n818, e818, rfl, h, hm818⟩ := Go.L.itr_some h
         refine W_pz 1 rfl ?_
         refine W_seq ?_
         refine W_if rfl (fun hc820 => ?_) (fun hc820 => ?_)
         ·replace h := Go.L.ite_p hc820 h
          refine W_skip ?_
          refine At_seq ?_
          refine W_seq ?_
          refine W_block ?_
          refine W_p 1 rfl ?_
          obtain ⟨hk823, h⟩ := Go.L.chk_some h
          refine S_index rfl rfl underlying52 zr3 h0_0 s48_817.toNat (Int.toNat_of_nonneg hk823.1).symm (idx_lt hk823) rfl ?_
          rintro p822 _ rfl hp822
          refine S_v (r_load1 rfl underlying3 rfl hp822 (hH.trans hL818.arg)) rfl ?_
          refine S_pz 2 rfl ?_
          refine W_p 3 rfl ?_
          refine S_or 3 2 rfl rfl rfl rfl rfl rfl ?_
          refine S_pu 1 rfl ?_
          refine S_split (s := 60) rfl (fun hg824 => ?_) (fun hg824 => ?_)
          ·replace h := Go.L.ite_p (of_decide_eq_true hg824) h
           iterate 3 refine S_unwanted rfl rfl hg824 rfl ?_
           iterate 8 refine S_unwanted2 rfl rfl rfl ?_
           refine S_unwanted rfl rfl hg824 rfl ?_
           refine S_v (r_pickT rfl hg824 rfl) rfl ?_
           refine S_seqnil ?_
           refine W_true rfl ?_
           refine W_pz 1 rfl ?_
           refine W_ret ?_
           refine At_block_ret ?_
           refine At_seq_ret ?_
           refine At_loop_ret ?_
           replace h := Go.L.Nxt.out h hm818
           refine At_block_ret ?_
           refine At_cut_ret ?_
           obtain rfl := Option.some.inj h
           refine At_body rfl rfl ?_
           exact ⟨hL818.ext, rfl⟩
          ·replace h := Go.L.ite_n (of_decide_eq_false hg824) h
           refine S_guarded rfl rfl hg824 ?_
           refine S_v (RunsAt_pu rfl) rfl ?_
           refine S_guarded rfl rfl hg824 ?_
           refine S_v (RunsAt_pu rfl) rfl ?_
           refine S_guarded rfl rfl hg824 ?_
           refine S_v (RunsAt_pu rfl) rfl ?_
           refine S_split (s := 63) rfl (fun hg827 => ?_) (fun hg827 => ?_)
           ·replace h := Go.L.ite_p (of_decide_eq_true hg827) h
            refine S_guarded rfl rfl hg827 ?_
            refine S_v (RunsAt_pu rfl) rfl ?_
            refine S_guarded rfl rfl hg827 ?_
            refine S_v (r_field rfl underlying96 rfl zr52 (by decide)) rfl ?_
            refine S_guarded rfl rfl hg827 ?_
            refine S_v (r_loadB1 0 rfl underlying52 rfl hL818 rfl rfl) rfl ?_
            refine S_guarded rfl rfl hg827 ?_
            refine S_v (RunsAt_pu rfl) rfl ?_
            refine S_guarded rfl rfl hg827 ?_
            obtain ⟨hk829, h⟩ := Go.L.chk_some h
            refine S_v (r_ar64 rfl rfl rfl hk829) rfl ?_
            refine S_guarded rfl rfl hg827 ?_
            obtain ⟨hk831, h⟩ := Go.L.chk_some h
            refine S_index rfl rfl underlying52 zr3 h0_0 ((s48_817 - (1 : Int)).toNat) (Int.toNat_of_nonneg hk831.1).symm (idx_lt hk831) rfl ?_
            rintro p830 _ rfl hp830
            refine S_guarded rfl rfl hg827 ?_
            refine S_v (r_load1 rfl underlying3 rfl hp830 (hH.trans hL818.arg)) rfl ?_
            refine S_guarded rfl rfl hg827 ?_
            refine S_v (RunsAt_pu rfl) rfl ?_
            refine S_guarded rfl rfl hg824 ?_
            refine S_v (r_pickT rfl hg827 rfl) rfl ?_
            refine S_v (r_pickF rfl hg824 rfl) rfl ?_
            refine S_seqnil ?_
            refine W_if rfl (fun hc832 => ?_) (fun hc832 => ?_)
            ·replace h := Go.L.ite_p hc832 h
             refine W_pz 1 rfl ?_
             refine W_ret ?_
             refine At_block_ret ?_
             refine At_seq_ret ?_
             refine At_loop_ret ?_
             replace h := Go.L.Nxt.out h hm818
             refine At_block_ret ?_
             refine At_cut_ret ?_
             obtain rfl := Option.some.inj h
             refine At_body rfl rfl ?_
             exact ⟨hL818.ext, rfl⟩
            ·replace h := Go.L.ite_n hc832 h
             refine W_skip ?_
             refine At_block ?_
             refine At_seq ?_
             refine W_region ?_
             obtain ⟨hk835, h⟩ := Go.L.chk_some h
             refine S_v (r_ar64 rfl rfl rfl hk835) rfl ?_
             refine S_pu 1 rfl ?_
             refine S_nil ?_
             have h := Go.L.Nxt.again h hm818
             refine At_round ((s48_817 + (1 : Int)), n818) (.cons rfl (.cons rfl (.cons rfl (.cons rfl (.cons rfl (Sub.nil _)))))) ⟨hL818, h⟩ (Nat.lt_succ_self _)
           ·replace h := Go.L.ite_n (of_decide_eq_false hg827) h
            iterate 8 refine S_unwanted rfl rfl hg827 rfl ?_
            refine S_guarded rfl rfl hg824 ?_
            refine S_v (r_pickF rfl hg827 rfl) rfl ?_
            refine S_v (r_pickF rfl hg824 rfl) rfl ?_
            refine S_seqnil ?_
            refine W_false rfl ?_
            refine W_skip ?_
            refine At_block ?_
            refine At_seq ?_
            refine W_region ?_
            obtain ⟨hk837, h⟩ := Go.L.chk_some h
            refine S_v (r_ar64 rfl rfl rfl hk837) rfl ?_
            refine S_pu 1 rfl ?_
            refine S_nil ?_
            have h := Go.L.Nxt.again h hm818
            refine At_round ((s48_817 + (1 : Int)), n818) (.cons rfl (.cons rfl (.cons rfl (.cons rfl (.cons rfl (Sub.nil _)))))) ⟨hL818, h⟩ (Nat.lt_succ_self _)
         ·replace h := Go.L.ite_n hc820 h
          refine W_exit ?_
          refine At_seq_exit ?_
          refine At_loop_exit ?_
          replace h := Go.L.Nxt.out h hm818
          refine At_exit ?_
          refine At_cut () (Sub.nil _) ⟨hL818, h⟩
        ·rintro _ wr795 ⟨hL795, h⟩
         refine W_pz 1 rfl ?_
         refine W_ret ?_
         obtain rfl := Option.some.inj h
         refine At_body rfl rfl ?_
         exact ⟨hL795.ext, rfl⟩
     ·replace h := Go.L.ite_p (not_dec_f hg655) h
      iterate 4 refine S_unwanted rfl rfl hg655 rfl ?_
      refine S_v (r_pickF rfl hg655 rfl) rfl ?_
      refine S_pz 1 rfl ?_
      refine W_false rfl ?_
      refine W_region ?_
      refine S_v (r_field rfl underlying96 rfl zr52 (by decide)) rfl ?_
      refine S_v (r_loadB1 0 rfl underlying52 rfl hL3 rfl rfl) rfl ?_
      refine S_v (r_len rfl underlying52 h0_0) rfl ?_
      refine S_pu 2 rfl ?_
      refine S_nil ?_
      refine At_seq ?_
      refine W_if rfl (fun hc841 => ?_) (fun hc841 => ?_)
      ·replace h := Go.L.ite_p hc841 h
       refine W_pz 1 rfl ?_
       refine W_ret ?_
       refine At_block_ret ?_
       refine At_seq_ret ?_
       obtain rfl := Option.some.inj h
       refine At_body rfl rfl ?_
       exact ⟨hL3.ext, rfl⟩
      ·replace h := Go.L.ite_n hc841 h
       refine W_skip ?_
       refine At_block ?_
       refine At_seq ?_
       refine W_cut (σ := Unit) (fun (_ : Unit) => []) (fun (_ : Unit) wr => Lcl w [.box b1 [.string ⟨(a0.1.1).toArray⟩, .int .i64 a0.1.2.1, .int .i64 a0.1.2.2.1, .string ⟨(a0.1.2.2.2).toArray⟩, v0_0] 96] wr ∧ shapes_entry_valid_k19 = some r) ?_ ?_
       ·refine W_seqr ?_
        refine S_v (r_field rfl underlying96 rfl zr52 (by decide)) rfl ?_
        refine S_v (r_loadB1 0 rfl underlying52 rfl hL3 rfl rfl) rfl ?_
        refine S_v (r_len rfl underlying52 h0_0) rfl ?_
        refine S_pz 1 rfl ?_
        refine W_block ?_
        obtain ⟨n909, h⟩ := Go.L.run_some h
        refine W_loop (σ := Int × Nat) (fun ⟨s48_908, n⟩ => [(1, .int .i64 a1), (2, .pointer (some ⟨b1, 0, none⟩)), (46, v0_0), (47, .int .i64 (a0.2.length : Int)), (48, .int .i64 s48_908)]) (fun ⟨s48_908, n⟩ wr => Lcl w [.box b1 [.string ⟨(a0.1.1).toArray⟩, .int .i64 a0.1.2.1, .int .i64 a0.1.2.2.1, .string ⟨(a0.1.2.2.2).toArray⟩, v0_0] 96] wr ∧ Go.L.itr (shapes_entry_valid_bl20 a0 a1) n s48_908 = some r) (fun ⟨s48_908, n⟩ => n) ((0 : Int), n909) (.cons rfl (.cons rfl (.cons rfl (.cons rfl (.cons rfl (Sub.nil _)))))) ⟨hL3, h⟩ ?_
        rintro ⟨s48_908, nn909⟩ wr909 ⟨hL909, h⟩
        obtain ⟨n909, e909, rfl, h, hm909⟩ := Go.L.itr_some h
        refine W_pz 1 rfl ?_
        refine W_seq ?_
        refine W_if rfl (fun hc911 => ?_) (fun hc911 => ?_)
        ·replace h := Go.L.ite_p hc911 h
         refine W_skip ?_
         refine At_seq ?_
         refine W_seq ?_
         refine W_block ?_
         refine W_p 1 rfl ?_
         obtain ⟨hk914, h⟩ := Go.L.chk_some h
         refine S_index rfl rfl underlying52 zr3 h0_0 s48_908.toNat (Int.toNat_of_nonneg hk914.1).symm (idx_lt hk914) rfl ?_
         rintro p913 _ rfl hp913
         refine S_v (r_load1 rfl underlying3 rfl hp913 (hH.trans hL909.arg)) rfl ?_
         refine S_pz 2 rfl ?_
         refine W_p 3 rfl ?_
         refine S_or 3 2 rfl rfl rfl rfl rfl rfl ?_
         refine S_pu 1 rfl ?_
         refine S_split (s := 60) rfl (fun hg915 => ?_) (fun hg915 => ?_)
         ·replace h := Go.L.ite_p (of_decide_eq_true hg915) h
          iterate 3 refine S_unwanted rfl rfl hg915 rfl ?_
          iterate 8 refine S_unwanted2 rfl rfl rfl ?_
          refine S_unwanted rfl rfl hg915 rfl ?_
          refine S_v (r_pickT rfl hg915 rfl) rfl ?_
          refine S_seqnil ?_
          refine W_true rfl ?_
          refine W_pz 1 rfl ?_
          refine W_ret ?_
          refine At_block_ret ?_
          refine At_seq_ret ?_
          refine At_loop_ret ?_
          replace h := Go.L.Nxt.out h hm909
          refine At_block_ret ?_
          refine At_cut_ret ?_
          obtain rfl := Option.some.inj h
          refine At_body rfl rfl ?_
          exact ⟨hL909.ext, rfl⟩
         ·replace h := Go.L.ite_n (of_decide_eq_false hg915) h
          refine S_guarded rfl rfl hg915 ?_
          refine S_v (RunsAt_pu rfl) rfl ?_
          refine S_guarded rfl rfl hg915 ?_
          refine S_v (RunsAt_pu rfl) rfl ?_
          refine S_guarded rfl rfl hg915 ?_
          refine S_v (RunsAt_pu rfl) rfl ?_
          refine S_split (s := 63) rfl (fun hg918 => ?_) (fun hg918 => ?_)
          ·replace h := Go.L.ite_p (of_decide_eq_true hg918) h
           refine S_guarded rfl rfl hg918 ?_
           refine S_v (RunsAt_pu rfl) rfl ?_
           refine S_guarded rfl rfl hg918 ?_
           refine S_v (r_field rfl underlying96 rfl zr52 (by decide)) rfl ?_
           refine S_guarded rfl rfl hg918 ?_
           refine S_v (r_loadB1 0 rfl underlying52 rfl hL909 rfl rfl) rfl ?_
           refine S_guarded rfl rfl hg918 ?_
           refine S_v (RunsAt_pu rfl) rfl ?_
           refine S_guarded rfl rfl hg918 ?_
           obtain ⟨hk920, h⟩ := Go.L.chk_some h
           refine S_v (r_ar64 rfl rfl rfl hk920) rfl ?_
           refine S_guarded rfl rfl hg918 ?_
           obtain ⟨hk922, h⟩ := Go.L.chk_some h
           refine S_index rfl rfl underlying52 zr3 h0_0 ((s48_908 - (1 : Int)).toNat) (Int.toNat_of_nonneg hk922.1).symm (idx_lt hk922) rfl ?_
           rintro p921 _ rfl hp921
           refine S_guarded rfl rfl hg918 ?_
           refine S_v (r_load1 rfl underlying3 rfl hp921 (hH.trans hL909.arg)) rfl ?_
           refine S_guarded rfl rfl hg918 ?_
           refine S_v (RunsAt_pu rfl) rfl ?_
           refine S_guarded rfl rfl hg915 ?_
           refine S_v (r_pickT rfl hg918 rfl) rfl ?_
           refine S_v (r_pickF rfl hg915 rfl) rfl ?_
           refine S_seqnil ?_
           refine W_if rfl (fun hc923 => ?_) (fun hc923 => ?_)
           ·replace h := Go.L.ite_p hc923 h
            refine W_pz 1 rfl ?_
            refine W_ret ?_
            refine At_block_ret ?_
            refine At_seq_ret ?_
            refine At_loop_ret ?_
            replace h := Go.L.Nxt.out h hm909
            refine At_block_ret ?_
            refine At_cut_ret ?_
            obtain rfl := Option.some.inj h
            refine At_body rfl rfl ?_
            exact ⟨hL909.ext, rfl⟩
           ·replace h := Go.L.ite_n hc923 h
            refine W_skip ?_
            refine At_block ?_
            refine At_seq ?_
            refine W_region ?_
            obtain ⟨hk926, h⟩ := Go.L.chk_some h
            refine S_v (r_ar64 rfl rfl rfl hk926) rfl ?_
            refine S_pu 1 rfl ?_
            refine S_nil ?_
            have h := Go.L.Nxt.again h hm909
            refine At_round ((s48_908 + (1 : Int)), n909) (.cons rfl (.cons rfl (.cons rfl (.cons rfl (.cons rfl (Sub.nil _)))))) ⟨hL909, h⟩ (Nat.lt_succ_self _)
          ·replace h := Go.L.ite_n (of_decide_eq_false hg918) h
           iterate 8 refine S_unwanted rfl rfl hg918 rfl ?_
           refine S_guarded rfl rfl hg915 ?_
           refine S_v (r_pickF rfl hg918 rfl) rfl ?_
           refine S_v (r_pickF rfl hg915 rfl) rfl ?_
           refine S_seqnil ?_
           refine W_false rfl ?_
           refine W_skip ?_
           refine At_block ?_
           refine At_seq ?_
           refine W_region ?_
           obtain ⟨hk928, h⟩ := Go.L.chk_some h
           refine S_v (r_ar64 rfl rfl rfl hk928) rfl ?_
           refine S_pu 1 rfl ?_
           refine S_nil ?_
           have h := Go.L.Nxt.again h hm909
           refine At_round ((s48_908 + (1 : Int)), n909) (.cons rfl (.cons rfl (.cons rfl (.cons rfl (.cons rfl (Sub.nil _)))))) ⟨hL909, h⟩ (Nat.lt_succ_self _)
        ·replace h := Go.L.ite_n hc911 h
         refine W_exit ?_
         refine At_seq_exit ?_
         refine At_loop_exit ?_
         replace h := Go.L.Nxt.out h hm909
         refine At_exit ?_
         refine At_cut () (Sub.nil _) ⟨hL909, h⟩
       ·rintro _ wr886 ⟨hL886, h⟩
        refine W_pz 1 rfl ?_
        refine W_ret ?_
        obtain rfl := Option.some.inj h
        refine At_body rfl rfl ?_
        exact ⟨hL886.ext, rfl⟩
noncomputable def shapes_Open_k1 (c26 : Int) (c27 : Int) (c28 : Int) : Option ((Int × (List (((List UInt8) × Int × Int × (List UInt8)) × (List Int)))) × (Int × Int)) :=
 some ((c28, []), (c26, c27))
noncomputable def shapes_Open_k2 (c50 : Int) (c51 : Int) (c52 : Int) : Option ((Int × (List (((List UInt8) × Int × Int × (List UInt8)) × (List Int)))) × (Int × Int)) :=
 some ((c52, []), (c50, c51))
noncomputable def shapes_Open_k5 (c255 : Int) (c256 : Int) (c257 : Int) : Option ((Int) ⊕ ((Int × (List (((List UInt8) × Int × Int × (List UInt8)) × (List Int)))) × (Int × Int))) :=
 Option.map Sum.inr (some ((c257, []), (c255, c256)))
noncomputable def shapes_Open_k6 (c286 : Int) (c287 : Int) (c288 : Int) : Option ((Int) ⊕ ((Int × (List (((List UInt8) × Int × Int × (List UInt8)) × (List Int)))) × (Int × Int))) :=
 Option.map Sum.inr (some ((c288, []), (c286, c287)))
noncomputable def shapes_Open_k7 (c322 : Int) (c323 : Int) (c324 : Int) : Option ((Int × (List (((List UInt8) × Int × Int × (List UInt8)) × (List Int)))) × (Int × Int)) :=
 some ((c324, []), (c322, c323))
noncomputable def shapes_Open_k3 (a0 : List UInt8) (x10 : (Int × Int)) (x14 : Int × Int × (Int × Int)) (x39 : (List (((List UInt8) × Int × Int × (List UInt8)) × (List Int))) × Int × (Int × Int)) : Option ((Int × (List (((List UInt8) × Int × Int × (List UInt8)) × (List Int)))) × (Int × Int)) :=
 Option.bind (shapes_Index_Bytes (x14.1, x39.1)) (fun x310 => Option.bind (bytes_Equal x310 a0) (fun x312 => if !x312 then shapes_Open_k7 x10.1 x10.2 (0 : Int) else some ((x14.1, x39.1), ((0 : Int), (0 : Int)))))
noncomputable def shapes_Open_bl4 (a0 : List UInt8) (x10 : (Int × Int)) (x14 : Int × Int × (Int × Int)) (x39 : (List (((List UInt8) × Int × Int × (List UInt8)) × (List Int))) × Int × (Int × Int)) : Int → Option ((Int) ⊕ ((Int × (List (((List UInt8) × Int × Int × (List UInt8)) × (List Int)))) × (Int × Int))) := fun s54_232 =>
 if s54_232 < (x39.1.length : Int) then Go.L.chk (0 ≤ s54_232 ∧ s54_232 < (x39.1.length : Int)) (Option.bind (shapes_entry_valid ((((x39.1.getD s54_232.toNat default).1).1, ((x39.1.getD s54_232.toNat default).1).2.1, ((x39.1.getD s54_232.toNat default).1).2.2.1, ((x39.1.getD s54_232.toNat default).1).2.2.2), (x39.1.getD s54_232.toNat default).2) x14.1) (fun x243 => if !x243 then shapes_Open_k5 x10.1 x10.2 (0 : Int) else if (0 : Int) < s54_232 then Go.L.chk (Go.L.I64 (s54_232 - (1 : Int))) (Go.L.chk (0 ≤ (s54_232 - (1 : Int)) ∧ (s54_232 - (1 : Int)) < (x39.1.length : Int)) (Option.bind (shapes_leaf_compare (((x39.1.getD s54_232.toNat default).1).1, ((x39.1.getD s54_232.toNat default).1).2.1, ((x39.1.getD s54_232.toNat default).1).2.2.1, ((x39.1.getD s54_232.toNat default).1).2.2.2) (((x39.1.getD ((s54_232 - (1 : Int)).toNat) default).1).1, ((x39.1.getD ((s54_232 - (1 : Int)).toNat) default).1).2.1, ((x39.1.getD ((s54_232 - (1 : Int)).toNat) default).1).2.2.1, ((x39.1.getD ((s54_232 - (1 : Int)).toNat) default).1).2.2.2)) (fun x274 => if x274 ≤ (0 : Int) then shapes_Open_k6 x10.1 x10.2 (0 : Int) else Go.L.chk (Go.L.I64 (s54_232 + (1 : Int))) (some (Sum.inl (s54_232 + (1 : Int))))))) else Go.L.chk (Go.L.I64 (s54_232 + (1 : Int))) (some (Sum.inl (s54_232 + (1 : Int)))))) else Option.map Sum.inr ((shapes_Open_k3 a0 x10 x14 x39))
noncomputable def shapes_Open_l4 (a0 : List UInt8) (x10 : (Int × Int)) (x14 : Int × Int × (Int × Int)) (x39 : (List (((List UInt8) × Int × Int × (List UInt8)) × (List Int))) × Int × (Int × Int)) (s : Int) : Option ((Int × (List (((List UInt8) × Int × Int × (List UInt8)) × (List Int)))) × (Int × Int)) := Go.L.run (shapes_Open_bl4 a0 x10 x14 x39) s
noncomputable def shapes_Open (a0 : List UInt8) : Option ((Int × (List (((List UInt8) × Int × Int × (List UInt8)) × (List Int)))) × (Int × Int)) :=
 if (16384 : Int) < (a0.length : Int) then Option.bind (shapes_fault (3 : Int) (-1 : Int)) (fun x5 => some (((0 : Int), []), (x5.1, x5.2))) else Option.bind (shapes_fault (16 : Int) (-1 : Int)) (fun x10 => Option.bind (wire_ReadNumber a0 (0 : Int)) (fun x14 => if (bif (bif !decide (x14.2.2.1 = (0 : Int) ∧ x14.2.2.2 = (0 : Int)) then true else decide (x14.1 < (0 : Int))) then true else decide ((64 : Int) < x14.1)) then shapes_Open_k1 x10.1 x10.2 (0 : Int) else Option.bind (wreads_entry a0 x14.2.1 (a0.length : Int)) (fun x39 => if x39.2.2.1 = (0 : Int) ∧ x39.2.2.2 = (0 : Int) then (shapes_Open_l4 a0 x10 x14 x39) (0 : Int) else shapes_Open_k2 x10.1 x10.2 (0 : Int))))
theorem shapes_Open_ok (w : World) (H : PH) (hH : Le H (hp w)) {a0 : List UInt8} {v0_0 : Value} (h0_0 : Vec .byte H v0_0 (a0)) {r : (Int × (List (((List UInt8) × Int × Int × (List UInt8)) × (List Int)))) × (Int × Int)} (h : shapes_Open a0 = some r) :
  Ok Tryz.prog 36 [v0_0] w (fun v w' => Ext w w' ∧ ∃ u0, v = .tuple #[.agg #[.int .i64 r.1.1, u0], .agg #[.int .i64 r.2.1, .int .i64 r.2.2]] ∧ Vec (.pair (.pair .st (.pair (.int .i64) (.pair (.int .i64) .st))) (.vec (.int .i64))) (un H (nw w w')) u0 (r.1.2)) := by
 refine Ok_enter (n := 94) [(0, v0_0)] func36 rfl rfl rfl rfl rfl ?_
 have hL := Lcl.start w
 refine W_seqr ?_
 refine S_alloc zr47 rfl rfl hL ?_
 intro w1 b1 hL1 hle1 _
 refine S_alloc zr23 rfl rfl hL1 ?_
 intro w2 b2 hL2 hle2 _
 refine S_seqnil ?_
 refine W_seq ?_
 refine W_p 1 rfl ?_
 refine S_v (r_len rfl underlying35 h0_0) rfl ?_
 refine S_pz 1 rfl ?_
 refine W_if rfl (fun hc3 => ?_) (fun hc3 => ?_)
 ·replace h := Go.L.ite_p hc3 h
  refine W_seqr ?_
  refine S_v (r_build rfl (fun _ => bld47_z _)) rfl ?_
  obtain ⟨x5, hb5, h⟩ := Go.L.bind_some h
  refine S_callL rfl rfl hL2 (shapes_fault_ok _ _ (gz_le hH hL2) hb5) ?_
  rintro _ w6 rfl hx6 hL6 hle6
  refine S_storeBN 1 rfl rfl rfl zr47 hL6 rfl rfl (onc rfl (onc rfl on0)) ?_
  intro w7 hL7 hle7
  refine S_storeBN 0 rfl rfl rfl zr23 hL7 rfl rfl (onc rfl (onc rfl on0)) ?_
  intro w8 hL8 hle8
  refine S_seqnil ?_
  refine W_ret ?_
  refine At_seq_ret ?_
  obtain rfl := Option.some.inj h
  refine At_got2 rfl (.cell rfl underlying47 rfl zr47 (box_ptr (i := 1) hL8 rfl)) (.cell rfl underlying23 rfl zr23 (box_ptr (i := 0) hL8 rfl)) ?_
  exact ⟨hL8.ext, _, rfl, (Vec.nil _ _)⟩
 ·replace h := Go.L.ite_n hc3 h
  refine W_skip ?_
  refine At_seq ?_
  refine W_seqr ?_
  obtain ⟨x10, hb10, h⟩ := Go.L.bind_some h
  refine S_callL rfl rfl hL2 (shapes_fault_ok _ _ (gz_le hH hL2) hb10) ?_
  rintro _ w11 rfl hx11 hL11 hle11
  refine S_alloc zr23 rfl rfl hL11 ?_
  intro w12 b12 hL12 hle12 _
  refine S_storeBN 0 rfl rfl rfl zr23 hL12 rfl rfl (onc rfl (onc rfl on0)) ?_
  intro w13 hL13 hle13
  refine S_seqnil ?_
  refine W_p 1 rfl ?_
  obtain ⟨x14, hb14, h⟩ := Go.L.bind_some h
  refine S_callL rfl rfl hL13 (wire_ReadNumber_ok _ _ (gz_le hH hL13) (h0_0.mono (gz_left hH)) hb14) ?_
  rintro _ w15 rfl hx15 hL15 hle15
  refine S_pu 4 rfl ?_
  refine S_alloc zr23 rfl rfl hL15 ?_
  intro w16 b16 hL16 hle16 _
  refine S_pu 2 rfl ?_
  refine S_storeBN 0 rfl rfl rfl zr23 hL16 rfl rfl (onc rfl (onc rfl on0)) ?_
  intro w17 hL17 hle17
  refine S_seqnil ?_
  refine W_seq ?_
  refine W_seqr ?_
  refine S_v (r_loadBN 0 rfl underlying23 rfl zr23 hL17 rfl) rfl ?_
  refine S_v (r_build rfl (fun _ => bld23_z _)) rfl ?_
  refine S_v (r_neA rfl rfl eqg23 (eq23 _ _ _ _ )) rfl ?_
  refine S_pu 1 rfl ?_
  refine S_pickF 2 3 rfl rfl rfl rfl rfl rfl rfl ?_
  refine S_pu 1 rfl ?_
  refine S_pickF 2 7 rfl rfl rfl rfl rfl rfl rfl ?_
  refine S_seqnil ?_
  refine W_cond rfl (fun hc18 => ?_) (fun hc18 => ?_)
  ·replace h := Go.L.ite_t hc18 h
   refine W_cut (σ := Int × Int × Int) (fun ⟨c26, c27, c28⟩ => [(2, .pointer (some ⟨b1, 0, none⟩)), (3, .pointer (some ⟨b2, 0, none⟩))]) (fun ⟨c26, c27, c28⟩ wr => Lcl w [.box b16 [.int .i64 x14.2.2.1, .int .i64 x14.2.2.2] 23, .box b12 [.int .i64 x10.1, .int .i64 x10.2] 23, .box b2 [.int .i64 c26, .int .i64 c27] 23, .box b1 [.int .i64 c28, .slice none 0 0] 47] wr ∧ shapes_Open_k1 c26 c27 c28 = some r) ?_ ?_
   ·refine W_naiveI (fun z0 z => Le (gz H w z0 [.box b16 [.int .i64 x14.2.2.1, .int .i64 x14.2.2.2] 23, .box b12 [.int .i64 x10.1, .int .i64 x10.2] 23, .box b2 [.int .i64 (0 : Int), .int .i64 (0 : Int)] 23, .box b1 [.int .i64 (0 : Int), .slice none 0 0] 47]) (hp z) ∧ z.heap[b16]? = some (.cells [.int .i64 x14.2.2.1, .int .i64 x14.2.2.2].toArray 23 (0, 0)) ∧ z.heap[b12]? = some (.cells [.int .i64 x10.1, .int .i64 x10.2].toArray 23 (0, 0)) ∧ z.heap[b2]? = some (.cells [.int .i64 (0 : Int), .int .i64 (0 : Int)].toArray 23 (0, 0))) mixed rfl (fun w32 hx32 => ?_)
    have hL33 := hL17.call hx32
    have hG34 := hL33.rG H
    refine NI_hoist 0 (np_cut (np_seq np_body)) ⟨hG34.trans (gz_le hH hL33), hL33.at (i := 0) rfl, hL33.at (i := 1) rfl, hL33.at (i := 2) rfl⟩ (by kernel_rfl) rfl (fun _ _ => r_build rfl (fun _ => bld47_z _)) rfl ?_
    refine NI_hoist 1 (np_cut (np_seq np_body)) ⟨hG34.trans (gz_le hH hL33), hL33.at (i := 0) rfl, hL33.at (i := 1) rfl, hL33.at (i := 2) rfl⟩ (by kernel_rfl) rfl (fun _ hI => r_loadHN rfl underlying23 rfl zr23 hI.2.2.1) rfl ?_
    refine NI1 (i := 2) (by kernel_rfl) rfl ?_
    refine S_storeBN 3 rfl rfl rfl zr47 hL33 rfl rfl (onc rfl (onc rfl on0)) ?_
    intro w35 hL35 hle35
    replace hG34 := hG34.trans (gz_mono hH hle35)
    refine NI_nil ⟨hG34.trans (gz_le hH hL35), hL35.at (i := 0) rfl, hL35.at (i := 1) rfl, hL35.at (i := 2) rfl⟩ ?_
    refine NI1 (i := 3) (by kernel_rfl) rfl ?_
    refine S_storeBN 2 rfl rfl rfl zr23 hL35 rfl rfl (onc rfl (onc rfl on0)) ?_
    intro w36 hL36 hle36
    replace hG34 := hG34.trans (gz_mono hH hle36)
    refine NI_last (by kernel_rfl) ?_
    refine NI_end (by kernel_rfl) ?_
    refine At_cut (x10.1, x10.2, (0 : Int)) (.cons rfl (.cons rfl (Sub.nil _))) ⟨hL36, h⟩
   ·rintro ⟨c26, c27, c28⟩ wr30 ⟨hL30, h⟩
    refine W_ret ?_
    refine At_seq_ret ?_
    obtain rfl := Option.some.inj h
    refine At_got2 rfl (.cell rfl underlying47 rfl zr47 (box_ptr (i := 3) hL30 rfl)) (.cell rfl underlying23 rfl zr23 (box_ptr (i := 2) hL30 rfl)) ?_
    exact ⟨hL30.ext, _, rfl, (Vec.nil _ _)⟩
  ·replace h := Go.L.ite_f hc18 h
   refine W_skip ?_
   refine At_seq ?_
   refine W_p 3 rfl ?_
   refine S_v (r_len rfl underlying35 h0_0) rfl ?_
   obtain ⟨x39, hb39, h⟩ := Go.L.bind_some h
   refine S_callL rfl rfl hL17 (wreads_entry_ok _ _ (gz_le hH hL17) (h0_0.mono (gz_left hH)) hb39) ?_
   rintro _ w40 ⟨u40_0, rfl, hR40_0⟩ hx40 hL40 hle40
   have hv40_0 := hR40_0.vecG hH hL17 hx40
   refine S_pu 6 rfl ?_
   refine S_storeBN 0 rfl rfl rfl zr23 hL40 rfl rfl (onc rfl (onc rfl on0)) ?_
   intro w41 hL41 hle41
   replace hv40_0 := hv40_0.mono (gz_mono hH hle41)
   refine S_seqnil ?_
   refine W_seq ?_
   refine W_seqr ?_
   refine S_v (r_loadBN 0 rfl underlying23 rfl zr23 hL41 rfl) rfl ?_
   refine S_v (r_build rfl (fun _ => bld23_z _)) rfl ?_
   refine S_v (r_neA rfl rfl eqg23 (eq23 _ _ _ _ )) rfl ?_
   refine S_seqnil ?_
   refine W_ifn rfl (fun hc42 => ?_) (fun hc42 => ?_)
   ·replace h := Go.L.ite_n hc42 h
    refine W_cut (σ := Int × Int × Int) (fun ⟨c50, c51, c52⟩ => [(2, .pointer (some ⟨b1, 0, none⟩)), (3, .pointer (some ⟨b2, 0, none⟩))]) (fun ⟨c50, c51, c52⟩ wr => Lcl w [.box b16 [.int .i64 x39.2.2.1, .int .i64 x39.2.2.2] 23, .box b12 [.int .i64 x10.1, .int .i64 x10.2] 23, .box b2 [.int .i64 c50, .int .i64 c51] 23, .box b1 [.int .i64 c52, .slice none 0 0] 47] wr ∧ shapes_Open_k2 c50 c51 c52 = some r) ?_ ?_
    ·refine W_naiveI (fun z0 z => Le (gz H w z0 [.box b16 [.int .i64 x39.2.2.1, .int .i64 x39.2.2.2] 23, .box b12 [.int .i64 x10.1, .int .i64 x10.2] 23, .box b2 [.int .i64 (0 : Int), .int .i64 (0 : Int)] 23, .box b1 [.int .i64 (0 : Int), .slice none 0 0] 47]) (hp z) ∧ z.heap[b16]? = some (.cells [.int .i64 x39.2.2.1, .int .i64 x39.2.2.2].toArray 23 (0, 0)) ∧ z.heap[b12]? = some (.cells [.int .i64 x10.1, .int .i64 x10.2].toArray 23 (0, 0)) ∧ z.heap[b2]? = some (.cells [.int .i64 (0 : Int), .int .i64 (0 : Int)].toArray 23 (0, 0))) mixed rfl (fun w56 hx56 => ?_)
     have hL57 := hL41.call hx56
     have hG58 := hL57.rG H
     refine NI_hoist 0 (np_cut (np_seq np_body)) ⟨hG58.trans (gz_le hH hL57), hL57.at (i := 0) rfl, hL57.at (i := 1) rfl, hL57.at (i := 2) rfl⟩ (by kernel_rfl) rfl (fun _ _ => r_build rfl (fun _ => bld47_z _)) rfl ?_
     refine NI_hoist 1 (np_cut (np_seq np_body)) ⟨hG58.trans (gz_le hH hL57), hL57.at (i := 0) rfl, hL57.at (i := 1) rfl, hL57.at (i := 2) rfl⟩ (by kernel_rfl) rfl (fun _ hI => r_loadHN rfl underlying23 rfl zr23 hI.2.2.1) rfl ?_
     refine NI1 (i := 2) (by kernel_rfl) rfl ?_
     refine S_storeBN 3 rfl rfl rfl zr47 hL57 rfl rfl (onc rfl (onc rfl on0)) ?_
     intro w59 hL59 hle59
     replace hG58 := hG58.trans (gz_mono hH hle59)
     refine NI_nil ⟨hG58.trans (gz_le hH hL59), hL59.at (i := 0) rfl, hL59.at (i := 1) rfl, hL59.at (i := 2) rfl⟩ ?_
     refine NI1 (i := 3) (by kernel_rfl) rfl ?_
     refine S_storeBN 2 rfl rfl rfl zr23 hL59 rfl rfl (onc rfl (onc rfl on0)) ?_
     intro w60 hL60 hle60
     replace hG58 := hG58.trans (gz_mono hH hle60)
     refine NI_last (by kernel_rfl) ?_
     refine NI_end (by kernel_rfl) ?_
     refine At_cut (x10.1, x10.2, (0 : Int)) (.cons rfl (.cons rfl (Sub.nil _))) ⟨hL60, h⟩
    ·rintro ⟨c50, c51, c52⟩ wr54 ⟨hL54, h⟩
     refine W_ret ?_
     refine At_seq_ret ?_
     obtain rfl := Option.some.inj h
     refine At_got2 rfl (.cell rfl underlying47 rfl zr47 (box_ptr (i := 3) hL54 rfl)) (.cell rfl underlying23 rfl zr23 (box_ptr (i := 2) hL54 rfl)) ?_
     exact ⟨hL54.ext, _, rfl, (Vec.nil _ _)⟩
   ·replace h := Go.L.ite_p hc42 h
    refine W_skip ?_
    refine At_seq ?_
    refine W_cut (σ := Unit) (fun (_ : Unit) => [(0, v0_0), (2, .pointer (some ⟨b1, 0, none⟩)), (3, .pointer (some ⟨b2, 0, none⟩)), (4, .pointer (some ⟨b12, 0, none⟩)), (5, .int .i64 x14.1), (8, u40_0)]) (fun (_ : Unit) wr => InO w [.box b16 [.int .i64 x39.2.2.1, .int .i64 x39.2.2.2] 23, .box b12 [.int .i64 x10.1, .int .i64 x10.2] 23, .box b2 [.int .i64 (0 : Int), .int .i64 (0 : Int)] 23, .box b1 [.int .i64 (0 : Int), .slice none 0 0] 47] wr fun Oz => Vec (.pair (.pair .st (.pair (.int .i64) (.pair (.int .i64) .st))) (.vec (.int .i64))) (gz H w wr Oz) (u40_0) (x39.1) ∧ (shapes_Open_k3 a0 x10 x14 x39) = some r) ?_ ?_
    ·refine W_p 1 rfl ?_
     refine S_v (r_len rfl underlying45 hv40_0) rfl ?_
     refine S_pz 1 rfl ?_
     refine W_block ?_
     obtain ⟨n233, h⟩ := Go.L.run_some h
     refine W_loop (σ := Int × Nat) (fun ⟨s54_232, n⟩ => [(0, v0_0), (2, .pointer (some ⟨b1, 0, none⟩)), (3, .pointer (some ⟨b2, 0, none⟩)), (4, .pointer (some ⟨b12, 0, none⟩)), (5, .int .i64 x14.1), (8, u40_0), (52, u40_0), (53, .int .i64 (x39.1.length : Int)), (54, .int .i64 s54_232)]) (fun ⟨s54_232, n⟩ wr => InO w [.box b16 [.int .i64 x39.2.2.1, .int .i64 x39.2.2.2] 23, .box b12 [.int .i64 x10.1, .int .i64 x10.2] 23, .box b2 [.int .i64 (0 : Int), .int .i64 (0 : Int)] 23, .box b1 [.int .i64 (0 : Int), .slice none 0 0] 47] wr fun Oz => Vec (.pair (.pair .st (.pair (.int .i64) (.pair (.int .i64) .st))) (.vec (.int .i64))) (gz H w wr Oz) (u40_0) (x39.1) ∧ Go.L.itr (shapes_Open_bl4 a0 x10 x14 x39) n s54_232 = some r) (fun ⟨s54_232, n⟩ => n) ((0 : Int), n233) (.cons rfl (.cons rfl (.cons rfl (.cons rfl (.cons rfl (.cons rfl (.cons rfl (.cons rfl (.cons rfl (Sub.nil _)))))))))) ⟨hL41, hv40_0, h⟩ ?_
     rintro ⟨s54_232, nn233⟩ wr233 ⟨hL233, hf233_0, h⟩
     obtain ⟨n233, e233, rfl, h, hm233⟩ := Go.L.itr_some h
     refine W_pz 1 rfl ?_
     refine W_seq ?_
     refine W_if rfl (fun hc235 => ?_) (fun hc235 => ?_)
     ·replace h := Go.L.ite_p hc235 h
      refine W_skip ?_
      refine At_seq ?_
      refine W_seq ?_
      refine W_block ?_
      refine W_p 1 rfl ?_
      obtain ⟨hk238, h⟩ := Go.L.chk_some h
      refine S_index rfl rfl underlying45 zr96 hf233_0 s54_232.toNat (Int.toNat_of_nonneg hk238.1).symm (idx_lt hk238) rfl ?_
      rintro p237 _ ⟨_, _, rfl, ⟨_, _, rfl, rfl, ⟨_, _, rfl, rfl, ⟨_, _, rfl, rfl, rfl⟩⟩⟩, ⟨e237v4, rfl, e237h4⟩⟩ hp237
      refine S_v (r_loadN rfl underlying96 rfl zr96 hp237 (gz_le hH hL233)) rfl ?_
      refine S_alloc zr96 rfl rfl hL233 ?_
      intro w239 b239 hL239 hle239 _
      replace hf233_0 := hf233_0.mono (gz_mono hH hle239)
      replace hp237 := hp237.mono (gz_mono hH hle239)
      replace e237h4 := e237h4.mono (gz_mono hH hle239)
      refine S_pu 1 rfl ?_
      refine S_storeBN 0 rfl rfl rfl zr96 hL239 rfl rfl (onc rfl (onc rfl (onc rfl (onc rfl (onc e237h4.one on0))))) ?_
      intro w240 hL240 hle240
      replace hf233_0 := hf233_0.mono (gz_mono hH hle240)
      replace hp237 := hp237.mono (gz_mono hH hle240)
      replace e237h4 := e237h4.mono (gz_mono hH hle240)
      refine S_seqnil ?_
      refine W_seqd (.q 0 (.q 1 (.q 2 (.q 3 (.q 4 (.q 5 (.q 6 (.q 7 (.q 8 (.q 9 (.q 10 (.q 11 (.q 12 (.q 13 (.q 14 (.q 15 (.q 16 (.q 17 (.q 18 (.q 19 (.tail 20))))))))))))))))))))) mixed (by kernel_rfl) (fun w241 hx241 => ?_)
      have hL242 := hL240.call hx241
      have hle242 := fz_ext hL240 hx241
      replace hf233_0 := hf233_0.mono (gz_mono hH hle242)
      replace e237h4 := e237h4.mono (gz_mono hH hle242)
      refine D_v (r_loadBN 0 rfl underlying96 rfl zr96 hL242 rfl) rfl rfl ?_
      refine D_pu 1 rfl ?_
      obtain ⟨x243, hb243, h⟩ := Go.L.bind_some h
      have hok244 := (fun (w244 : World) (hx244 : Ext w241 w244) => shapes_entry_valid_ok w244 _ (Le.refl _) ((e237h4.mono (gz_le hH hL242)).mono hx244.le) hb243)
      refine D_call rfl rfl rfl hok244 ?_
      refine D_pu 2 rfl ?_
      refine D_split (s := 63) rfl (fun hg245 => ?_) (fun hg245 => ?_)
      ·replace h := Go.L.ite_t hg245 h
       iterate 3 refine D_no rfl rfl rfl rfl hg245 rfl ?_
       iterate 10 refine D_no2 rfl rfl rfl rfl rfl ?_
       refine D_no rfl rfl rfl rfl hg245 rfl ?_
       refine D_v (r_pickT rfl hg245 rfl) rfl rfl ?_
       refine D_tail (fun w247 hx247 => ?_)
       have hL248 := hL242.call hx247
       have hle248 := fz_ext hL242 hx247
       replace hf233_0 := hf233_0.mono (gz_mono hH hle248)
       replace e237h4 := e237h4.mono (gz_mono hH hle248)
       refine S_seqnil ?_
       refine W_true rfl ?_
       refine W_cut (σ := Int × Int × Int) (fun ⟨c255, c256, c257⟩ => [(2, .pointer (some ⟨b1, 0, none⟩)), (3, .pointer (some ⟨b2, 0, none⟩))]) (fun ⟨c255, c256, c257⟩ wr => InO w [.box b239 [.string ⟨(((x39.1.getD s54_232.toNat default).1).1).toArray⟩, .int .i64 (((x39.1.getD s54_232.toNat default).1).2.1), .int .i64 (((x39.1.getD s54_232.toNat default).1).2.2.1), .string ⟨(((x39.1.getD s54_232.toNat default).1).2.2.2).toArray⟩, e237v4] 96, .box b16 [.int .i64 x39.2.2.1, .int .i64 x39.2.2.2] 23, .box b12 [.int .i64 x10.1, .int .i64 x10.2] 23, .box b2 [.int .i64 c255, .int .i64 c256] 23, .box b1 [.int .i64 c257, .slice none 0 0] 47] wr fun Oz => Vec (.int .i64) (gz H w wr Oz) (e237v4) ((x39.1.getD s54_232.toNat default).2) ∧ shapes_Open_k5 c255 c256 c257 = some e233) ?_ ?_
       ·refine W_naiveI (fun z0 z => Le (gz H w z0 [.box b239 [.string ⟨(((x39.1.getD s54_232.toNat default).1).1).toArray⟩, .int .i64 (((x39.1.getD s54_232.toNat default).1).2.1), .int .i64 (((x39.1.getD s54_232.toNat default).1).2.2.1), .string ⟨(((x39.1.getD s54_232.toNat default).1).2.2.2).toArray⟩, e237v4] 96, .box b16 [.int .i64 x39.2.2.1, .int .i64 x39.2.2.2] 23, .box b12 [.int .i64 x10.1, .int .i64 x10.2] 23, .box b2 [.int .i64 (0 : Int), .int .i64 (0 : Int)] 23, .box b1 [.int .i64 (0 : Int), .slice none 0 0] 47]) (hp z) ∧ z.heap[b239]? = some (.cells [.string ⟨(((x39.1.getD s54_232.toNat default).1).1).toArray⟩, .int .i64 (((x39.1.getD s54_232.toNat default).1).2.1), .int .i64 (((x39.1.getD s54_232.toNat default).1).2.2.1), .string ⟨(((x39.1.getD s54_232.toNat default).1).2.2.2).toArray⟩, e237v4].toArray 96 (0, 0)) ∧ z.heap[b16]? = some (.cells [.int .i64 x39.2.2.1, .int .i64 x39.2.2.2].toArray 23 (0, 0)) ∧ z.heap[b12]? = some (.cells [.int .i64 x10.1, .int .i64 x10.2].toArray 23 (0, 0)) ∧ z.heap[b2]? = some (.cells [.int .i64 (0 : Int), .int .i64 (0 : Int)].toArray 23 (0, 0))) mixed rfl (fun w261 hx261 => ?_)
        have hL262 := hL248.call hx261
        have hle262 := fz_ext hL248 hx261
        replace hf233_0 := hf233_0.mono (gz_mono hH hle262)
        replace e237h4 := e237h4.mono (gz_mono hH hle262)
        have hG263 := hL262.rG H
        refine NI_hoist 0 (np_cut (np_block (np_seq (np_loop (np_block (np_cut np_body)))))) ⟨hG263.trans (gz_le hH hL262), hL262.at (i := 0) rfl, hL262.at (i := 1) rfl, hL262.at (i := 2) rfl, hL262.at (i := 3) rfl⟩ (by kernel_rfl) rfl (fun _ _ => r_build rfl (fun _ => bld47_z _)) rfl ?_
        refine NI_hoist 1 (np_cut (np_block (np_seq (np_loop (np_block (np_cut np_body)))))) ⟨hG263.trans (gz_le hH hL262), hL262.at (i := 0) rfl, hL262.at (i := 1) rfl, hL262.at (i := 2) rfl, hL262.at (i := 3) rfl⟩ (by kernel_rfl) rfl (fun _ hI => r_loadHN rfl underlying23 rfl zr23 hI.2.2.2.1) rfl ?_
        refine NI1 (i := 2) (by kernel_rfl) rfl ?_
        refine S_storeBN 4 rfl rfl rfl zr47 hL262 rfl rfl (onc rfl (onc rfl on0)) ?_
        intro w264 hL264 hle264
        replace hG263 := hG263.trans (gz_mono hH hle264)
        refine NI_nil ⟨hG263.trans (gz_le hH hL264), hL264.at (i := 0) rfl, hL264.at (i := 1) rfl, hL264.at (i := 2) rfl, hL264.at (i := 3) rfl⟩ ?_
        refine NI1 (i := 3) (by kernel_rfl) rfl ?_
        refine S_storeBN 3 rfl rfl rfl zr23 hL264 rfl rfl (onc rfl (onc rfl on0)) ?_
        intro w265 hL265 hle265
        replace hG263 := hG263.trans (gz_mono hH hle265)
        refine NI_last (by kernel_rfl) ?_
        refine NI_end (by kernel_rfl) ?_
        refine At_cut (x10.1, x10.2, (0 : Int)) (.cons rfl (.cons rfl (Sub.nil _))) ⟨hL265, (e237h4.mono hG263), h⟩
       ·rintro ⟨c255, c256, c257⟩ wr259 ⟨hL259, hf259_0, h⟩
        refine W_ret ?_
        refine At_block_ret ?_
        refine At_seq_ret ?_
        refine At_loop_ret ?_
        replace h := Go.L.Nxt.out h hm233
        refine At_block_ret ?_
        refine At_cut_ret ?_
        obtain rfl := Option.some.inj h
        refine At_got2 rfl (.cell rfl underlying47 rfl zr47 (box_ptr (i := 4) hL259 rfl)) (.cell rfl underlying23 rfl zr23 (box_ptr (i := 3) hL259 rfl)) ?_
        exact ⟨hL259.ext, _, rfl, (Vec.nil _ _)⟩
      ·replace h := Go.L.ite_f hg245 h
       iterate 3 refine D_vg (RunsAt_pu rfl) rfl rfl rfl rfl hg245 rfl ?_
       refine D_split (s := 66) rfl (fun hg268 => ?_) (fun hg268 => ?_)
       ·replace h := Go.L.ite_p (of_decide_eq_true hg268) h
        refine D_vg (r_field rfl underlying96 rfl zr84 (by decide)) rfl rfl rfl rfl hg268 rfl ?_
        refine D_vg (r_loadBP 0 4 rfl underlying84 rfl zr84 hL242 rfl rfl) rfl rfl rfl rfl hg268 rfl ?_
        iterate 2 refine D_vg (RunsAt_pu rfl) rfl rfl rfl rfl hg268 rfl ?_
        obtain ⟨hk270, h⟩ := Go.L.chk_some h
        refine D_vg (r_ar64 rfl rfl rfl hk270) rfl rfl rfl rfl hg268 rfl ?_
        obtain ⟨hk272, h⟩ := Go.L.chk_some h
        refine D_indexg rfl rfl rfl rfl hg268 rfl rfl underlying45 zr96 hf233_0 ((s54_232 - (1 : Int)).toNat) (Int.toNat_of_nonneg hk272.1).symm (idx_lt hk272) rfl ?_
        rintro p271 _ ⟨_, _, rfl, ⟨_, _, rfl, rfl, ⟨_, _, rfl, rfl, ⟨_, _, rfl, rfl, rfl⟩⟩⟩, ⟨e271v4, rfl, e271h4⟩⟩ hp271
        refine D_vg (r_field rfl underlying96 rfl zr84 (by decide)) rfl rfl rfl rfl hg268 rfl ?_
        have hp273 := hp271.add 0
        refine D_vg (r_loadP 4 rfl underlying84 rfl zr84 hp273 (gz_le hH hL242) rfl) rfl rfl rfl rfl hg268 rfl ?_
        obtain ⟨x274, hb274, h⟩ := Go.L.bind_some h
        have hok275 := (fun (w275 : World) (hx275 : Ext w241 w275) => shapes_leaf_compare_ok w275 _ (Le.refl _) hb274)
        refine D_callg rfl rfl rfl rfl hg268 rfl rfl hok275 ?_
        refine D_vg (RunsAt_pu rfl) rfl rfl rfl rfl hg268 rfl ?_
        refine D_vg (r_pickT rfl hg268 rfl) rfl rfl rfl rfl hg245 rfl ?_
        refine D_v (r_pickF rfl hg245 rfl) rfl rfl ?_
        refine D_tail (fun w276 hx276 => ?_)
        have hL277 := hL242.call hx276
        have hle277 := fz_ext hL242 hx276
        replace hf233_0 := hf233_0.mono (gz_mono hH hle277)
        replace e237h4 := e237h4.mono (gz_mono hH hle277)
        replace hp271 := hp271.mono (gz_mono hH hle277)
        replace e271h4 := e271h4.mono (gz_mono hH hle277)
        replace hp273 := hp273.mono (gz_mono hH hle277)
        refine S_seqnil ?_
        refine W_if rfl (fun hc278 => ?_) (fun hc278 => ?_)
        ·replace h := Go.L.ite_p hc278 h
         refine W_cut (σ := Int × Int × Int) (fun ⟨c286, c287, c288⟩ => [(2, .pointer (some ⟨b1, 0, none⟩)), (3, .pointer (some ⟨b2, 0, none⟩))]) (fun ⟨c286, c287, c288⟩ wr => InO w [.box b239 [.string ⟨(((x39.1.getD s54_232.toNat default).1).1).toArray⟩, .int .i64 (((x39.1.getD s54_232.toNat default).1).2.1), .int .i64 (((x39.1.getD s54_232.toNat default).1).2.2.1), .string ⟨(((x39.1.getD s54_232.toNat default).1).2.2.2).toArray⟩, e237v4] 96, .box b16 [.int .i64 x39.2.2.1, .int .i64 x39.2.2.2] 23, .box b12 [.int .i64 x10.1, .int .i64 x10.2] 23, .box b2 [.int .i64 c286, .int .i64 c287] 23, .box b1 [.int .i64 c288, .slice none 0 0] 47] wr fun Oz => Vec (.int .i64) (gz H w wr Oz) (e237v4) ((x39.1.getD s54_232.toNat default).2) ∧ shapes_Open_k6 c286 c287 c288 = some e233) ?_ ?_
         ·refine W_naiveI (fun z0 z => Le (gz H w z0 [.box b239 [.string ⟨(((x39.1.getD s54_232.toNat default).1).1).toArray⟩, .int .i64 (((x39.1.getD s54_232.toNat default).1).2.1), .int .i64 (((x39.1.getD s54_232.toNat default).1).2.2.1), .string ⟨(((x39.1.getD s54_232.toNat default).1).2.2.2).toArray⟩, e237v4] 96, .box b16 [.int .i64 x39.2.2.1, .int .i64 x39.2.2.2] 23, .box b12 [.int .i64 x10.1, .int .i64 x10.2] 23, .box b2 [.int .i64 (0 : Int), .int .i64 (0 : Int)] 23, .box b1 [.int .i64 (0 : Int), .slice none 0 0] 47]) (hp z) ∧ z.heap[b239]? = some (.cells [.string ⟨(((x39.1.getD s54_232.toNat default).1).1).toArray⟩, .int .i64 (((x39.1.getD s54_232.toNat default).1).2.1), .int .i64 (((x39.1.getD s54_232.toNat default).1).2.2.1), .string ⟨(((x39.1.getD s54_232.toNat default).1).2.2.2).toArray⟩, e237v4].toArray 96 (0, 0)) ∧ z.heap[b16]? = some (.cells [.int .i64 x39.2.2.1, .int .i64 x39.2.2.2].toArray 23 (0, 0)) ∧ z.heap[b12]? = some (.cells [.int .i64 x10.1, .int .i64 x10.2].toArray 23 (0, 0)) ∧ z.heap[b2]? = some (.cells [.int .i64 (0 : Int), .int .i64 (0 : Int)].toArray 23 (0, 0))) mixed rfl (fun w292 hx292 => ?_)
          have hL293 := hL277.call hx292
          have hle293 := fz_ext hL277 hx292
          replace e237h4 := e237h4.mono (gz_mono hH hle293)
          have hG294 := hL293.rG H
          refine NI_hoist 0 (np_cut (np_block (np_seq (np_loop (np_block (np_cut np_body)))))) ⟨hG294.trans (gz_le hH hL293), hL293.at (i := 0) rfl, hL293.at (i := 1) rfl, hL293.at (i := 2) rfl, hL293.at (i := 3) rfl⟩ (by kernel_rfl) rfl (fun _ _ => r_build rfl (fun _ => bld47_z _)) rfl ?_
          refine NI_hoist 1 (np_cut (np_block (np_seq (np_loop (np_block (np_cut np_body)))))) ⟨hG294.trans (gz_le hH hL293), hL293.at (i := 0) rfl, hL293.at (i := 1) rfl, hL293.at (i := 2) rfl, hL293.at (i := 3) rfl⟩ (by kernel_rfl) rfl (fun _ hI => r_loadHN rfl underlying23 rfl zr23 hI.2.2.2.1) rfl ?_
          refine NI1 (i := 2) (by kernel_rfl) rfl ?_
          refine S_storeBN 4 rfl rfl rfl zr47 hL293 rfl rfl (onc rfl (onc rfl on0)) ?_
          intro w295 hL295 hle295
          replace hG294 := hG294.trans (gz_mono hH hle295)
          refine NI_nil ⟨hG294.trans (gz_le hH hL295), hL295.at (i := 0) rfl, hL295.at (i := 1) rfl, hL295.at (i := 2) rfl, hL295.at (i := 3) rfl⟩ ?_
          refine NI1 (i := 3) (by kernel_rfl) rfl ?_
          refine S_storeBN 3 rfl rfl rfl zr23 hL295 rfl rfl (onc rfl (onc rfl on0)) ?_
          intro w296 hL296 hle296
          replace hG294 := hG294.trans (gz_mono hH hle296)
          refine NI_last (by kernel_rfl) ?_
          refine NI_end (by kernel_rfl) ?_
          refine At_cut (x10.1, x10.2, (0 : Int)) (.cons rfl (.cons rfl (Sub.nil _))) ⟨hL296, (e237h4.mono hG294), h⟩
         ·rintro ⟨c286, c287, c288⟩ wr290 ⟨hL290, hf290_0, h⟩
          refine W_ret ?_
          refine At_block_ret ?_
          refine At_seq_ret ?_
          refine At_loop_ret ?_
          replace h := Go.L.Nxt.out h hm233
          refine At_block_ret ?_
          refine At_cut_ret ?_
          obtain rfl := Option.some.inj h
          refine At_got2 rfl (.cell rfl underlying47 rfl zr47 (box_ptr (i := 4) hL290 rfl)) (.cell rfl underlying23 rfl zr23 (box_ptr (i := 3) hL290 rfl)) ?_
          exact ⟨hL290.ext, _, rfl, (Vec.nil _ _)⟩
        ·replace h := Go.L.ite_n hc278 h
         refine W_skip ?_
         refine At_block ?_
         refine At_seq ?_
         refine W_region ?_
         obtain ⟨hk299, h⟩ := Go.L.chk_some h
         refine S_v (r_ar64 rfl rfl rfl hk299) rfl ?_
         refine S_pu 1 rfl ?_
         refine S_nil ?_
         have hL300 := hL277.dropAt (i := 0) rfl
         replace hf233_0 := hf233_0.mono (gz_mono hH (fz_dropAt (i := 0) rfl))
         replace e237h4 := e237h4.mono (gz_mono hH (fz_dropAt (i := 0) rfl))
         have h := Go.L.Nxt.again h hm233
         refine At_round ((s54_232 + (1 : Int)), n233) (.cons rfl (.cons rfl (.cons rfl (.cons rfl (.cons rfl (.cons rfl (.cons rfl (.cons rfl (.cons rfl (Sub.nil _)))))))))) ⟨hL300, hf233_0, h⟩ (Nat.lt_succ_self _)
       ·replace h := Go.L.ite_n (of_decide_eq_false hg268) h
        iterate 10 refine D_no rfl rfl rfl rfl hg268 rfl ?_
        refine D_vg (r_pickF rfl hg268 rfl) rfl rfl rfl rfl hg245 rfl ?_
        refine D_v (r_pickF rfl hg245 rfl) rfl rfl ?_
        refine D_tail (fun w302 hx302 => ?_)
        have hL303 := hL242.call hx302
        have hle303 := fz_ext hL242 hx302
        replace hf233_0 := hf233_0.mono (gz_mono hH hle303)
        replace e237h4 := e237h4.mono (gz_mono hH hle303)
        refine S_seqnil ?_
        refine W_false rfl ?_
        refine W_skip ?_
        refine At_block ?_
        refine At_seq ?_
        refine W_region ?_
        obtain ⟨hk304, h⟩ := Go.L.chk_some h
        refine S_v (r_ar64 rfl rfl rfl hk304) rfl ?_
        refine S_pu 1 rfl ?_
        refine S_nil ?_
        have hL305 := hL303.dropAt (i := 0) rfl
        replace hf233_0 := hf233_0.mono (gz_mono hH (fz_dropAt (i := 0) rfl))
        replace e237h4 := e237h4.mono (gz_mono hH (fz_dropAt (i := 0) rfl))
        have h := Go.L.Nxt.again h hm233
        refine At_round ((s54_232 + (1 : Int)), n233) (.cons rfl (.cons rfl (.cons rfl (.cons rfl (.cons rfl (.cons rfl (.cons rfl (.cons rfl (.cons rfl (Sub.nil _)))))))))) ⟨hL305, hf233_0, h⟩ (Nat.lt_succ_self _)
     ·replace h := Go.L.ite_n hc235 h
      refine W_exit ?_
      refine At_seq_exit ?_
      refine At_loop_exit ?_
      replace h := Go.L.Nxt.out h hm233
      refine At_exit ?_
      refine At_cut () (.cons rfl (.cons rfl (.cons rfl (.cons rfl (.cons rfl (.cons rfl (Sub.nil _))))))) ⟨hL233, hf233_0, h⟩
    ·rintro _ wr175 ⟨hL175, hf175_0, h⟩
     refine W_p 2 rfl ?_
     refine S_v (r_build rfl (fun _ => bld47_0_1 _ _ hf175_0.one _)) rfl ?_
     refine S_alloc zr47 rfl rfl hL175 ?_
     intro w308 b308 hL308 hle308 _
     replace hf175_0 := hf175_0.mono (gz_mono hH hle308)
     refine S_storeBN 0 rfl rfl rfl zr47 hL308 rfl rfl (onc rfl (onc hf175_0.one on0)) ?_
     intro w309 hL309 hle309
     replace hf175_0 := hf175_0.mono (gz_mono hH hle309)
     refine S_seqnil ?_
     refine W_seq ?_
     refine W_seqr ?_
     refine S_v (r_loadBN 0 rfl underlying47 rfl zr47 hL309 rfl) rfl ?_
     obtain ⟨x310, hb310, h⟩ := Go.L.bind_some h
     refine S_callL rfl rfl hL309 (shapes_Index_Bytes_ok (a0 := (x14.1, x39.1)) _ _ (gz_le hH hL309) hf175_0 hb310) ?_
     rintro u311_0 w311 ⟨_, rfl, hR311_0⟩ hx311 hL311 hle311
     have hv311_0 := hR311_0.vecG hH hL309 hx311
     replace hf175_0 := hf175_0.mono (gz_mono hH hle311)
     refine S_pu 1 rfl ?_
     obtain ⟨x312, hb312, h⟩ := Go.L.bind_some h
     refine S_callL rfl rfl hL311 (bytes_Equal_ok _ _ (gz_le hH hL311) hv311_0 (h0_0.mono (gz_left hH)) hb312) ?_
     rintro _ w313 rfl hx313 hL313 hle313
     replace hf175_0 := hf175_0.mono (gz_mono hH hle313)
     replace hv311_0 := hv311_0.mono (gz_mono hH hle313)
     refine S_pz 1 rfl ?_
     refine W_cond rfl (fun hc314 => ?_) (fun hc314 => ?_)
     ·replace h := Go.L.ite_t hc314 h
      refine W_cut (σ := Int × Int × Int) (fun ⟨c322, c323, c324⟩ => [(2, .pointer (some ⟨b1, 0, none⟩)), (3, .pointer (some ⟨b2, 0, none⟩))]) (fun ⟨c322, c323, c324⟩ wr => InO w [.box b308 [.int .i64 x14.1, u40_0] 47, .box b16 [.int .i64 x39.2.2.1, .int .i64 x39.2.2.2] 23, .box b12 [.int .i64 x10.1, .int .i64 x10.2] 23, .box b2 [.int .i64 c322, .int .i64 c323] 23, .box b1 [.int .i64 c324, .slice none 0 0] 47] wr fun Oz => Vec (.pair (.pair .st (.pair (.int .i64) (.pair (.int .i64) .st))) (.vec (.int .i64))) (gz H w wr Oz) (u40_0) (x39.1) ∧ shapes_Open_k7 c322 c323 c324 = some r) ?_ ?_
      ·refine W_naiveI (fun z0 z => Le (gz H w z0 [.box b308 [.int .i64 x14.1, u40_0] 47, .box b16 [.int .i64 x39.2.2.1, .int .i64 x39.2.2.2] 23, .box b12 [.int .i64 x10.1, .int .i64 x10.2] 23, .box b2 [.int .i64 (0 : Int), .int .i64 (0 : Int)] 23, .box b1 [.int .i64 (0 : Int), .slice none 0 0] 47]) (hp z) ∧ z.heap[b308]? = some (.cells [.int .i64 x14.1, u40_0].toArray 47 (0, 0)) ∧ z.heap[b16]? = some (.cells [.int .i64 x39.2.2.1, .int .i64 x39.2.2.2].toArray 23 (0, 0)) ∧ z.heap[b12]? = some (.cells [.int .i64 x10.1, .int .i64 x10.2].toArray 23 (0, 0)) ∧ z.heap[b2]? = some (.cells [.int .i64 (0 : Int), .int .i64 (0 : Int)].toArray 23 (0, 0))) mixed rfl (fun w328 hx328 => ?_)
       have hL329 := hL313.call hx328
       have hle329 := fz_ext hL313 hx328
       replace hf175_0 := hf175_0.mono (gz_mono hH hle329)
       have hG330 := hL329.rG H
       refine NI_hoist 0 (np_cut (np_seq np_body)) ⟨hG330.trans (gz_le hH hL329), hL329.at (i := 0) rfl, hL329.at (i := 1) rfl, hL329.at (i := 2) rfl, hL329.at (i := 3) rfl⟩ (by kernel_rfl) rfl (fun _ _ => r_build rfl (fun _ => bld47_z _)) rfl ?_
       refine NI_hoist 1 (np_cut (np_seq np_body)) ⟨hG330.trans (gz_le hH hL329), hL329.at (i := 0) rfl, hL329.at (i := 1) rfl, hL329.at (i := 2) rfl, hL329.at (i := 3) rfl⟩ (by kernel_rfl) rfl (fun _ hI => r_loadHN rfl underlying23 rfl zr23 hI.2.2.2.1) rfl ?_
       refine NI1 (i := 2) (by kernel_rfl) rfl ?_
       refine S_storeBN 4 rfl rfl rfl zr47 hL329 rfl rfl (onc rfl (onc rfl on0)) ?_
       intro w331 hL331 hle331
       replace hG330 := hG330.trans (gz_mono hH hle331)
       refine NI_nil ⟨hG330.trans (gz_le hH hL331), hL331.at (i := 0) rfl, hL331.at (i := 1) rfl, hL331.at (i := 2) rfl, hL331.at (i := 3) rfl⟩ ?_
       refine NI1 (i := 3) (by kernel_rfl) rfl ?_
       refine S_storeBN 3 rfl rfl rfl zr23 hL331 rfl rfl (onc rfl (onc rfl on0)) ?_
       intro w332 hL332 hle332
       replace hG330 := hG330.trans (gz_mono hH hle332)
       refine NI_last (by kernel_rfl) ?_
       refine NI_end (by kernel_rfl) ?_
       refine At_cut (x10.1, x10.2, (0 : Int)) (.cons rfl (.cons rfl (Sub.nil _))) ⟨hL332, (hf175_0.mono hG330), h⟩
      ·rintro ⟨c322, c323, c324⟩ wr326 ⟨hL326, hf326_0, h⟩
       refine W_ret ?_
       refine At_seq_ret ?_
       obtain rfl := Option.some.inj h
       refine At_got2 rfl (.cell rfl underlying47 rfl zr47 (box_ptr (i := 4) hL326 rfl)) (.cell rfl underlying23 rfl zr23 (box_ptr (i := 3) hL326 rfl)) ?_
       exact ⟨hL326.ext, _, rfl, (Vec.nil _ _)⟩
     ·replace h := Go.L.ite_f hc314 h
      refine W_skip ?_
      refine At_seq ?_
      refine W_seqr ?_
      refine S_v (r_loadBN 0 rfl underlying47 rfl zr47 hL313 rfl) rfl ?_
      refine S_v (r_build rfl (fun _ => bld23_z _)) rfl ?_
      refine S_storeBN 4 rfl rfl rfl zr47 hL313 rfl rfl (onc rfl (onc hf175_0.one on0)) ?_
      intro w335 hL335 hle335
      replace hf175_0 := hf175_0.mono (gz_mono hH hle335)
      refine S_storeBN 3 rfl rfl rfl zr23 hL335 rfl rfl (onc rfl (onc rfl on0)) ?_
      intro w336 hL336 hle336
      replace hf175_0 := hf175_0.mono (gz_mono hH hle336)
      refine S_seqnil ?_
      refine W_ret ?_
      obtain rfl := Option.some.inj h
      refine At_got2 rfl (.cell rfl underlying47 rfl zr47 (box_ptr (i := 4) hL336 rfl)) (.cell rfl underlying23 rfl zr23 (box_ptr (i := 3) hL336 rfl)) ?_
      exact ⟨hL336.ext, _, rfl, (hf175_0.mono (gz_res hH))⟩
end Go.Proofs.YtmfiaecglndldaaGreatDoor
end
