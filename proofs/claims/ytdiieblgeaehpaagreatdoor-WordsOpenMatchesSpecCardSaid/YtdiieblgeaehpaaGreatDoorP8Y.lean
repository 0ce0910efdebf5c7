/- Generated walks: the reference of forms. -/
import Derived.Test.YtdiieblgeaehpaaGreatDoorP8
import Derived.KernelRfl
namespace Go.Proofs.YtdiieblgeaehpaaGreatDoor
open Go Go.E Go.RowKit
set_option maxHeartbeats 1000000
set_option maxRecDepth 10000
open _root_.Go.Proofs.Tryz
noncomputable def ref3_SameBytes (a0 : List UInt8) (a1 : List UInt8) : Option (Bool) :=
 some (decide (a0 = a1))

theorem ref3_SameBytes_ok (w : World) (H : PH) (hH : Le H (hp w)) {a0 : List UInt8} {a1 : List UInt8} {v0_0 : Value} {v1_0 : Value} (h0_0 : Vec .byte H v0_0 (a0)) (h1_0 : Vec .byte H v1_0 (a1)) {r : Bool} (h : ref3_SameBytes a0 a1 = some r) :
  Ok Tryz.prog 11 [v0_0, v1_0] w (fun v w' => Ext w w' ∧ v = .bool r) := by
 refine Ok_enter (n := 10) [(0, v0_0), (1, v1_0)] func11 rfl rfl rfl rfl rfl ?_
 have hL := Lcl.start w
 refine W_pz 1 rfl ?_
 refine W_p 1 rfl ?_
 refine S_v (r_str rfl underlying22 underlying5 underlying9 h0_0 (hH.trans hL.arg)) rfl ?_
 refine S_pu 1 rfl ?_
 refine S_v (r_str rfl underlying22 underlying5 underlying9 h1_0 (hH.trans hL.arg)) rfl ?_
 refine S_v (r_seq rfl rfl) rfl ?_
 refine S_pz 1 rfl ?_
 refine W_ret ?_
 obtain rfl := Option.some.inj h
 refine At_body rfl rfl ?_
 exact ⟨hL.ext, rfl⟩

noncomputable def ref3_Digits_k1 (l17 : List Int) : Option ((List Int)) :=
 some (l17)
noncomputable def ref3_Digits_bl2 : (List Int) × Int × Int → Option (((List Int) × Int × Int) ⊕ ((List Int))) := fun ⟨l31, s0_32, s6_33⟩ =>
 if (0 : Int) ≤ s6_33 then Go.L.chk (0 ≤ s0_32 ∧ s0_32 ≤ 9223372036854775807 ∧ 0 < (2 : Int)) (Go.L.chk (0 ≤ s6_33 ∧ s6_33 < (l31.length : Int)) (Go.L.chk (0 ≤ s0_32 ∧ s0_32 ≤ 9223372036854775807 ∧ 0 < (2 : Int)) (Go.L.chk (Go.L.I64 (s6_33 - (1 : Int))) (some (Sum.inl ((l31.set s6_33.toNat (s0_32 % (2 : Int))), (s0_32 / (2 : Int)), (s6_33 - (1 : Int)))))))) else Option.map Sum.inr (ref3_Digits_k1 l31)
noncomputable def ref3_Digits_l2 (s : (List Int) × Int × Int) : Option ((List Int)) := Go.L.run (ref3_Digits_bl2) s
noncomputable def ref3_Digits (a0 : Int) (a1 : Int) : Option ((List Int)) :=
 Go.L.chk (0 ≤ a1 ∧ ((8 : Nat) : Int) * a1 ≤ 281474976710656 ∧ a1 ≤ 9223372036854775807) (Go.L.chk (Go.L.I64 (a1 - (1 : Int))) (ref3_Digits_l2 ((List.replicate a1.toNat (0 : Int)), a0, (a1 - (1 : Int)))))

theorem ref3_Digits_ok (w : World) (H : PH) (hH : Le H (hp w)) {a0 : Int} {a1 : Int}   {r : (List Int)} (h : ref3_Digits a0 a1 = some r) :
  Ok Tryz.prog 81 [.int .i64 a0, .int .i64 a1] w (fun v w' => Ext w w' ∧ ∃ u0, v = u0 ∧ OwnH 3 (.int .i64) H w w' u0 (r)) := by
 refine Ok_enter (n := 23) [(0, .int .i64 a0), (1, .int .i64 a1)] func81 rfl rfl rfl rfl rfl ?_
 have hL := Lcl.start w
 refine W_pz 1 rfl ?_
 refine W_p 1 rfl ?_
 obtain ⟨hk2, h⟩ := Go.L.chk_some h
 refine S_makeE (r := (.int .i64)) (z := (0 : Int)) rfl rfl rfl underlying71 zr3 rfl (fun _ => rfl) rfl hH hL hk2 ?_
 intro v1 w1 xs1 hL1 hle1 he1
 refine S_pz 1 rfl ?_
 refine W_cut (σ := (List Int) × (List Value)) (fun ⟨l17, xsl17⟩ => [(5, v1)]) (fun ⟨l17, xsl17⟩ wr => InO w [.row (v1) 3 1 (l17).length (xsl17)] wr fun Oz => Elems (.int .i64) (gz H w wr Oz) (l17) (xsl17) ∧ ref3_Digits_k1 l17 = some r) ?_ ?_
 ·refine W_p 1 rfl ?_
  obtain ⟨hk20, h⟩ := Go.L.chk_some h
  refine S_v (r_ar64 rfl rfl rfl hk20) rfl ?_
  refine S_pz 1 rfl ?_
  refine W_block ?_
  obtain ⟨n34, h⟩ := Go.L.run_some h
  refine W_loop (σ := (List Int) × Int × Int × (List Value) × Nat) (fun ⟨l31, s0_32, s6_33, xsl31, n⟩ => [(0, .int .i64 s0_32), (5, v1), (6, .int .i64 s6_33)]) (fun ⟨l31, s0_32, s6_33, xsl31, n⟩ wr => InO w [.row (v1) 3 1 (l31).length (xsl31)] wr fun Oz => Elems (.int .i64) (gz H w wr Oz) (l31) (xsl31) ∧ Go.L.itr ref3_Digits_bl2 n (l31, s0_32, s6_33) = some r) (fun ⟨l31, s0_32, s6_33, xsl31, n⟩ => n) ((List.replicate a1.toNat (0 : Int)), a0, (a1 - (1 : Int)), xs1, n34) (.cons rfl (.cons rfl (.cons rfl (Sub.nil _)))) ⟨hL1, he1, h⟩ ?_
  rintro ⟨l31, s0_32, s6_33, xsl31, nn34⟩ wr34 ⟨hL34, hel31, h⟩
  obtain ⟨n34, e34, rfl, h, hm34⟩ := Go.L.itr_some h
  refine W_seq ?_
  refine W_pz 2 rfl ?_
  refine W_if rfl (fun hc36 => ?_) (fun hc36 => ?_)
  ·replace h := Go.L.ite_p hc36 h
   refine W_skip ?_
   refine At_seq ?_
   refine W_seq ?_
   refine W_block ?_
   refine W_p 3 rfl ?_
   obtain ⟨hk38, h⟩ := Go.L.chk_some h
   refine S_v (r_rem rfl rfl ⟨hk38.1, hk38.2.2⟩) rfl ?_
   obtain ⟨hk40, h⟩ := Go.L.chk_some h
   refine S_indexR 0 rfl rfl underlying71 zr3 hL34 rfl s6_33.toNat (Int.toNat_of_nonneg hk40.1).symm (idx_lt hk40) rfl ?_
   intro p39 hp39
   refine S_storeE (z := (s0_32 % (2 : Int))) (j := s6_33.toNat) 0 rfl rfl rfl zr3 hH hL34 rfl hel31 hp39 rfl (idx_lt hk40) rfl ?_
   intro w41 xs41 hL41 hle41 he41
   refine S_seqnil ?_
   refine W_region ?_
   refine S_pu 1 rfl ?_
   obtain ⟨hk42, h⟩ := Go.L.chk_some h
   refine S_v (r_quo rfl rfl hk42) rfl ?_
   refine S_pu 1 rfl ?_
   refine S_nil ?_
   refine At_block ?_
   refine At_seq ?_
   refine W_region ?_
   refine S_pu 1 rfl ?_
   obtain ⟨hk43, h⟩ := Go.L.chk_some h
   refine S_v (r_ar64 rfl rfl rfl hk43) rfl ?_
   refine S_pu 1 rfl ?_
   refine S_nil ?_
   have h := Go.L.Nxt.again h hm34
   refine At_round ((l31.set s6_33.toNat (s0_32 % (2 : Int))), (s0_32 / (2 : Int)), (s6_33 - (1 : Int)), xs41, n34) (.cons rfl (.cons rfl (.cons rfl (Sub.nil _)))) ⟨hL41, he41, h⟩ (Nat.lt_succ_self _)
  ·replace h := Go.L.ite_n hc36 h
   refine W_exit ?_
   refine At_seq_exit ?_
   refine At_loop_exit ?_
   replace h := Go.L.Nxt.out h hm34
   refine At_exit ?_
   refine At_cut (l31, xsl31) (.cons rfl (Sub.nil _)) ⟨hL34, hel31, h⟩
 ·rintro ⟨l17, xsl17⟩ wr18 ⟨hL18, hel17, h⟩
  refine W_pz 2 rfl ?_
  refine W_ret ?_
  obtain rfl := Option.some.inj h
  refine At_body rfl rfl ?_
  exact ⟨hL18.ext, _, rfl, (hL18.ownH hH (i := 0) rfl hel17)⟩

noncomputable def ref3_Gamma_k1 (a0 : Int) (s3_10 : Int) : Option ((List Int)) :=
 Go.L.chk (Go.L.I64 (s3_10 - (1 : Int))) (Go.L.chk (0 ≤ (s3_10 - (1 : Int)) ∧ ((8 : Nat) : Int) * (s3_10 - (1 : Int)) ≤ 281474976710656 ∧ (s3_10 - (1 : Int)) ≤ 9223372036854775807) (Option.bind (ref3_Digits a0 s3_10) (fun x32 => Go.L.chk (Go.E.Cap 8 ((List.replicate (s3_10 - (1 : Int)).toNat (0 : Int)).length + x32.length)) (some (((List.replicate (s3_10 - (1 : Int)).toNat (0 : Int)) ++ x32))))))
noncomputable def ref3_Gamma_bl2 (a0 : Int) : Int × Int → Option ((Int × Int) ⊕ ((List Int))) := fun ⟨s3_19, s4_20⟩ =>
 if (0 : Int) < s4_20 then Go.L.chk (Go.L.I64 (s3_19 + (1 : Int))) (Go.L.chk (0 ≤ s4_20 ∧ s4_20 ≤ 9223372036854775807 ∧ 0 < (2 : Int)) (some (Sum.inl ((s3_19 + (1 : Int)), (s4_20 / (2 : Int)))))) else Option.map Sum.inr ((ref3_Gamma_k1 a0) s3_19)
noncomputable def ref3_Gamma_l2 (a0 : Int) (s : Int × Int) : Option ((List Int)) := Go.L.run (ref3_Gamma_bl2 a0) s
noncomputable def ref3_Gamma (a0 : Int) : Option ((List Int)) :=
 (ref3_Gamma_l2 a0) ((0 : Int), a0)

theorem ref3_Gamma_ok (w : World) (H : PH) (hH : Le H (hp w)) {a0 : Int}   {r : (List Int)} (h : ref3_Gamma a0 = some r) :
  Ok Tryz.prog 57 [.int .i64 a0] w (fun v w' => Ext w w' ∧ ∃ u0, v = u0 ∧ OwnH 3 (.int .i64) H w w' u0 (r)) := by
 refine Ok_enter (n := 21) [(0, .int .i64 a0)] func57 rfl rfl rfl rfl rfl ?_
 have hL := Lcl.start w
 refine W_pz 1 rfl ?_
 refine W_pz 1 rfl ?_
 refine W_cut (σ := Int) (fun s3_10 => [(0, .int .i64 a0), (3, .int .i64 s3_10)]) (fun s3_10 wr => Lcl w [] wr ∧ (ref3_Gamma_k1 a0) s3_10 = some r) ?_ ?_
 ·refine W_pz 2 rfl ?_
  refine W_block ?_
  obtain ⟨n21, h⟩ := Go.L.run_some h
  refine W_loop (σ := Int × Int × Nat) (fun ⟨s3_19, s4_20, n⟩ => [(0, .int .i64 a0), (3, .int .i64 s3_19), (4, .int .i64 s4_20)]) (fun ⟨s3_19, s4_20, n⟩ wr => Lcl w [] wr ∧ Go.L.itr (ref3_Gamma_bl2 a0) n (s3_19, s4_20) = some r) (fun ⟨s3_19, s4_20, n⟩ => n) ((0 : Int), a0, n21) (.cons rfl (.cons rfl (.cons rfl (Sub.nil _)))) ⟨hL, h⟩ ?_
  rintro ⟨s3_19, s4_20, nn21⟩ wr21 ⟨hL21, h⟩
  obtain ⟨n21, e21, rfl, h, hm21⟩ := Go.L.itr_some h
  refine W_seq ?_
  refine W_pz 2 rfl ?_
  refine W_if rfl (fun hc23 => ?_) (fun hc23 => ?_)
  ·replace h := Go.L.ite_p hc23 h
   refine W_skip ?_
   refine At_seq ?_
   refine W_seq ?_
   refine W_block ?_
   refine W_region ?_
   refine S_pu 1 rfl ?_
   obtain ⟨hk25, h⟩ := Go.L.chk_some h
   refine S_v (r_ar64 rfl rfl rfl hk25) rfl ?_
   refine S_pu 1 rfl ?_
   refine S_nil ?_
   refine At_block ?_
   refine At_seq ?_
   refine W_region ?_
   refine S_pu 1 rfl ?_
   obtain ⟨hk26, h⟩ := Go.L.chk_some h
   refine S_v (r_quo rfl rfl hk26) rfl ?_
   refine S_pu 1 rfl ?_
   refine S_nil ?_
   have h := Go.L.Nxt.again h hm21
   refine At_round ((s3_19 + (1 : Int)), (s4_20 / (2 : Int)), n21) (.cons rfl (.cons rfl (.cons rfl (Sub.nil _)))) ⟨hL21, h⟩ (Nat.lt_succ_self _)
  ·replace h := Go.L.ite_n hc23 h
   refine W_exit ?_
   refine At_seq_exit ?_
   refine At_loop_exit ?_
   replace h := Go.L.Nxt.out h hm21
   refine At_exit ?_
   refine At_cut s3_19 (.cons rfl (.cons rfl (Sub.nil _))) ⟨hL21, h⟩
 ·rintro s3_10 wr11 ⟨hL11, h⟩
  refine W_p 1 rfl ?_
  obtain ⟨hk29, h⟩ := Go.L.chk_some h
  refine S_v (r_ar64 rfl rfl rfl hk29) rfl ?_
  obtain ⟨hk31, h⟩ := Go.L.chk_some h
  refine S_makeE (r := (.int .i64)) (z := (0 : Int)) rfl rfl rfl underlying71 zr3 rfl (fun _ => rfl) rfl hH hL11 hk31 ?_
  intro v30 w30 xs30 hL30 hle30 he30
  refine S_pz 1 rfl ?_
  refine W_p 3 rfl ?_
  obtain ⟨x32, hb32, h⟩ := Go.L.bind_some h
  refine S_callL rfl rfl hL30 (ref3_Digits_ok _ _ (gz_le hH hL30) hb32) ?_
  rintro u33_0 w33 ⟨_, rfl, hR33_0⟩ hx33 hL33 hle33
  have hv33_0 := hR33_0.vecG hH hL30 hx33
  replace he30 := he30.mono (gz_mono hH hle33)
  obtain ⟨hk35, h⟩ := Go.L.chk_some h
  refine S_appE (r := (.int .i64)) (l := (List.replicate (s3_10 - (1 : Int)).toNat (0 : Int))) (m := x32) 0 rfl rfl underlying71 zr3 rfl (by decide) rfl hH hL33 rfl he30 hv33_0 hk35 ?_
  intro v34 w34 xs34 hL34 hle34 he34
  replace hv33_0 := hv33_0.mono (gz_mono hH hle34)
  refine S_pz 1 rfl ?_
  refine W_ret ?_
  obtain rfl := Option.some.inj h
  refine At_body rfl rfl ?_
  exact ⟨hL34.ext, _, rfl, (hL34.ownH hH (i := 0) rfl he34)⟩

noncomputable def ref3_Packed_k3 (s4_136 : Int) (l177 : List UInt8) : Option (((List UInt8) × Int) ⊕ (((List UInt8) × Int))) :=
 Go.L.chk (Go.L.I64 (s4_136 + (8 : Int))) (some (Sum.inl (l177, (s4_136 + (8 : Int)))))
noncomputable def ref3_Packed_k4 (l135 : List UInt8) (s4_136 : Int) (s5_211 : Int) : Option (((List UInt8) × Int) ⊕ (((List UInt8) × Int))) :=
 Go.L.chk (Go.E.Cap 1 (l135.length + ([(Go.L.u8 s5_211)]).length)) ((ref3_Packed_k3 s4_136) (l135 ++ [(Go.L.u8 s5_211)]))
noncomputable def ref3_Packed_bl5 (a0 : List Int) (l135 : List UInt8) (s4_136 : Int) : Int × Int → Option ((Int × Int) ⊕ (((List UInt8) × Int) ⊕ (((List UInt8) × Int)))) := fun ⟨s5_228, s6_229⟩ =>
 Go.L.chk (Go.L.I64 (s4_136 + (8 : Int))) (if s6_229 < (s4_136 + (8 : Int)) then Go.L.chk (Go.L.I64 ((2 : Int) * s5_228)) (if s6_229 < (a0.length : Int) then Go.L.chk (0 ≤ s6_229 ∧ s6_229 < (a0.length : Int)) (Go.L.chk (Go.L.I64 (((2 : Int) * s5_228) + a0.getD s6_229.toNat default)) (Go.L.chk (Go.L.I64 (s6_229 + (1 : Int))) (some (Sum.inl ((((2 : Int) * s5_228) + a0.getD s6_229.toNat default), (s6_229 + (1 : Int))))))) else Go.L.chk (Go.L.I64 (s6_229 + (1 : Int))) (some (Sum.inl (((2 : Int) * s5_228), (s6_229 + (1 : Int)))))) else Option.map Sum.inr ((ref3_Packed_k4 l135 s4_136) s5_228))
noncomputable def ref3_Packed_l5 (a0 : List Int) (l135 : List UInt8) (s4_136 : Int) (s : Int × Int) : Option (((List UInt8) × Int) ⊕ (((List UInt8) × Int))) := Go.L.run (ref3_Packed_bl5 a0 l135 s4_136) s
noncomputable def ref3_Packed_k1 (a0 : List Int) (l90 : List UInt8) : Option (((List UInt8) × Int)) :=
 some ((l90, (a0.length : Int)))
noncomputable def ref3_Packed_bl2 (a0 : List Int) : (List UInt8) × Int → Option (((List UInt8) × Int) ⊕ (((List UInt8) × Int))) := fun ⟨l135, s4_136⟩ =>
 if s4_136 < (a0.length : Int) then (ref3_Packed_l5 a0 l135 s4_136) ((0 : Int), s4_136) else Option.map Sum.inr ((ref3_Packed_k1 a0) l135)
noncomputable def ref3_Packed_l2 (a0 : List Int) (s : (List UInt8) × Int) : Option (((List UInt8) × Int)) := Go.L.run (ref3_Packed_bl2 a0) s
noncomputable def ref3_Packed (a0 : List Int) : Option (((List UInt8) × Int)) :=
 (ref3_Packed_l2 a0) (([] : List UInt8), (0 : Int))

theorem ref3_Packed_ok (w : World) (H : PH) (hH : Le H (hp w)) {a0 : List Int} {v0_0 : Value} (h0_0 : Vec (.int .i64) H v0_0 (a0)) {r : ((List UInt8) × Int)} (h : ref3_Packed a0 = some r) :
  Ok Tryz.prog 58 [v0_0] w (fun v w' => Ext w w' ∧ ∃ u0, v = .agg #[u0, .int .i64 r.2] ∧ OwnH 5 .byte H w w' u0 (r.1)) := by
 refine Ok_enter (n := 41) [(0, v0_0)] func58 rfl rfl rfl rfl rfl ?_
 have hL := Lcl.start w
 refine W_seqr ?_
 refine S_alloc zr56 rfl rfl hL ?_
 intro w1 b1 hL1 hle1 _
 refine S_seqnil ?_
 refine W_p 1 rfl ?_
 obtain ⟨hL2, hle2, he2⟩ := row_nilE .byte H 5 hL1
 refine S_seqnil ?_
 refine W_cut (σ := (List UInt8) × Value × (List Value)) (fun ⟨l90, vl90, xsl90⟩ => [(0, v0_0), (2, .pointer (some ⟨b1, 0, none⟩)), (3, vl90)]) (fun ⟨l90, vl90, xsl90⟩ wr => InO w [.row (vl90) 5 1 (l90).length (xsl90), .box b1 [.slice none 0 0, .int .i64 (0 : Int)] 56] wr fun Oz => Elems .byte (gz H w wr Oz) (l90) (xsl90) ∧ (ref3_Packed_k1 a0) l90 = some r) ?_ ?_
 ·refine W_pz 1 rfl ?_
  refine W_block ?_
  obtain ⟨n137, h⟩ := Go.L.run_some h
  refine W_loop (σ := (List UInt8) × Int × Value × (List Value) × Nat) (fun ⟨l135, s4_136, vl135, xsl135, n⟩ => [(0, v0_0), (2, .pointer (some ⟨b1, 0, none⟩)), (3, vl135), (4, .int .i64 s4_136)]) (fun ⟨l135, s4_136, vl135, xsl135, n⟩ wr => InO w [.row (vl135) 5 1 (l135).length (xsl135), .box b1 [.slice none 0 0, .int .i64 (0 : Int)] 56] wr fun Oz => Elems .byte (gz H w wr Oz) (l135) (xsl135) ∧ Go.L.itr (ref3_Packed_bl2 a0) n (l135, s4_136) = some r) (fun ⟨l135, s4_136, vl135, xsl135, n⟩ => n) (([] : List UInt8), (0 : Int), .slice none 0 0, [], n137) (.cons rfl (.cons rfl (.cons rfl (.cons rfl (Sub.nil _))))) ⟨hL2, he2, h⟩ ?_
  rintro ⟨l135, s4_136, vl135, xsl135, nn137⟩ wr137 ⟨hL137, hel135, h⟩
  obtain ⟨n137, e137, rfl, h, hm137⟩ := Go.L.itr_some h
  refine W_seq ?_
  refine W_p 2 rfl ?_
  refine S_v (r_len rfl underlying71 h0_0) rfl ?_
  refine S_pz 1 rfl ?_
  refine W_if rfl (fun hc139 => ?_) (fun hc139 => ?_)
  ·replace h := Go.L.ite_p hc139 h
   refine W_skip ?_
   refine At_seq ?_
   refine W_cut (σ := (List UInt8) × Value × (List Value)) (fun ⟨l177, vl177, xsl177⟩ => [(0, v0_0), (2, .pointer (some ⟨b1, 0, none⟩)), (3, vl177), (4, .int .i64 s4_136)]) (fun ⟨l177, vl177, xsl177⟩ wr => InO w [.row (vl177) 5 1 (l177).length (xsl177), .box b1 [.slice none 0 0, .int .i64 (0 : Int)] 56] wr fun Oz => Elems .byte (gz H w wr Oz) (l177) (xsl177) ∧ (ref3_Packed_k3 s4_136) l177 = some e137) ?_ ?_
   ·refine W_block ?_
    refine W_pz 1 rfl ?_
    refine W_cut (σ := Int) (fun s5_211 => [(0, v0_0), (2, .pointer (some ⟨b1, 0, none⟩)), (3, vl135), (4, .int .i64 s4_136), (5, .int .i64 s5_211)]) (fun s5_211 wr => InO w [.row (vl135) 5 1 (l135).length (xsl135), .box b1 [.slice none 0 0, .int .i64 (0 : Int)] 56] wr fun Oz => Elems .byte (gz H w wr Oz) (l135) (xsl135) ∧ (ref3_Packed_k4 l135 s4_136) s5_211 = some e137) ?_ ?_
    ·refine W_pz 2 rfl ?_
     refine W_block ?_
     obtain ⟨n230, h⟩ := Go.L.run_some h
     refine W_loop (σ := Int × Int × Nat) (fun ⟨s5_228, s6_229, n⟩ => [(0, v0_0), (2, .pointer (some ⟨b1, 0, none⟩)), (3, vl135), (4, .int .i64 s4_136), (5, .int .i64 s5_228), (6, .int .i64 s6_229)]) (fun ⟨s5_228, s6_229, n⟩ wr => InO w [.row (vl135) 5 1 (l135).length (xsl135), .box b1 [.slice none 0 0, .int .i64 (0 : Int)] 56] wr fun Oz => Elems .byte (gz H w wr Oz) (l135) (xsl135) ∧ Go.L.itr (ref3_Packed_bl5 a0 l135 s4_136) n (s5_228, s6_229) = some e137) (fun ⟨s5_228, s6_229, n⟩ => n) ((0 : Int), s4_136, n230) (.cons rfl (.cons rfl (.cons rfl (.cons rfl (.cons rfl (.cons rfl (Sub.nil _))))))) ⟨hL137, hel135, h⟩ ?_
     rintro ⟨s5_228, s6_229, nn230⟩ wr230 ⟨hL230, hel135, h⟩
     obtain ⟨n230, e230, rfl, h, hm230⟩ := Go.L.itr_some h
     refine W_seq ?_
     refine W_p 2 rfl ?_
     obtain ⟨hk232, h⟩ := Go.L.chk_some h
     refine S_v (r_ar64 rfl rfl rfl hk232) rfl ?_
     refine S_pz 1 rfl ?_
     refine W_if rfl (fun hc233 => ?_) (fun hc233 => ?_)
     ·replace h := Go.L.ite_p hc233 h
      refine W_skip ?_
      refine At_seq ?_
      refine W_seq ?_
      refine W_block ?_
      refine W_p 1 rfl ?_
      obtain ⟨hk235, h⟩ := Go.L.chk_some h
      refine S_v (r_ar64 rfl rfl rfl hk235) rfl ?_
      refine S_pz 1 rfl ?_
      refine W_p 2 rfl ?_
      refine S_v (r_len rfl underlying71 h0_0) rfl ?_
      refine S_pz 1 rfl ?_
      refine W_if rfl (fun hc236 => ?_) (fun hc236 => ?_)
      ·replace h := Go.L.ite_p hc236 h
       refine W_region ?_
       refine S_pu 3 rfl ?_
       obtain ⟨hk239, h⟩ := Go.L.chk_some h
       refine S_index rfl rfl underlying71 zr3 h0_0 s6_229.toNat (Int.toNat_of_nonneg hk239.1).symm (idx_lt hk239) rfl ?_
       rintro p238 _ rfl hp238
       refine S_v (r_load1 rfl underlying3 rfl hp238 (hH.trans hL230.arg)) rfl ?_
       obtain ⟨hk240, h⟩ := Go.L.chk_some h
       refine S_v (r_ar64 rfl rfl rfl hk240) rfl ?_
       refine S_pu 1 rfl ?_
       refine S_nil ?_
       refine At_block ?_
       refine At_seq ?_
       refine W_region ?_
       refine S_pu 1 rfl ?_
       obtain ⟨hk241, h⟩ := Go.L.chk_some h
       refine S_v (r_ar64 rfl rfl rfl hk241) rfl ?_
       refine S_pu 1 rfl ?_
       refine S_nil ?_
       have h := Go.L.Nxt.again h hm230
       refine At_round ((((2 : Int) * s5_228) + a0.getD s6_229.toNat default), (s6_229 + (1 : Int)), n230) (.cons rfl (.cons rfl (.cons rfl (.cons rfl (.cons rfl (.cons rfl (Sub.nil _))))))) ⟨hL230, hel135, h⟩ (Nat.lt_succ_self _)
      ·replace h := Go.L.ite_n hc236 h
       refine W_skip ?_
       refine At_block ?_
       refine At_seq ?_
       refine W_region ?_
       refine S_pu 1 rfl ?_
       obtain ⟨hk243, h⟩ := Go.L.chk_some h
       refine S_v (r_ar64 rfl rfl rfl hk243) rfl ?_
       refine S_pu 1 rfl ?_
       refine S_nil ?_
       have h := Go.L.Nxt.again h hm230
       refine At_round (((2 : Int) * s5_228), (s6_229 + (1 : Int)), n230) (.cons rfl (.cons rfl (.cons rfl (.cons rfl (.cons rfl (.cons rfl (Sub.nil _))))))) ⟨hL230, hel135, h⟩ (Nat.lt_succ_self _)
     ·replace h := Go.L.ite_n hc233 h
      refine W_exit ?_
      refine At_seq_exit ?_
      refine At_loop_exit ?_
      replace h := Go.L.Nxt.out h hm230
      refine At_exit ?_
      refine At_cut s5_228 (.cons rfl (.cons rfl (.cons rfl (.cons rfl (.cons rfl (Sub.nil _)))))) ⟨hL230, hel135, h⟩
    ·rintro s5_211 wr212 ⟨hL212, hel135, h⟩
     refine W_region ?_
     refine S_pu 2 rfl ?_
     refine S_v (r_conv underlying3 underlying5 rfl (conv_64_u8 _)) rfl ?_
     refine S_litE (r := .byte) (l := [(Go.L.u8 s5_211)]) rfl (fun _ => bsl22_1 _ _) rfl (show 1 ≤ 9223372036854775807 by decide) hH hL212 (.c1 rfl .nil) ?_
     intro v246 w246 hx246 hL246 hle246 hv246
     replace hel135 := hel135.mono (gz_mono hH hle246)
     obtain ⟨hk248, h⟩ := Go.L.chk_some h
     refine S_appE (r := .byte) (l := l135) (m := [(Go.L.u8 s5_211)]) 0 rfl rfl underlying22 zr5 rfl (by decide) rfl hH hL246 rfl hel135 hv246 hk248 ?_
     intro v247 w247 xs247 hL247 hle247 he247
     replace hv246 := hv246.mono (gz_mono hH hle247)
     refine S_pu 1 rfl ?_
     refine S_nil ?_
     refine At_block ?_
     refine At_cut ((l135 ++ [(Go.L.u8 s5_211)]), v247, xs247) (.cons rfl (.cons rfl (.cons rfl (.cons rfl (Sub.nil _))))) ⟨hL247, he247, h⟩
   ·rintro ⟨l177, vl177, xsl177⟩ wr178 ⟨hL178, hel177, h⟩
    refine W_region ?_
    refine S_pu 1 rfl ?_
    obtain ⟨hk250, h⟩ := Go.L.chk_some h
    refine S_v (r_ar64 rfl rfl rfl hk250) rfl ?_
    refine S_pu 1 rfl ?_
    refine S_nil ?_
    have h := Go.L.Nxt.again h hm137
    refine At_round (l177, (s4_136 + (8 : Int)), vl177, xsl177, n137) (.cons rfl (.cons rfl (.cons rfl (.cons rfl (Sub.nil _))))) ⟨hL178, hel177, h⟩ (Nat.lt_succ_self _)
  ·replace h := Go.L.ite_n hc139 h
   refine W_exit ?_
   refine At_seq_exit ?_
   refine At_loop_exit ?_
   replace h := Go.L.Nxt.out h hm137
   refine At_exit ?_
   refine At_cut (l135, vl135, xsl135) (.cons rfl (.cons rfl (.cons rfl (Sub.nil _)))) ⟨hL137, hel135, h⟩
 ·rintro ⟨l90, vl90, xsl90⟩ wr91 ⟨hL91, hel90, h⟩
  refine W_p 2 rfl ?_
  refine S_v (r_len rfl underlying71 h0_0) rfl ?_
  refine S_v (r_build rfl (fun _ => bld56_0_1 _ (row_one (hL91.at (i := 0) rfl)) _ _)) rfl ?_
  refine S_storeBN 1 rfl rfl rfl zr56 hL91 rfl rfl (onc (row_one (hL91.at (i := 0) rfl)) (onc rfl on0)) ?_
  intro w253 hL253 hle253
  replace hel90 := hel90.mono (gz_mono hH hle253)
  refine S_seqnil ?_
  refine W_ret ?_
  obtain rfl := Option.some.inj h
  refine At_got1 rfl (.cell rfl underlying56 rfl zr56 (box_ptr (i := 1) hL253 rfl)) ?_
  exact ⟨hL253.ext, _, rfl, (hL253.ownH hH (i := 0) rfl hel90)⟩

noncomputable def ref4_entryForm_k3 (l120 : List Int) : Option ((List Int)) :=
 some (l120)
noncomputable def ref4_entryForm_bl4 (a1 : List (Int × Int)) : (List Int) × Int → Option (((List Int) × Int) ⊕ ((List Int))) := fun ⟨l197, s7_198⟩ =>
 if s7_198 < (a1.length : Int) then (if s7_198 = (0 : Int) then Go.L.chk (0 ≤ s7_198 ∧ s7_198 < (a1.length : Int)) (Go.L.chk (Go.L.I64 ((a1.getD s7_198.toNat default).1 + (1 : Int))) (Go.L.chk (0 ≤ s7_198 ∧ s7_198 < (a1.length : Int)) (Go.L.chk (Go.L.I64 ((a1.getD s7_198.toNat default).2 + (1 : Int))) (Go.L.chk (Go.E.Cap 8 (l197.length + ([((a1.getD s7_198.toNat default).1 + (1 : Int)), ((a1.getD s7_198.toNat default).2 + (1 : Int))]).length)) (Go.L.chk (Go.L.I64 (s7_198 + (1 : Int))) (some (Sum.inl ((l197 ++ [((a1.getD s7_198.toNat default).1 + (1 : Int)), ((a1.getD s7_198.toNat default).2 + (1 : Int))]), (s7_198 + (1 : Int)))))))))) else Go.L.chk (0 ≤ s7_198 ∧ s7_198 < (a1.length : Int)) (Go.L.chk (Go.L.I64 (s7_198 - (1 : Int))) (Go.L.chk (0 ≤ (s7_198 - (1 : Int)) ∧ (s7_198 - (1 : Int)) < (a1.length : Int)) (if (a1.getD s7_198.toNat default).1 = (a1.getD ((s7_198 - (1 : Int)).toNat) default).1 then Go.L.chk (0 ≤ s7_198 ∧ s7_198 < (a1.length : Int)) (Go.L.chk (Go.L.I64 (s7_198 - (1 : Int))) (Go.L.chk (0 ≤ (s7_198 - (1 : Int)) ∧ (s7_198 - (1 : Int)) < (a1.length : Int)) (Go.L.chk (Go.L.I64 ((a1.getD s7_198.toNat default).2 - (a1.getD ((s7_198 - (1 : Int)).toNat) default).2)) (Go.L.chk (Go.E.Cap 8 (l197.length + ([(1 : Int), ((a1.getD s7_198.toNat default).2 - (a1.getD ((s7_198 - (1 : Int)).toNat) default).2)]).length)) (Go.L.chk (Go.L.I64 (s7_198 + (1 : Int))) (some (Sum.inl ((l197 ++ [(1 : Int), ((a1.getD s7_198.toNat default).2 - (a1.getD ((s7_198 - (1 : Int)).toNat) default).2)]), (s7_198 + (1 : Int)))))))))) else Go.L.chk (0 ≤ s7_198 ∧ s7_198 < (a1.length : Int)) (Go.L.chk (Go.L.I64 (s7_198 - (1 : Int))) (Go.L.chk (0 ≤ (s7_198 - (1 : Int)) ∧ (s7_198 - (1 : Int)) < (a1.length : Int)) (Go.L.chk (Go.L.I64 ((a1.getD s7_198.toNat default).1 - (a1.getD ((s7_198 - (1 : Int)).toNat) default).1)) (Go.L.chk (Go.L.I64 (((a1.getD s7_198.toNat default).1 - (a1.getD ((s7_198 - (1 : Int)).toNat) default).1) + (1 : Int))) (Go.L.chk (0 ≤ s7_198 ∧ s7_198 < (a1.length : Int)) (Go.L.chk (Go.L.I64 ((a1.getD s7_198.toNat default).2 + (1 : Int))) (Go.L.chk (Go.E.Cap 8 (l197.length + ([(((a1.getD s7_198.toNat default).1 - (a1.getD ((s7_198 - (1 : Int)).toNat) default).1) + (1 : Int)), ((a1.getD s7_198.toNat default).2 + (1 : Int))]).length)) (Go.L.chk (Go.L.I64 (s7_198 + (1 : Int))) (some (Sum.inl ((l197 ++ [(((a1.getD s7_198.toNat default).1 - (a1.getD ((s7_198 - (1 : Int)).toNat) default).1) + (1 : Int)), ((a1.getD s7_198.toNat default).2 + (1 : Int))]), (s7_198 + (1 : Int))))))))))))))))) else Option.map Sum.inr (ref4_entryForm_k3 l197)
noncomputable def ref4_entryForm_l4 (a1 : List (Int × Int)) (s : (List Int) × Int) : Option ((List Int)) := Go.L.run (ref4_entryForm_bl4 a1) s
noncomputable def ref4_entryForm_k1 (a1 : List (Int × Int)) (l14 : List Int) : Option ((List Int)) :=
 Go.L.chk (Go.E.Cap 8 (l14.length + ([(a1.length : Int)]).length)) ((ref4_entryForm_l4 a1) ((l14 ++ [(a1.length : Int)]), (0 : Int)))
noncomputable def ref4_entryForm_bl2 (a0 : List UInt8) (a1 : List (Int × Int)) : (List Int) × Int → Option (((List Int) × Int) ⊕ ((List Int))) := fun ⟨l27, s6_28⟩ =>
 if s6_28 < (a0.length : Int) then Go.L.chk (0 ≤ s6_28 ∧ s6_28 < (a0.length : Int)) (Go.L.chk (Go.L.I64 (((a0.getD s6_28.toNat default).toNat : Int) + (1 : Int))) (Go.L.chk (Go.E.Cap 8 (l27.length + ([(((a0.getD s6_28.toNat default).toNat : Int) + (1 : Int))]).length)) (Go.L.chk (Go.L.I64 (s6_28 + (1 : Int))) (some (Sum.inl ((l27 ++ [(((a0.getD s6_28.toNat default).toNat : Int) + (1 : Int))]), (s6_28 + (1 : Int)))))))) else Option.map Sum.inr ((ref4_entryForm_k1 a1) l27)
noncomputable def ref4_entryForm_l2 (a0 : List UInt8) (a1 : List (Int × Int)) (s : (List Int) × Int) : Option ((List Int)) := Go.L.run (ref4_entryForm_bl2 a0 a1) s
noncomputable def ref4_entryForm (a0 : List UInt8) (a1 : List (Int × Int)) : Option ((List Int)) :=
 (ref4_entryForm_l2 a0 a1) ([(a0.length : Int)], (0 : Int))

theorem ref4_entryForm_ok (w : World) (H : PH) (hH : Le H (hp w)) {a0 : List UInt8} {a1 : List (Int × Int)} {v1_0 : Value} (h1_0 : Vec (.pair (.int .i64) (.int .i64)) H v1_0 (a1)) {r : (List Int)} (h : ref4_entryForm a0 a1 = some r) :
  Ok Tryz.prog 33 [.string ⟨(a0).toArray⟩, v1_0] w (fun v w' => Ext w w' ∧ ∃ u0, v = u0 ∧ OwnH 3 (.int .i64) H w w' u0 (r)) := by
 refine Ok_enter (n := 103) [(0, .string ⟨(a0).toArray⟩), (1, v1_0)] func33 rfl rfl rfl rfl rfl ?_
 have hL := Lcl.start w
 refine W_pz 1 rfl ?_
 refine W_p 1 rfl ?_
 refine S_v (r_lenS rfl underlying9) rfl ?_
 refine S_litO (r := (.int .i64)) (l := [(a0.length : Int)]) rfl (fun _ => bsl71_1 _ _) rfl (show 1 ≤ 9223372036854775807 by decide) hH hL (.c1 rfl .nil) ?_
 intro v1 w1 xs1 hL1 hle1 he1
 refine S_pz 1 rfl ?_
 refine W_cut (σ := (List Int) × Value × (List Value)) (fun ⟨l14, vl14, xsl14⟩ => [(1, v1_0), (5, vl14)]) (fun ⟨l14, vl14, xsl14⟩ wr => InO w [.row (vl14) 3 1 (l14).length (xsl14)] wr fun Oz => Elems (.int .i64) (gz H w wr Oz) (l14) (xsl14) ∧ (ref4_entryForm_k1 a1) l14 = some r) ?_ ?_
 ·refine W_pz 1 rfl ?_
  refine W_block ?_
  obtain ⟨n29, h⟩ := Go.L.run_some h
  refine W_loop (σ := (List Int) × Int × Value × (List Value) × Nat) (fun ⟨l27, s6_28, vl27, xsl27, n⟩ => [(0, .string ⟨(a0).toArray⟩), (1, v1_0), (5, vl27), (6, .int .i64 s6_28)]) (fun ⟨l27, s6_28, vl27, xsl27, n⟩ wr => InO w [.row (vl27) 3 1 (l27).length (xsl27)] wr fun Oz => Elems (.int .i64) (gz H w wr Oz) (l27) (xsl27) ∧ Go.L.itr (ref4_entryForm_bl2 a0 a1) n (l27, s6_28) = some r) (fun ⟨l27, s6_28, vl27, xsl27, n⟩ => n) ([(a0.length : Int)], (0 : Int), v1, xs1, n29) (.cons rfl (.cons rfl (.cons rfl (.cons rfl (Sub.nil _))))) ⟨hL1, he1, h⟩ ?_
  rintro ⟨l27, s6_28, vl27, xsl27, nn29⟩ wr29 ⟨hL29, hel27, h⟩
  obtain ⟨n29, e29, rfl, h, hm29⟩ := Go.L.itr_some h
  refine W_seq ?_
  refine W_p 2 rfl ?_
  refine S_v (r_lenS rfl underlying9) rfl ?_
  refine S_pz 1 rfl ?_
  refine W_if rfl (fun hc31 => ?_) (fun hc31 => ?_)
  ·replace h := Go.L.ite_p hc31 h
   refine W_skip ?_
   refine At_seq ?_
   refine W_seq ?_
   refine W_block ?_
   refine W_region ?_
   refine S_pu 3 rfl ?_
   obtain ⟨hk33, h⟩ := Go.L.chk_some h
   refine S_v (r_sidx rfl rfl underlying9 hk33) rfl ?_
   refine S_v (r_conv underlying5 underlying3 rfl (conv_8_64 _)) rfl ?_
   obtain ⟨hk34, h⟩ := Go.L.chk_some h
   refine S_v (r_ar64 rfl rfl rfl hk34) rfl ?_
   refine S_litE (r := (.int .i64)) (l := [(((a0.getD s6_28.toNat default).toNat : Int) + (1 : Int))]) rfl (fun _ => bsl71_1 _ _) rfl (show 1 ≤ 9223372036854775807 by decide) hH hL29 (.c1 rfl .nil) ?_
   intro v35 w35 hx35 hL35 hle35 hv35
   replace hel27 := hel27.mono (gz_mono hH hle35)
   obtain ⟨hk37, h⟩ := Go.L.chk_some h
   refine S_appE (r := (.int .i64)) (l := l27) (m := [(((a0.getD s6_28.toNat default).toNat : Int) + (1 : Int))]) 0 rfl rfl underlying71 zr3 rfl (by decide) rfl hH hL35 rfl hel27 hv35 hk37 ?_
   intro v36 w36 xs36 hL36 hle36 he36
   replace hv35 := hv35.mono (gz_mono hH hle36)
   refine S_pu 1 rfl ?_
   refine S_nil ?_
   refine At_block ?_
   refine At_seq ?_
   refine W_region ?_
   refine S_pu 1 rfl ?_
   obtain ⟨hk38, h⟩ := Go.L.chk_some h
   refine S_v (r_ar64 rfl rfl rfl hk38) rfl ?_
   refine S_pu 1 rfl ?_
   refine S_nil ?_
   have h := Go.L.Nxt.again h hm29
   refine At_round ((l27 ++ [(((a0.getD s6_28.toNat default).toNat : Int) + (1 : Int))]), (s6_28 + (1 : Int)), v36, xs36, n29) (.cons rfl (.cons rfl (.cons rfl (.cons rfl (Sub.nil _))))) ⟨hL36, he36, h⟩ (Nat.lt_succ_self _)
  ·replace h := Go.L.ite_n hc31 h
   refine W_exit ?_
   refine At_seq_exit ?_
   refine At_loop_exit ?_
   replace h := Go.L.Nxt.out h hm29
   refine At_exit ?_
   refine At_cut (l27, vl27, xsl27) (.cons rfl (.cons rfl (Sub.nil _))) ⟨hL29, hel27, h⟩
 ·rintro ⟨l14, vl14, xsl14⟩ wr15 ⟨hL15, hel14, h⟩
  refine W_p 2 rfl ?_
  refine S_v (r_len rfl underlying40 h1_0) rfl ?_
  refine S_litE (r := (.int .i64)) (l := [(a1.length : Int)]) rfl (fun _ => bsl71_1 _ _) rfl (show 1 ≤ 9223372036854775807 by decide) hH hL15 (.c1 rfl .nil) ?_
  intro v41 w41 hx41 hL41 hle41 hv41
  replace hel14 := hel14.mono (gz_mono hH hle41)
  obtain ⟨hk43, h⟩ := Go.L.chk_some h
  refine S_appE (r := (.int .i64)) (l := l14) (m := [(a1.length : Int)]) 0 rfl rfl underlying71 zr3 rfl (by decide) rfl hH hL41 rfl hel14 hv41 hk43 ?_
  intro v42 w42 xs42 hL42 hle42 he42
  replace hv41 := hv41.mono (gz_mono hH hle42)
  refine S_pz 1 rfl ?_
  refine W_cut (σ := (List Int) × Value × (List Value)) (fun ⟨l120, vl120, xsl120⟩ => [(5, vl120)]) (fun ⟨l120, vl120, xsl120⟩ wr => InO w [.row (vl120) 3 1 (l120).length (xsl120)] wr fun Oz => Elems (.int .i64) (gz H w wr Oz) (l120) (xsl120) ∧ ref4_entryForm_k3 l120 = some r) ?_ ?_
  ·refine W_pz 1 rfl ?_
   refine W_block ?_
   obtain ⟨n199, h⟩ := Go.L.run_some h
   refine W_loop (σ := (List Int) × Int × Value × (List Value) × Nat) (fun ⟨l197, s7_198, vl197, xsl197, n⟩ => [(1, v1_0), (5, vl197), (7, .int .i64 s7_198)]) (fun ⟨l197, s7_198, vl197, xsl197, n⟩ wr => InO w [.row (vl197) 3 1 (l197).length (xsl197)] wr fun Oz => Elems (.int .i64) (gz H w wr Oz) (l197) (xsl197) ∧ Go.L.itr (ref4_entryForm_bl4 a1) n (l197, s7_198) = some r) (fun ⟨l197, s7_198, vl197, xsl197, n⟩ => n) ((l14 ++ [(a1.length : Int)]), (0 : Int), v42, xs42, n199) (.cons rfl (.cons rfl (.cons rfl (Sub.nil _)))) ⟨hL42, he42, h⟩ ?_
   rintro ⟨l197, s7_198, vl197, xsl197, nn199⟩ wr199 ⟨hL199, hel197, h⟩
   obtain ⟨n199, e199, rfl, h, hm199⟩ := Go.L.itr_some h
   refine W_seq ?_
   refine W_p 2 rfl ?_
   refine S_v (r_len rfl underlying40 h1_0) rfl ?_
   refine S_pz 1 rfl ?_
   refine W_if rfl (fun hc201 => ?_) (fun hc201 => ?_)
   ·replace h := Go.L.ite_p hc201 h
    refine W_skip ?_
    refine At_seq ?_
    refine W_seq ?_
    refine W_block ?_
    refine W_pz 2 rfl ?_
    refine W_if rfl (fun hc203 => ?_) (fun hc203 => ?_)
    ·replace h := Go.L.ite_p hc203 h
     refine W_regd (.q 0 (.q 1 (.q 2 (.q 3 (.q 4 (.q 5 (.q 6 (.q 7 (.q 8 (.q 9 (.q 10 (.q 11 (.q 12 (.h 13 (.tail 14))))))))))))))) mixed (by kernel_rfl) (fun w205 hx205 => ?_)
     have hL206 := hL199.call hx205
     have hle206 := fz_ext hL199 hx205
     replace hel197 := hel197.mono (gz_mono hH hle206)
     refine D_pu 3 rfl ?_
     obtain ⟨hk208, h⟩ := Go.L.chk_some h
     refine D_index rfl rfl rfl underlying40 zr64 h1_0 s7_198.toNat (Int.toNat_of_nonneg hk208.1).symm (idx_lt hk208) rfl ?_
     rintro p207 _ ⟨_, _, rfl, rfl, rfl⟩ hp207
     refine D_v (r_field rfl underlying64 rfl zr3 (by decide)) rfl rfl ?_
     have hp209 := hp207.add 0
     refine D_v (r_load1 rfl underlying3 rfl hp209 (hH.trans hL206.arg)) rfl rfl ?_
     obtain ⟨hk210, h⟩ := Go.L.chk_some h
     refine D_v (r_ar64 rfl rfl rfl hk210) rfl rfl ?_
     refine D_pu 2 rfl ?_
     obtain ⟨hk212, h⟩ := Go.L.chk_some h
     refine D_index rfl rfl rfl underlying40 zr64 h1_0 s7_198.toNat (Int.toNat_of_nonneg hk212.1).symm (idx_lt hk212) rfl ?_
     rintro p211 _ ⟨_, _, rfl, rfl, rfl⟩ hp211
     refine D_v (r_field rfl underlying64 rfl zr3 (by decide)) rfl rfl ?_
     have hp213 := hp211.add 1
     refine D_v (r_load1 rfl underlying3 rfl hp213 (hH.trans hL206.arg)) rfl rfl ?_
     obtain ⟨hk214, h⟩ := Go.L.chk_some h
     refine D_v (r_ar64 rfl rfl rfl hk214) rfl rfl ?_
     refine D_litE (r := (.int .i64)) (l := [((a1.getD s7_198.toNat default).1 + (1 : Int)), ((a1.getD s7_198.toNat default).2 + (1 : Int))]) rfl rfl (fun _ => bsl71_2 _ _ _) rfl (show 2 ≤ 9223372036854775807 by decide) hH hL206 (.c1 rfl (.c1 rfl .nil)) ?_
     intro v215 w215 hx215 hL215 hle215 hv215
     replace hel197 := hel197.mono (gz_mono hH hle215)
     refine D_tail (fun w216 hx216 => ?_)
     have hL217 := hL215.call hx216
     have hle217 := fz_ext hL215 hx216
     replace hel197 := hel197.mono (gz_mono hH hle217)
     replace hv215 := hv215.mono (gz_mono hH hle217)
     obtain ⟨hk219, h⟩ := Go.L.chk_some h
     refine S_appE (r := (.int .i64)) (l := l197) (m := [((a1.getD s7_198.toNat default).1 + (1 : Int)), ((a1.getD s7_198.toNat default).2 + (1 : Int))]) 0 rfl rfl underlying71 zr3 rfl (by decide) rfl hH hL217 rfl hel197 hv215 hk219 ?_
     intro v218 w218 xs218 hL218 hle218 he218
     replace hv215 := hv215.mono (gz_mono hH hle218)
     refine S_pu 1 rfl ?_
     refine S_nil ?_
     refine At_block ?_
     refine At_seq ?_
     refine W_region ?_
     refine S_pu 1 rfl ?_
     obtain ⟨hk220, h⟩ := Go.L.chk_some h
     refine S_v (r_ar64 rfl rfl rfl hk220) rfl ?_
     refine S_pu 1 rfl ?_
     refine S_nil ?_
     have h := Go.L.Nxt.again h hm199
     refine At_round ((l197 ++ [((a1.getD s7_198.toNat default).1 + (1 : Int)), ((a1.getD s7_198.toNat default).2 + (1 : Int))]), (s7_198 + (1 : Int)), v218, xs218, n199) (.cons rfl (.cons rfl (.cons rfl (Sub.nil _)))) ⟨hL218, he218, h⟩ (Nat.lt_succ_self _)
    ·replace h := Go.L.ite_n hc203 h
     refine W_seqd (.q 0 (.q 1 (.q 2 (.q 3 (.q 4 (.q 5 (.q 6 (.q 7 (.q 8 (.q 9 (.q 10 (.q 11 (.tail 12))))))))))))) mixed (by kernel_rfl) (fun w222 hx222 => ?_)
     have hL223 := hL199.call hx222
     have hle223 := fz_ext hL199 hx222
     replace hel197 := hel197.mono (gz_mono hH hle223)
     refine D_pu 2 rfl ?_
     obtain ⟨hk225, h⟩ := Go.L.chk_some h
     refine D_index rfl rfl rfl underlying40 zr64 h1_0 s7_198.toNat (Int.toNat_of_nonneg hk225.1).symm (idx_lt hk225) rfl ?_
     rintro p224 _ ⟨_, _, rfl, rfl, rfl⟩ hp224
     refine D_v (r_field rfl underlying64 rfl zr3 (by decide)) rfl rfl ?_
     have hp226 := hp224.add 0
     refine D_v (r_load1 rfl underlying3 rfl hp226 (hH.trans hL223.arg)) rfl rfl ?_
     refine D_pu 2 rfl ?_
     obtain ⟨hk227, h⟩ := Go.L.chk_some h
     refine D_v (r_ar64 rfl rfl rfl hk227) rfl rfl ?_
     obtain ⟨hk229, h⟩ := Go.L.chk_some h
     refine D_index rfl rfl rfl underlying40 zr64 h1_0 ((s7_198 - (1 : Int)).toNat) (Int.toNat_of_nonneg hk229.1).symm (idx_lt hk229) rfl ?_
     rintro p228 _ ⟨_, _, rfl, rfl, rfl⟩ hp228
     refine D_v (r_field rfl underlying64 rfl zr3 (by decide)) rfl rfl ?_
     have hp230 := hp228.add 0
     refine D_v (r_load1 rfl underlying3 rfl hp230 (hH.trans hL223.arg)) rfl rfl ?_
     refine D_pu 1 rfl ?_
     refine D_tail (fun w231 hx231 => ?_)
     have hL232 := hL223.call hx231
     have hle232 := fz_ext hL223 hx231
     replace hel197 := hel197.mono (gz_mono hH hle232)
     refine S_seqnil ?_
     refine W_if rfl (fun hc233 => ?_) (fun hc233 => ?_)
     ·replace h := Go.L.ite_p hc233 h
      refine W_regd (.q 0 (.q 1 (.q 2 (.q 3 (.q 4 (.q 5 (.q 6 (.q 7 (.q 8 (.q 9 (.q 10 (.q 11 (.q 12 (.h 13 (.tail 14))))))))))))))) mixed (by kernel_rfl) (fun w235 hx235 => ?_)
      have hL236 := hL232.call hx235
      have hle236 := fz_ext hL232 hx235
      replace hel197 := hel197.mono (gz_mono hH hle236)
      refine D_pu 3 rfl ?_
      obtain ⟨hk238, h⟩ := Go.L.chk_some h
      refine D_index rfl rfl rfl underlying40 zr64 h1_0 s7_198.toNat (Int.toNat_of_nonneg hk238.1).symm (idx_lt hk238) rfl ?_
      rintro p237 _ ⟨_, _, rfl, rfl, rfl⟩ hp237
      refine D_v (r_field rfl underlying64 rfl zr3 (by decide)) rfl rfl ?_
      have hp239 := hp237.add 1
      refine D_v (r_load1 rfl underlying3 rfl hp239 (hH.trans hL236.arg)) rfl rfl ?_
      refine D_pu 2 rfl ?_
      obtain ⟨hk240, h⟩ := Go.L.chk_some h
      refine D_v (r_ar64 rfl rfl rfl hk240) rfl rfl ?_
      obtain ⟨hk242, h⟩ := Go.L.chk_some h
      refine D_index rfl rfl rfl underlying40 zr64 h1_0 ((s7_198 - (1 : Int)).toNat) (Int.toNat_of_nonneg hk242.1).symm (idx_lt hk242) rfl ?_
      rintro p241 _ ⟨_, _, rfl, rfl, rfl⟩ hp241
      refine D_v (r_field rfl underlying64 rfl zr3 (by decide)) rfl rfl ?_
      have hp243 := hp241.add 1
      refine D_v (r_load1 rfl underlying3 rfl hp243 (hH.trans hL236.arg)) rfl rfl ?_
      obtain ⟨hk244, h⟩ := Go.L.chk_some h
      refine D_v (r_ar64 rfl rfl rfl hk244) rfl rfl ?_
      refine D_litE (r := (.int .i64)) (l := [(1 : Int), ((a1.getD s7_198.toNat default).2 - (a1.getD ((s7_198 - (1 : Int)).toNat) default).2)]) rfl rfl (fun _ => bsl71_2 _ _ _) rfl (show 2 ≤ 9223372036854775807 by decide) hH hL236 (.c1 rfl (.c1 rfl .nil)) ?_
      intro v245 w245 hx245 hL245 hle245 hv245
      replace hel197 := hel197.mono (gz_mono hH hle245)
      refine D_tail (fun w246 hx246 => ?_)
      have hL247 := hL245.call hx246
      have hle247 := fz_ext hL245 hx246
      replace hel197 := hel197.mono (gz_mono hH hle247)
      replace hv245 := hv245.mono (gz_mono hH hle247)
      obtain ⟨hk249, h⟩ := Go.L.chk_some h
      refine S_appE (r := (.int .i64)) (l := l197) (m := [(1 : Int), ((a1.getD s7_198.toNat default).2 - (a1.getD ((s7_198 - (1 : Int)).toNat) default).2)]) 0 rfl rfl underlying71 zr3 rfl (by decide) rfl hH hL247 rfl hel197 hv245 hk249 ?_
      intro v248 w248 xs248 hL248 hle248 he248
      replace hv245 := hv245.mono (gz_mono hH hle248)
      refine S_pu 1 rfl ?_
      refine S_nil ?_
      refine At_block ?_
      refine At_seq ?_
      refine W_region ?_
      refine S_pu 1 rfl ?_
      obtain ⟨hk250, h⟩ := Go.L.chk_some h
      refine S_v (r_ar64 rfl rfl rfl hk250) rfl ?_
      refine S_pu 1 rfl ?_
      refine S_nil ?_
      have h := Go.L.Nxt.again h hm199
      refine At_round ((l197 ++ [(1 : Int), ((a1.getD s7_198.toNat default).2 - (a1.getD ((s7_198 - (1 : Int)).toNat) default).2)]), (s7_198 + (1 : Int)), v248, xs248, n199) (.cons rfl (.cons rfl (.cons rfl (Sub.nil _)))) ⟨hL248, he248, h⟩ (Nat.lt_succ_self _)
     ·replace h := Go.L.ite_n hc233 h
      refine W_regd (.q 0 (.q 1 (.q 2 (.q 3 (.q 4 (.q 5 (.q 6 (.q 7 (.q 8 (.q 9 (.q 10 (.q 11 (.q 12 (.q 13 (.q 14 (.q 15 (.q 16 (.q 17 (.q 18 (.q 19 (.h 20 (.tail 21)))))))))))))))))))))) mixed (by kernel_rfl) (fun w252 hx252 => ?_)
      have hL253 := hL232.call hx252
      have hle253 := fz_ext hL232 hx252
      replace hel197 := hel197.mono (gz_mono hH hle253)
      refine D_pu 3 rfl ?_
      obtain ⟨hk255, h⟩ := Go.L.chk_some h
      refine D_index rfl rfl rfl underlying40 zr64 h1_0 s7_198.toNat (Int.toNat_of_nonneg hk255.1).symm (idx_lt hk255) rfl ?_
      rintro p254 _ ⟨_, _, rfl, rfl, rfl⟩ hp254
      refine D_v (r_field rfl underlying64 rfl zr3 (by decide)) rfl rfl ?_
      have hp256 := hp254.add 0
      refine D_v (r_load1 rfl underlying3 rfl hp256 (hH.trans hL253.arg)) rfl rfl ?_
      refine D_pu 2 rfl ?_
      obtain ⟨hk257, h⟩ := Go.L.chk_some h
      refine D_v (r_ar64 rfl rfl rfl hk257) rfl rfl ?_
      obtain ⟨hk259, h⟩ := Go.L.chk_some h
      refine D_index rfl rfl rfl underlying40 zr64 h1_0 ((s7_198 - (1 : Int)).toNat) (Int.toNat_of_nonneg hk259.1).symm (idx_lt hk259) rfl ?_
      rintro p258 _ ⟨_, _, rfl, rfl, rfl⟩ hp258
      refine D_v (r_field rfl underlying64 rfl zr3 (by decide)) rfl rfl ?_
      have hp260 := hp258.add 0
      refine D_v (r_load1 rfl underlying3 rfl hp260 (hH.trans hL253.arg)) rfl rfl ?_
      obtain ⟨hk261, h⟩ := Go.L.chk_some h
      refine D_v (r_ar64 rfl rfl rfl hk261) rfl rfl ?_
      obtain ⟨hk262, h⟩ := Go.L.chk_some h
      refine D_v (r_ar64 rfl rfl rfl hk262) rfl rfl ?_
      refine D_pu 2 rfl ?_
      obtain ⟨hk264, h⟩ := Go.L.chk_some h
      refine D_index rfl rfl rfl underlying40 zr64 h1_0 s7_198.toNat (Int.toNat_of_nonneg hk264.1).symm (idx_lt hk264) rfl ?_
      rintro p263 _ ⟨_, _, rfl, rfl, rfl⟩ hp263
      refine D_v (r_field rfl underlying64 rfl zr3 (by decide)) rfl rfl ?_
      have hp265 := hp263.add 1
      refine D_v (r_load1 rfl underlying3 rfl hp265 (hH.trans hL253.arg)) rfl rfl ?_
      obtain ⟨hk266, h⟩ := Go.L.chk_some h
      refine D_v (r_ar64 rfl rfl rfl hk266) rfl rfl ?_
      refine D_litE (r := (.int .i64)) (l := [(((a1.getD s7_198.toNat default).1 - (a1.getD ((s7_198 - (1 : Int)).toNat) default).1) + (1 : Int)), ((a1.getD s7_198.toNat default).2 + (1 : Int))]) rfl rfl (fun _ => bsl71_2 _ _ _) rfl (show 2 ≤ 9223372036854775807 by decide) hH hL253 (.c1 rfl (.c1 rfl .nil)) ?_
      intro v267 w267 hx267 hL267 hle267 hv267
      replace hel197 := hel197.mono (gz_mono hH hle267)
      refine D_tail (fun w268 hx268 => ?_)
      have hL269 := hL267.call hx268
      have hle269 := fz_ext hL267 hx268
      replace hel197 := hel197.mono (gz_mono hH hle269)
      replace hv267 := hv267.mono (gz_mono hH hle269)
      obtain ⟨hk271, h⟩ := Go.L.chk_some h
      refine S_appE (r := (.int .i64)) (l := l197) (m := [(((a1.getD s7_198.toNat default).1 - (a1.getD ((s7_198 - (1 : Int)).toNat) default).1) + (1 : Int)), ((a1.getD s7_198.toNat default).2 + (1 : Int))]) 0 rfl rfl underlying71 zr3 rfl (by decide) rfl hH hL269 rfl hel197 hv267 hk271 ?_
      intro v270 w270 xs270 hL270 hle270 he270
      replace hv267 := hv267.mono (gz_mono hH hle270)
      refine S_pu 1 rfl ?_
      refine S_nil ?_
      refine At_block ?_
      refine At_seq ?_
      refine W_region ?_
      refine S_pu 1 rfl ?_
      obtain ⟨hk272, h⟩ := Go.L.chk_some h
      refine S_v (r_ar64 rfl rfl rfl hk272) rfl ?_
      refine S_pu 1 rfl ?_
      refine S_nil ?_
      have h := Go.L.Nxt.again h hm199
      refine At_round ((l197 ++ [(((a1.getD s7_198.toNat default).1 - (a1.getD ((s7_198 - (1 : Int)).toNat) default).1) + (1 : Int)), ((a1.getD s7_198.toNat default).2 + (1 : Int))]), (s7_198 + (1 : Int)), v270, xs270, n199) (.cons rfl (.cons rfl (.cons rfl (Sub.nil _)))) ⟨hL270, he270, h⟩ (Nat.lt_succ_self _)
   ·replace h := Go.L.ite_n hc201 h
    refine W_exit ?_
    refine At_seq_exit ?_
    refine At_loop_exit ?_
    replace h := Go.L.Nxt.out h hm199
    refine At_exit ?_
    refine At_cut (l197, vl197, xsl197) (.cons rfl (Sub.nil _)) ⟨hL199, hel197, h⟩
  ·rintro ⟨l120, vl120, xsl120⟩ wr121 ⟨hL121, hel120, h⟩
   refine W_pz 2 rfl ?_
   refine W_ret ?_
   obtain rfl := Option.some.inj h
   refine At_body rfl rfl ?_
   exact ⟨hL121.ext, _, rfl, (hL121.ownH hH (i := 0) rfl hel120)⟩

noncomputable def ref4_gammas_k1 (l15 : List Int) : Option ((List UInt8)) :=
 Option.bind (ref3_Packed l15) (fun x44 => some (x44.1))
noncomputable def ref4_gammas_bl2 (a0 : List Int) : (List Int) × Int → Option (((List Int) × Int) ⊕ ((List UInt8))) := fun ⟨l29, s4_30⟩ =>
 if s4_30 < (a0.length : Int) then Go.L.chk (0 ≤ s4_30 ∧ s4_30 < (a0.length : Int)) (Option.bind (ref3_Gamma (a0.getD s4_30.toNat default)) (fun x37 => Go.L.chk (Go.E.Cap 8 (l29.length + x37.length)) (Go.L.chk (Go.L.I64 (s4_30 + (1 : Int))) (some (Sum.inl ((l29 ++ x37), (s4_30 + (1 : Int)))))))) else Option.map Sum.inr (ref4_gammas_k1 l29)
noncomputable def ref4_gammas_l2 (a0 : List Int) (s : (List Int) × Int) : Option ((List UInt8)) := Go.L.run (ref4_gammas_bl2 a0) s
noncomputable def ref4_gammas (a0 : List Int) : Option ((List UInt8)) :=
 (ref4_gammas_l2 a0) (([] : List Int), (0 : Int))

theorem ref4_gammas_ok (w : World) (H : PH) (hH : Le H (hp w)) {a0 : List Int} {v0_0 : Value} (h0_0 : Vec (.int .i64) H v0_0 (a0)) {r : (List UInt8)} (h : ref4_gammas a0 = some r) :
  Ok Tryz.prog 34 [v0_0] w (fun v w' => Ext w w' ∧ ∃ u0, v = u0 ∧ Vec .byte (un H (nw w w')) u0 (r)) := by
 refine Ok_enter (n := 21) [(0, v0_0)] func34 rfl rfl rfl rfl rfl ?_
 have hL := Lcl.start w
 refine W_pz 1 rfl ?_
 refine W_p 1 rfl ?_
 obtain ⟨hL1, hle1, he1⟩ := row_nilE (.int .i64) H 3 hL
 refine S_seqnil ?_
 refine W_cut (σ := (List Int) × Value × (List Value)) (fun ⟨l15, vl15, xsl15⟩ => [(3, vl15)]) (fun ⟨l15, vl15, xsl15⟩ wr => InO w [.row (vl15) 3 1 (l15).length (xsl15)] wr fun Oz => Elems (.int .i64) (gz H w wr Oz) (l15) (xsl15) ∧ ref4_gammas_k1 l15 = some r) ?_ ?_
 ·refine W_pz 1 rfl ?_
  refine W_block ?_
  obtain ⟨n31, h⟩ := Go.L.run_some h
  refine W_loop (σ := (List Int) × Int × Value × (List Value) × Nat) (fun ⟨l29, s4_30, vl29, xsl29, n⟩ => [(0, v0_0), (3, vl29), (4, .int .i64 s4_30)]) (fun ⟨l29, s4_30, vl29, xsl29, n⟩ wr => InO w [.row (vl29) 3 1 (l29).length (xsl29)] wr fun Oz => Elems (.int .i64) (gz H w wr Oz) (l29) (xsl29) ∧ Go.L.itr (ref4_gammas_bl2 a0) n (l29, s4_30) = some r) (fun ⟨l29, s4_30, vl29, xsl29, n⟩ => n) (([] : List Int), (0 : Int), .slice none 0 0, [], n31) (.cons rfl (.cons rfl (.cons rfl (Sub.nil _)))) ⟨hL1, he1, h⟩ ?_
  rintro ⟨l29, s4_30, vl29, xsl29, nn31⟩ wr31 ⟨hL31, hel29, h⟩
  obtain ⟨n31, e31, rfl, h, hm31⟩ := Go.L.itr_some h
  refine W_seq ?_
  refine W_p 2 rfl ?_
  refine S_v (r_len rfl underlying71 h0_0) rfl ?_
  refine S_pz 1 rfl ?_
  refine W_if rfl (fun hc33 => ?_) (fun hc33 => ?_)
  ·replace h := Go.L.ite_p hc33 h
   refine W_skip ?_
   refine At_seq ?_
   refine W_seq ?_
   refine W_block ?_
   refine W_region ?_
   refine S_pu 3 rfl ?_
   obtain ⟨hk36, h⟩ := Go.L.chk_some h
   refine S_index rfl rfl underlying71 zr3 h0_0 s4_30.toNat (Int.toNat_of_nonneg hk36.1).symm (idx_lt hk36) rfl ?_
   rintro p35 _ rfl hp35
   refine S_v (r_load1 rfl underlying3 rfl hp35 (hH.trans hL31.arg)) rfl ?_
   obtain ⟨x37, hb37, h⟩ := Go.L.bind_some h
   refine S_callL rfl rfl hL31 (ref3_Gamma_ok _ _ (gz_le hH hL31) hb37) ?_
   rintro u38_0 w38 ⟨_, rfl, hR38_0⟩ hx38 hL38 hle38
   have hv38_0 := hR38_0.vecG hH hL31 hx38
   replace hel29 := hel29.mono (gz_mono hH hle38)
   obtain ⟨hk40, h⟩ := Go.L.chk_some h
   refine S_appE (r := (.int .i64)) (l := l29) (m := x37) 0 rfl rfl underlying71 zr3 rfl (by decide) rfl hH hL38 rfl hel29 hv38_0 hk40 ?_
   intro v39 w39 xs39 hL39 hle39 he39
   replace hv38_0 := hv38_0.mono (gz_mono hH hle39)
   refine S_pu 1 rfl ?_
   refine S_nil ?_
   refine At_block ?_
   refine At_seq ?_
   refine W_region ?_
   refine S_pu 1 rfl ?_
   obtain ⟨hk41, h⟩ := Go.L.chk_some h
   refine S_v (r_ar64 rfl rfl rfl hk41) rfl ?_
   refine S_pu 1 rfl ?_
   refine S_nil ?_
   have h := Go.L.Nxt.again h hm31
   refine At_round ((l29 ++ x37), (s4_30 + (1 : Int)), v39, xs39, n31) (.cons rfl (.cons rfl (.cons rfl (Sub.nil _)))) ⟨hL39, he39, h⟩ (Nat.lt_succ_self _)
  ·replace h := Go.L.ite_n hc33 h
   refine W_exit ?_
   refine At_seq_exit ?_
   refine At_loop_exit ?_
   replace h := Go.L.Nxt.out h hm31
   refine At_exit ?_
   refine At_cut (l29, vl29, xsl29) (.cons rfl (Sub.nil _)) ⟨hL31, hel29, h⟩
 ·rintro ⟨l15, vl15, xsl15⟩ wr16 ⟨hL16, hel15, h⟩
  refine W_p 1 rfl ?_
  obtain ⟨x44, hb44, h⟩ := Go.L.bind_some h
  refine S_callL rfl rfl hL16 (ref3_Packed_ok _ _ (Le.refl _) (hL16.vecN hH (i := 0) rfl hel15) hb44) ?_
  rintro _ w45 ⟨u45_0, rfl, hR45_0⟩ hx45 hL45 hle45
  have hv45_0 := (hR45_0.ofPlain plain_byte).vecG hH hL16 hx45
  replace hel15 := hel15.mono (gz_mono hH hle45)
  refine S_v (r_part rfl underlying56 rfl underlying22 rfl rfl) rfl ?_
  refine S_pz 1 rfl ?_
  refine W_ret ?_
  obtain rfl := Option.some.inj h
  refine At_body rfl rfl ?_
  exact ⟨hL45.ext, _, rfl, (hv45_0.mono (gz_res hH))⟩
end Go.Proofs.YtdiieblgeaehpaaGreatDoor
