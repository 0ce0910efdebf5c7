/- Generated walks: the reference of forms, read. -/
import Derived.Test.YtdiieblgeaehpaaGreatDoorP8Y
import Derived.KernelRfl
namespace Go.Proofs.YtdiieblgeaehpaaGreatDoor
open Go Go.E Go.RowKit
set_option maxHeartbeats 1000000
set_option maxRecDepth 10000
open _root_.Go.Proofs.Tryz
noncomputable def ref3_Power_k1 (s3_10 : Int) : Option (Int) :=
 some (s3_10)
noncomputable def ref3_Power_bl2 (a0 : Int) : Int × Int → Option ((Int × Int) ⊕ (Int)) := fun ⟨s3_19, s4_20⟩ =>
 if s4_20 < a0 then Go.L.chk (Go.L.I64 ((2 : Int) * s3_19)) (Go.L.chk (Go.L.I64 (s4_20 + (1 : Int))) (some (Sum.inl (((2 : Int) * s3_19), (s4_20 + (1 : Int)))))) else Option.map Sum.inr (ref3_Power_k1 s3_19)
noncomputable def ref3_Power_l2 (a0 : Int) (s : Int × Int) : Option (Int) := Go.L.run (ref3_Power_bl2 a0) s
noncomputable def ref3_Power (a0 : Int) : Option (Int) :=
 (ref3_Power_l2 a0) ((1 : Int), (0 : Int))

theorem ref3_Power_ok (w : World) (H : PH) (_hH : Le H (hp w)) {a0 : Int}   {r : Int} (h : ref3_Power a0 = some r) :
  Ok Tryz.prog 94 [.int .i64 a0] w (fun v w' => Ext w w' ∧ v = .int .i64 r) := by
 refine Ok_enter (n := 13) [(0, .int .i64 a0)] func94 rfl rfl rfl rfl rfl ?_
 have hL := Lcl.start w
 refine W_pz 1 rfl ?_
 refine W_pz 1 rfl ?_
 refine W_cut (σ := Int) (fun s3_10 => [(3, .int .i64 s3_10)]) (fun s3_10 wr => Lcl w [] wr ∧ ref3_Power_k1 s3_10 = some r) ?_ ?_
 ·refine W_pz 1 rfl ?_
  refine W_block ?_
  obtain ⟨n21, h⟩ := Go.L.run_some h
  refine W_loop (σ := Int × Int × Nat) (fun ⟨s3_19, s4_20, n⟩ => [(0, .int .i64 a0), (3, .int .i64 s3_19), (4, .int .i64 s4_20)]) (fun ⟨s3_19, s4_20, n⟩ wr => Lcl w [] wr ∧ Go.L.itr (ref3_Power_bl2 a0) n (s3_19, s4_20) = some r) (fun ⟨s3_19, s4_20, n⟩ => n) ((1 : Int), (0 : Int), n21) (.cons rfl (.cons rfl (.cons rfl (Sub.nil _)))) ⟨hL, h⟩ ?_
  rintro ⟨s3_19, s4_20, nn21⟩ wr21 ⟨hL21, h⟩
  obtain ⟨n21, e21, rfl, h, hm21⟩ := Go.L.itr_some h
  refine W_seq ?_
  refine W_pz 3 rfl ?_
  refine W_if rfl (fun hc23 => ?_) (fun hc23 => ?_)
  ·replace h := Go.L.ite_p hc23 h
   refine W_skip ?_
   refine At_seq ?_
   refine W_seq ?_
   refine W_block ?_
   refine W_region ?_
   refine S_pu 1 rfl ?_
   obtain ⟨hk25, h⟩ := Go.L.chk_some h
   refine S_v (r_ar64 rfl rfl rfl hk25) rfl ?_
   refine S_pu 1 rfl ?_
   refine S_nil ?_
   refine At_block ?_
   refine At_seq ?_
   refine W_region ?_
   refine S_pu 1 rfl ?_
   obtain ⟨hk26, h⟩ := Go.L.chk_some h
   refine S_v (r_ar64 rfl rfl rfl hk26) rfl ?_
   refine S_pu 1 rfl ?_
   refine S_nil ?_
   have h := Go.L.Nxt.again h hm21
   refine At_round (((2 : Int) * s3_19), (s4_20 + (1 : Int)), n21) (.cons rfl (.cons rfl (.cons rfl (Sub.nil _)))) ⟨hL21, h⟩ (Nat.lt_succ_self _)
  ·replace h := Go.L.ite_n hc23 h
   refine W_exit ?_
   refine At_seq_exit ?_
   refine At_loop_exit ?_
   replace h := Go.L.Nxt.out h hm21
   refine At_exit ?_
   refine At_cut s3_19 (.cons rfl (Sub.nil _)) ⟨hL21, h⟩
 ·rintro s3_10 wr11 ⟨hL11, h⟩
  refine W_pz 2 rfl ?_
  refine W_ret ?_
  obtain rfl := Option.some.inj h
  refine At_body rfl rfl ?_
  exact ⟨hL11.ext, rfl⟩

noncomputable def ref3_Bit (a0 : List UInt8) (a1 : Int) : Option (Int) :=
 Go.L.chk (0 ≤ a1 ∧ a1 ≤ 9223372036854775807 ∧ 0 < (8 : Int)) (Go.L.chk (0 ≤ (a1 / (8 : Int)) ∧ (a1 / (8 : Int)) < (a0.length : Int)) (Go.L.chk (0 ≤ a1 ∧ a1 ≤ 9223372036854775807 ∧ 0 < (8 : Int)) (Go.L.chk (Go.L.I64 ((7 : Int) - (a1 % (8 : Int)))) (Option.bind (ref3_Power ((7 : Int) - (a1 % (8 : Int)))) (fun x8 => Go.L.chk (0 ≤ ((a0.getD ((a1 / (8 : Int)).toNat) default).toNat : Int) ∧ ((a0.getD ((a1 / (8 : Int)).toNat) default).toNat : Int) ≤ 9223372036854775807 ∧ 0 < x8) (Go.L.chk (0 ≤ (((a0.getD ((a1 / (8 : Int)).toNat) default).toNat : Int) / x8) ∧ (((a0.getD ((a1 / (8 : Int)).toNat) default).toNat : Int) / x8) ≤ 9223372036854775807 ∧ 0 < (2 : Int)) (some (((((a0.getD ((a1 / (8 : Int)).toNat) default).toNat : Int) / x8) % (2 : Int))))))))))

theorem ref3_Bit_ok (w : World) (H : PH) (hH : Le H (hp w)) {a0 : List UInt8} {a1 : Int} {v0_0 : Value} (h0_0 : Vec .byte H v0_0 (a0)) {r : Int} (h : ref3_Bit a0 a1 = some r) :
  Ok Tryz.prog 77 [v0_0, .int .i64 a1] w (fun v w' => Ext w w' ∧ v = .int .i64 r) := by
 refine Ok_enter (n := 17) [(0, v0_0), (1, .int .i64 a1)] func77 rfl rfl rfl rfl rfl ?_
 have hL := Lcl.start w
 refine W_pz 1 rfl ?_
 refine W_seqd (.q 0 (.q 1 (.q 2 (.q 3 (.q 4 (.q 5 (.q 6 (.q 7 (.q 8 (.q 9 (.q 10 (.q 11 (.q 12 (.tail 13)))))))))))))) mixed (by kernel_rfl) (fun w1 hx1 => ?_)
 have hL2 := hL.call hx1
 refine D_pu 2 rfl ?_
 obtain ⟨hk3, h⟩ := Go.L.chk_some h
 refine D_v (r_quo rfl rfl hk3) rfl rfl ?_
 obtain ⟨hk5, h⟩ := Go.L.chk_some h
 refine D_index rfl rfl rfl underlying22 zr5 h0_0 ((a1 / (8 : Int)).toNat) (Int.toNat_of_nonneg hk5.1).symm (idx_lt hk5) rfl ?_
 rintro p4 _ rfl hp4
 refine D_v (r_load1 rfl underlying5 rfl hp4 (hH.trans hL2.arg)) rfl rfl ?_
 refine D_v (r_conv underlying5 underlying3 rfl (conv_8_64 _)) rfl rfl ?_
 refine D_pu 1 rfl ?_
 obtain ⟨hk6, h⟩ := Go.L.chk_some h
 refine D_v (r_rem rfl rfl ⟨hk6.1, hk6.2.2⟩) rfl rfl ?_
 obtain ⟨hk7, h⟩ := Go.L.chk_some h
 refine D_v (r_ar64 rfl rfl rfl hk7) rfl rfl ?_
 obtain ⟨x8, hb8, h⟩ := Go.L.bind_some h
 refine D_call rfl rfl rfl (fun w9 hx9 => ref3_Power_ok _ _ (Le.refl _) hb8) ?_
 obtain ⟨hk10, h⟩ := Go.L.chk_some h
 refine D_v (r_quo rfl rfl hk10) rfl rfl ?_
 obtain ⟨hk11, h⟩ := Go.L.chk_some h
 refine D_v (r_rem rfl rfl ⟨hk11.1, hk11.2.2⟩) rfl rfl ?_
 refine D_pu 1 rfl ?_
 refine D_tail (fun w12 hx12 => ?_)
 have hL13 := hL2.call hx12
 refine S_seqnil ?_
 refine W_ret ?_
 obtain rfl := Option.some.inj h
 refine At_body rfl rfl ?_
 exact ⟨hL13.ext, rfl⟩

noncomputable def ref3_AllBits_k1 (l15 : List Int) : Option ((List Int)) :=
 some (l15)
noncomputable def ref3_AllBits_bl2 (a0 : List UInt8) : (List Int) × Int → Option (((List Int) × Int) ⊕ ((List Int))) := fun ⟨l29, s4_30⟩ =>
 Go.L.chk (Go.L.I64 ((8 : Int) * (a0.length : Int))) (if s4_30 < ((8 : Int) * (a0.length : Int)) then Option.bind (ref3_Bit a0 s4_30) (fun x36 => Go.L.chk (Go.E.Cap 8 (l29.length + ([x36]).length)) (Go.L.chk (Go.L.I64 (s4_30 + (1 : Int))) (some (Sum.inl ((l29 ++ [x36]), (s4_30 + (1 : Int))))))) else Option.map Sum.inr (ref3_AllBits_k1 l29))
noncomputable def ref3_AllBits_l2 (a0 : List UInt8) (s : (List Int) × Int) : Option ((List Int)) := Go.L.run (ref3_AllBits_bl2 a0) s
noncomputable def ref3_AllBits (a0 : List UInt8) : Option ((List Int)) :=
 (ref3_AllBits_l2 a0) (([] : List Int), (0 : Int))

theorem ref3_AllBits_ok (w : World) (H : PH) (hH : Le H (hp w)) {a0 : List UInt8} {v0_0 : Value} (h0_0 : Vec .byte H v0_0 (a0)) {r : (List Int)} (h : ref3_AllBits a0 = some r) :
  Ok Tryz.prog 54 [v0_0] w (fun v w' => Ext w w' ∧ ∃ u0, v = u0 ∧ OwnH 3 (.int .i64) H w w' u0 (r)) := by
 refine Ok_enter (n := 19) [(0, v0_0)] func54 rfl rfl rfl rfl rfl ?_
 have hL := Lcl.start w
 refine W_pz 1 rfl ?_
 refine W_p 1 rfl ?_
 obtain ⟨hL1, hle1, he1⟩ := row_nilE (.int .i64) H 3 hL
 refine S_seqnil ?_
 refine W_cut (σ := (List Int) × Value × (List Value)) (fun ⟨l15, vl15, xsl15⟩ => [(3, vl15)]) (fun ⟨l15, vl15, xsl15⟩ wr => InO w [.row (vl15) 3 1 (l15).length (xsl15)] wr fun Oz => Elems (.int .i64) (gz H w wr Oz) (l15) (xsl15) ∧ ref3_AllBits_k1 l15 = some r) ?_ ?_
 ·refine W_pz 1 rfl ?_
  refine W_block ?_
  obtain ⟨n31, h⟩ := Go.L.run_some h
  refine W_loop (σ := (List Int) × Int × Value × (List Value) × Nat) (fun ⟨l29, s4_30, vl29, xsl29, n⟩ => [(0, v0_0), (3, vl29), (4, .int .i64 s4_30)]) (fun ⟨l29, s4_30, vl29, xsl29, n⟩ wr => InO w [.row (vl29) 3 1 (l29).length (xsl29)] wr fun Oz => Elems (.int .i64) (gz H w wr Oz) (l29) (xsl29) ∧ Go.L.itr (ref3_AllBits_bl2 a0) n (l29, s4_30) = some r) (fun ⟨l29, s4_30, vl29, xsl29, n⟩ => n) (([] : List Int), (0 : Int), .slice none 0 0, [], n31) (.cons rfl (.cons rfl (.cons rfl (Sub.nil _)))) ⟨hL1, he1, h⟩ ?_
  rintro ⟨l29, s4_30, vl29, xsl29, nn31⟩ wr31 ⟨hL31, hel29, h⟩
  obtain ⟨n31, e31, rfl, h, hm31⟩ := Go.L.itr_some h
  refine W_seq ?_
  refine W_p 2 rfl ?_
  refine S_v (r_len rfl underlying22 h0_0) rfl ?_
  obtain ⟨hk33, h⟩ := Go.L.chk_some h
  refine S_v (r_ar64 rfl rfl rfl hk33) rfl ?_
  refine S_pz 1 rfl ?_
  refine W_if rfl (fun hc34 => ?_) (fun hc34 => ?_)
  ·replace h := Go.L.ite_p hc34 h
   refine W_skip ?_
   refine At_seq ?_
   refine W_seq ?_
   refine W_block ?_
   refine W_region ?_
   refine S_pu 3 rfl ?_
   obtain ⟨x36, hb36, h⟩ := Go.L.bind_some h
   refine S_callL rfl rfl hL31 (ref3_Bit_ok _ _ (gz_le hH hL31) (h0_0.mono (gz_left hH)) hb36) ?_
   rintro _ w37 rfl hx37 hL37 hle37
   replace hel29 := hel29.mono (gz_mono hH hle37)
   refine S_litE (r := (.int .i64)) (l := [x36]) rfl (fun _ => bsl71_1 _ _) rfl (show 1 ≤ 9223372036854775807 by decide) hH hL37 (.c1 rfl .nil) ?_
   intro v38 w38 hx38 hL38 hle38 hv38
   replace hel29 := hel29.mono (gz_mono hH hle38)
   obtain ⟨hk40, h⟩ := Go.L.chk_some h
   refine S_appE (r := (.int .i64)) (l := l29) (m := [x36]) 0 rfl rfl underlying71 zr3 rfl (by decide) rfl hH hL38 rfl hel29 hv38 hk40 ?_
   intro v39 w39 xs39 hL39 hle39 he39
   replace hv38 := hv38.mono (gz_mono hH hle39)
   refine S_pu 1 rfl ?_
   refine S_nil ?_
   refine At_block ?_
   refine At_seq ?_
   refine W_region ?_
   refine S_pu 1 rfl ?_
   obtain ⟨hk41, h⟩ := Go.L.chk_some h
   refine S_v (r_ar64 rfl rfl rfl hk41) rfl ?_
   refine S_pu 1 rfl ?_
   refine S_nil ?_
   have h := Go.L.Nxt.again h hm31
   refine At_round ((l29 ++ [x36]), (s4_30 + (1 : Int)), v39, xs39, n31) (.cons rfl (.cons rfl (.cons rfl (Sub.nil _)))) ⟨hL39, he39, h⟩ (Nat.lt_succ_self _)
  ·replace h := Go.L.ite_n hc34 h
   refine W_exit ?_
   refine At_seq_exit ?_
   refine At_loop_exit ?_
   replace h := Go.L.Nxt.out h hm31
   refine At_exit ?_
   refine At_cut (l29, vl29, xsl29) (.cons rfl (Sub.nil _)) ⟨hL31, hel29, h⟩
 ·rintro ⟨l15, vl15, xsl15⟩ wr16 ⟨hL16, hel15, h⟩
  refine W_pz 2 rfl ?_
  refine W_ret ?_
  obtain rfl := Option.some.inj h
  refine At_body rfl rfl ?_
  exact ⟨hL16.ext, _, rfl, (hL16.ownH hH (i := 0) rfl hel15)⟩

noncomputable def ref3_Number_k1 (s3_13 : Int) : Option (Int) :=
 some (s3_13)
noncomputable def ref3_Number_bl2 (a0 : List Int) : Int × Int → Option ((Int × Int) ⊕ (Int)) := fun ⟨s3_25, s4_26⟩ =>
 if s4_26 < (a0.length : Int) then Go.L.chk (Go.L.I64 ((2 : Int) * s3_25)) (Go.L.chk (0 ≤ s4_26 ∧ s4_26 < (a0.length : Int)) (Go.L.chk (Go.L.I64 (((2 : Int) * s3_25) + a0.getD s4_26.toNat default)) (Go.L.chk (Go.L.I64 (s4_26 + (1 : Int))) (some (Sum.inl ((((2 : Int) * s3_25) + a0.getD s4_26.toNat default), (s4_26 + (1 : Int)))))))) else Option.map Sum.inr (ref3_Number_k1 s3_25)
noncomputable def ref3_Number_l2 (a0 : List Int) (s : Int × Int) : Option (Int) := Go.L.run (ref3_Number_bl2 a0) s
noncomputable def ref3_Number (a0 : List Int) : Option (Int) :=
 (ref3_Number_l2 a0) ((0 : Int), (0 : Int))

theorem ref3_Number_ok (w : World) (H : PH) (hH : Le H (hp w)) {a0 : List Int} {v0_0 : Value} (h0_0 : Vec (.int .i64) H v0_0 (a0)) {r : Int} (h : ref3_Number a0 = some r) :
  Ok Tryz.prog 78 [v0_0] w (fun v w' => Ext w w' ∧ v = .int .i64 r) := by
 refine Ok_enter (n := 19) [(0, v0_0)] func78 rfl rfl rfl rfl rfl ?_
 have hL := Lcl.start w
 refine W_pz 1 rfl ?_
 refine W_pz 1 rfl ?_
 refine W_cut (σ := Int) (fun s3_13 => [(3, .int .i64 s3_13)]) (fun s3_13 wr => Lcl w [] wr ∧ ref3_Number_k1 s3_13 = some r) ?_ ?_
 ·refine W_pz 1 rfl ?_
  refine W_block ?_
  obtain ⟨n27, h⟩ := Go.L.run_some h
  refine W_loop (σ := Int × Int × Nat) (fun ⟨s3_25, s4_26, n⟩ => [(0, v0_0), (3, .int .i64 s3_25), (4, .int .i64 s4_26)]) (fun ⟨s3_25, s4_26, n⟩ wr => Lcl w [] wr ∧ Go.L.itr (ref3_Number_bl2 a0) n (s3_25, s4_26) = some r) (fun ⟨s3_25, s4_26, n⟩ => n) ((0 : Int), (0 : Int), n27) (.cons rfl (.cons rfl (.cons rfl (Sub.nil _)))) ⟨hL, h⟩ ?_
  rintro ⟨s3_25, s4_26, nn27⟩ wr27 ⟨hL27, h⟩
  obtain ⟨n27, e27, rfl, h, hm27⟩ := Go.L.itr_some h
  refine W_seq ?_
  refine W_p 2 rfl ?_
  refine S_v (r_len rfl underlying71 h0_0) rfl ?_
  refine S_pz 1 rfl ?_
  refine W_if rfl (fun hc29 => ?_) (fun hc29 => ?_)
  ·replace h := Go.L.ite_p hc29 h
   refine W_skip ?_
   refine At_seq ?_
   refine W_seq ?_
   refine W_block ?_
   refine W_region ?_
   refine S_pu 1 rfl ?_
   obtain ⟨hk31, h⟩ := Go.L.chk_some h
   refine S_v (r_ar64 rfl rfl rfl hk31) rfl ?_
   refine S_pu 2 rfl ?_
   obtain ⟨hk33, h⟩ := Go.L.chk_some h
   refine S_index rfl rfl underlying71 zr3 h0_0 s4_26.toNat (Int.toNat_of_nonneg hk33.1).symm (idx_lt hk33) rfl ?_
   rintro p32 _ rfl hp32
   refine S_v (r_load1 rfl underlying3 rfl hp32 (hH.trans hL27.arg)) rfl ?_
   obtain ⟨hk34, h⟩ := Go.L.chk_some h
   refine S_v (r_ar64 rfl rfl rfl hk34) rfl ?_
   refine S_pu 1 rfl ?_
   refine S_nil ?_
   refine At_block ?_
   refine At_seq ?_
   refine W_region ?_
   refine S_pu 1 rfl ?_
   obtain ⟨hk35, h⟩ := Go.L.chk_some h
   refine S_v (r_ar64 rfl rfl rfl hk35) rfl ?_
   refine S_pu 1 rfl ?_
   refine S_nil ?_
   have h := Go.L.Nxt.again h hm27
   refine At_round ((((2 : Int) * s3_25) + a0.getD s4_26.toNat default), (s4_26 + (1 : Int)), n27) (.cons rfl (.cons rfl (.cons rfl (Sub.nil _)))) ⟨hL27, h⟩ (Nat.lt_succ_self _)
  ·replace h := Go.L.ite_n hc29 h
   refine W_exit ?_
   refine At_seq_exit ?_
   refine At_loop_exit ?_
   replace h := Go.L.Nxt.out h hm27
   refine At_exit ?_
   refine At_cut s3_25 (.cons rfl (Sub.nil _)) ⟨hL27, h⟩
 ·rintro s3_13 wr14 ⟨hL14, h⟩
  refine W_pz 2 rfl ?_
  refine W_ret ?_
  obtain rfl := Option.some.inj h
  refine At_body rfl rfl ?_
  exact ⟨hL14.ext, rfl⟩

noncomputable def ref3_GammaAt_k1 (a0 : List Int) (a1 : Int) (s7_18 : Int) : Option (Int × Int × Int) :=
 Go.L.chk (Go.L.I64 ((2 : Int) * s7_18)) (Go.L.chk (Go.L.I64 (a1 + ((2 : Int) * s7_18))) (Go.L.chk (Go.L.I64 ((a1 + ((2 : Int) * s7_18)) + (1 : Int))) (if (a0.length : Int) < ((a1 + ((2 : Int) * s7_18)) + (1 : Int)) then some ((0 : Int), (0 : Int), (15 : Int)) else Go.L.chk (Go.L.I64 (a1 + s7_18)) (Go.L.chk (0 ≤ (a1 + s7_18) ∧ (a1 + s7_18) ≤ ((a1 + ((2 : Int) * s7_18)) + (1 : Int)) ∧ ((a1 + ((2 : Int) * s7_18)) + (1 : Int)) ≤ (a0.length : Int)) (Option.bind (ref3_Number ((a0.drop (a1 + s7_18).toNat).take (((a1 + ((2 : Int) * s7_18)) + (1 : Int)).toNat - (a1 + s7_18).toNat))) (fun x63 => some (x63, ((a1 + ((2 : Int) * s7_18)) + (1 : Int)), (0 : Int))))))))
noncomputable def ref3_GammaAt_bl2 (a0 : List Int) (a1 : Int) : Int → Option ((Int) ⊕ (Int × Int × Int)) := fun s7_36 =>
 Go.L.chk (Go.L.I64 (a1 + s7_36)) (if (a1 + s7_36) < (a0.length : Int) then Go.L.chk (Go.L.I64 (a1 + s7_36)) (Go.L.chk (0 ≤ (a1 + s7_36) ∧ (a1 + s7_36) < (a0.length : Int)) (if a0.getD ((a1 + s7_36).toNat) default = (0 : Int) then Go.L.chk (Go.L.I64 (s7_36 + (1 : Int))) (if (s7_36 + (1 : Int)) = (31 : Int) then Option.map Sum.inr (some ((0 : Int), (0 : Int), (16 : Int))) else some (Sum.inl (s7_36 + (1 : Int)))) else Option.map Sum.inr ((ref3_GammaAt_k1 a0 a1) s7_36))) else Option.map Sum.inr ((ref3_GammaAt_k1 a0 a1) s7_36))
noncomputable def ref3_GammaAt_l2 (a0 : List Int) (a1 : Int) (s : Int) : Option (Int × Int × Int) := Go.L.run (ref3_GammaAt_bl2 a0 a1) s
noncomputable def ref3_GammaAt (a0 : List Int) (a1 : Int) : Option (Int × Int × Int) :=
 (ref3_GammaAt_l2 a0 a1) (0 : Int)

theorem ref3_GammaAt_ok (w : World) (H : PH) (hH : Le H (hp w)) {a0 : List Int} {a1 : Int} {v0_0 : Value} (h0_0 : Vec (.int .i64) H v0_0 (a0)) {r : Int × Int × Int} (h : ref3_GammaAt a0 a1 = some r) :
  Ok Tryz.prog 55 [v0_0, .int .i64 a1] w (fun v w' => Ext w w' ∧ v = .tuple #[.int .i64 r.1, .int .i64 r.2.1, .int .i64 r.2.2]) := by
 refine Ok_enter (n := 45) [(0, v0_0), (1, .int .i64 a1)] func55 rfl rfl rfl rfl rfl ?_
 have hL := Lcl.start w
 refine W_pz 3 rfl ?_
 refine W_pz 1 rfl ?_
 refine W_cut (σ := Int) (fun s7_18 => [(0, v0_0), (1, .int .i64 a1), (7, .int .i64 s7_18)]) (fun s7_18 wr => Lcl w [] wr ∧ (ref3_GammaAt_k1 a0 a1) s7_18 = some r) ?_ ?_
 ·refine W_block ?_
  obtain ⟨n37, h⟩ := Go.L.run_some h
  refine W_loop (σ := Int × Nat) (fun ⟨s7_36, n⟩ => [(0, v0_0), (1, .int .i64 a1), (7, .int .i64 s7_36)]) (fun ⟨s7_36, n⟩ wr => Lcl w [] wr ∧ Go.L.itr (ref3_GammaAt_bl2 a0 a1) n s7_36 = some r) (fun ⟨s7_36, n⟩ => n) ((0 : Int), n37) (.cons rfl (.cons rfl (.cons rfl (Sub.nil _)))) ⟨hL, h⟩ ?_
  rintro ⟨s7_36, nn37⟩ wr37 ⟨hL37, h⟩
  obtain ⟨n37, e37, rfl, h, hm37⟩ := Go.L.itr_some h
  refine W_seq ?_
  refine W_p 2 rfl ?_
  obtain ⟨hk39, h⟩ := Go.L.chk_some h
  refine S_v (r_ar64 rfl rfl rfl hk39) rfl ?_
  refine S_pu 1 rfl ?_
  refine S_v (r_len rfl underlying71 h0_0) rfl ?_
  refine S_pu 2 rfl ?_
  refine S_split (s := 15) rfl (fun hg40 => ?_) (fun hg40 => ?_)
  ·replace h := Go.L.ite_p (of_decide_eq_true hg40) h
   refine S_guarded rfl rfl hg40 ?_
   refine S_v (RunsAt_pu rfl) rfl ?_
   refine S_guarded rfl rfl hg40 ?_
   refine S_v (RunsAt_pu rfl) rfl ?_
   refine S_guarded rfl rfl hg40 ?_
   refine S_v (RunsAt_pu rfl) rfl ?_
   refine S_guarded rfl rfl hg40 ?_
   obtain ⟨hk42, h⟩ := Go.L.chk_some h
   refine S_v (r_ar64 rfl rfl rfl hk42) rfl ?_
   refine S_guarded rfl rfl hg40 ?_
   obtain ⟨hk44, h⟩ := Go.L.chk_some h
   refine S_index rfl rfl underlying71 zr3 h0_0 ((a1 + s7_36).toNat) (Int.toNat_of_nonneg hk44.1).symm (idx_lt hk44) rfl ?_
   rintro p43 _ rfl hp43
   refine S_guarded rfl rfl hg40 ?_
   refine S_v (r_load1 rfl underlying3 rfl hp43 (hH.trans hL37.arg)) rfl ?_
   refine S_guarded rfl rfl hg40 ?_
   refine S_v (RunsAt_pu rfl) rfl ?_
   refine S_v (r_pickT rfl hg40 rfl) rfl ?_
   refine S_seqnil ?_
   refine W_if rfl (fun hc45 => ?_) (fun hc45 => ?_)
   ·replace h := Go.L.ite_p hc45 h
    refine W_skip ?_
    refine At_seq ?_
    refine W_block ?_
    refine W_p 1 rfl ?_
    obtain ⟨hk47, h⟩ := Go.L.chk_some h
    refine S_v (r_ar64 rfl rfl rfl hk47) rfl ?_
    refine S_pz 1 rfl ?_
    refine W_pz 2 rfl ?_
    refine W_if rfl (fun hc48 => ?_) (fun hc48 => ?_)
    ·replace h := Go.L.ite_p hc48 h
     refine W_pz 3 rfl ?_
     refine W_ret ?_
     refine At_block_ret ?_
     refine At_loop_ret ?_
     replace h := Go.L.Nxt.out h hm37
     refine At_block_ret ?_
     refine At_cut_ret ?_
     obtain rfl := Option.some.inj h
     refine At_body rfl rfl ?_
     exact ⟨hL37.ext, rfl⟩
    ·replace h := Go.L.ite_n hc48 h
     refine W_skip ?_
     refine At_block ?_
     have h := Go.L.Nxt.again h hm37
     refine At_round ((s7_36 + (1 : Int)), n37) (.cons rfl (.cons rfl (.cons rfl (Sub.nil _)))) ⟨hL37, h⟩ (Nat.lt_succ_self _)
   ·replace h := Go.L.ite_n hc45 h
    refine W_exit ?_
    refine At_seq_exit ?_
    refine At_loop_exit ?_
    replace h := Go.L.Nxt.out h hm37
    refine At_exit ?_
    refine At_cut s7_36 (.cons rfl (.cons rfl (.cons rfl (Sub.nil _)))) ⟨hL37, h⟩
  ·replace h := Go.L.ite_n (of_decide_eq_false hg40) h
   iterate 7 refine S_unwanted rfl rfl hg40 rfl ?_
   refine S_v (r_pickF rfl hg40 rfl) rfl ?_
   refine S_seqnil ?_
   refine W_false rfl ?_
   refine W_exit ?_
   refine At_seq_exit ?_
   refine At_loop_exit ?_
   replace h := Go.L.Nxt.out h hm37
   refine At_exit ?_
   refine At_cut s7_36 (.cons rfl (.cons rfl (.cons rfl (Sub.nil _)))) ⟨hL37, h⟩
 ·rintro s7_18 wr19 ⟨hL19, h⟩
  refine W_p 2 rfl ?_
  obtain ⟨hk54, h⟩ := Go.L.chk_some h
  refine S_v (r_ar64 rfl rfl rfl hk54) rfl ?_
  obtain ⟨hk55, h⟩ := Go.L.chk_some h
  refine S_v (r_ar64 rfl rfl rfl hk55) rfl ?_
  obtain ⟨hk56, h⟩ := Go.L.chk_some h
  refine S_v (r_ar64 rfl rfl rfl hk56) rfl ?_
  refine S_pz 1 rfl ?_
  refine W_seq ?_
  refine W_p 2 rfl ?_
  refine S_v (r_len rfl underlying71 h0_0) rfl ?_
  refine S_pz 1 rfl ?_
  refine W_if rfl (fun hc57 => ?_) (fun hc57 => ?_)
  ·replace h := Go.L.ite_p hc57 h
   refine W_pz 3 rfl ?_
   refine W_ret ?_
   refine At_seq_ret ?_
   obtain rfl := Option.some.inj h
   refine At_body rfl rfl ?_
   exact ⟨hL19.ext, rfl⟩
  ·replace h := Go.L.ite_n hc57 h
   refine W_skip ?_
   refine At_seq ?_
   refine W_p 3 rfl ?_
   obtain ⟨hk60, h⟩ := Go.L.chk_some h
   refine S_v (r_ar64 rfl rfl rfl hk60) rfl ?_
   refine S_pu 1 rfl ?_
   obtain ⟨hk62, h⟩ := Go.L.chk_some h
   refine S_sliceB rfl rfl rfl underlying71 zr3 h0_0 hk62 rfl ?_
   intro v61 hv61
   obtain ⟨x63, hb63, h⟩ := Go.L.bind_some h
   refine S_callL rfl rfl hL19 (ref3_Number_ok _ _ (gz_le hH hL19) (hv61.mono (gz_left hH)) hb63) ?_
   rintro _ w64 rfl hx64 hL64 hle64
   refine S_pz 4 rfl ?_
   refine W_ret ?_
   obtain rfl := Option.some.inj h
   refine At_body rfl rfl ?_
   exact ⟨hL64.ext, rfl⟩

noncomputable def ref4_numbers_k1 (l18 : List Int) : Option ((List Int)) :=
 some (l18)
noncomputable def ref4_numbers_bl2 (x1 : (List Int)) : (List Int) × Int → Option (((List Int) × Int) ⊕ ((List Int))) := fun ⟨l33, s5_34⟩ =>
 if s5_34 < (x1.length : Int) then Option.bind (ref3_GammaAt x1 s5_34) (fun x39 => if x39.2.2 = (0 : Int) then Go.L.chk (Go.E.Cap 8 (l33.length + ([x39.1]).length)) (some (Sum.inl ((l33 ++ [x39.1]), x39.2.1))) else Option.map Sum.inr (some (l33))) else Option.map Sum.inr (ref4_numbers_k1 l33)
noncomputable def ref4_numbers_l2 (x1 : (List Int)) (s : (List Int) × Int) : Option ((List Int)) := Go.L.run (ref4_numbers_bl2 x1) s
noncomputable def ref4_numbers (a0 : List UInt8) : Option ((List Int)) :=
 Option.bind (ref3_AllBits a0) (fun x1 => (ref4_numbers_l2 x1) (([] : List Int), (0 : Int)))

theorem ref4_numbers_ok (w : World) (H : PH) (hH : Le H (hp w)) {a0 : List UInt8} {v0_0 : Value} (h0_0 : Vec .byte H v0_0 (a0)) {r : (List Int)} (h : ref4_numbers a0 = some r) :
  Ok Tryz.prog 30 [v0_0] w (fun v w' => Ext w w' ∧ ∃ u0, v = u0 ∧ OwnH 3 (.int .i64) H w w' u0 (r)) := by
 refine Ok_enter (n := 31) [(0, v0_0)] func30 rfl rfl rfl rfl rfl ?_
 have hL := Lcl.start w
 refine W_pz 1 rfl ?_
 refine W_p 1 rfl ?_
 obtain ⟨x1, hb1, h⟩ := Go.L.bind_some h
 refine S_callL rfl rfl hL (ref3_AllBits_ok _ _ (gz_le hH hL) (h0_0.mono (gz_left hH)) hb1) ?_
 rintro u2_0 w2 ⟨_, rfl, hR2_0⟩ hx2 hL2 hle2
 have hv2_0 := hR2_0.vecG hH hL hx2
 refine S_pz 1 rfl ?_
 refine W_p 1 rfl ?_
 obtain ⟨hL3, hle3, he3⟩ := row_nilE (.int .i64) H 3 hL2
 replace hv2_0 := hv2_0.mono (gz_mono hH hle3)
 refine S_seqnil ?_
 refine W_pz 1 rfl ?_
 refine W_cut (σ := (List Int) × Value × (List Value)) (fun ⟨l18, vl18, xsl18⟩ => [(4, vl18)]) (fun ⟨l18, vl18, xsl18⟩ wr => InO w [.row (vl18) 3 1 (l18).length (xsl18)] wr fun Oz => Elems (.int .i64) (gz H w wr Oz) (l18) (xsl18) ∧ ref4_numbers_k1 l18 = some r) ?_ ?_
 ·refine W_block ?_
  obtain ⟨n35, h⟩ := Go.L.run_some h
  refine W_loop (σ := (List Int) × Int × Value × (List Value) × Nat) (fun ⟨l33, s5_34, vl33, xsl33, n⟩ => [(3, u2_0), (4, vl33), (5, .int .i64 s5_34)]) (fun ⟨l33, s5_34, vl33, xsl33, n⟩ wr => InO w [.row (vl33) 3 1 (l33).length (xsl33)] wr fun Oz => Vec (.int .i64) (gz H w wr Oz) (u2_0) (x1) ∧ Elems (.int .i64) (gz H w wr Oz) (l33) (xsl33) ∧ Go.L.itr (ref4_numbers_bl2 x1) n (l33, s5_34) = some r) (fun ⟨l33, s5_34, vl33, xsl33, n⟩ => n) (([] : List Int), (0 : Int), .slice none 0 0, [], n35) (.cons rfl (.cons rfl (.cons rfl (Sub.nil _)))) ⟨hL3, hv2_0, he3, h⟩ ?_
  rintro ⟨l33, s5_34, vl33, xsl33, nn35⟩ wr35 ⟨hL35, hf35_0, hel33, h⟩
  obtain ⟨n35, e35, rfl, h, hm35⟩ := Go.L.itr_some h
  refine W_seq ?_
  refine W_p 2 rfl ?_
  refine S_v (r_len rfl underlying71 hf35_0) rfl ?_
  refine S_pz 1 rfl ?_
  refine W_if rfl (fun hc37 => ?_) (fun hc37 => ?_)
  ·replace h := Go.L.ite_p hc37 h
   refine W_skip ?_
   refine At_seq ?_
   refine W_block ?_
   refine W_p 2 rfl ?_
   obtain ⟨x39, hb39, h⟩ := Go.L.bind_some h
   refine S_callL rfl rfl hL35 (ref3_GammaAt_ok _ _ (gz_le hH hL35) hf35_0 hb39) ?_
   rintro _ w40 rfl hx40 hL40 hle40
   replace hf35_0 := hf35_0.mono (gz_mono hH hle40)
   replace hel33 := hel33.mono (gz_mono hH hle40)
   refine S_pz 7 rfl ?_
   refine W_seq ?_
   refine W_pz 2 rfl ?_
   refine W_ifn rfl (fun hc41 => ?_) (fun hc41 => ?_)
   ·replace h := Go.L.ite_n hc41 h
    refine W_pz 2 rfl ?_
    refine W_ret ?_
    refine At_seq_ret ?_
    refine At_block_ret ?_
    refine At_loop_ret ?_
    replace h := Go.L.Nxt.out h hm35
    refine At_block_ret ?_
    refine At_cut_ret ?_
    obtain rfl := Option.some.inj h
    refine At_body rfl rfl ?_
    exact ⟨hL40.ext, _, rfl, (hL40.ownH hH (i := 0) rfl hel33)⟩
   ·replace h := Go.L.ite_p hc41 h
    refine W_skip ?_
    refine At_seq ?_
    refine W_p 2 rfl ?_
    refine S_litE (r := (.int .i64)) (l := [x39.1]) rfl (fun _ => bsl71_1 _ _) rfl (show 1 ≤ 9223372036854775807 by decide) hH hL40 (.c1 rfl .nil) ?_
    intro v44 w44 hx44 hL44 hle44 hv44
    replace hf35_0 := hf35_0.mono (gz_mono hH hle44)
    replace hel33 := hel33.mono (gz_mono hH hle44)
    obtain ⟨hk46, h⟩ := Go.L.chk_some h
    refine S_appE (r := (.int .i64)) (l := l33) (m := [x39.1]) 0 rfl rfl underlying71 zr3 rfl (by decide) rfl hH hL44 rfl hel33 hv44 hk46 ?_
    intro v45 w45 xs45 hL45 hle45 he45
    replace hf35_0 := hf35_0.mono (gz_mono hH hle45)
    replace hv44 := hv44.mono (gz_mono hH hle45)
    refine S_pz 1 rfl ?_
    refine W_region ?_
    refine S_pu 2 rfl ?_
    refine S_nil ?_
    refine At_block ?_
    have h := Go.L.Nxt.again h hm35
    refine At_round ((l33 ++ [x39.1]), x39.2.1, v45, xs45, n35) (.cons rfl (.cons rfl (.cons rfl (Sub.nil _)))) ⟨hL45, hf35_0, he45, h⟩ (Nat.lt_succ_self _)
  ·replace h := Go.L.ite_n hc37 h
   refine W_exit ?_
   refine At_seq_exit ?_
   refine At_loop_exit ?_
   replace h := Go.L.Nxt.out h hm35
   refine At_exit ?_
   refine At_cut (l33, vl33, xsl33) (.cons rfl (Sub.nil _)) ⟨hL35, hel33, h⟩
 ·rintro ⟨l18, vl18, xsl18⟩ wr19 ⟨hL19, hel18, h⟩
  refine W_pz 2 rfl ?_
  refine W_ret ?_
  obtain rfl := Option.some.inj h
  refine At_body rfl rfl ?_
  exact ⟨hL19.ext, _, rfl, (hL19.ownH hH (i := 0) rfl hel18)⟩

noncomputable def ref4_taken_k3 (s5_147 : Int) : Option ((Int) ⊕ (Bool)) :=
 Go.L.chk (Go.L.I64 (s5_147 + (1 : Int))) (some (Sum.inl (s5_147 + (1 : Int))))
noncomputable def ref4_taken_bl4 (a0 : List ((List UInt8) × (List (Int × Int)))) (a1 : Int × Int) (s5_147 : Int) : Int → Option ((Int) ⊕ ((Int) ⊕ (Bool))) := fun s6_216 =>
 Go.L.chk (0 ≤ s5_147 ∧ s5_147 < (a0.length : Int)) (if s6_216 < (((a0.getD s5_147.toNat default).2).length : Int) then Go.L.chk (0 ≤ s5_147 ∧ s5_147 < (a0.length : Int)) (Go.L.chk (0 ≤ s6_216 ∧ s6_216 < (((a0.getD s5_147.toNat default).2).length : Int)) (if (((a0.getD s5_147.toNat default).2).getD s6_216.toNat default).1 = a1.1 ∧ (((a0.getD s5_147.toNat default).2).getD s6_216.toNat default).2 = a1.2 then Option.map Sum.inr (Option.map Sum.inr (some (true))) else Go.L.chk (Go.L.I64 (s6_216 + (1 : Int))) (some (Sum.inl (s6_216 + (1 : Int)))))) else Option.map Sum.inr ((ref4_taken_k3 s5_147)))
noncomputable def ref4_taken_l4 (a0 : List ((List UInt8) × (List (Int × Int)))) (a1 : Int × Int) (s5_147 : Int) (s : Int) : Option ((Int) ⊕ (Bool)) := Go.L.run (ref4_taken_bl4 a0 a1 s5_147) s
noncomputable def ref4_taken_k1 : Option (Bool) :=
 some (false)
noncomputable def ref4_taken_bl2 (a0 : List ((List UInt8) × (List (Int × Int)))) (a1 : Int × Int) : Int → Option ((Int) ⊕ (Bool)) := fun s5_147 =>
 if s5_147 < (a0.length : Int) then (ref4_taken_l4 a0 a1 s5_147) (0 : Int) else Option.map Sum.inr (ref4_taken_k1)
noncomputable def ref4_taken_l2 (a0 : List ((List UInt8) × (List (Int × Int)))) (a1 : Int × Int) (s : Int) : Option (Bool) := Go.L.run (ref4_taken_bl2 a0 a1) s
noncomputable def ref4_taken (a0 : List ((List UInt8) × (List (Int × Int)))) (a1 : Int × Int) : Option (Bool) :=
 (ref4_taken_l2 a0 a1) (0 : Int)

theorem ref4_taken_ok (w : World) (H : PH) (hH : Le H (hp w)) {a0 : List ((List UInt8) × (List (Int × Int)))} {a1 : Int × Int} {v0_0 : Value} (h0_0 : Vec (.pair .st (.vec (.pair (.int .i64) (.int .i64)))) H v0_0 (a0)) {r : Bool} (h : ref4_taken a0 a1 = some r) :
  Ok Tryz.prog 32 [v0_0, .agg #[.int .i64 a1.1, .int .i64 a1.2]] w (fun v w' => Ext w w' ∧ v = .bool r) := by
 refine Ok_enter (n := 33) [(0, v0_0), (1, .agg #[.int .i64 a1.1, .int .i64 a1.2])] func32 rfl rfl rfl rfl rfl ?_
 have hL := Lcl.start w
 refine W_seqr ?_
 refine S_box (t := 64) rfl rfl rfl hL ?_
 intro w1 b1 hL1 hle1 _
 refine S_pz 1 rfl ?_
 refine W_cut (σ := Unit) (fun (_ : Unit) => []) (fun (_ : Unit) wr => Lcl w [.box b1 [.int .i64 a1.1, .int .i64 a1.2] 64] wr ∧ ref4_taken_k1 = some r) ?_ ?_
 ·refine W_pz 1 rfl ?_
  refine W_block ?_
  obtain ⟨n148, h⟩ := Go.L.run_some h
  refine W_loop (σ := Int × Nat) (fun ⟨s5_147, n⟩ => [(0, v0_0), (3, .pointer (some ⟨b1, 0, none⟩)), (5, .int .i64 s5_147)]) (fun ⟨s5_147, n⟩ wr => Lcl w [.box b1 [.int .i64 a1.1, .int .i64 a1.2] 64] wr ∧ Go.L.itr (ref4_taken_bl2 a0 a1) n s5_147 = some r) (fun ⟨s5_147, n⟩ => n) ((0 : Int), n148) (.cons rfl (.cons rfl (.cons rfl (Sub.nil _)))) ⟨hL1, h⟩ ?_
  rintro ⟨s5_147, nn148⟩ wr148 ⟨hL148, h⟩
  obtain ⟨n148, e148, rfl, h, hm148⟩ := Go.L.itr_some h
  refine W_seq ?_
  refine W_p 2 rfl ?_
  refine S_v (r_len rfl underlying33 h0_0) rfl ?_
  refine S_pz 1 rfl ?_
  refine W_if rfl (fun hc150 => ?_) (fun hc150 => ?_)
  ·replace h := Go.L.ite_p hc150 h
   refine W_skip ?_
   refine At_seq ?_
   refine W_cut (σ := Unit) (fun (_ : Unit) => [(0, v0_0), (3, .pointer (some ⟨b1, 0, none⟩)), (5, .int .i64 s5_147)]) (fun (_ : Unit) wr => Lcl w [.box b1 [.int .i64 a1.1, .int .i64 a1.2] 64] wr ∧ (ref4_taken_k3 s5_147) = some e148) ?_ ?_
   ·refine W_block ?_
    refine W_pz 1 rfl ?_
    refine W_block ?_
    obtain ⟨n217, h⟩ := Go.L.run_some h
    refine W_loop (σ := Int × Nat) (fun ⟨s6_216, n⟩ => [(0, v0_0), (3, .pointer (some ⟨b1, 0, none⟩)), (5, .int .i64 s5_147), (6, .int .i64 s6_216)]) (fun ⟨s6_216, n⟩ wr => Lcl w [.box b1 [.int .i64 a1.1, .int .i64 a1.2] 64] wr ∧ Go.L.itr (ref4_taken_bl4 a0 a1 s5_147) n s6_216 = some e148) (fun ⟨s6_216, n⟩ => n) ((0 : Int), n217) (.cons rfl (.cons rfl (.cons rfl (.cons rfl (Sub.nil _))))) ⟨hL148, h⟩ ?_
    rintro ⟨s6_216, nn217⟩ wr217 ⟨hL217, h⟩
    obtain ⟨n217, e217, rfl, h, hm217⟩ := Go.L.itr_some h
    refine W_seq ?_
    refine W_p 3 rfl ?_
    obtain ⟨hk220, h⟩ := Go.L.chk_some h
    refine S_index rfl rfl underlying33 zr44 h0_0 s5_147.toNat (Int.toNat_of_nonneg hk220.1).symm (idx_lt hk220) rfl ?_
    rintro p219 _ ⟨_, _, rfl, rfl, ⟨e219v1, rfl, e219h1⟩⟩ hp219
    refine S_v (r_field rfl underlying44 rfl zr40 (by decide)) rfl ?_
    have hp221 := hp219.add 1
    refine S_v (r_load1 rfl underlying40 rfl hp221 (hH.trans hL217.arg)) rfl ?_
    refine S_v (r_len rfl underlying40 e219h1) rfl ?_
    refine S_pz 1 rfl ?_
    refine W_if rfl (fun hc222 => ?_) (fun hc222 => ?_)
    ·replace h := Go.L.ite_p hc222 h
     refine W_skip ?_
     refine At_seq ?_
     refine W_seq ?_
     refine W_block ?_
     refine W_seqd (.q 0 (.q 1 (.q 2 (.q 3 (.q 4 (.q 5 (.q 6 (.q 7 (.q 8 (.q 9 (.tail 10))))))))))) mixed (by kernel_rfl) (fun w224 hx224 => ?_)
     have hL225 := hL217.call hx224
     refine D_pu 2 rfl ?_
     obtain ⟨hk227, h⟩ := Go.L.chk_some h
     refine D_index rfl rfl rfl underlying33 zr44 h0_0 s5_147.toNat (Int.toNat_of_nonneg hk227.1).symm (idx_lt hk227) rfl ?_
     rintro p226 _ ⟨_, _, rfl, rfl, ⟨e226v1, rfl, e226h1⟩⟩ hp226
     refine D_v (r_field rfl underlying44 rfl zr40 (by decide)) rfl rfl ?_
     have hp228 := hp226.add 1
     refine D_v (r_load1 rfl underlying40 rfl hp228 (hH.trans hL225.arg)) rfl rfl ?_
     refine D_pu 1 rfl ?_
     obtain ⟨hk230, h⟩ := Go.L.chk_some h
     refine D_index rfl rfl rfl underlying40 zr64 e226h1 s6_216.toNat (Int.toNat_of_nonneg hk230.1).symm (idx_lt hk230) rfl ?_
     rintro p229 _ ⟨_, _, rfl, rfl, rfl⟩ hp229
     refine D_v (r_loadN rfl underlying64 rfl zr64 hp229 (hH.trans hL225.arg)) rfl rfl ?_
     refine D_v (r_loadBN 0 rfl underlying64 rfl zr64 hL225 rfl) rfl rfl ?_
     refine D_v (r_eqA rfl rfl eqg64 (eq64 _ _ _ _ )) rfl rfl ?_
     refine D_tail (fun w231 hx231 => ?_)
     have hL232 := hL225.call hx231
     refine S_seqnil ?_
     refine W_if rfl (fun hc233 => ?_) (fun hc233 => ?_)
     ·replace h := Go.L.ite_p hc233 h
      refine W_pz 1 rfl ?_
      refine W_ret ?_
      refine At_block_ret ?_
      refine At_seq_ret ?_
      refine At_loop_ret ?_
      replace h := Go.L.Nxt.out h hm217
      iterate 2 refine At_block_ret ?_
      refine At_cut_ret ?_
      refine At_loop_ret ?_
      replace h := Go.L.Nxt.out h hm148
      refine At_block_ret ?_
      refine At_cut_ret ?_
      obtain rfl := Option.some.inj h
      refine At_body rfl rfl ?_
      exact ⟨hL232.ext, rfl⟩
     ·replace h := Go.L.ite_n hc233 h
      refine W_skip ?_
      refine At_block ?_
      refine At_seq ?_
      refine W_region ?_
      refine S_pu 1 rfl ?_
      obtain ⟨hk236, h⟩ := Go.L.chk_some h
      refine S_v (r_ar64 rfl rfl rfl hk236) rfl ?_
      refine S_pu 1 rfl ?_
      refine S_nil ?_
      have h := Go.L.Nxt.again h hm217
      refine At_round ((s6_216 + (1 : Int)), n217) (.cons rfl (.cons rfl (.cons rfl (.cons rfl (Sub.nil _))))) ⟨hL232, h⟩ (Nat.lt_succ_self _)
    ·replace h := Go.L.ite_n hc222 h
     refine W_exit ?_
     refine At_seq_exit ?_
     refine At_loop_exit ?_
     replace h := Go.L.Nxt.out h hm217
     refine At_exit ?_
     refine At_block ?_
     refine At_cut () (.cons rfl (.cons rfl (.cons rfl (Sub.nil _)))) ⟨hL217, h⟩
   ·rintro _ wr194 ⟨hL194, h⟩
    refine W_region ?_
    refine S_pu 1 rfl ?_
    obtain ⟨hk239, h⟩ := Go.L.chk_some h
    refine S_v (r_ar64 rfl rfl rfl hk239) rfl ?_
    refine S_pu 1 rfl ?_
    refine S_nil ?_
    have h := Go.L.Nxt.again h hm148
    refine At_round ((s5_147 + (1 : Int)), n148) (.cons rfl (.cons rfl (.cons rfl (Sub.nil _)))) ⟨hL194, h⟩ (Nat.lt_succ_self _)
  ·replace h := Go.L.ite_n hc150 h
   refine W_exit ?_
   refine At_seq_exit ?_
   refine At_loop_exit ?_
   replace h := Go.L.Nxt.out h hm148
   refine At_exit ?_
   refine At_cut () (Sub.nil _) ⟨hL148, h⟩
 ·rintro _ wr98 ⟨hL98, h⟩
  refine W_pz 1 rfl ?_
  refine W_ret ?_
  obtain rfl := Option.some.inj h
  refine At_body rfl rfl ?_
  exact ⟨hL98.ext, rfl⟩

noncomputable def ref4_WordsIndex_k4 (s10_536 : Int) (l777 : List Int) (l778 : List ((List UInt8) × (List (Int × Int)))) (s9_779 : Int) : Option (((List Int) × (List ((List UInt8) × (List (Int × Int)))) × Int × Int) ⊕ (Int × (List ((List UInt8) × (List (Int × Int)))) × Bool)) :=
 Go.L.chk (Go.L.I64 (s10_536 + (1 : Int))) (some (Sum.inl (l777, l778, s9_779, (s10_536 + (1 : Int)))))
noncomputable def ref4_WordsIndex_k10 (l533 : List Int) (l534 : List ((List UInt8) × (List (Int × Int)))) (l841 : List UInt8) (s10_536 : Int) (_c1107 : Int) (_c1108 : Int) (l1110 : List (Int × Int)) (s9_1111 : Int) : Option (((List Int) × (List ((List UInt8) × (List (Int × Int)))) × Int × Int) ⊕ (Int × (List ((List UInt8) × (List (Int × Int)))) × Bool)) :=
 Go.L.chk (Go.E.Cap 40 (l534.length + ([(l841, l1110)]).length)) (Option.bind (ref4_entryForm l841 l1110) (fun x1266 => Go.L.chk (Go.E.Cap 8 (l533.length + x1266.length)) ((ref4_WordsIndex_k4 s10_536) (l533 ++ x1266) (l534 ++ [(l841, l1110)]) s9_1111)))
noncomputable def ref4_WordsIndex_k13 (c1171 : Int) (l1174 : List (Int × Int)) (l534 : List ((List UInt8) × (List (Int × Int)))) (s17_1176 : Int) (s9_1175 : Int) (x1 : (List Int)) (c1217 : Int) : Option ((Int × Int × (List (Int × Int)) × Int × Int) ⊕ (((List Int) × (List ((List UInt8) × (List (Int × Int)))) × Int × Int) ⊕ (Int × (List ((List UInt8) × (List (Int × Int)))) × Bool))) :=
 Go.L.chk (0 ≤ s9_1175 ∧ s9_1175 < (x1.length : Int)) (Go.L.chk (Go.L.I64 (c1171 + x1.getD s9_1175.toNat default)) (Go.L.chk (Go.L.I64 ((c1171 + x1.getD s9_1175.toNat default) - (1 : Int))) (Go.L.chk (Go.L.I64 (s9_1175 + (1 : Int))) (Go.L.chk (0 ≤ (s9_1175 + (1 : Int)) ∧ (s9_1175 + (1 : Int)) < (x1.length : Int)) (Go.L.chk (Go.L.I64 (c1217 + x1.getD ((s9_1175 + (1 : Int)).toNat) default)) (if (x1.getD ((0 : Int).toNat) default - (1 : Int)) ≤ ((c1171 + x1.getD s9_1175.toNat default) - (1 : Int)) then Option.map Sum.inr (Option.map Sum.inr (some ((0 : Int), [], false))) else if (2048 : Int) ≤ (c1217 + x1.getD ((s9_1175 + (1 : Int)).toNat) default) then Option.map Sum.inr (Option.map Sum.inr (some ((0 : Int), [], false))) else Option.bind (ref4_taken l534 (((c1171 + x1.getD s9_1175.toNat default) - (1 : Int)), (c1217 + x1.getD ((s9_1175 + (1 : Int)).toNat) default))) (fun x1248 => if x1248 then Option.map Sum.inr (Option.map Sum.inr (some ((0 : Int), [], false))) else Go.L.chk (Go.E.Cap 16 (l1174.length + ([(((c1171 + x1.getD s9_1175.toNat default) - (1 : Int)), (c1217 + x1.getD ((s9_1175 + (1 : Int)).toNat) default))]).length)) (Go.L.chk (Go.L.I64 (s9_1175 + (2 : Int))) (Go.L.chk (Go.L.I64 (s17_1176 + (1 : Int))) (some (Sum.inl (((c1171 + x1.getD s9_1175.toNat default) - (1 : Int)), (c1217 + x1.getD ((s9_1175 + (1 : Int)).toNat) default), (l1174 ++ [(((c1171 + x1.getD s9_1175.toNat default) - (1 : Int)), (c1217 + x1.getD ((s9_1175 + (1 : Int)).toNat) default))]), (s9_1175 + (2 : Int)), (s17_1176 + (1 : Int))))))))))))))
noncomputable def ref4_WordsIndex_k12 (c1171 : Int) (c1172 : Int) (l1174 : List (Int × Int)) (l534 : List ((List UInt8) × (List (Int × Int)))) (s17_1176 : Int) (s9_1175 : Int) (x1 : (List Int)) : Option ((Int × Int × (List (Int × Int)) × Int × Int) ⊕ (((List Int) × (List ((List UInt8) × (List (Int × Int)))) × Int × Int) ⊕ (Int × (List ((List UInt8) × (List (Int × Int)))) × Bool))) :=
 Go.L.chk (0 ≤ s9_1175 ∧ s9_1175 < (x1.length : Int)) (if (1 : Int) < x1.getD s9_1175.toNat default then (ref4_WordsIndex_k13 c1171 l1174 l534 s17_1176 s9_1175 x1) (-1 : Int) else (ref4_WordsIndex_k13 c1171 l1174 l534 s17_1176 s9_1175 x1) c1172)
noncomputable def ref4_WordsIndex_bl11 (l533 : List Int) (l534 : List ((List UInt8) × (List (Int × Int)))) (l841 : List UInt8) (s10_536 : Int) (s9_535 : Int) (x1 : (List Int)) : Int × Int × (List (Int × Int)) × Int × Int → Option ((Int × Int × (List (Int × Int)) × Int × Int) ⊕ (((List Int) × (List ((List UInt8) × (List (Int × Int)))) × Int × Int) ⊕ (Int × (List ((List UInt8) × (List (Int × Int)))) × Bool))) := fun ⟨c1171, c1172, l1174, s9_1175, s17_1176⟩ =>
 if s17_1176 < x1.getD (((s9_535 + (1 : Int)) + x1.getD s9_535.toNat default).toNat) default then Go.L.chk (0 ≤ s9_1175 ∧ s9_1175 < (x1.length : Int)) (if (64 : Int) < x1.getD s9_1175.toNat default then Option.map Sum.inr (Option.map Sum.inr (some ((0 : Int), [], false))) else Go.L.chk (Go.L.I64 (s9_1175 + (1 : Int))) (Go.L.chk (0 ≤ (s9_1175 + (1 : Int)) ∧ (s9_1175 + (1 : Int)) < (x1.length : Int)) (if (2048 : Int) < x1.getD ((s9_1175 + (1 : Int)).toNat) default then Option.map Sum.inr (Option.map Sum.inr (some ((0 : Int), [], false))) else (ref4_WordsIndex_k12 c1171 c1172 l1174 l534 s17_1176 s9_1175 x1)))) else Option.map Sum.inr ((ref4_WordsIndex_k10 l533 l534 l841 s10_536) c1171 c1172 l1174 s9_1175)
noncomputable def ref4_WordsIndex_l11 (l533 : List Int) (l534 : List ((List UInt8) × (List (Int × Int)))) (l841 : List UInt8) (s10_536 : Int) (s9_535 : Int) (x1 : (List Int)) (s : Int × Int × (List (Int × Int)) × Int × Int) : Option (((List Int) × (List ((List UInt8) × (List (Int × Int)))) × Int × Int) ⊕ (Int × (List ((List UInt8) × (List (Int × Int)))) × Bool)) := Go.L.run (ref4_WordsIndex_bl11 l533 l534 l841 s10_536 s9_535 x1) s
noncomputable def ref4_WordsIndex_k9 (l533 : List Int) (l534 : List ((List UInt8) × (List (Int × Int)))) (l841 : List UInt8) (s10_536 : Int) (s9_535 : Int) (x1 : (List Int)) : Option (((List Int) × (List ((List UInt8) × (List (Int × Int)))) × Int × Int) ⊕ (Int × (List ((List UInt8) × (List (Int × Int)))) × Bool)) :=
 (ref4_WordsIndex_l11 l533 l534 l841 s10_536 s9_535 x1) ((0 : Int), (-1 : Int), ([] : List (Int × Int)), (((s9_535 + (1 : Int)) + x1.getD s9_535.toNat default) + (1 : Int)), (0 : Int))
noncomputable def ref4_WordsIndex_k8 (l533 : List Int) (l534 : List ((List UInt8) × (List (Int × Int)))) (l841 : List UInt8) (s10_536 : Int) (s9_535 : Int) (x1 : (List Int)) : Option (((List Int) × (List ((List UInt8) × (List (Int × Int)))) × Int × Int) ⊕ (Int × (List ((List UInt8) × (List (Int × Int)))) × Bool)) :=
 Go.L.chk (Go.L.I64 (s9_535 + (1 : Int))) (Go.L.chk (0 ≤ s9_535 ∧ s9_535 < (x1.length : Int)) (Go.L.chk (Go.L.I64 ((s9_535 + (1 : Int)) + x1.getD s9_535.toNat default)) (Go.L.chk (0 ≤ ((s9_535 + (1 : Int)) + x1.getD s9_535.toNat default) ∧ ((s9_535 + (1 : Int)) + x1.getD s9_535.toNat default) < (x1.length : Int)) (Go.L.chk (Go.L.I64 (((s9_535 + (1 : Int)) + x1.getD s9_535.toNat default) + (1 : Int))) (if (x1.length : Int) < x1.getD (((s9_535 + (1 : Int)) + x1.getD s9_535.toNat default).toNat) default then Option.map Sum.inr (some ((0 : Int), [], false)) else Go.L.chk (Go.L.I64 ((2 : Int) * x1.getD (((s9_535 + (1 : Int)) + x1.getD s9_535.toNat default).toNat) default)) (Go.L.chk (Go.L.I64 ((((s9_535 + (1 : Int)) + x1.getD s9_535.toNat default) + (1 : Int)) + ((2 : Int) * x1.getD (((s9_535 + (1 : Int)) + x1.getD s9_535.toNat default).toNat) default))) (if (x1.length : Int) < ((((s9_535 + (1 : Int)) + x1.getD s9_535.toNat default) + (1 : Int)) + ((2 : Int) * x1.getD (((s9_535 + (1 : Int)) + x1.getD s9_535.toNat default).toNat) default)) then Option.map Sum.inr (some ((0 : Int), [], false)) else (ref4_WordsIndex_k9 l533 l534 l841 s10_536 s9_535 x1))))))))
noncomputable def ref4_WordsIndex_k6 (l533 : List Int) (l534 : List ((List UInt8) × (List (Int × Int)))) (s10_536 : Int) (s9_535 : Int) (x1 : (List Int)) (l841 : List UInt8) : Option (((List Int) × (List ((List UInt8) × (List (Int × Int)))) × Int × Int) ⊕ (Int × (List ((List UInt8) × (List (Int × Int)))) × Bool)) :=
 Option.bind (ref4_Words l841) (fun x889 => if (x889.length : Int) = (1 : Int) then Go.L.chk (0 ≤ (0 : Int) ∧ (0 : Int) < (x889.length : Int)) (if (x889.getD ((0 : Int).toNat) default).1 = l841 then if (0 : Int) < (l534.length : Int) then Go.L.chk (Go.L.I64 ((l534.length : Int) - (1 : Int))) (Go.L.chk (0 ≤ ((l534.length : Int) - (1 : Int)) ∧ ((l534.length : Int) - (1 : Int)) < (l534.length : Int)) (if !(Op.bytesLess ((l534.getD (((l534.length : Int) - (1 : Int)).toNat) default).1) l841) then Option.map Sum.inr (some ((0 : Int), [], false)) else (ref4_WordsIndex_k8 l533 l534 l841 s10_536 s9_535 x1))) else (ref4_WordsIndex_k8 l533 l534 l841 s10_536 s9_535 x1) else Option.map Sum.inr (some ((0 : Int), [], false))) else Option.map Sum.inr (some ((0 : Int), [], false)))
noncomputable def ref4_WordsIndex_bl7 (l533 : List Int) (l534 : List ((List UInt8) × (List (Int × Int)))) (s10_536 : Int) (s9_535 : Int) (x1 : (List Int)) : (List UInt8) × Int → Option (((List UInt8) × Int) ⊕ (((List Int) × (List ((List UInt8) × (List (Int × Int)))) × Int × Int) ⊕ (Int × (List ((List UInt8) × (List (Int × Int)))) × Bool))) := fun ⟨l864, s12_865⟩ =>
 Go.L.chk (0 ≤ s9_535 ∧ s9_535 < (x1.length : Int)) (Go.L.chk (Go.L.I64 (s9_535 + x1.getD s9_535.toNat default)) (if s12_865 ≤ (s9_535 + x1.getD s9_535.toNat default) then Go.L.chk (0 ≤ s12_865 ∧ s12_865 < (x1.length : Int)) (if (256 : Int) < x1.getD s12_865.toNat default then Option.map Sum.inr (Option.map Sum.inr (some ((0 : Int), [], false))) else Go.L.chk (0 ≤ s12_865 ∧ s12_865 < (x1.length : Int)) (Go.L.chk (Go.L.I64 (x1.getD s12_865.toNat default - (1 : Int))) (Go.L.chk (Go.E.Cap 1 (l864.length + ([(Go.L.u8 (x1.getD s12_865.toNat default - (1 : Int)))]).length)) (Go.L.chk (Go.L.I64 (s12_865 + (1 : Int))) (some (Sum.inl ((l864 ++ [(Go.L.u8 (x1.getD s12_865.toNat default - (1 : Int)))]), (s12_865 + (1 : Int))))))))) else Option.map Sum.inr ((ref4_WordsIndex_k6 l533 l534 s10_536 s9_535 x1) l864)))
noncomputable def ref4_WordsIndex_l7 (l533 : List Int) (l534 : List ((List UInt8) × (List (Int × Int)))) (s10_536 : Int) (s9_535 : Int) (x1 : (List Int)) (s : (List UInt8) × Int) : Option (((List Int) × (List ((List UInt8) × (List (Int × Int)))) × Int × Int) ⊕ (Int × (List ((List UInt8) × (List (Int × Int)))) × Bool)) := Go.L.run (ref4_WordsIndex_bl7 l533 l534 s10_536 s9_535 x1) s
noncomputable def ref4_WordsIndex_k5 (l533 : List Int) (l534 : List ((List UInt8) × (List (Int × Int)))) (s10_536 : Int) (s9_535 : Int) (x1 : (List Int)) : Option (((List Int) × (List ((List UInt8) × (List (Int × Int)))) × Int × Int) ⊕ (Int × (List ((List UInt8) × (List (Int × Int)))) × Bool)) :=
 Go.L.chk (Go.L.I64 (s9_535 + (1 : Int))) ((ref4_WordsIndex_l7 l533 l534 s10_536 s9_535 x1) (([] : List UInt8), (s9_535 + (1 : Int))))
noncomputable def ref4_WordsIndex_k2 (a0 : List UInt8) (x1 : (List Int)) (l285 : List Int) (l286 : List ((List UInt8) × (List (Int × Int)))) : Option (Int × (List ((List UInt8) × (List (Int × Int)))) × Bool) :=
 Option.bind (ref4_gammas l285) (fun x1279 => Option.bind (ref3_SameBytes x1279 a0) (fun x1281 => some ((x1.getD ((0 : Int).toNat) default - (1 : Int)), l286, x1281)))
noncomputable def ref4_WordsIndex_bl3 (a0 : List UInt8) (x1 : (List Int)) : (List Int) × (List ((List UInt8) × (List (Int × Int)))) × Int × Int → Option (((List Int) × (List ((List UInt8) × (List (Int × Int)))) × Int × Int) ⊕ (Int × (List ((List UInt8) × (List (Int × Int)))) × Bool)) := fun ⟨l533, l534, s9_535, s10_536⟩ =>
 Go.L.chk (0 ≤ (1 : Int) ∧ (1 : Int) < (x1.length : Int)) (if s10_536 < x1.getD ((1 : Int).toNat) default then (if (x1.length : Int) ≤ s9_535 then Option.map Sum.inr (some ((0 : Int), [], false)) else Go.L.chk (Go.L.I64 (s9_535 + (1 : Int))) (Go.L.chk (0 ≤ s9_535 ∧ s9_535 < (x1.length : Int)) (Go.L.chk (Go.L.I64 ((s9_535 + (1 : Int)) + x1.getD s9_535.toNat default)) (if (x1.length : Int) ≤ ((s9_535 + (1 : Int)) + x1.getD s9_535.toNat default) then Option.map Sum.inr (some ((0 : Int), [], false)) else Go.L.chk (0 ≤ s9_535 ∧ s9_535 < (x1.length : Int)) (if (2048 : Int) < x1.getD s9_535.toNat default then Option.map Sum.inr (some ((0 : Int), [], false)) else (ref4_WordsIndex_k5 l533 l534 s10_536 s9_535 x1)))))) else Option.map Sum.inr ((ref4_WordsIndex_k2 a0 x1) l533 l534))
noncomputable def ref4_WordsIndex_l3 (a0 : List UInt8) (x1 : (List Int)) (s : (List Int) × (List ((List UInt8) × (List (Int × Int)))) × Int × Int) : Option (Int × (List ((List UInt8) × (List (Int × Int)))) × Bool) := Go.L.run (ref4_WordsIndex_bl3 a0 x1) s
noncomputable def ref4_WordsIndex_k1 (a0 : List UInt8) (x1 : (List Int)) : Option (Int × (List ((List UInt8) × (List (Int × Int)))) × Bool) :=
 Go.L.chk (0 ≤ (0 : Int) ∧ (0 : Int) < (x1.length : Int)) (Go.L.chk (Go.L.I64 (x1.getD ((0 : Int).toNat) default - (1 : Int))) (Go.L.chk (0 ≤ (0 : Int) ∧ (0 : Int) < (x1.length : Int)) (Go.L.chk (0 ≤ (1 : Int) ∧ (1 : Int) < (x1.length : Int)) ((ref4_WordsIndex_l3 a0 x1) ([x1.getD ((0 : Int).toNat) default, x1.getD ((1 : Int).toNat) default], ([] : List ((List UInt8) × (List (Int × Int)))), (2 : Int), (1 : Int))))))
noncomputable def ref4_WordsIndex (a0 : List UInt8) : Option (Int × (List ((List UInt8) × (List (Int × Int)))) × Bool) :=
 Option.bind (ref4_numbers a0) (fun x1 => if (x1.length : Int) < (2 : Int) then some ((0 : Int), [], false) else Go.L.chk (0 ≤ (0 : Int) ∧ (0 : Int) < (x1.length : Int)) (if (65 : Int) < x1.getD ((0 : Int).toNat) default then some ((0 : Int), [], false) else (ref4_WordsIndex_k1 a0 x1)))

theorem ref4_WordsIndex_ok (w : World) (H : PH) (hH : Le H (hp w)) {a0 : List UInt8} {v0_0 : Value} (h0_0 : Vec .byte H v0_0 (a0)) {r : Int × (List ((List UInt8) × (List (Int × Int)))) × Bool} (h : ref4_WordsIndex a0 = some r) :
  Ok Tryz.prog 9 [v0_0] w (fun v w' => Ext w w' ∧ ∃ u0, v = .tuple #[.int .i64 r.1, u0, .bool r.2.2] ∧ OwnH 44 (.pair .st (.vec (.pair (.int .i64) (.int .i64)))) H w w' u0 (r.2.1)) := by
 refine Ok_enter (n := 237) [(0, v0_0)] func9 rfl rfl rfl rfl rfl ?_
 have hL := Lcl.start w
 refine W_pz 3 rfl ?_
 refine W_p 1 rfl ?_
 obtain ⟨x1, hb1, h⟩ := Go.L.bind_some h
 refine S_callL rfl rfl hL (ref4_numbers_ok _ _ (gz_le hH hL) (h0_0.mono (gz_left hH)) hb1) ?_
 rintro u2_0 w2 ⟨_, rfl, hR2_0⟩ hx2 hL2 hle2
 have hv2_0 := hR2_0.vecG hH hL hx2
 refine S_pz 1 rfl ?_
 refine W_cut (σ := Unit) (fun (_ : Unit) => [(0, v0_0), (5, u2_0)]) (fun (_ : Unit) wr => InO w [] wr fun Oz => Vec (.int .i64) (gz H w wr Oz) (u2_0) (x1) ∧ (ref4_WordsIndex_k1 a0 x1) = some r) ?_ ?_
 ·refine W_p 1 rfl ?_
  refine S_v (r_len rfl underlying71 hv2_0) rfl ?_
  refine S_pu 2 rfl ?_
  refine S_split (s := 23) rfl (fun hg14 => ?_) (fun hg14 => ?_)
  ·replace h := Go.L.ite_p (of_decide_eq_true hg14) h
   iterate 4 refine S_unwanted rfl rfl hg14 rfl ?_
   refine S_v (r_pickT rfl hg14 rfl) rfl ?_
   refine S_seqnil ?_
   refine W_true rfl ?_
   refine W_pz 3 rfl ?_
   refine W_ret ?_
   refine At_cut_ret ?_
   obtain rfl := Option.some.inj h
   refine At_body rfl rfl ?_
   exact ⟨hL2.ext, _, rfl, OwnH.nil⟩
  ·replace h := Go.L.ite_n (of_decide_eq_false hg14) h
   refine S_guarded rfl rfl hg14 ?_
   refine S_v (RunsAt_pu rfl) rfl ?_
   refine S_guarded rfl rfl hg14 ?_
   obtain ⟨hk18, h⟩ := Go.L.chk_some h
   refine S_index rfl rfl underlying71 zr3 hv2_0 ((0 : Int).toNat) (Int.toNat_of_nonneg hk18.1).symm (idx_lt hk18) rfl ?_
   rintro p17 _ rfl hp17
   refine S_guarded rfl rfl hg14 ?_
   refine S_v (r_load1 rfl underlying3 rfl hp17 (gz_le hH hL2)) rfl ?_
   refine S_guarded rfl rfl hg14 ?_
   refine S_v (RunsAt_pu rfl) rfl ?_
   refine S_v (r_pickF rfl hg14 rfl) rfl ?_
   refine S_seqnil ?_
   refine W_if rfl (fun hc19 => ?_) (fun hc19 => ?_)
   ·replace h := Go.L.ite_p hc19 h
    refine W_pz 3 rfl ?_
    refine W_ret ?_
    refine At_cut_ret ?_
    obtain rfl := Option.some.inj h
    refine At_body rfl rfl ?_
    exact ⟨hL2.ext, _, rfl, OwnH.nil⟩
   ·replace h := Go.L.ite_n hc19 h
    refine W_skip ?_
    refine At_cut () (.cons rfl (.cons rfl (Sub.nil _))) ⟨hL2, hv2_0, h⟩
 ·rintro _ wr12 ⟨hL12, hf12_0, h⟩
  refine W_p 1 rfl ?_
  obtain ⟨hk24, h⟩ := Go.L.chk_some h
  refine S_index rfl rfl underlying71 zr3 hf12_0 ((0 : Int).toNat) (Int.toNat_of_nonneg hk24.1).symm (idx_lt hk24) rfl ?_
  rintro p23 _ rfl hp23
  refine S_v (r_load1 rfl underlying3 rfl hp23 (gz_le hH hL12)) rfl ?_
  obtain ⟨hk25, h⟩ := Go.L.chk_some h
  refine S_v (r_ar64 rfl rfl rfl hk25) rfl ?_
  refine S_pz 1 rfl ?_
  refine W_p 1 rfl ?_
  obtain ⟨hL26, hle26, he26⟩ := row_nilE (.pair .st (.vec (.pair (.int .i64) (.int .i64)))) H 44 hL12
  replace hf12_0 := hf12_0.mono (gz_mono hH hle26)
  refine S_seqnil ?_
  refine W_seqd (.q 0 (.q 1 (.q 2 (.q 3 (.q 4 (.q 5 (.h 6 (.q 7 (.tail 8))))))))) mixed (by kernel_rfl) (fun w27 hx27 => ?_)
  have hL28 := hL26.call hx27
  have hle28 := fz_ext hL26 hx27
  replace hf12_0 := hf12_0.mono (gz_mono hH hle28)
  replace he26 := he26.mono (gz_mono hH hle28)
  refine D_pu 1 rfl ?_
  obtain ⟨hk30, h⟩ := Go.L.chk_some h
  refine D_index rfl rfl rfl underlying71 zr3 hf12_0 ((0 : Int).toNat) (Int.toNat_of_nonneg hk30.1).symm (idx_lt hk30) rfl ?_
  rintro p29 _ rfl hp29
  refine D_v (r_load1 rfl underlying3 rfl hp29 (gz_le hH hL28)) rfl rfl ?_
  refine D_pu 1 rfl ?_
  obtain ⟨hk32, h⟩ := Go.L.chk_some h
  refine D_index rfl rfl rfl underlying71 zr3 hf12_0 ((1 : Int).toNat) (Int.toNat_of_nonneg hk32.1).symm (idx_lt hk32) rfl ?_
  rintro p31 _ rfl hp31
  refine D_v (r_load1 rfl underlying3 rfl hp31 (gz_le hH hL28)) rfl rfl ?_
  refine D_litO (r := (.int .i64)) (l := [x1.getD ((0 : Int).toNat) default, x1.getD ((1 : Int).toNat) default]) rfl rfl (fun _ => bsl71_2 _ _ _) rfl (show 2 ≤ 9223372036854775807 by decide) hH hL28 (.c1 rfl (.c1 rfl .nil)) ?_
  intro v33 w33 xs33 hL33 hle33 he33
  replace hf12_0 := hf12_0.mono (gz_mono hH hle33)
  replace he26 := he26.mono (gz_mono hH hle33)
  replace hp29 := hp29.mono (gz_mono hH hle33)
  replace hp31 := hp31.mono (gz_mono hH hle33)
  refine D_pu 1 rfl ?_
  refine D_tail (fun w34 hx34 => ?_)
  have hL35 := hL33.call hx34
  have hle35 := fz_ext hL33 hx34
  replace hf12_0 := hf12_0.mono (gz_mono hH hle35)
  replace he26 := he26.mono (gz_mono hH hle35)
  replace hp29 := hp29.mono (gz_mono hH hle35)
  replace hp31 := hp31.mono (gz_mono hH hle35)
  replace he33 := he33.mono (gz_mono hH hle35)
  refine S_seqnil ?_
  have hG36 := hL35.rG H
  refine W_pz 1 rfl ?_
  refine W_cut (σ := (List Int) × (List ((List UInt8) × (List (Int × Int)))) × Value × (List Value) × Value × (List Value)) (fun ⟨l285, l286, vl285, xsl285, vl286, xsl286⟩ => [(0, v0_0), (6, .int .i64 (x1.getD ((0 : Int).toNat) default - (1 : Int))), (7, vl286), (8, vl285)]) (fun ⟨l285, l286, vl285, xsl285, vl286, xsl286⟩ wr => InO w [.row (vl285) 3 1 (l285).length (xsl285), .row (vl286) 44 2 (l286).length (xsl286)] wr fun Oz => Elems (.int .i64) (gz H w wr Oz) (l285) (xsl285) ∧ Elems (.pair .st (.vec (.pair (.int .i64) (.int .i64)))) (gz H w wr Oz) (l286) (xsl286) ∧ (ref4_WordsIndex_k2 a0 x1) l285 l286 = some r) ?_ ?_
  ·refine W_pz 1 rfl ?_
   refine W_block ?_
   obtain ⟨n537, h⟩ := Go.L.run_some h
   refine W_loop (σ := (List Int) × (List ((List UInt8) × (List (Int × Int)))) × Int × Int × Value × (List Value) × Value × (List Value) × Nat) (fun ⟨l533, l534, s9_535, s10_536, vl533, xsl533, vl534, xsl534, n⟩ => [(0, v0_0), (5, u2_0), (6, .int .i64 (x1.getD ((0 : Int).toNat) default - (1 : Int))), (7, vl534), (8, vl533), (9, .int .i64 s9_535), (10, .int .i64 s10_536)]) (fun ⟨l533, l534, s9_535, s10_536, vl533, xsl533, vl534, xsl534, n⟩ wr => InO w [.row (vl533) 3 1 (l533).length (xsl533), .row (vl534) 44 2 (l534).length (xsl534)] wr fun Oz => Vec (.int .i64) (gz H w wr Oz) (u2_0) (x1) ∧ Elems (.int .i64) (gz H w wr Oz) (l533) (xsl533) ∧ Elems (.pair .st (.vec (.pair (.int .i64) (.int .i64)))) (gz H w wr Oz) (l534) (xsl534) ∧ Go.L.itr (ref4_WordsIndex_bl3 a0 x1) n (l533, l534, s9_535, s10_536) = some r) (fun ⟨l533, l534, s9_535, s10_536, vl533, xsl533, vl534, xsl534, n⟩ => n) ([x1.getD ((0 : Int).toNat) default, x1.getD ((1 : Int).toNat) default], ([] : List ((List UInt8) × (List (Int × Int)))), (2 : Int), (1 : Int), v33, xs33, .slice none 0 0, [], n537) (.cons rfl (.cons rfl (.cons rfl (.cons rfl (.cons rfl (.cons rfl (.cons rfl (Sub.nil _)))))))) ⟨hL35, (hf12_0.mono hG36), (he33.mono hG36), (he26.mono hG36), h⟩ ?_
   rintro ⟨l533, l534, s9_535, s10_536, vl533, xsl533, vl534, xsl534, nn537⟩ wr537 ⟨hL537, hf537_0, hel533, hel534, h⟩
   obtain ⟨n537, e537, rfl, h, hm537⟩ := Go.L.itr_some h
   refine W_seq ?_
   have hG539 := hL537.rG H
   refine W_p 2 rfl ?_
   obtain ⟨hk541, h⟩ := Go.L.chk_some h
   refine S_index rfl rfl underlying71 zr3 (hf537_0.mono hG539) ((1 : Int).toNat) (Int.toNat_of_nonneg hk541.1).symm (idx_lt hk541) rfl ?_
   rintro p540 _ rfl hp540
   refine S_v (r_load1 rfl underlying3 rfl hp540 (gz_le hH hL537)) rfl ?_
   refine S_pz 1 rfl ?_
   refine W_if rfl (fun hc542 => ?_) (fun hc542 => ?_)
   ·replace h := Go.L.ite_p hc542 h
    refine W_skip ?_
    refine At_seq ?_
    refine W_cut (σ := (List Int) × (List ((List UInt8) × (List (Int × Int)))) × Int × Value × (List Value) × Value × (List Value)) (fun ⟨l777, l778, s9_779, vl777, xsl777, vl778, xsl778⟩ => [(0, v0_0), (5, u2_0), (6, .int .i64 (x1.getD ((0 : Int).toNat) default - (1 : Int))), (7, vl778), (8, vl777), (9, .int .i64 s9_779), (10, .int .i64 s10_536)]) (fun ⟨l777, l778, s9_779, vl777, xsl777, vl778, xsl778⟩ wr => InO w [.row (vl777) 3 1 (l777).length (xsl777), .row (vl778) 44 2 (l778).length (xsl778)] wr fun Oz => Vec (.int .i64) (gz H w wr Oz) (u2_0) (x1) ∧ Elems (.int .i64) (gz H w wr Oz) (l777) (xsl777) ∧ Elems (.pair .st (.vec (.pair (.int .i64) (.int .i64)))) (gz H w wr Oz) (l778) (xsl778) ∧ (ref4_WordsIndex_k4 s10_536) l777 l778 s9_779 = some e537) ?_ ?_
    ·refine W_block ?_
     refine W_cut (σ := Unit) (fun (_ : Unit) => [(0, v0_0), (5, u2_0), (6, .int .i64 (x1.getD ((0 : Int).toNat) default - (1 : Int))), (7, vl534), (8, vl533), (9, .int .i64 s9_535), (10, .int .i64 s10_536)]) (fun (_ : Unit) wr => InO w [.row (vl533) 3 1 (l533).length (xsl533), .row (vl534) 44 2 (l534).length (xsl534)] wr fun Oz => Vec (.int .i64) (gz H w wr Oz) (u2_0) (x1) ∧ Elems (.int .i64) (gz H w wr Oz) (l533) (xsl533) ∧ Elems (.pair .st (.vec (.pair (.int .i64) (.int .i64)))) (gz H w wr Oz) (l534) (xsl534) ∧ (ref4_WordsIndex_k5 l533 l534 s10_536 s9_535 x1) = some e537) ?_ ?_
     ·refine W_p 2 rfl ?_
      refine S_v (r_len rfl underlying71 (hf537_0.mono hG539)) rfl ?_
      refine S_pu 2 rfl ?_
      refine S_split (s := 51) rfl (fun hg800 => ?_) (fun hg800 => ?_)
      ·replace h := Go.L.ite_p (of_decide_eq_true hg800) h
       iterate 10 refine S_unwanted rfl rfl hg800 rfl ?_
       refine S_v (r_pickT rfl hg800 rfl) rfl ?_
       refine S_pu 1 rfl ?_
       iterate 5 refine S_unwanted rfl rfl rfl rfl ?_
       refine S_v (r_pickT rfl rfl rfl) rfl ?_
       refine S_seqnil ?_
       refine W_true rfl ?_
       refine W_pz 3 rfl ?_
       refine W_ret ?_
       refine At_cut_ret ?_
       refine At_block_ret ?_
       refine At_cut_ret ?_
       refine At_loop_ret ?_
       replace h := Go.L.Nxt.out h hm537
       refine At_block_ret ?_
       refine At_cut_ret ?_
       obtain rfl := Option.some.inj h
       refine At_body rfl rfl ?_
       exact ⟨hL537.ext, _, rfl, OwnH.nil⟩
      ·replace h := Go.L.ite_n (of_decide_eq_false hg800) h
       refine S_guarded rfl rfl hg800 ?_
       refine S_v (RunsAt_pu rfl) rfl ?_
       refine S_guarded rfl rfl hg800 ?_
       obtain ⟨hk803, h⟩ := Go.L.chk_some h
       refine S_v (r_ar64 rfl rfl rfl hk803) rfl ?_
       refine S_guarded rfl rfl hg800 ?_
       refine S_v (RunsAt_pu rfl) rfl ?_
       refine S_guarded rfl rfl hg800 ?_
       refine S_v (RunsAt_pu rfl) rfl ?_
       refine S_guarded rfl rfl hg800 ?_
       obtain ⟨hk805, h⟩ := Go.L.chk_some h
       refine S_index rfl rfl underlying71 zr3 (hf537_0.mono hG539) s9_535.toNat (Int.toNat_of_nonneg hk805.1).symm (idx_lt hk805) rfl ?_
       rintro p804 _ rfl hp804
       refine S_guarded rfl rfl hg800 ?_
       refine S_v (r_load1 rfl underlying3 rfl hp804 (gz_le hH hL537)) rfl ?_
       refine S_guarded rfl rfl hg800 ?_
       obtain ⟨hk806, h⟩ := Go.L.chk_some h
       refine S_v (r_ar64 rfl rfl rfl hk806) rfl ?_
       refine S_guarded rfl rfl hg800 ?_
       refine S_v (RunsAt_pu rfl) rfl ?_
       refine S_guarded rfl rfl hg800 ?_
       refine S_v (r_len rfl underlying71 (hf537_0.mono hG539)) rfl ?_
       refine S_guarded rfl rfl hg800 ?_
       refine S_v (RunsAt_pu rfl) rfl ?_
       refine S_v (r_pickF rfl hg800 rfl) rfl ?_
       refine S_pu 1 rfl ?_
       refine S_split (s := 63) rfl (fun hg807 => ?_) (fun hg807 => ?_)
       ·replace h := Go.L.ite_p (of_decide_eq_true hg807) h
        iterate 5 refine S_unwanted rfl rfl hg807 rfl ?_
        refine S_v (r_pickT rfl hg807 rfl) rfl ?_
        refine S_seqnil ?_
        refine W_true rfl ?_
        refine W_pz 3 rfl ?_
        refine W_ret ?_
        refine At_cut_ret ?_
        refine At_block_ret ?_
        refine At_cut_ret ?_
        refine At_loop_ret ?_
        replace h := Go.L.Nxt.out h hm537
        refine At_block_ret ?_
        refine At_cut_ret ?_
        obtain rfl := Option.some.inj h
        refine At_body rfl rfl ?_
        exact ⟨hL537.ext, _, rfl, OwnH.nil⟩
       ·replace h := Go.L.ite_n (of_decide_eq_false hg807) h
        refine S_guarded rfl rfl hg807 ?_
        refine S_v (RunsAt_pu rfl) rfl ?_
        refine S_guarded rfl rfl hg807 ?_
        refine S_v (RunsAt_pu rfl) rfl ?_
        refine S_guarded rfl rfl hg807 ?_
        obtain ⟨hk811, h⟩ := Go.L.chk_some h
        refine S_index rfl rfl underlying71 zr3 (hf537_0.mono hG539) s9_535.toNat (Int.toNat_of_nonneg hk811.1).symm (idx_lt hk811) rfl ?_
        rintro p810 _ rfl hp810
        refine S_guarded rfl rfl hg807 ?_
        refine S_v (r_load1 rfl underlying3 rfl hp810 (gz_le hH hL537)) rfl ?_
        refine S_guarded rfl rfl hg807 ?_
        refine S_v (RunsAt_pu rfl) rfl ?_
        refine S_v (r_pickF rfl hg807 rfl) rfl ?_
        refine S_seqnil ?_
        refine W_if rfl (fun hc812 => ?_) (fun hc812 => ?_)
        ·replace h := Go.L.ite_p hc812 h
         refine W_pz 3 rfl ?_
         refine W_ret ?_
         refine At_cut_ret ?_
         refine At_block_ret ?_
         refine At_cut_ret ?_
         refine At_loop_ret ?_
         replace h := Go.L.Nxt.out h hm537
         refine At_block_ret ?_
         refine At_cut_ret ?_
         obtain rfl := Option.some.inj h
         refine At_body rfl rfl ?_
         exact ⟨hL537.ext, _, rfl, OwnH.nil⟩
        ·replace h := Go.L.ite_n hc812 h
         refine W_skip ?_
         refine At_cut () (.cons rfl (.cons rfl (.cons rfl (.cons rfl (.cons rfl (.cons rfl (.cons rfl (Sub.nil _)))))))) ⟨hL537, (hf537_0.mono hG539), (hel533.mono hG539), (hel534.mono hG539), h⟩
     ·rintro _ wr798 ⟨hL798, hf798_0, he798_r33, he798_r26, h⟩
      have hG816 := hL798.rG H
      refine W_p 1 rfl ?_
      obtain ⟨hL817, hle817, he817⟩ := row_nilE .byte H 5 hL798
      replace hG816 := hG816.trans (gz_mono hH hle817)
      refine S_seqnil ?_
      refine W_cut (σ := (List UInt8) × Value × (List Value)) (fun ⟨l841, vl841, xsl841⟩ => [(0, v0_0), (5, u2_0), (6, .int .i64 (x1.getD ((0 : Int).toNat) default - (1 : Int))), (7, vl534), (8, vl533), (9, .int .i64 s9_535), (10, .int .i64 s10_536), (11, vl841)]) (fun ⟨l841, vl841, xsl841⟩ wr => InO w [.row (vl841) 5 1 (l841).length (xsl841), .row (vl533) 3 1 (l533).length (xsl533), .row (vl534) 44 2 (l534).length (xsl534)] wr fun Oz => Vec (.int .i64) (gz H w wr Oz) (u2_0) (x1) ∧ Elems .byte (gz H w wr Oz) (l841) (xsl841) ∧ Elems (.int .i64) (gz H w wr Oz) (l533) (xsl533) ∧ Elems (.pair .st (.vec (.pair (.int .i64) (.int .i64)))) (gz H w wr Oz) (l534) (xsl534) ∧ (ref4_WordsIndex_k6 l533 l534 s10_536 s9_535 x1) l841 = some e537) ?_ ?_
      ·refine W_p 1 rfl ?_
       obtain ⟨hk844, h⟩ := Go.L.chk_some h
       refine S_v (r_ar64 rfl rfl rfl hk844) rfl ?_
       refine S_pz 1 rfl ?_
       refine W_block ?_
       obtain ⟨n866, h⟩ := Go.L.run_some h
       refine W_loop (σ := (List UInt8) × Int × Value × (List Value) × Nat) (fun ⟨l864, s12_865, vl864, xsl864, n⟩ => [(0, v0_0), (5, u2_0), (6, .int .i64 (x1.getD ((0 : Int).toNat) default - (1 : Int))), (7, vl534), (8, vl533), (9, .int .i64 s9_535), (10, .int .i64 s10_536), (11, vl864), (12, .int .i64 s12_865)]) (fun ⟨l864, s12_865, vl864, xsl864, n⟩ wr => InO w [.row (vl864) 5 1 (l864).length (xsl864), .row (vl533) 3 1 (l533).length (xsl533), .row (vl534) 44 2 (l534).length (xsl534)] wr fun Oz => Vec (.int .i64) (gz H w wr Oz) (u2_0) (x1) ∧ Elems .byte (gz H w wr Oz) (l864) (xsl864) ∧ Elems (.int .i64) (gz H w wr Oz) (l533) (xsl533) ∧ Elems (.pair .st (.vec (.pair (.int .i64) (.int .i64)))) (gz H w wr Oz) (l534) (xsl534) ∧ Go.L.itr (ref4_WordsIndex_bl7 l533 l534 s10_536 s9_535 x1) n (l864, s12_865) = some e537) (fun ⟨l864, s12_865, vl864, xsl864, n⟩ => n) (([] : List UInt8), (s9_535 + (1 : Int)), .slice none 0 0, [], n866) (.cons rfl (.cons rfl (.cons rfl (.cons rfl (.cons rfl (.cons rfl (.cons rfl (.cons rfl (.cons rfl (Sub.nil _)))))))))) ⟨hL817, (hf798_0.mono hG816), he817, (he798_r33.mono hG816), (he798_r26.mono hG816), h⟩ ?_
       rintro ⟨l864, s12_865, vl864, xsl864, nn866⟩ wr866 ⟨hL866, hf866_0, hel864, he866_r33, he866_r26, h⟩
       obtain ⟨n866, e866, rfl, h, hm866⟩ := Go.L.itr_some h
       refine W_seq ?_
       have hG868 := hL866.rG H
       refine W_p 4 rfl ?_
       obtain ⟨hk870, h⟩ := Go.L.chk_some h
       refine S_index rfl rfl underlying71 zr3 (hf866_0.mono hG868) s9_535.toNat (Int.toNat_of_nonneg hk870.1).symm (idx_lt hk870) rfl ?_
       rintro p869 _ rfl hp869
       refine S_v (r_load1 rfl underlying3 rfl hp869 (gz_le hH hL866)) rfl ?_
       obtain ⟨hk871, h⟩ := Go.L.chk_some h
       refine S_v (r_ar64 rfl rfl rfl hk871) rfl ?_
       refine S_pz 1 rfl ?_
       refine W_if rfl (fun hc872 => ?_) (fun hc872 => ?_)
       ·replace h := Go.L.ite_p hc872 h
        refine W_skip ?_
        refine At_seq ?_
        refine W_seq ?_
        refine W_block ?_
        refine W_seq ?_
        refine W_p 2 rfl ?_
        obtain ⟨hk875, h⟩ := Go.L.chk_some h
        refine S_index rfl rfl underlying71 zr3 (hf866_0.mono hG868) s12_865.toNat (Int.toNat_of_nonneg hk875.1).symm (idx_lt hk875) rfl ?_
        rintro p874 _ rfl hp874
        refine S_v (r_load1 rfl underlying3 rfl hp874 (gz_le hH hL866)) rfl ?_
        refine S_pz 1 rfl ?_
        refine W_if rfl (fun hc876 => ?_) (fun hc876 => ?_)
        ·replace h := Go.L.ite_p hc876 h
         refine W_pz 3 rfl ?_
         refine W_ret ?_
         refine At_seq_ret ?_
         refine At_block_ret ?_
         refine At_seq_ret ?_
         refine At_loop_ret ?_
         replace h := Go.L.Nxt.out h hm866
         refine At_block_ret ?_
         refine At_cut_ret ?_
         refine At_block_ret ?_
         refine At_cut_ret ?_
         refine At_loop_ret ?_
         replace h := Go.L.Nxt.out h hm537
         refine At_block_ret ?_
         refine At_cut_ret ?_
         obtain rfl := Option.some.inj h
         refine At_body rfl rfl ?_
         exact ⟨hL866.ext, _, rfl, OwnH.nil⟩
        ·replace h := Go.L.ite_n hc876 h
         refine W_skip ?_
         refine At_seq ?_
         refine W_region ?_
         refine S_pu 3 rfl ?_
         obtain ⟨hk880, h⟩ := Go.L.chk_some h
         refine S_index rfl rfl underlying71 zr3 (hf866_0.mono hG868) s12_865.toNat (Int.toNat_of_nonneg hk880.1).symm (idx_lt hk880) rfl ?_
         rintro p879 _ rfl hp879
         refine S_v (r_load1 rfl underlying3 rfl hp879 (gz_le hH hL866)) rfl ?_
         obtain ⟨hk881, h⟩ := Go.L.chk_some h
         refine S_v (r_ar64 rfl rfl rfl hk881) rfl ?_
         refine S_v (r_conv underlying3 underlying5 rfl (conv_64_u8 _)) rfl ?_
         refine S_litE (r := .byte) (l := [(Go.L.u8 (x1.getD s12_865.toNat default - (1 : Int)))]) rfl (fun _ => bsl22_1 _ _) rfl (show 1 ≤ 9223372036854775807 by decide) hH hL866 (.c1 rfl .nil) ?_
         intro v882 w882 hx882 hL882 hle882 hv882
         replace hp879 := hp879.mono (gz_mono hH hle882)
         replace hG868 := hG868.trans (gz_mono hH hle882)
         obtain ⟨hk884, h⟩ := Go.L.chk_some h
         refine S_appE (r := .byte) (l := l864) (m := [(Go.L.u8 (x1.getD s12_865.toNat default - (1 : Int)))]) 0 rfl rfl underlying22 zr5 rfl (by decide) rfl hH hL882 rfl (hel864.mono hG868) hv882 hk884 ?_
         intro v883 w883 xs883 hL883 hle883 he883
         replace hp879 := hp879.mono (gz_mono hH hle883)
         replace hv882 := hv882.mono (gz_mono hH hle883)
         replace hG868 := hG868.trans (gz_mono hH hle883)
         refine S_pu 1 rfl ?_
         refine S_nil ?_
         refine At_block ?_
         refine At_seq ?_
         refine W_region ?_
         refine S_pu 1 rfl ?_
         obtain ⟨hk885, h⟩ := Go.L.chk_some h
         refine S_v (r_ar64 rfl rfl rfl hk885) rfl ?_
         refine S_pu 1 rfl ?_
         refine S_nil ?_
         have h := Go.L.Nxt.again h hm866
         refine At_round ((l864 ++ [(Go.L.u8 (x1.getD s12_865.toNat default - (1 : Int)))]), (s12_865 + (1 : Int)), v883, xs883, n866) (.cons rfl (.cons rfl (.cons rfl (.cons rfl (.cons rfl (.cons rfl (.cons rfl (.cons rfl (.cons rfl (Sub.nil _)))))))))) ⟨hL883, (hf866_0.mono hG868), he883, (he866_r33.mono hG868), (he866_r26.mono hG868), h⟩ (Nat.lt_succ_self _)
       ·replace h := Go.L.ite_n hc872 h
        refine W_exit ?_
        refine At_seq_exit ?_
        refine At_loop_exit ?_
        replace h := Go.L.Nxt.out h hm866
        refine At_exit ?_
        refine At_cut (l864, vl864, xsl864) (.cons rfl (.cons rfl (.cons rfl (.cons rfl (.cons rfl (.cons rfl (.cons rfl (.cons rfl (Sub.nil _))))))))) ⟨hL866, (hf866_0.mono hG868), (hel864.mono hG868), (he866_r33.mono hG868), (he866_r26.mono hG868), h⟩
      ·rintro ⟨l841, vl841, xsl841⟩ wr842 ⟨hL842, hf842_0, hel841, he842_r33, he842_r26, h⟩
       have hG888 := hL842.rG H
       refine W_p 1 rfl ?_
       obtain ⟨x889, hb889, h⟩ := Go.L.bind_some h
       refine S_callL rfl rfl hL842 (ref4_Words_ok _ _ (Le.refl _) (hL842.vecN hH (i := 0) rfl (hel841.mono hG888)) hb889) ?_
       rintro u890_0 w890 ⟨_, rfl, hR890_0⟩ hx890 hL890 hle890
       have hv890_0 := (hR890_0.ofPlain (plain_pair plain_st (plain_pair plain_int plain_int))).vecG hH hL842 hx890
       replace hG888 := hG888.trans (gz_mono hH hle890)
       refine S_pz 1 rfl ?_
       refine W_cut (σ := Unit) (fun (_ : Unit) => [(0, v0_0), (5, u2_0), (6, .int .i64 (x1.getD ((0 : Int).toNat) default - (1 : Int))), (7, vl534), (8, vl533), (9, .int .i64 s9_535), (10, .int .i64 s10_536), (11, vl841)]) (fun (_ : Unit) wr => InO w [.row (vl841) 5 1 (l841).length (xsl841), .row (vl533) 3 1 (l533).length (xsl533), .row (vl534) 44 2 (l534).length (xsl534)] wr fun Oz => Vec (.int .i64) (gz H w wr Oz) (u2_0) (x1) ∧ Elems .byte (gz H w wr Oz) (l841) (xsl841) ∧ Elems (.int .i64) (gz H w wr Oz) (l533) (xsl533) ∧ Elems (.pair .st (.vec (.pair (.int .i64) (.int .i64)))) (gz H w wr Oz) (l534) (xsl534) ∧ (ref4_WordsIndex_k8 l533 l534 l841 s10_536 s9_535 x1) = some e537) ?_ ?_
       ·refine W_seqd (.q 0 (.q 1 (.q 2 (.q 3 (.q 4 (.q 5 (.q 6 (.q 7 (.q 8 (.q 9 (.q 10 (.q 11 (.q 12 (.q 13 (.q 14 (.q 15 (.q 16 (.q 17 (.q 18 (.q 19 (.q 20 (.q 21 (.q 22 (.q 23 (.q 24 (.q 25 (.q 26 (.q 27 (.q 28 (.tail 29)))))))))))))))))))))))))))))) mixed (by kernel_rfl) (fun w923 hx923 => ?_)
        have hL924 := hL890.call hx923
        have hle924 := fz_ext hL890 hx923
        replace hv890_0 := hv890_0.mono (gz_mono hH hle924)
        replace hG888 := hG888.trans (gz_mono hH hle924)
        refine D_pu 1 rfl ?_
        refine D_v (r_len rfl underlying67 hv890_0) rfl rfl ?_
        refine D_pu 2 rfl ?_
        refine D_split (s := 101) rfl (fun hg925 => ?_) (fun hg925 => ?_)
        ·replace h := Go.L.ite_n (not_dec_t hg925) h
         iterate 7 refine D_no rfl rfl rfl rfl hg925 rfl ?_
         refine D_v (r_pickT rfl hg925 rfl) rfl rfl ?_
         refine D_pu 1 rfl ?_
         iterate 4 refine D_no rfl rfl rfl rfl rfl rfl ?_
         iterate 10 refine D_no2 rfl rfl rfl rfl rfl ?_
         refine D_no rfl rfl rfl rfl rfl rfl ?_
         refine D_v (r_pickT rfl rfl rfl) rfl rfl ?_
         refine D_tail (fun w927 hx927 => ?_)
         have hL928 := hL924.call hx927
         have hle928 := fz_ext hL924 hx927
         replace hv890_0 := hv890_0.mono (gz_mono hH hle928)
         replace hG888 := hG888.trans (gz_mono hH hle928)
         refine S_seqnil ?_
         refine W_true rfl ?_
         refine W_pz 3 rfl ?_
         refine W_ret ?_
         refine At_cut_ret ?_
         refine At_block_ret ?_
         refine At_cut_ret ?_
         refine At_loop_ret ?_
         replace h := Go.L.Nxt.out h hm537
         refine At_block_ret ?_
         refine At_cut_ret ?_
         obtain rfl := Option.some.inj h
         refine At_body rfl rfl ?_
         exact ⟨hL928.ext, _, rfl, OwnH.nil⟩
        ·replace h := Go.L.ite_p (not_dec_f hg925) h
         refine D_vg (RunsAt_pu rfl) rfl rfl rfl rfl hg925 rfl ?_
         obtain ⟨hk931, h⟩ := Go.L.chk_some h
         refine D_indexg rfl rfl rfl rfl hg925 rfl rfl underlying67 zr75 hv890_0 ((0 : Int).toNat) (Int.toNat_of_nonneg hk931.1).symm (idx_lt hk931) rfl ?_
         rintro p930 _ ⟨_, _, rfl, rfl, ⟨_, _, rfl, rfl, rfl⟩⟩ hp930
         refine D_vg (r_field rfl underlying75 rfl zr9 (by decide)) rfl rfl rfl rfl hg925 rfl ?_
         have hp932 := hp930.add 0
         refine D_vg (r_load1 rfl underlying9 rfl hp932 (gz_le hH hL924)) rfl rfl rfl rfl hg925 rfl ?_
         refine D_vg (RunsAt_pu rfl) rfl rfl rfl rfl hg925 rfl ?_
         refine D_vg (r_str rfl underlying22 underlying5 underlying9 (hL924.vecN hH (i := 0) rfl (hel841.mono hG888)) (Le.refl _)) rfl rfl rfl rfl hg925 rfl ?_
         refine D_vg (r_sne rfl rfl) rfl rfl rfl rfl hg925 rfl ?_
         refine D_v (r_pickF rfl hg925 rfl) rfl rfl ?_
         refine D_pu 1 rfl ?_
         refine D_split (s := 110) rfl (fun hg933 => ?_) (fun hg933 => ?_)
         ·replace h := Go.L.ite_n (not_dec_t hg933) h
          iterate 4 refine D_no rfl rfl rfl rfl hg933 rfl ?_
          iterate 10 refine D_no2 rfl rfl rfl rfl rfl ?_
          refine D_no rfl rfl rfl rfl hg933 rfl ?_
          refine D_v (r_pickT rfl hg933 rfl) rfl rfl ?_
          refine D_tail (fun w935 hx935 => ?_)
          have hL936 := hL924.call hx935
          have hle936 := fz_ext hL924 hx935
          replace hv890_0 := hv890_0.mono (gz_mono hH hle936)
          replace hp930 := hp930.mono (gz_mono hH hle936)
          replace hp932 := hp932.mono (gz_mono hH hle936)
          replace hG888 := hG888.trans (gz_mono hH hle936)
          refine S_seqnil ?_
          refine W_true rfl ?_
          refine W_pz 3 rfl ?_
          refine W_ret ?_
          refine At_cut_ret ?_
          refine At_block_ret ?_
          refine At_cut_ret ?_
          refine At_loop_ret ?_
          replace h := Go.L.Nxt.out h hm537
          refine At_block_ret ?_
          refine At_cut_ret ?_
          obtain rfl := Option.some.inj h
          refine At_body rfl rfl ?_
          exact ⟨hL936.ext, _, rfl, OwnH.nil⟩
         ·replace h := Go.L.ite_p (not_dec_f hg933) h
          refine D_vg (RunsAt_pu rfl) rfl rfl rfl rfl hg933 rfl ?_
          refine D_vg (r_lenR (i := 2) rfl underlying33 hL924 rfl) rfl rfl rfl rfl hg933 rfl ?_
          iterate 2 refine D_vg (RunsAt_pu rfl) rfl rfl rfl rfl hg933 rfl ?_
          refine D_split (s := 114) rfl (fun hg938 => ?_) (fun hg938 => ?_)
          ·replace h := Go.L.ite_p (of_decide_eq_true hg938) h
           iterate 2 refine D_vg (RunsAt_pu rfl) rfl rfl rfl rfl hg938 rfl ?_
           refine D_vg (r_lenR (i := 2) rfl underlying33 hL924 rfl) rfl rfl rfl rfl hg938 rfl ?_
           obtain ⟨hk940, h⟩ := Go.L.chk_some h
           refine D_vg (r_ar64 rfl rfl rfl hk940) rfl rfl rfl rfl hg938 rfl ?_
           obtain ⟨hk942, h⟩ := Go.L.chk_some h
           refine D_indexg rfl rfl rfl rfl hg938 rfl rfl underlying33 zr44 (hL924.vecN hH (i := 2) rfl (he842_r26.mono hG888)) (((l534.length : Int) - (1 : Int)).toNat) (Int.toNat_of_nonneg hk942.1).symm (idx_lt hk942) rfl ?_
           rintro p941 _ ⟨_, _, rfl, rfl, ⟨e941v1, rfl, e941h1⟩⟩ hp941
           refine D_vg (r_field rfl underlying44 rfl zr9 (by decide)) rfl rfl rfl rfl hg938 rfl ?_
           have hp943 := hp941.add 0
           refine D_vg (r_load1 rfl underlying9 rfl hp943 (Le.refl _)) rfl rfl rfl rfl hg938 rfl ?_
           refine D_vg (RunsAt_pu rfl) rfl rfl rfl rfl hg938 rfl ?_
           refine D_vg (r_str rfl underlying22 underlying5 underlying9 (hL924.vecN hH (i := 0) rfl (hel841.mono hG888)) (Le.refl _)) rfl rfl rfl rfl hg938 rfl ?_
           refine D_vg (r_sge rfl rfl) rfl rfl rfl rfl hg938 rfl ?_
           refine D_vg (r_pickT rfl hg938 rfl) rfl rfl rfl rfl hg933 rfl ?_
           refine D_v (r_pickF rfl hg933 rfl) rfl rfl ?_
           refine D_tail (fun w944 hx944 => ?_)
           have hL945 := hL924.call hx944
           have hle945 := fz_ext hL924 hx944
           replace hv890_0 := hv890_0.mono (gz_mono hH hle945)
           replace hp930 := hp930.mono (gz_mono hH hle945)
           replace hp932 := hp932.mono (gz_mono hH hle945)
           replace hG888 := hG888.trans (gz_mono hH hle945)
           refine S_seqnil ?_
           refine W_cond rfl (fun hc946 => ?_) (fun hc946 => ?_)
           ·replace h := Go.L.ite_t hc946 h
            refine W_pz 3 rfl ?_
            refine W_ret ?_
            refine At_cut_ret ?_
            refine At_block_ret ?_
            refine At_cut_ret ?_
            refine At_loop_ret ?_
            replace h := Go.L.Nxt.out h hm537
            refine At_block_ret ?_
            refine At_cut_ret ?_
            obtain rfl := Option.some.inj h
            refine At_body rfl rfl ?_
            exact ⟨hL945.ext, _, rfl, OwnH.nil⟩
           ·replace h := Go.L.ite_f hc946 h
            refine W_skip ?_
            refine At_cut () (.cons rfl (.cons rfl (.cons rfl (.cons rfl (.cons rfl (.cons rfl (.cons rfl (.cons rfl (Sub.nil _))))))))) ⟨hL945, (hf842_0.mono hG888), (hel841.mono hG888), (he842_r33.mono hG888), (he842_r26.mono hG888), h⟩
          ·replace h := Go.L.ite_n (of_decide_eq_false hg938) h
           iterate 10 refine D_no rfl rfl rfl rfl hg938 rfl ?_
           refine D_vg (r_pickF rfl hg938 rfl) rfl rfl rfl rfl hg933 rfl ?_
           refine D_v (r_pickF rfl hg933 rfl) rfl rfl ?_
           refine D_tail (fun w950 hx950 => ?_)
           have hL951 := hL924.call hx950
           have hle951 := fz_ext hL924 hx950
           replace hv890_0 := hv890_0.mono (gz_mono hH hle951)
           replace hp930 := hp930.mono (gz_mono hH hle951)
           replace hp932 := hp932.mono (gz_mono hH hle951)
           replace hG888 := hG888.trans (gz_mono hH hle951)
           refine S_seqnil ?_
           refine W_false rfl ?_
           refine W_skip ?_
           refine At_cut () (.cons rfl (.cons rfl (.cons rfl (.cons rfl (.cons rfl (.cons rfl (.cons rfl (.cons rfl (Sub.nil _))))))))) ⟨hL951, (hf842_0.mono hG888), (hel841.mono hG888), (he842_r33.mono hG888), (he842_r26.mono hG888), h⟩
       ·rintro _ wr921 ⟨hL921, hf921_0, he921_r817, he921_r33, he921_r26, h⟩
        have hG953 := hL921.rG H
        refine W_p 1 rfl ?_
        obtain ⟨hk954, h⟩ := Go.L.chk_some h
        refine S_v (r_ar64 rfl rfl rfl hk954) rfl ?_
        refine S_pu 2 rfl ?_
        obtain ⟨hk956, h⟩ := Go.L.chk_some h
        refine S_index rfl rfl underlying71 zr3 (hf921_0.mono hG953) s9_535.toNat (Int.toNat_of_nonneg hk956.1).symm (idx_lt hk956) rfl ?_
        rintro p955 _ rfl hp955
        refine S_v (r_load1 rfl underlying3 rfl hp955 (gz_le hH hL921)) rfl ?_
        obtain ⟨hk957, h⟩ := Go.L.chk_some h
        refine S_v (r_ar64 rfl rfl rfl hk957) rfl ?_
        refine S_pz 1 rfl ?_
        refine W_p 2 rfl ?_
        obtain ⟨hk959, h⟩ := Go.L.chk_some h
        refine S_index rfl rfl underlying71 zr3 (hf921_0.mono hG953) (((s9_535 + (1 : Int)) + x1.getD s9_535.toNat default).toNat) (Int.toNat_of_nonneg hk959.1).symm (idx_lt hk959) rfl ?_
        rintro p958 _ rfl hp958
        refine S_v (r_load1 rfl underlying3 rfl hp958 (gz_le hH hL921)) rfl ?_
        refine S_pz 1 rfl ?_
        refine W_p 1 rfl ?_
        obtain ⟨hk960, h⟩ := Go.L.chk_some h
        refine S_v (r_ar64 rfl rfl rfl hk960) rfl ?_
        refine S_pz 1 rfl ?_
        refine W_cut (σ := Unit) (fun (_ : Unit) => [(0, v0_0), (5, u2_0), (6, .int .i64 (x1.getD ((0 : Int).toNat) default - (1 : Int))), (7, vl534), (8, vl533), (9, .int .i64 (((s9_535 + (1 : Int)) + x1.getD s9_535.toNat default) + (1 : Int))), (10, .int .i64 s10_536), (11, vl841), (14, .int .i64 (x1.getD (((s9_535 + (1 : Int)) + x1.getD s9_535.toNat default).toNat) default))]) (fun (_ : Unit) wr => InO w [.row (vl841) 5 1 (l841).length (xsl841), .row (vl533) 3 1 (l533).length (xsl533), .row (vl534) 44 2 (l534).length (xsl534)] wr fun Oz => Vec (.int .i64) (gz H w wr Oz) (u2_0) (x1) ∧ Elems .byte (gz H w wr Oz) (l841) (xsl841) ∧ Elems (.int .i64) (gz H w wr Oz) (l533) (xsl533) ∧ Elems (.pair .st (.vec (.pair (.int .i64) (.int .i64)))) (gz H w wr Oz) (l534) (xsl534) ∧ (ref4_WordsIndex_k9 l533 l534 l841 s10_536 s9_535 x1) = some e537) ?_ ?_
        ·refine W_p 2 rfl ?_
         refine S_v (r_len rfl underlying71 (hf921_0.mono hG953)) rfl ?_
         refine S_pu 2 rfl ?_
         refine S_split (s := 144) rfl (fun hg972 => ?_) (fun hg972 => ?_)
         ·replace h := Go.L.ite_p (of_decide_eq_true hg972) h
          iterate 7 refine S_unwanted rfl rfl hg972 rfl ?_
          refine S_v (r_pickT rfl hg972 rfl) rfl ?_
          refine S_seqnil ?_
          refine W_true rfl ?_
          refine W_pz 3 rfl ?_
          refine W_ret ?_
          refine At_cut_ret ?_
          refine At_block_ret ?_
          refine At_cut_ret ?_
          refine At_loop_ret ?_
          replace h := Go.L.Nxt.out h hm537
          refine At_block_ret ?_
          refine At_cut_ret ?_
          obtain rfl := Option.some.inj h
          refine At_body rfl rfl ?_
          exact ⟨hL921.ext, _, rfl, OwnH.nil⟩
         ·replace h := Go.L.ite_n (of_decide_eq_false hg972) h
          refine S_guarded rfl rfl hg972 ?_
          refine S_v (RunsAt_pu rfl) rfl ?_
          refine S_guarded rfl rfl hg972 ?_
          refine S_v (RunsAt_pu rfl) rfl ?_
          refine S_guarded rfl rfl hg972 ?_
          obtain ⟨hk975, h⟩ := Go.L.chk_some h
          refine S_v (r_ar64 rfl rfl rfl hk975) rfl ?_
          refine S_guarded rfl rfl hg972 ?_
          obtain ⟨hk976, h⟩ := Go.L.chk_some h
          refine S_v (r_ar64 rfl rfl rfl hk976) rfl ?_
          refine S_guarded rfl rfl hg972 ?_
          refine S_v (RunsAt_pu rfl) rfl ?_
          refine S_guarded rfl rfl hg972 ?_
          refine S_v (r_len rfl underlying71 (hf921_0.mono hG953)) rfl ?_
          refine S_guarded rfl rfl hg972 ?_
          refine S_v (RunsAt_pu rfl) rfl ?_
          refine S_v (r_pickF rfl hg972 rfl) rfl ?_
          refine S_seqnil ?_
          refine W_if rfl (fun hc977 => ?_) (fun hc977 => ?_)
          ·replace h := Go.L.ite_p hc977 h
           refine W_pz 3 rfl ?_
           refine W_ret ?_
           refine At_cut_ret ?_
           refine At_block_ret ?_
           refine At_cut_ret ?_
           refine At_loop_ret ?_
           replace h := Go.L.Nxt.out h hm537
           refine At_block_ret ?_
           refine At_cut_ret ?_
           obtain rfl := Option.some.inj h
           refine At_body rfl rfl ?_
           exact ⟨hL921.ext, _, rfl, OwnH.nil⟩
          ·replace h := Go.L.ite_n hc977 h
           refine W_skip ?_
           refine At_cut () (.cons rfl (.cons rfl (.cons rfl (.cons rfl (.cons rfl (.cons rfl (.cons rfl (.cons rfl (.cons rfl (Sub.nil _)))))))))) ⟨hL921, (hf921_0.mono hG953), (he921_r817.mono hG953), (he921_r33.mono hG953), (he921_r26.mono hG953), h⟩
        ·rintro _ wr970 ⟨hL970, hf970_0, he970_r817, he970_r33, he970_r26, h⟩
         have hG981 := hL970.rG H
         refine W_p 1 rfl ?_
         refine S_v (r_str rfl underlying22 underlying5 underlying9 (hL970.vecN hH (i := 0) rfl (he970_r817.mono hG981)) (Le.refl _)) rfl ?_
         refine S_v (r_build rfl (fun _ => bld44_0 _ rfl _)) rfl ?_
         refine S_alloc zr44 rfl rfl hL970 ?_
         intro w982 b982 hL982 hle982 _
         replace hG981 := hG981.trans (gz_mono hH hle982)
         refine S_storeBN 0 rfl rfl rfl zr44 hL982 rfl rfl (onc rfl (onc rfl on0)) ?_
         intro w983 hL983 hle983
         replace hG981 := hG981.trans (gz_mono hH hle983)
         refine S_seqnil ?_
         refine W_seqr ?_
         refine S_v (r_build rfl (fun _ => bld64_1 _ _)) rfl ?_
         refine S_alloc zr64 rfl rfl hL983 ?_
         intro w984 b984 hL984 hle984 _
         replace hG981 := hG981.trans (gz_mono hH hle984)
         refine S_storeBN 0 rfl rfl rfl zr64 hL984 rfl rfl (onc rfl (onc rfl on0)) ?_
         intro w985 hL985 hle985
         replace hG981 := hG981.trans (gz_mono hH hle985)
         refine S_seqnil ?_
         refine W_cut (σ := Int × Int × (List (Int × Int)) × Int × Value × (List Value)) (fun ⟨c1107, c1108, l1110, s9_1111, vl1110, xsl1110⟩ => [(0, v0_0), (5, u2_0), (6, .int .i64 (x1.getD ((0 : Int).toNat) default - (1 : Int))), (7, vl534), (8, vl533), (9, .int .i64 s9_1111), (10, .int .i64 s10_536), (15, .pointer (some ⟨b982, 0, none⟩))]) (fun ⟨c1107, c1108, l1110, s9_1111, vl1110, xsl1110⟩ wr => InO w [.row (vl1110) 64 2 (l1110).length (xsl1110), .box b984 [.int .i64 c1107, .int .i64 c1108] 64, .box b982 [.string ⟨(l841).toArray⟩, vl1110] 44, .row (vl841) 5 1 (l841).length (xsl841), .row (vl533) 3 1 (l533).length (xsl533), .row (vl534) 44 2 (l534).length (xsl534)] wr fun Oz => Vec (.int .i64) (gz H w wr Oz) (u2_0) (x1) ∧ Elems (.pair (.int .i64) (.int .i64)) (gz H w wr Oz) (l1110) (xsl1110) ∧ Elems .byte (gz H w wr Oz) (l841) (xsl841) ∧ Elems (.int .i64) (gz H w wr Oz) (l533) (xsl533) ∧ Elems (.pair .st (.vec (.pair (.int .i64) (.int .i64)))) (gz H w wr Oz) (l534) (xsl534) ∧ (ref4_WordsIndex_k10 l533 l534 l841 s10_536) c1107 c1108 l1110 s9_1111 = some e537) ?_ ?_
         ·refine W_pz 1 rfl ?_
          refine W_block ?_
          obtain ⟨hL1178, hle1178, he1178⟩ := row_nilE (.pair (.int .i64) (.int .i64)) H 64 hL985
          replace hG981 := hG981.trans (gz_mono hH hle1178)
          obtain ⟨n1177, h⟩ := Go.L.run_some h
          refine W_loop (σ := Int × Int × (List (Int × Int)) × Int × Int × Value × (List Value) × Nat) (fun ⟨c1171, c1172, l1174, s9_1175, s17_1176, vl1174, xsl1174, n⟩ => [(0, v0_0), (5, u2_0), (6, .int .i64 (x1.getD ((0 : Int).toNat) default - (1 : Int))), (7, vl534), (8, vl533), (9, .int .i64 s9_1175), (10, .int .i64 s10_536), (14, .int .i64 (x1.getD (((s9_535 + (1 : Int)) + x1.getD s9_535.toNat default).toNat) default)), (15, .pointer (some ⟨b982, 0, none⟩)), (16, .pointer (some ⟨b984, 0, none⟩)), (17, .int .i64 s17_1176)]) (fun ⟨c1171, c1172, l1174, s9_1175, s17_1176, vl1174, xsl1174, n⟩ wr => InO w [.row (vl1174) 64 2 (l1174).length (xsl1174), .box b984 [.int .i64 c1171, .int .i64 c1172] 64, .box b982 [.string ⟨(l841).toArray⟩, vl1174] 44, .row (vl841) 5 1 (l841).length (xsl841), .row (vl533) 3 1 (l533).length (xsl533), .row (vl534) 44 2 (l534).length (xsl534)] wr fun Oz => Vec (.int .i64) (gz H w wr Oz) (u2_0) (x1) ∧ Elems (.pair (.int .i64) (.int .i64)) (gz H w wr Oz) (l1174) (xsl1174) ∧ Elems .byte (gz H w wr Oz) (l841) (xsl841) ∧ Elems (.int .i64) (gz H w wr Oz) (l533) (xsl533) ∧ Elems (.pair .st (.vec (.pair (.int .i64) (.int .i64)))) (gz H w wr Oz) (l534) (xsl534) ∧ Go.L.itr (ref4_WordsIndex_bl11 l533 l534 l841 s10_536 s9_535 x1) n (c1171, c1172, l1174, s9_1175, s17_1176) = some e537) (fun ⟨c1171, c1172, l1174, s9_1175, s17_1176, vl1174, xsl1174, n⟩ => n) ((0 : Int), (-1 : Int), ([] : List (Int × Int)), (((s9_535 + (1 : Int)) + x1.getD s9_535.toNat default) + (1 : Int)), (0 : Int), .slice none 0 0, [], n1177) (.cons rfl (.cons rfl (.cons rfl (.cons rfl (.cons rfl (.cons rfl (.cons rfl (.cons rfl (.cons rfl (.cons rfl (.cons rfl (Sub.nil _)))))))))))) ⟨hL1178, (hf970_0.mono hG981), he1178, (he970_r817.mono hG981), (he970_r33.mono hG981), (he970_r26.mono hG981), h⟩ ?_
          rintro ⟨c1171, c1172, l1174, s9_1175, s17_1176, vl1174, xsl1174, nn1177⟩ wr1177 ⟨hL1177, hf1177_0, hel1174, he1177_r817, he1177_r33, he1177_r26, h⟩
          obtain ⟨n1177, e1177, rfl, h, hm1177⟩ := Go.L.itr_some h
          refine W_seq ?_
          have hG1180 := hL1177.rG H
          refine W_pz 3 rfl ?_
          refine W_if rfl (fun hc1181 => ?_) (fun hc1181 => ?_)
          ·replace h := Go.L.ite_p hc1181 h
           refine W_skip ?_
           refine At_seq ?_
           refine W_seq ?_
           refine W_block ?_
           refine W_cut (σ := Unit) (fun (_ : Unit) => [(0, v0_0), (5, u2_0), (6, .int .i64 (x1.getD ((0 : Int).toNat) default - (1 : Int))), (7, vl534), (8, vl533), (9, .int .i64 s9_1175), (10, .int .i64 s10_536), (14, .int .i64 (x1.getD (((s9_535 + (1 : Int)) + x1.getD s9_535.toNat default).toNat) default)), (15, .pointer (some ⟨b982, 0, none⟩)), (16, .pointer (some ⟨b984, 0, none⟩)), (17, .int .i64 s17_1176)]) (fun (_ : Unit) wr => InO w [.row (vl1174) 64 2 (l1174).length (xsl1174), .box b984 [.int .i64 c1171, .int .i64 c1172] 64, .box b982 [.string ⟨(l841).toArray⟩, vl1174] 44, .row (vl841) 5 1 (l841).length (xsl841), .row (vl533) 3 1 (l533).length (xsl533), .row (vl534) 44 2 (l534).length (xsl534)] wr fun Oz => Vec (.int .i64) (gz H w wr Oz) (u2_0) (x1) ∧ Elems (.pair (.int .i64) (.int .i64)) (gz H w wr Oz) (l1174) (xsl1174) ∧ Elems .byte (gz H w wr Oz) (l841) (xsl841) ∧ Elems (.int .i64) (gz H w wr Oz) (l533) (xsl533) ∧ Elems (.pair .st (.vec (.pair (.int .i64) (.int .i64)))) (gz H w wr Oz) (l534) (xsl534) ∧ (ref4_WordsIndex_k12 c1171 c1172 l1174 l534 s17_1176 s9_1175 x1) = some e1177) ?_ ?_
           ·refine W_p 2 rfl ?_
            obtain ⟨hk1198, h⟩ := Go.L.chk_some h
            refine S_index rfl rfl underlying71 zr3 (hf1177_0.mono hG1180) s9_1175.toNat (Int.toNat_of_nonneg hk1198.1).symm (idx_lt hk1198) rfl ?_
            rintro p1197 _ rfl hp1197
            refine S_v (r_load1 rfl underlying3 rfl hp1197 (gz_le hH hL1177)) rfl ?_
            refine S_pu 2 rfl ?_
            refine S_split (s := 167) rfl (fun hg1199 => ?_) (fun hg1199 => ?_)
            ·replace h := Go.L.ite_p (of_decide_eq_true hg1199) h
             iterate 6 refine S_unwanted rfl rfl hg1199 rfl ?_
             refine S_v (r_pickT rfl hg1199 rfl) rfl ?_
             refine S_seqnil ?_
             refine W_true rfl ?_
             refine W_pz 3 rfl ?_
             refine W_ret ?_
             refine At_cut_ret ?_
             refine At_block_ret ?_
             refine At_seq_ret ?_
             refine At_loop_ret ?_
             replace h := Go.L.Nxt.out h hm1177
             refine At_block_ret ?_
             refine At_cut_ret ?_
             refine At_block_ret ?_
             refine At_cut_ret ?_
             refine At_loop_ret ?_
             replace h := Go.L.Nxt.out h hm537
             refine At_block_ret ?_
             refine At_cut_ret ?_
             obtain rfl := Option.some.inj h
             refine At_body rfl rfl ?_
             exact ⟨hL1177.ext, _, rfl, OwnH.nil⟩
            ·replace h := Go.L.ite_n (of_decide_eq_false hg1199) h
             refine S_guarded rfl rfl hg1199 ?_
             refine S_v (RunsAt_pu rfl) rfl ?_
             refine S_guarded rfl rfl hg1199 ?_
             refine S_v (RunsAt_pu rfl) rfl ?_
             refine S_guarded rfl rfl hg1199 ?_
             obtain ⟨hk1202, h⟩ := Go.L.chk_some h
             refine S_v (r_ar64 rfl rfl rfl hk1202) rfl ?_
             refine S_guarded rfl rfl hg1199 ?_
             obtain ⟨hk1204, h⟩ := Go.L.chk_some h
             refine S_index rfl rfl underlying71 zr3 (hf1177_0.mono hG1180) ((s9_1175 + (1 : Int)).toNat) (Int.toNat_of_nonneg hk1204.1).symm (idx_lt hk1204) rfl ?_
             rintro p1203 _ rfl hp1203
             refine S_guarded rfl rfl hg1199 ?_
             refine S_v (r_load1 rfl underlying3 rfl hp1203 (gz_le hH hL1177)) rfl ?_
             refine S_guarded rfl rfl hg1199 ?_
             refine S_v (RunsAt_pu rfl) rfl ?_
             refine S_v (r_pickF rfl hg1199 rfl) rfl ?_
             refine S_seqnil ?_
             refine W_if rfl (fun hc1205 => ?_) (fun hc1205 => ?_)
             ·replace h := Go.L.ite_p hc1205 h
              refine W_pz 3 rfl ?_
              refine W_ret ?_
              refine At_cut_ret ?_
              refine At_block_ret ?_
              refine At_seq_ret ?_
              refine At_loop_ret ?_
              replace h := Go.L.Nxt.out h hm1177
              refine At_block_ret ?_
              refine At_cut_ret ?_
              refine At_block_ret ?_
              refine At_cut_ret ?_
              refine At_loop_ret ?_
              replace h := Go.L.Nxt.out h hm537
              refine At_block_ret ?_
              refine At_cut_ret ?_
              obtain rfl := Option.some.inj h
              refine At_body rfl rfl ?_
              exact ⟨hL1177.ext, _, rfl, OwnH.nil⟩
             ·replace h := Go.L.ite_n hc1205 h
              refine W_skip ?_
              refine At_cut () (.cons rfl (.cons rfl (.cons rfl (.cons rfl (.cons rfl (.cons rfl (.cons rfl (.cons rfl (.cons rfl (.cons rfl (.cons rfl (Sub.nil _)))))))))))) ⟨hL1177, (hf1177_0.mono hG1180), (hel1174.mono hG1180), (he1177_r817.mono hG1180), (he1177_r33.mono hG1180), (he1177_r26.mono hG1180), h⟩
           ·rintro _ wr1195 ⟨hL1195, hf1195_0, he1195_j1173, he1195_r817, he1195_r33, he1195_r26, h⟩
            refine W_cut (σ := Int) (fun c1217 => [(0, v0_0), (5, u2_0), (6, .int .i64 (x1.getD ((0 : Int).toNat) default - (1 : Int))), (7, vl534), (8, vl533), (9, .int .i64 s9_1175), (10, .int .i64 s10_536), (14, .int .i64 (x1.getD (((s9_535 + (1 : Int)) + x1.getD s9_535.toNat default).toNat) default)), (15, .pointer (some ⟨b982, 0, none⟩)), (16, .pointer (some ⟨b984, 0, none⟩)), (17, .int .i64 s17_1176)]) (fun c1217 wr => InO w [.row (vl1174) 64 2 (l1174).length (xsl1174), .box b984 [.int .i64 c1171, .int .i64 c1217] 64, .box b982 [.string ⟨(l841).toArray⟩, vl1174] 44, .row (vl841) 5 1 (l841).length (xsl841), .row (vl533) 3 1 (l533).length (xsl533), .row (vl534) 44 2 (l534).length (xsl534)] wr fun Oz => Vec (.int .i64) (gz H w wr Oz) (u2_0) (x1) ∧ Elems (.pair (.int .i64) (.int .i64)) (gz H w wr Oz) (l1174) (xsl1174) ∧ Elems .byte (gz H w wr Oz) (l841) (xsl841) ∧ Elems (.int .i64) (gz H w wr Oz) (l533) (xsl533) ∧ Elems (.pair .st (.vec (.pair (.int .i64) (.int .i64)))) (gz H w wr Oz) (l534) (xsl534) ∧ (ref4_WordsIndex_k13 c1171 l1174 l534 s17_1176 s9_1175 x1) c1217 = some e1177) ?_ ?_
            ·have hG1220 := hL1195.rG H
             refine W_p 2 rfl ?_
             obtain ⟨hk1222, h⟩ := Go.L.chk_some h
             refine S_index rfl rfl underlying71 zr3 (hf1195_0.mono hG1220) s9_1175.toNat (Int.toNat_of_nonneg hk1222.1).symm (idx_lt hk1222) rfl ?_
             rintro p1221 _ rfl hp1221
             refine S_v (r_load1 rfl underlying3 rfl hp1221 (gz_le hH hL1195)) rfl ?_
             refine S_pz 1 rfl ?_
             refine W_if rfl (fun hc1223 => ?_) (fun hc1223 => ?_)
             ·replace h := Go.L.ite_p hc1223 h
              refine W_region ?_
              refine S_v (r_field rfl underlying64 rfl zr3 (by decide)) rfl ?_
              refine S_storeB1 1 rfl rfl rfl zr3 hL1195 rfl rfl ?_
              intro w1225 hL1225 hle1225
              replace hG1220 := hG1220.trans (gz_mono hH hle1225)
              refine S_nil ?_
              refine At_cut (-1 : Int) (.cons rfl (.cons rfl (.cons rfl (.cons rfl (.cons rfl (.cons rfl (.cons rfl (.cons rfl (.cons rfl (.cons rfl (.cons rfl (Sub.nil _)))))))))))) ⟨hL1225, (hf1195_0.mono hG1220), (he1195_j1173.mono hG1220), (he1195_r817.mono hG1220), (he1195_r33.mono hG1220), (he1195_r26.mono hG1220), h⟩
             ·replace h := Go.L.ite_n hc1223 h
              refine W_skip ?_
              refine At_cut c1172 (.cons rfl (.cons rfl (.cons rfl (.cons rfl (.cons rfl (.cons rfl (.cons rfl (.cons rfl (.cons rfl (.cons rfl (.cons rfl (Sub.nil _)))))))))))) ⟨hL1195, (hf1195_0.mono hG1220), (he1195_j1173.mono hG1220), (he1195_r817.mono hG1220), (he1195_r33.mono hG1220), (he1195_r26.mono hG1220), h⟩
            ·rintro c1217 wr1218 ⟨hL1218, hf1218_0, he1218_j1173, he1218_r817, he1218_r33, he1218_r26, h⟩
             have hG1228 := hL1218.rG H
             refine W_seqd (.q 0 (.q 1 (.q 2 (.q 3 (.q 4 (.q 5 (.q 6 (.q 7 (.q 8 (.q 9 (.q 10 (.q 11 (.q 12 (.q 13 (.q 14 (.q 15 (.q 16 (.tail 17)))))))))))))))))) mixed (by kernel_rfl) (fun w1229 hx1229 => ?_)
             have hL1230 := hL1218.call hx1229
             have hle1230 := fz_ext hL1218 hx1229
             replace hG1228 := hG1228.trans (gz_mono hH hle1230)
             refine D_v (r_field rfl underlying64 rfl zr3 (by decide)) rfl rfl ?_
             refine D_v (r_loadB1 1 rfl underlying3 rfl hL1230 rfl rfl) rfl rfl ?_
             refine D_pu 2 rfl ?_
             obtain ⟨hk1232, h⟩ := Go.L.chk_some h
             refine D_index rfl rfl rfl underlying71 zr3 (hf1218_0.mono hG1228) s9_1175.toNat (Int.toNat_of_nonneg hk1232.1).symm (idx_lt hk1232) rfl ?_
             rintro p1231 _ rfl hp1231
             refine D_v (r_load1 rfl underlying3 rfl hp1231 (gz_le hH hL1230)) rfl rfl ?_
             obtain ⟨hk1233, h⟩ := Go.L.chk_some h
             refine D_v (r_ar64 rfl rfl rfl hk1233) rfl rfl ?_
             obtain ⟨hk1234, h⟩ := Go.L.chk_some h
             refine D_v (r_ar64 rfl rfl rfl hk1234) rfl rfl ?_
             refine D_v (r_field rfl underlying64 rfl zr3 (by decide)) rfl rfl ?_
             refine D_v (r_loadB1 1 rfl underlying3 rfl hL1230 rfl rfl) rfl rfl ?_
             refine D_pu 2 rfl ?_
             obtain ⟨hk1235, h⟩ := Go.L.chk_some h
             refine D_v (r_ar64 rfl rfl rfl hk1235) rfl rfl ?_
             obtain ⟨hk1237, h⟩ := Go.L.chk_some h
             refine D_index rfl rfl rfl underlying71 zr3 (hf1218_0.mono hG1228) ((s9_1175 + (1 : Int)).toNat) (Int.toNat_of_nonneg hk1237.1).symm (idx_lt hk1237) rfl ?_
             rintro p1236 _ rfl hp1236
             refine D_v (r_load1 rfl underlying3 rfl hp1236 (gz_le hH hL1230)) rfl rfl ?_
             obtain ⟨hk1238, h⟩ := Go.L.chk_some h
             refine D_v (r_ar64 rfl rfl rfl hk1238) rfl rfl ?_
             refine D_v (r_build rfl (fun _ => bld64_0_1 _ _ _)) rfl rfl ?_
             refine D_tail (fun w1239 hx1239 => ?_)
             have hL1240 := hL1230.call hx1239
             have hle1240 := fz_ext hL1230 hx1239
             replace hp1231 := hp1231.mono (gz_mono hH hle1240)
             replace hp1236 := hp1236.mono (gz_mono hH hle1240)
             replace hG1228 := hG1228.trans (gz_mono hH hle1240)
             refine S_storeBN 1 rfl rfl rfl zr64 hL1240 rfl rfl (onc rfl (onc rfl on0)) ?_
             intro w1241 hL1241 hle1241
             replace hp1231 := hp1231.mono (gz_mono hH hle1241)
             replace hp1236 := hp1236.mono (gz_mono hH hle1241)
             replace hG1228 := hG1228.trans (gz_mono hH hle1241)
             refine S_seqnil ?_
             refine W_seq ?_
             refine W_seqr ?_
             refine S_v (r_field rfl underlying64 rfl zr3 (by decide)) rfl ?_
             refine S_v (r_loadB1 1 rfl underlying3 rfl hL1241 rfl rfl) rfl ?_
             refine S_pu 3 rfl ?_
             refine S_split (s := 202) rfl (fun hg1242 => ?_) (fun hg1242 => ?_)
             ·replace h := Go.L.ite_p (of_decide_eq_true hg1242) h
              iterate 3 refine S_unwanted rfl rfl hg1242 rfl ?_
              refine S_v (r_pickT rfl hg1242 rfl) rfl ?_
              refine S_pu 1 rfl ?_
              iterate 3 refine S_unwanted rfl rfl rfl rfl ?_
              refine S_v (r_pickT rfl rfl rfl) rfl ?_
              refine S_seqnil ?_
              refine W_true rfl ?_
              refine W_pz 3 rfl ?_
              refine W_ret ?_
              refine At_seq_ret ?_
              refine At_block_ret ?_
              refine At_seq_ret ?_
              refine At_loop_ret ?_
              replace h := Go.L.Nxt.out h hm1177
              refine At_block_ret ?_
              refine At_cut_ret ?_
              refine At_block_ret ?_
              refine At_cut_ret ?_
              refine At_loop_ret ?_
              replace h := Go.L.Nxt.out h hm537
              refine At_block_ret ?_
              refine At_cut_ret ?_
              obtain rfl := Option.some.inj h
              refine At_body rfl rfl ?_
              exact ⟨hL1241.ext, _, rfl, OwnH.nil⟩
             ·replace h := Go.L.ite_n (of_decide_eq_false hg1242) h
              refine S_guarded rfl rfl hg1242 ?_
              refine S_v (r_field rfl underlying64 rfl zr3 (by decide)) rfl ?_
              refine S_guarded rfl rfl hg1242 ?_
              refine S_v (r_loadB1 1 rfl underlying3 rfl hL1241 rfl rfl) rfl ?_
              refine S_guarded rfl rfl hg1242 ?_
              refine S_v (RunsAt_pu rfl) rfl ?_
              refine S_v (r_pickF rfl hg1242 rfl) rfl ?_
              refine S_pu 1 rfl ?_
              refine S_split (s := 207) rfl (fun hg1245 => ?_) (fun hg1245 => ?_)
              ·replace h := Go.L.ite_p (of_decide_eq_true hg1245) h
               iterate 3 refine S_unwanted rfl rfl hg1245 rfl ?_
               refine S_v (r_pickT rfl hg1245 rfl) rfl ?_
               refine S_seqnil ?_
               refine W_true rfl ?_
               refine W_pz 3 rfl ?_
               refine W_ret ?_
               refine At_seq_ret ?_
               refine At_block_ret ?_
               refine At_seq_ret ?_
               refine At_loop_ret ?_
               replace h := Go.L.Nxt.out h hm1177
               refine At_block_ret ?_
               refine At_cut_ret ?_
               refine At_block_ret ?_
               refine At_cut_ret ?_
               refine At_loop_ret ?_
               replace h := Go.L.Nxt.out h hm537
               refine At_block_ret ?_
               refine At_cut_ret ?_
               obtain rfl := Option.some.inj h
               refine At_body rfl rfl ?_
               exact ⟨hL1241.ext, _, rfl, OwnH.nil⟩
              ·replace h := Go.L.ite_n (of_decide_eq_false hg1245) h
               refine S_guarded rfl rfl hg1245 ?_
               refine S_v (RunsAt_pu rfl) rfl ?_
               refine S_guarded rfl rfl hg1245 ?_
               refine S_v (r_loadBN 1 rfl underlying64 rfl zr64 hL1241 rfl) rfl ?_
               refine S_guarded rfl rfl hg1245 ?_
               obtain ⟨x1248, hb1248, h⟩ := Go.L.bind_some h
               refine S_callL rfl rfl hL1241 (ref4_taken_ok (a1 := (((c1171 + x1.getD s9_1175.toNat default) - (1 : Int)), (c1217 + x1.getD ((s9_1175 + (1 : Int)).toNat) default))) _ _ (Le.refl _) (hL1241.vecN hH (i := 5) rfl (he1218_r26.mono hG1228)) hb1248) ?_
               rintro _ w1249 rfl hx1249 hL1249 hle1249
               replace hG1228 := hG1228.trans (gz_mono hH hle1249)
               refine S_v (r_pickF rfl hg1245 rfl) rfl ?_
               refine S_seqnil ?_
               refine W_cond rfl (fun hc1250 => ?_) (fun hc1250 => ?_)
               ·replace h := Go.L.ite_t hc1250 h
                refine W_pz 3 rfl ?_
                refine W_ret ?_
                refine At_seq_ret ?_
                refine At_block_ret ?_
                refine At_seq_ret ?_
                refine At_loop_ret ?_
                replace h := Go.L.Nxt.out h hm1177
                refine At_block_ret ?_
                refine At_cut_ret ?_
                refine At_block_ret ?_
                refine At_cut_ret ?_
                refine At_loop_ret ?_
                replace h := Go.L.Nxt.out h hm537
                refine At_block_ret ?_
                refine At_cut_ret ?_
                obtain rfl := Option.some.inj h
                refine At_body rfl rfl ?_
                exact ⟨hL1249.ext, _, rfl, OwnH.nil⟩
               ·replace h := Go.L.ite_f hc1250 h
                refine W_skip ?_
                refine At_seq ?_
                refine W_seqr ?_
                refine S_v (r_field rfl underlying44 rfl zr40 (by decide)) rfl ?_
                refine S_v (r_loadB1 2 rfl underlying40 rfl hL1249 rfl rfl) rfl ?_
                refine S_v (r_loadBN 1 rfl underlying64 rfl zr64 hL1249 rfl) rfl ?_
                refine S_litE (r := (.pair (.int .i64) (.int .i64))) (l := [(((c1171 + x1.getD s9_1175.toNat default) - (1 : Int)), (c1217 + x1.getD ((s9_1175 + (1 : Int)).toNat) default))]) rfl (fun _ => bsl40_1 _ _ _) rfl (show 1 ≤ 9223372036854775807 by decide) hH hL1249 (.c2 ⟨_, _, rfl, rfl, rfl⟩ .nil) ?_
                intro v1253 w1253 hx1253 hL1253 hle1253 hv1253
                replace hG1228 := hG1228.trans (gz_mono hH hle1253)
                obtain ⟨hk1255, h⟩ := Go.L.chk_some h
                refine S_appE (r := (.pair (.int .i64) (.int .i64))) (l := l1174) (m := [(((c1171 + x1.getD s9_1175.toNat default) - (1 : Int)), (c1217 + x1.getD ((s9_1175 + (1 : Int)).toNat) default))]) 0 rfl rfl underlying40 zr64 rfl (by decide) rfl hH hL1253 rfl (he1218_j1173.mono hG1228) hv1253 hk1255 ?_
                intro v1254 w1254 xs1254 hL1254 hle1254 he1254
                replace hv1253 := hv1253.mono (gz_mono hH hle1254)
                replace hG1228 := hG1228.trans (gz_mono hH hle1254)
                refine S_v (r_field rfl underlying44 rfl zr40 (by decide)) rfl ?_
                refine S_storeB1 2 rfl rfl (row_one (hL1254.at (i := 0) rfl)) zr40 hL1254 rfl rfl ?_
                intro w1256 hL1256 hle1256
                replace hv1253 := hv1253.mono (gz_mono hH hle1256)
                replace he1254 := he1254.mono (gz_mono hH hle1256)
                replace hG1228 := hG1228.trans (gz_mono hH hle1256)
                refine S_seqnil ?_
                refine W_region ?_
                refine S_pu 1 rfl ?_
                obtain ⟨hk1257, h⟩ := Go.L.chk_some h
                refine S_v (r_ar64 rfl rfl rfl hk1257) rfl ?_
                refine S_pu 1 rfl ?_
                refine S_nil ?_
                refine At_block ?_
                refine At_seq ?_
                refine W_region ?_
                refine S_pu 1 rfl ?_
                obtain ⟨hk1258, h⟩ := Go.L.chk_some h
                refine S_v (r_ar64 rfl rfl rfl hk1258) rfl ?_
                refine S_pu 1 rfl ?_
                refine S_nil ?_
                have h := Go.L.Nxt.again h hm1177
                refine At_round (((c1171 + x1.getD s9_1175.toNat default) - (1 : Int)), (c1217 + x1.getD ((s9_1175 + (1 : Int)).toNat) default), (l1174 ++ [(((c1171 + x1.getD s9_1175.toNat default) - (1 : Int)), (c1217 + x1.getD ((s9_1175 + (1 : Int)).toNat) default))]), (s9_1175 + (2 : Int)), (s17_1176 + (1 : Int)), v1254, xs1254, n1177) (.cons rfl (.cons rfl (.cons rfl (.cons rfl (.cons rfl (.cons rfl (.cons rfl (.cons rfl (.cons rfl (.cons rfl (.cons rfl (Sub.nil _)))))))))))) ⟨hL1256, (hf1218_0.mono hG1228), he1254, (he1218_r817.mono hG1228), (he1218_r33.mono hG1228), (he1218_r26.mono hG1228), h⟩ (Nat.lt_succ_self _)
          ·replace h := Go.L.ite_n hc1181 h
           refine W_exit ?_
           refine At_seq_exit ?_
           refine At_loop_exit ?_
           replace h := Go.L.Nxt.out h hm1177
           refine At_exit ?_
           refine At_cut (c1171, c1172, l1174, s9_1175, vl1174, xsl1174) (.cons rfl (.cons rfl (.cons rfl (.cons rfl (.cons rfl (.cons rfl (.cons rfl (.cons rfl (Sub.nil _))))))))) ⟨hL1177, (hf1177_0.mono hG1180), (hel1174.mono hG1180), (he1177_r817.mono hG1180), (he1177_r33.mono hG1180), (he1177_r26.mono hG1180), h⟩
         ·rintro ⟨c1107, c1108, l1110, s9_1111, vl1110, xsl1110⟩ wr1112 ⟨hL1112, hf1112_0, hel1110, he1112_r817, he1112_r33, he1112_r26, h⟩
          have hG1261 := hL1112.rG H
          refine W_p 1 rfl ?_
          refine S_v (r_loadBN 2 rfl underlying44 rfl zr44 hL1112 rfl) rfl ?_
          have hv1263 := hL1112.vecG hH (i := 0) rfl (hel1110.mono hG1261)
          have hL1263 := hL1112.dropAt (i := 0) rfl
          replace hG1261 := hG1261.trans (gz_mono hH (fz_dropAt (i := 0) rfl))
          refine S_litE (r := (.pair .st (.vec (.pair (.int .i64) (.int .i64))))) (l := [(l841, l1110)]) rfl (fun _ => bsl33_1 _ _ _) rfl (show 1 ≤ 9223372036854775807 by decide) hH hL1263 (.c2 ⟨_, _, rfl, rfl, ⟨_, rfl, hv1263⟩⟩ .nil) ?_
          intro v1262 w1262 hx1262 hL1262 hle1262 hv1262
          replace hv1263 := hv1263.mono (gz_mono hH hle1262)
          replace hG1261 := hG1261.trans (gz_mono hH hle1262)
          obtain ⟨hk1265, h⟩ := Go.L.chk_some h
          refine S_appE (r := (.pair .st (.vec (.pair (.int .i64) (.int .i64))))) (l := l534) (m := [(l841, l1110)]) 4 rfl rfl underlying33 zr44 rfl (by decide) rfl hH hL1262 rfl (he1112_r26.mono hG1261) hv1262 hk1265 ?_
          intro v1264 w1264 xs1264 hL1264 hle1264 he1264
          replace hv1263 := hv1263.mono (gz_mono hH hle1264)
          replace hv1262 := hv1262.mono (gz_mono hH hle1264)
          replace hG1261 := hG1261.trans (gz_mono hH hle1264)
          refine S_pz 1 rfl ?_
          refine W_region ?_
          refine S_pu 1 rfl ?_
          refine S_v (r_field rfl underlying44 rfl zr9 (by decide)) rfl ?_
          refine S_v (r_loadB1 1 rfl underlying9 rfl hL1264 rfl rfl) rfl ?_
          refine S_v (r_field rfl underlying44 rfl zr40 (by decide)) rfl ?_
          refine S_v (r_loadB1 1 rfl underlying40 rfl hL1264 rfl rfl) rfl ?_
          obtain ⟨x1266, hb1266, h⟩ := Go.L.bind_some h
          refine S_callL rfl rfl hL1264 (ref4_entryForm_ok _ _ (gz_le hH hL1264) hv1263 hb1266) ?_
          rintro u1267_0 w1267 ⟨_, rfl, hR1267_0⟩ hx1267 hL1267 hle1267
          have hv1267_0 := hR1267_0.vecG hH hL1264 hx1267
          replace hv1263 := hv1263.mono (gz_mono hH hle1267)
          replace he1264 := he1264.mono (gz_mono hH hle1267)
          replace hG1261 := hG1261.trans (gz_mono hH hle1267)
          obtain ⟨hk1269, h⟩ := Go.L.chk_some h
          refine S_appE (r := (.int .i64)) (l := l533) (m := x1266) 3 rfl rfl underlying71 zr3 rfl (by decide) rfl hH hL1267 rfl (he1112_r33.mono hG1261) hv1267_0 hk1269 ?_
          intro v1268 w1268 xs1268 hL1268 hle1268 he1268
          replace hv1263 := hv1263.mono (gz_mono hH hle1268)
          replace he1264 := he1264.mono (gz_mono hH hle1268)
          replace hv1267_0 := hv1267_0.mono (gz_mono hH hle1268)
          replace hG1261 := hG1261.trans (gz_mono hH hle1268)
          refine S_pu 1 rfl ?_
          refine S_nil ?_
          refine At_block ?_
          have hL1270 := hL1268.dropAt (i := 0) rfl
          replace hv1263 := hv1263.mono (gz_mono hH (fz_dropAt (i := 0) rfl))
          replace he1264 := he1264.mono (gz_mono hH (fz_dropAt (i := 0) rfl))
          replace hv1267_0 := hv1267_0.mono (gz_mono hH (fz_dropAt (i := 0) rfl))
          replace he1268 := he1268.mono (gz_mono hH (fz_dropAt (i := 0) rfl))
          replace hG1261 := hG1261.trans (gz_mono hH (fz_dropAt (i := 0) rfl))
          have hL1271 := hL1270.dropAt (i := 0) rfl
          replace hv1263 := hv1263.mono (gz_mono hH (fz_dropAt (i := 0) rfl))
          replace he1264 := he1264.mono (gz_mono hH (fz_dropAt (i := 0) rfl))
          replace hv1267_0 := hv1267_0.mono (gz_mono hH (fz_dropAt (i := 0) rfl))
          replace he1268 := he1268.mono (gz_mono hH (fz_dropAt (i := 0) rfl))
          replace hG1261 := hG1261.trans (gz_mono hH (fz_dropAt (i := 0) rfl))
          have hL1272 := hL1271.dropAt (i := 0) rfl
          replace hv1263 := hv1263.mono (gz_mono hH (fz_dropAt (i := 0) rfl))
          replace he1264 := he1264.mono (gz_mono hH (fz_dropAt (i := 0) rfl))
          replace hv1267_0 := hv1267_0.mono (gz_mono hH (fz_dropAt (i := 0) rfl))
          replace he1268 := he1268.mono (gz_mono hH (fz_dropAt (i := 0) rfl))
          replace hG1261 := hG1261.trans (gz_mono hH (fz_dropAt (i := 0) rfl))
          refine At_cut ((l533 ++ x1266), (l534 ++ [(l841, l1110)]), s9_1111, v1268, xs1268, v1264, xs1264) (.cons rfl (.cons rfl (.cons rfl (.cons rfl (.cons rfl (.cons rfl (.cons rfl (Sub.nil _)))))))) ⟨hL1272, (hf1112_0.mono hG1261), he1268, he1264, h⟩
    ·rintro ⟨l777, l778, s9_779, vl777, xsl777, vl778, xsl778⟩ wr780 ⟨hL780, hf780_0, hel777, hel778, h⟩
     have hG1274 := hL780.rG H
     refine W_region ?_
     refine S_pu 1 rfl ?_
     obtain ⟨hk1275, h⟩ := Go.L.chk_some h
     refine S_v (r_ar64 rfl rfl rfl hk1275) rfl ?_
     refine S_pu 1 rfl ?_
     refine S_nil ?_
     have h := Go.L.Nxt.again h hm537
     refine At_round (l777, l778, s9_779, (s10_536 + (1 : Int)), vl777, xsl777, vl778, xsl778, n537) (.cons rfl (.cons rfl (.cons rfl (.cons rfl (.cons rfl (.cons rfl (.cons rfl (Sub.nil _)))))))) ⟨hL780, (hf780_0.mono hG1274), (hel777.mono hG1274), (hel778.mono hG1274), h⟩ (Nat.lt_succ_self _)
   ·replace h := Go.L.ite_n hc542 h
    refine W_exit ?_
    refine At_seq_exit ?_
    refine At_loop_exit ?_
    replace h := Go.L.Nxt.out h hm537
    refine At_exit ?_
    refine At_cut (l533, l534, vl533, xsl533, vl534, xsl534) (.cons rfl (.cons rfl (.cons rfl (.cons rfl (Sub.nil _))))) ⟨hL537, (hel533.mono hG539), (hel534.mono hG539), h⟩
  ·rintro ⟨l285, l286, vl285, xsl285, vl286, xsl286⟩ wr287 ⟨hL287, hel285, hel286, h⟩
   refine W_p 3 rfl ?_
   have hv1278 := hL287.vecG hH (i := 0) rfl hel285
   have hL1278 := hL287.dropAt (i := 0) rfl
   replace hel286 := hel286.mono (gz_mono hH (fz_dropAt (i := 0) rfl))
   obtain ⟨x1279, hb1279, h⟩ := Go.L.bind_some h
   refine S_callL rfl rfl hL1278 (ref4_gammas_ok _ _ (gz_le hH hL1278) hv1278 hb1279) ?_
   rintro u1280_0 w1280 ⟨_, rfl, hR1280_0⟩ hx1280 hL1280 hle1280
   have hv1280_0 := hR1280_0.mono (gz_nw hH hL1278 hx1280)
   replace hel286 := hel286.mono (gz_mono hH hle1280)
   replace hv1278 := hv1278.mono (gz_mono hH hle1280)
   refine S_pu 1 rfl ?_
   obtain ⟨x1281, hb1281, h⟩ := Go.L.bind_some h
   refine S_callL rfl rfl hL1280 (ref3_SameBytes_ok _ _ (gz_le hH hL1280) hv1280_0 (h0_0.mono (gz_left hH)) hb1281) ?_
   rintro _ w1282 rfl hx1282 hL1282 hle1282
   replace hel286 := hel286.mono (gz_mono hH hle1282)
   replace hv1278 := hv1278.mono (gz_mono hH hle1282)
   replace hv1280_0 := hv1280_0.mono (gz_mono hH hle1282)
   refine S_pz 3 rfl ?_
   refine W_ret ?_
   obtain rfl := Option.some.inj h
   refine At_body rfl rfl ?_
   exact ⟨hL1282.ext, _, rfl, (hL1282.ownH hH (i := 0) rfl hel286)⟩
end Go.Proofs.YtdiieblgeaehpaaGreatDoor
