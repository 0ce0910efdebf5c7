/- Generated walks: Locate, Open, the closed examples. -/
import Derived.Test.YtmifkdfaaaaicaaSortI
import Derived.Test.YtmifkdfaaaaicaaP3
import Derived.Test.YtmifkdfaaaaicaaEngP
import Derived.KernelRfl
namespace Go.Proofs.Ytmifkdfaaaaicaa
open Go Go.E Go.RowKit
noncomputable def fmindex_Index_Locate (a0 : ((List Int)) × (List Int) × (List Int)) (a1 : List UInt8) : Option ((List Int) × (Int × Int)) :=
  Option.bind (fmindex_Index_find (a0.1, a0.2.1, a0.2.2) a1) (fun x3 => if (bif !decide (x3.2.2.1 = (0 : Int) ∧ x3.2.2.2 = (0 : Int)) then true else decide (x3.1 = x3.2.1)) then some ([], (x3.2.2.1, x3.2.2.2)) else Go.L.chk (0 ≤ x3.1 ∧ x3.1 ≤ x3.2.1 ∧ x3.2.1 ≤ (a0.2.2.length : Int)) (Option.bind (slices_Clone_int_int ((a0.2.2.drop x3.1.toNat).take (x3.2.1.toNat - x3.1.toNat))) (fun x17 => Go.L.chk (x17.length < 4611686018427387904) (some ((Go.L.srt x17), ((0 : Int), (0 : Int)))))))

set_option maxRecDepth 10000 in
theorem fmindex_Index_Locate_ok (w : World) (H : PH) (hH : Le H (hp w)) {a0 : ((List Int)) × (List Int) × (List Int)} {a1 : List UInt8} {v0_0 : Value} {v0_1 : Value} {v0_2 : Value} {v1_0 : Value} (h0_0 : Vec (.int .i64) H v0_0 (a0.1)) (h0_1 : Vec (.int .i64) H v0_1 (a0.2.1)) (h0_2 : Vec (.int .i64) H v0_2 (a0.2.2)) (h1_0 : Vec .byte H v1_0 (a1)) {r : (List Int) × (Int × Int)} (h : fmindex_Index_Locate a0 a1 = some r) :
    Ok Try.prog 33 [.agg #[v0_0, v0_1, v0_2], v1_0] w (fun v w' => Ext w w' ∧ ∃ u0, v = .tuple #[u0, .agg #[.int .i64 r.2.1, .int .i64 r.2.2]] ∧ OwnH 3 (.int .i64) H w w' u0 (r.1)) := by
  refine Ok_enter (n := 36) [(0, .agg #[v0_0, v0_1, v0_2]), (1, v1_0)] Try.func33 rfl rfl rfl rfl rfl ?_
  have hL := Lcl.start w
  refine W_seqr ?_
  refine S_box (t := 50) rfl rfl rfl hL ?_
  intro w1 b1 hL1 hle1 _
  refine S_pu 1 rfl ?_
  refine S_alloc zr25 rfl rfl hL1 ?_
  intro w2 b2 hL2 hle2 _
  refine S_seqnil ?_
  refine W_seqr ?_
  refine S_v (r_loadBN 1 rfl Try.underlying50 rfl zr50 hL2 rfl) rfl ?_
  refine S_pu 1 rfl ?_
  obtain ⟨x3, hb3, h⟩ := Go.L.bind_some h
  refine S_callL rfl rfl hL2 (fmindex_Index_find_ok _ _ (gz_le hH hL2) (h0_0.mono (gz_left hH)) (h0_1.mono (gz_left hH)) (h0_2.mono (gz_left hH)) (h1_0.mono (gz_left hH)) hb3) ?_
  rintro _ w4 rfl hx4 hL4 hle4
  refine S_pu 4 rfl ?_
  refine S_alloc zr25 rfl rfl hL4 ?_
  intro w5 b5 hL5 hle5 _
  refine S_pu 2 rfl ?_
  refine S_storeBN 0 rfl rfl rfl zr25 hL5 rfl rfl (onc rfl (onc rfl on0)) ?_
  intro w6 hL6 hle6
  refine S_seqnil ?_
  refine W_seq ?_
  refine W_seqr ?_
  refine S_v (r_loadBN 0 rfl Try.underlying25 rfl zr25 hL6 rfl) rfl ?_
  refine S_v (r_build rfl (fun _ => bld25_z _)) rfl ?_
  refine S_v (r_neA rfl rfl eqg25 (eq25 _ _ _ _ )) rfl ?_
  refine S_pu 1 rfl ?_
  refine S_pickF 3 3 rfl rfl rfl rfl rfl rfl rfl ?_
  refine S_seqnil ?_
  refine W_cond rfl (fun hc7 => ?_) (fun hc7 => ?_)
  · replace h := Go.L.ite_t hc7 h
    refine W_seqd (.q 0 (.q 1 (.tail 2))) mixed (by kernel_rfl) (fun w9 hx9 => ?_)
    have hL10 := hL6.call hx9
    refine D_v (r_loadBN 0 rfl Try.underlying25 rfl zr25 hL10 rfl) rfl rfl ?_
    refine D_pu 1 rfl ?_
    refine D_tail (fun w11 hx11 => ?_)
    have hL12 := hL10.call hx11
    refine S_storeBN 1 rfl rfl rfl zr25 hL12 rfl rfl (onc rfl (onc rfl on0)) ?_
    intro w13 hL13 hle13
    refine S_seqnil ?_
    refine W_ret ?_
    refine At_seq_ret ?_
    obtain rfl := Option.some.inj h
    refine At_got2 rfl (.tmp rfl) (.cell rfl Try.underlying25 rfl zr25 (box_ptr (i := 1) hL13 rfl)) ?_
    exact ⟨hL13.ext, _, rfl, OwnH.nil⟩
  · replace h := Go.L.ite_f hc7 h
    refine W_skip ?_
    refine At_seq ?_
    refine W_seqr ?_
    refine S_v (r_field rfl Try.underlying50 rfl zr23 (by decide)) rfl ?_
    refine S_v (r_loadB1 2 rfl Try.underlying23 rfl hL6 rfl rfl) rfl ?_
    refine S_pu 2 rfl ?_
    obtain ⟨hk16, h⟩ := Go.L.chk_some h
    refine S_sliceB rfl rfl rfl Try.underlying23 zr3 h0_2 hk16 rfl ?_
    intro v15 hv15
    obtain ⟨x17, hb17, h⟩ := Go.L.bind_some h
    refine S_callL rfl rfl hL6 (slices_Clone_int_int_ok _ _ (gz_le hH hL6) (hv15.mono (gz_left hH)) hb17) ?_
    rintro u18_0 w18 ⟨_, rfl, hR18_0⟩ hx18 hL18 hle18
    obtain ⟨xs18, hL18, hle18, he18⟩ := hR18_0.take hH hL6 hx18
    refine S_pu 1 rfl ?_
    refine S_seqnil ?_
    refine W_seqr ?_
    refine S_pu 1 rfl ?_
    obtain ⟨hk20, h⟩ := Go.L.chk_some h
    refine S_sortI (i := 0) Try.lays189 rfl ⟨Try.f54, _, Try.func54, rfl, rfl⟩ rfl rfl hL18 rfl he18 hk20 ?_
    intro w19 xs19 hL19 hle19 he19
    refine S_seqnil ?_
    refine W_seqr ?_
    refine S_pu 1 rfl ?_
    refine S_v (r_build rfl (fun _ => bld25_z _)) rfl ?_
    refine S_pu 1 rfl ?_
    refine S_storeBN 2 rfl rfl rfl zr25 hL19 rfl rfl (onc rfl (onc rfl on0)) ?_
    intro w21 hL21 hle21
    replace he19 := he19.mono (gz_mono hH hle21)
    refine S_seqnil ?_
    refine W_ret ?_
    obtain rfl := Option.some.inj h
    refine At_got2 rfl (.tmp rfl) (.cell rfl Try.underlying25 rfl zr25 (box_ptr (i := 2) hL21 rfl)) ?_
    exact ⟨hL21.ext, _, rfl, (hL21.ownH hH (i := 0) rfl he19)⟩

noncomputable def fmindex_Open_k1 (c16 : Int) (c17 : Int) : Option ((((List Int)) × (List Int) × (List Int)) × (Int × Int)) :=
  some (([], [], []), (c16, c17))
noncomputable def fmindex_Open_k2 (c56 : Int) (c57 : Int) : Option ((((List Int)) × (List Int) × (List Int)) × (Int × Int)) :=
  some (([], [], []), (c56, c57))
noncomputable def fmindex_Open_k3 (c81 : Int) (c82 : Int) : Option ((((List Int)) × (List Int) × (List Int)) × (Int × Int)) :=
  some (([], [], []), (c81, c82))
noncomputable def fmindex_Open_k6 (c157 : Int) (c158 : Int) : Option ((((List Int)) × (List Int) × (List Int)) × (Int × Int)) :=
  some (([], [], []), (c157, c158))
noncomputable def fmindex_Open_k7 (c189 : Int) (c190 : Int) : Option ((((List Int)) × (List Int) × (List Int)) × (Int × Int)) :=
  some (([], [], []), (c189, c190))
noncomputable def fmindex_Open_k8 (c217 : Int) (c218 : Int) : Option ((((List Int)) × (List Int) × (List Int)) × (Int × Int)) :=
  some (([], [], []), (c217, c218))
noncomputable def fmindex_Open_k4 (a0 : List UInt8) (x3 : (Int × Int)) (l111 : List Int) : Option ((((List Int)) × (List Int) × (List Int)) × (Int × Int)) :=
  Go.L.chk ((0 ≤ ((((a0.getD ((2 : Int).toNat) default).toNat : Int).toNat ||| (((a0.getD ((3 : Int).toNat) default).toNat : Int) * 256).toNat : Nat) : Int) ∧ ((((a0.getD ((2 : Int).toNat) default).toNat : Int).toNat ||| (((a0.getD ((3 : Int).toNat) default).toNat : Int) * 256).toNat : Nat) : Int) ≤ (l111.length : Int)) ∧ (l111.length + 1) * 8 ≤ 140737488355328) (Option.bind (fmindex_fromSymbols (l111.take ((((a0.getD ((2 : Int).toNat) default).toNat : Int).toNat ||| (((a0.getD ((3 : Int).toNat) default).toNat : Int) * 256).toNat : Nat) : Int).toNat ++ (-1 : Int) :: l111.drop ((((a0.getD ((2 : Int).toNat) default).toNat : Int).toNat ||| (((a0.getD ((3 : Int).toNat) default).toNat : Int) * 256).toNat : Nat) : Int).toNat)) (fun x144 => if !x144.2 then fmindex_Open_k6 x3.1 x3.2 else Option.bind (fmindex_Index_text (x144.1.1, x144.1.2.1, x144.1.2.2)) (fun x172 => Option.bind (fmindex_Build x172) (fun x174 => if x174.2.1 = (0 : Int) ∧ x174.2.2 = (0 : Int) then Option.bind (fmindex_Index_Bytes (x174.1.1, x174.1.2.1, x174.1.2.2)) (fun x204 => Option.bind (bytes_Equal x204 a0) (fun x206 => if !x206 then fmindex_Open_k8 x3.1 x3.2 else some ((x174.1.1, x174.1.2.1, x174.1.2.2), ((0 : Int), (0 : Int))))) else fmindex_Open_k7 x3.1 x3.2))))
noncomputable def fmindex_Open_bl5 (a0 : List UInt8) (x3 : (Int × Int)) : (List Int) × Int → Option (((List Int) × Int) ⊕ ((((List Int)) × (List Int) × (List Int)) × (Int × Int))) := fun ⟨l126, s59_127⟩ =>
  if s59_127 < ((a0.drop (4 : Int).toNat).length : Int) then Go.L.chk (0 ≤ s59_127 ∧ s59_127 < ((a0.drop (4 : Int).toNat).length : Int)) (Go.L.chk (Go.E.Cap 8 (l126.length + ([(((a0.drop (4 : Int).toNat).getD s59_127.toNat default).toNat : Int)]).length)) (Go.L.chk (Go.L.I64 (s59_127 + (1 : Int))) (some (Sum.inl ((l126 ++ [(((a0.drop (4 : Int).toNat).getD s59_127.toNat default).toNat : Int)]), (s59_127 + (1 : Int))))))) else Option.map Sum.inr ((fmindex_Open_k4 a0 x3) l126)
noncomputable def fmindex_Open_l5 (a0 : List UInt8) (x3 : (Int × Int)) (s : (List Int) × Int) : Option ((((List Int)) × (List Int) × (List Int)) × (Int × Int)) := Go.L.run (fmindex_Open_bl5 a0 x3) s
noncomputable def fmindex_Open (a0 : List UInt8) : Option ((((List Int)) × (List Int) × (List Int)) × (Int × Int)) :=
  Option.bind (fmindex_fault (16 : Int) (-1 : Int)) (fun x3 => if (a0.length : Int) < (4 : Int) then fmindex_Open_k1 x3.1 x3.2 else Go.L.chk (0 ≤ (0 : Int) ∧ (0 : Int) < (a0.length : Int)) (Go.L.chk (0 ≤ (1 : Int) ∧ (1 : Int) < (a0.length : Int)) (Go.L.chk (Go.L.I64 (((a0.getD ((1 : Int).toNat) default).toNat : Int) * 256)) (Go.L.chk ((0 ≤ ((a0.getD ((0 : Int).toNat) default).toNat : Int) ∧ ((a0.getD ((0 : Int).toNat) default).toNat : Int) < 2 ^ 63) ∧ (0 ≤ (((a0.getD ((1 : Int).toNat) default).toNat : Int) * 256) ∧ (((a0.getD ((1 : Int).toNat) default).toNat : Int) * 256) < 2 ^ 63)) (Go.L.chk (0 ≤ (2 : Int) ∧ (2 : Int) < (a0.length : Int)) (Go.L.chk (0 ≤ (3 : Int) ∧ (3 : Int) < (a0.length : Int)) (Go.L.chk (Go.L.I64 (((a0.getD ((3 : Int).toNat) default).toNat : Int) * 256)) (Go.L.chk ((0 ≤ ((a0.getD ((2 : Int).toNat) default).toNat : Int) ∧ ((a0.getD ((2 : Int).toNat) default).toNat : Int) < 2 ^ 63) ∧ (0 ≤ (((a0.getD ((3 : Int).toNat) default).toNat : Int) * 256) ∧ (((a0.getD ((3 : Int).toNat) default).toNat : Int) * 256) < 2 ^ 63)) (if ((2048 : Int) < ((((a0.getD ((0 : Int).toNat) default).toNat : Int).toNat ||| (((a0.getD ((1 : Int).toNat) default).toNat : Int) * 256).toNat : Nat) : Int)) ∨ (((((a0.getD ((0 : Int).toNat) default).toNat : Int).toNat ||| (((a0.getD ((1 : Int).toNat) default).toNat : Int) * 256).toNat : Nat) : Int) < ((((a0.getD ((2 : Int).toNat) default).toNat : Int).toNat ||| (((a0.getD ((3 : Int).toNat) default).toNat : Int) * 256).toNat : Nat) : Int)) then fmindex_Open_k2 x3.1 x3.2 else Go.L.chk (Go.L.I64 ((4 : Int) + ((((a0.getD ((0 : Int).toNat) default).toNat : Int).toNat ||| (((a0.getD ((1 : Int).toNat) default).toNat : Int) * 256).toNat : Nat) : Int))) (if (a0.length : Int) = ((4 : Int) + ((((a0.getD ((0 : Int).toNat) default).toNat : Int).toNat ||| (((a0.getD ((1 : Int).toNat) default).toNat : Int) * 256).toNat : Nat) : Int)) then Go.L.chk (0 ≤ (4 : Int) ∧ (4 : Int) ≤ (a0.length : Int)) ((fmindex_Open_l5 a0 x3) (([] : List Int), (0 : Int))) else fmindex_Open_k3 x3.1 x3.2))))))))))

set_option maxRecDepth 10000 in
theorem fmindex_Open_ok (w : World) (H : PH) (hH : Le H (hp w)) {a0 : List UInt8} {v0_0 : Value} (h0_0 : Vec .byte H v0_0 (a0)) {r : (((List Int)) × (List Int) × (List Int)) × (Int × Int)} (h : fmindex_Open a0 = some r) :
    Ok Try.prog 40 [v0_0] w (fun v w' => Ext w w' ∧ ∃ u0 u1 u2, v = .tuple #[.agg #[u0, u1, u2], .agg #[.int .i64 r.2.1, .int .i64 r.2.2]] ∧ Vec (.int .i64) (un H (nw w w')) u0 (r.1.1) ∧ Vec (.int .i64) (un H (nw w w')) u1 (r.1.2.1) ∧ Vec (.int .i64) (un H (nw w w')) u2 (r.1.2.2)) := by
  refine Ok_enter (n := 102) [(0, v0_0)] Try.func40 rfl rfl rfl rfl rfl ?_
  have hL := Lcl.start w
  refine W_seqr ?_
  refine S_alloc zr50 rfl rfl hL ?_
  intro w1 b1 hL1 hle1 _
  refine S_alloc zr25 rfl rfl hL1 ?_
  intro w2 b2 hL2 hle2 _
  refine S_seqnil ?_
  refine W_seqr ?_
  obtain ⟨x3, hb3, h⟩ := Go.L.bind_some h
  refine S_callL rfl rfl hL2 (fmindex_fault_ok _ _ (gz_le hH hL2) hb3) ?_
  rintro _ w4 rfl hx4 hL4 hle4
  refine S_alloc zr25 rfl rfl hL4 ?_
  intro w5 b5 hL5 hle5 _
  refine S_storeBN 0 rfl rfl rfl zr25 hL5 rfl rfl (onc rfl (onc rfl on0)) ?_
  intro w6 hL6 hle6
  refine S_seqnil ?_
  refine W_seq ?_
  refine W_seqr ?_
  refine S_pu 1 rfl ?_
  refine S_v (r_len rfl Try.underlying22 h0_0) rfl ?_
  refine S_pu 1 rfl ?_
  refine S_seqnil ?_
  refine W_if rfl (fun hc7 => ?_) (fun hc7 => ?_)
  · replace h := Go.L.ite_p hc7 h
    refine W_cut (σ := Int × Int) (fun (⟨c16, c17⟩ : Int × Int) => [(2, .pointer (some ⟨b1, 0, none⟩)), (3, .pointer (some ⟨b2, 0, none⟩))]) (fun (⟨c16, c17⟩ : Int × Int) wr => Lcl w [.box b5 [.int .i64 x3.1, .int .i64 x3.2] 25, .box b2 [.int .i64 c16, .int .i64 c17] 25, .box b1 [.slice none 0 0, .slice none 0 0, .slice none 0 0] 50] wr ∧ fmindex_Open_k1 c16 c17 = some r) ?_ ?_
    · refine W_naive mixed rfl (fun w23 hx23 => ?_)
      have hL24 := hL6.call hx23
      refine N_hoist 0 (np_cut (np_seq np_body)) (by kernel_rfl) rfl (fun _ => r_build rfl (fun _ => bld50_z _)) rfl ?_
      refine N2 (i := 1) (j := 2) (by kernel_rfl) rfl rfl ?_ ?_
      · refine S_v (r_loadBN 0 rfl Try.underlying25 rfl zr25 hL24 rfl) rfl ?_
        refine N_nil ?_
        refine N1 (i := 2) (by kernel_rfl) rfl ?_
        refine S_storeBN 2 rfl rfl rfl zr50 hL24 rfl rfl (onc rfl (onc rfl (onc rfl on0))) ?_
        intro w25 hL25 hle25
        refine N_nil ?_
        refine N1 (i := 3) (by kernel_rfl) rfl ?_
        refine S_storeBN 1 rfl rfl rfl zr25 hL25 rfl rfl (onc rfl (onc rfl on0)) ?_
        intro w26 hL26 hle26
        refine N_nil ?_
        refine N_end (by kernel_rfl) ?_
        refine At_cut (x3.1, x3.2) (.cons rfl (.cons rfl (Sub.nil _))) ⟨hL26, h⟩
      · refine S_storeBN 2 rfl rfl rfl zr50 hL24 rfl rfl (onc rfl (onc rfl (onc rfl on0))) ?_
        intro w27 hL27 hle27
        refine N_nil ?_
        refine N1 (i := 1) (by kernel_rfl) rfl ?_
        refine S_v (r_loadBN 0 rfl Try.underlying25 rfl zr25 hL27 rfl) rfl ?_
        refine N_nil ?_
        refine N1 (i := 3) (by kernel_rfl) rfl ?_
        refine S_storeBN 1 rfl rfl rfl zr25 hL27 rfl rfl (onc rfl (onc rfl on0)) ?_
        intro w28 hL28 hle28
        refine N_nil ?_
        refine N_end (by kernel_rfl) ?_
        refine At_cut (x3.1, x3.2) (.cons rfl (.cons rfl (Sub.nil _))) ⟨hL28, h⟩
    · rintro ⟨c16, c17⟩ wr21 ⟨hL21, h⟩
      refine W_ret ?_
      refine At_seq_ret ?_
      obtain rfl := Option.some.inj h
      refine At_got2 rfl (.cell rfl Try.underlying50 rfl zr50 (box_ptr (i := 2) hL21 rfl)) (.cell rfl Try.underlying25 rfl zr25 (box_ptr (i := 1) hL21 rfl)) ?_
      exact ⟨hL21.ext, _, _, _, rfl, (Vec.nil _ _), (Vec.nil _ _), (Vec.nil _ _)⟩
  · replace h := Go.L.ite_n hc7 h
    refine W_skip ?_
    refine At_seq ?_
    refine W_seqd (.q 0 (.q 1 (.q 2 (.q 3 (.q 4 (.q 5 (.q 6 (.q 7 (.q 8 (.q 9 (.q 10 (.q 11 (.q 12 (.q 13 (.q 14 (.q 15 (.q 16 (.q 17 (.q 18 (.q 19 (.q 20 (.q 21 (.tail 22))))))))))))))))))))))) mixed (by kernel_rfl) (fun w31 hx31 => ?_)
    have hL32 := hL6.call hx31
    refine D_pu 1 rfl ?_
    obtain ⟨hk34, h⟩ := Go.L.chk_some h
    refine D_index rfl rfl rfl Try.underlying22 zr5 h0_0 ((0 : Int).toNat) (Int.toNat_of_nonneg hk34.1).symm (idx_lt hk34) rfl ?_
    rintro p33 _ rfl hp33
    refine D_v (r_load1 rfl Try.underlying5 rfl hp33 (hH.trans hL32.arg)) rfl rfl ?_
    refine D_v (r_conv Try.underlying5 Try.underlying3 rfl (conv_8_64 _)) rfl rfl ?_
    refine D_pu 1 rfl ?_
    obtain ⟨hk36, h⟩ := Go.L.chk_some h
    refine D_index rfl rfl rfl Try.underlying22 zr5 h0_0 ((1 : Int).toNat) (Int.toNat_of_nonneg hk36.1).symm (idx_lt hk36) rfl ?_
    rintro p35 _ rfl hp35
    refine D_v (r_load1 rfl Try.underlying5 rfl hp35 (hH.trans hL32.arg)) rfl rfl ?_
    refine D_v (r_conv Try.underlying5 Try.underlying3 rfl (conv_8_64 _)) rfl rfl ?_
    obtain ⟨hk37, h⟩ := Go.L.chk_some h
    refine D_v (r_shl (c := 8) (m := 256) rfl rfl rfl (by decide) (wrap64 hk37.1 hk37.2)) rfl rfl ?_
    obtain ⟨hk38, h⟩ := Go.L.chk_some h
    refine D_v (r_bitI rfl rfl rfl hk38) rfl rfl ?_
    refine D_pu 1 rfl ?_
    obtain ⟨hk40, h⟩ := Go.L.chk_some h
    refine D_index rfl rfl rfl Try.underlying22 zr5 h0_0 ((2 : Int).toNat) (Int.toNat_of_nonneg hk40.1).symm (idx_lt hk40) rfl ?_
    rintro p39 _ rfl hp39
    refine D_v (r_load1 rfl Try.underlying5 rfl hp39 (hH.trans hL32.arg)) rfl rfl ?_
    refine D_v (r_conv Try.underlying5 Try.underlying3 rfl (conv_8_64 _)) rfl rfl ?_
    refine D_pu 1 rfl ?_
    obtain ⟨hk42, h⟩ := Go.L.chk_some h
    refine D_index rfl rfl rfl Try.underlying22 zr5 h0_0 ((3 : Int).toNat) (Int.toNat_of_nonneg hk42.1).symm (idx_lt hk42) rfl ?_
    rintro p41 _ rfl hp41
    refine D_v (r_load1 rfl Try.underlying5 rfl hp41 (hH.trans hL32.arg)) rfl rfl ?_
    refine D_v (r_conv Try.underlying5 Try.underlying3 rfl (conv_8_64 _)) rfl rfl ?_
    obtain ⟨hk43, h⟩ := Go.L.chk_some h
    refine D_v (r_shl (c := 8) (m := 256) rfl rfl rfl (by decide) (wrap64 hk43.1 hk43.2)) rfl rfl ?_
    obtain ⟨hk44, h⟩ := Go.L.chk_some h
    refine D_v (r_bitI rfl rfl rfl hk44) rfl rfl ?_
    refine D_pu 2 rfl ?_
    refine D_tail (fun w45 hx45 => ?_)
    have hL46 := hL32.call hx45
    refine S_seqnil ?_
    refine W_seq ?_
    refine W_seqr ?_
    refine S_pu 3 rfl ?_
    refine S_or 3 2 rfl rfl rfl rfl rfl rfl ?_
    refine S_pu 1 rfl ?_
    refine S_split (s := 47) rfl (fun hg47 => ?_) (fun hg47 => ?_)
    · replace h := Go.L.ite_p (of_decide_eq_true hg47) h
      refine S_unwanted rfl rfl hg47 rfl ?_
      refine S_unwanted rfl rfl hg47 rfl ?_
      refine S_unwanted rfl rfl hg47 rfl ?_
      refine S_unwanted rfl rfl hg47 rfl ?_
      refine S_unwanted rfl rfl hg47 rfl ?_
      refine S_v (r_pickT rfl hg47 rfl) rfl ?_
      refine S_seqnil ?_
      refine W_true rfl ?_
      refine W_cut (σ := Int × Int) (fun (⟨c56, c57⟩ : Int × Int) => [(2, .pointer (some ⟨b1, 0, none⟩)), (3, .pointer (some ⟨b2, 0, none⟩))]) (fun (⟨c56, c57⟩ : Int × Int) wr => Lcl w [.box b5 [.int .i64 x3.1, .int .i64 x3.2] 25, .box b2 [.int .i64 c56, .int .i64 c57] 25, .box b1 [.slice none 0 0, .slice none 0 0, .slice none 0 0] 50] wr ∧ fmindex_Open_k2 c56 c57 = some r) ?_ ?_
      · refine W_naive mixed rfl (fun w63 hx63 => ?_)
        have hL64 := hL46.call hx63
        refine N_hoist 0 (np_cut (np_seq np_body)) (by kernel_rfl) rfl (fun _ => r_build rfl (fun _ => bld50_z _)) rfl ?_
        refine N2 (i := 1) (j := 2) (by kernel_rfl) rfl rfl ?_ ?_
        · refine S_v (r_loadBN 0 rfl Try.underlying25 rfl zr25 hL64 rfl) rfl ?_
          refine N_nil ?_
          refine N1 (i := 2) (by kernel_rfl) rfl ?_
          refine S_storeBN 2 rfl rfl rfl zr50 hL64 rfl rfl (onc rfl (onc rfl (onc rfl on0))) ?_
          intro w65 hL65 hle65
          refine N_nil ?_
          refine N1 (i := 3) (by kernel_rfl) rfl ?_
          refine S_storeBN 1 rfl rfl rfl zr25 hL65 rfl rfl (onc rfl (onc rfl on0)) ?_
          intro w66 hL66 hle66
          refine N_nil ?_
          refine N_end (by kernel_rfl) ?_
          refine At_cut (x3.1, x3.2) (.cons rfl (.cons rfl (Sub.nil _))) ⟨hL66, h⟩
        · refine S_storeBN 2 rfl rfl rfl zr50 hL64 rfl rfl (onc rfl (onc rfl (onc rfl on0))) ?_
          intro w67 hL67 hle67
          refine N_nil ?_
          refine N1 (i := 1) (by kernel_rfl) rfl ?_
          refine S_v (r_loadBN 0 rfl Try.underlying25 rfl zr25 hL67 rfl) rfl ?_
          refine N_nil ?_
          refine N1 (i := 3) (by kernel_rfl) rfl ?_
          refine S_storeBN 1 rfl rfl rfl zr25 hL67 rfl rfl (onc rfl (onc rfl on0)) ?_
          intro w68 hL68 hle68
          refine N_nil ?_
          refine N_end (by kernel_rfl) ?_
          refine At_cut (x3.1, x3.2) (.cons rfl (.cons rfl (Sub.nil _))) ⟨hL68, h⟩
      · rintro ⟨c56, c57⟩ wr61 ⟨hL61, h⟩
        refine W_ret ?_
        refine At_seq_ret ?_
        obtain rfl := Option.some.inj h
        refine At_got2 rfl (.cell rfl Try.underlying50 rfl zr50 (box_ptr (i := 2) hL61 rfl)) (.cell rfl Try.underlying25 rfl zr25 (box_ptr (i := 1) hL61 rfl)) ?_
        exact ⟨hL61.ext, _, _, _, rfl, (Vec.nil _ _), (Vec.nil _ _), (Vec.nil _ _)⟩
    · replace h := Go.L.ite_n (of_decide_eq_false hg47) h
      refine S_guarded rfl rfl hg47 ?_
      refine S_v (RunsAt_pu rfl) rfl ?_
      refine S_guarded rfl rfl hg47 ?_
      refine S_v (r_len rfl Try.underlying22 h0_0) rfl ?_
      refine S_guarded rfl rfl hg47 ?_
      refine S_v (RunsAt_pu rfl) rfl ?_
      refine S_guarded rfl rfl hg47 ?_
      obtain ⟨hk71, h⟩ := Go.L.chk_some h
      refine S_v (r_ar64 rfl rfl rfl hk71) rfl ?_
      refine S_guarded rfl rfl hg47 ?_
      refine S_v (RunsAt_pu rfl) rfl ?_
      refine S_v (r_pickF rfl hg47 rfl) rfl ?_
      refine S_seqnil ?_
      refine W_ifn rfl (fun hc72 => ?_) (fun hc72 => ?_)
      · replace h := Go.L.ite_n hc72 h
        refine W_cut (σ := Int × Int) (fun (⟨c81, c82⟩ : Int × Int) => [(2, .pointer (some ⟨b1, 0, none⟩)), (3, .pointer (some ⟨b2, 0, none⟩))]) (fun (⟨c81, c82⟩ : Int × Int) wr => Lcl w [.box b5 [.int .i64 x3.1, .int .i64 x3.2] 25, .box b2 [.int .i64 c81, .int .i64 c82] 25, .box b1 [.slice none 0 0, .slice none 0 0, .slice none 0 0] 50] wr ∧ fmindex_Open_k3 c81 c82 = some r) ?_ ?_
        · refine W_naive mixed rfl (fun w88 hx88 => ?_)
          have hL89 := hL46.call hx88
          refine N_hoist 0 (np_cut (np_seq np_body)) (by kernel_rfl) rfl (fun _ => r_build rfl (fun _ => bld50_z _)) rfl ?_
          refine N2 (i := 1) (j := 2) (by kernel_rfl) rfl rfl ?_ ?_
          · refine S_v (r_loadBN 0 rfl Try.underlying25 rfl zr25 hL89 rfl) rfl ?_
            refine N_nil ?_
            refine N1 (i := 2) (by kernel_rfl) rfl ?_
            refine S_storeBN 2 rfl rfl rfl zr50 hL89 rfl rfl (onc rfl (onc rfl (onc rfl on0))) ?_
            intro w90 hL90 hle90
            refine N_nil ?_
            refine N1 (i := 3) (by kernel_rfl) rfl ?_
            refine S_storeBN 1 rfl rfl rfl zr25 hL90 rfl rfl (onc rfl (onc rfl on0)) ?_
            intro w91 hL91 hle91
            refine N_nil ?_
            refine N_end (by kernel_rfl) ?_
            refine At_cut (x3.1, x3.2) (.cons rfl (.cons rfl (Sub.nil _))) ⟨hL91, h⟩
          · refine S_storeBN 2 rfl rfl rfl zr50 hL89 rfl rfl (onc rfl (onc rfl (onc rfl on0))) ?_
            intro w92 hL92 hle92
            refine N_nil ?_
            refine N1 (i := 1) (by kernel_rfl) rfl ?_
            refine S_v (r_loadBN 0 rfl Try.underlying25 rfl zr25 hL92 rfl) rfl ?_
            refine N_nil ?_
            refine N1 (i := 3) (by kernel_rfl) rfl ?_
            refine S_storeBN 1 rfl rfl rfl zr25 hL92 rfl rfl (onc rfl (onc rfl on0)) ?_
            intro w93 hL93 hle93
            refine N_nil ?_
            refine N_end (by kernel_rfl) ?_
            refine At_cut (x3.1, x3.2) (.cons rfl (.cons rfl (Sub.nil _))) ⟨hL93, h⟩
        · rintro ⟨c81, c82⟩ wr86 ⟨hL86, h⟩
          refine W_ret ?_
          refine At_seq_ret ?_
          obtain rfl := Option.some.inj h
          refine At_got2 rfl (.cell rfl Try.underlying50 rfl zr50 (box_ptr (i := 2) hL86 rfl)) (.cell rfl Try.underlying25 rfl zr25 (box_ptr (i := 1) hL86 rfl)) ?_
          exact ⟨hL86.ext, _, _, _, rfl, (Vec.nil _ _), (Vec.nil _ _), (Vec.nil _ _)⟩
      · replace h := Go.L.ite_p hc72 h
        refine W_skip ?_
        refine At_seq ?_
        refine W_seqr ?_
        refine S_pu 1 rfl ?_
        obtain ⟨hL96, hle96, he96⟩ := row_nilE (.int .i64) H 3 hL46
        refine S_seqnil ?_
        refine W_cut (σ := (List Int) × Value × (List Value)) (fun (⟨l111, vl111, xsl111⟩ : (List Int) × Value × (List Value)) => [(0, v0_0), (2, .pointer (some ⟨b1, 0, none⟩)), (3, .pointer (some ⟨b2, 0, none⟩)), (4, .pointer (some ⟨b5, 0, none⟩)), (6, .int .i64 ((((a0.getD ((2 : Int).toNat) default).toNat : Int).toNat ||| (((a0.getD ((3 : Int).toNat) default).toNat : Int) * 256).toNat : Nat) : Int)), (7, vl111)]) (fun (⟨l111, vl111, xsl111⟩ : (List Int) × Value × (List Value)) wr => Lcl w [.row (vl111) 3 1 (l111).length (xsl111), .box b5 [.int .i64 x3.1, .int .i64 x3.2] 25, .box b2 [.int .i64 (0 : Int), .int .i64 (0 : Int)] 25, .box b1 [.slice none 0 0, .slice none 0 0, .slice none 0 0] 50] wr ∧ Elems (.int .i64) (gz H w wr [.row (vl111) 3 1 (l111).length (xsl111), .box b5 [.int .i64 x3.1, .int .i64 x3.2] 25, .box b2 [.int .i64 (0 : Int), .int .i64 (0 : Int)] 25, .box b1 [.slice none 0 0, .slice none 0 0, .slice none 0 0] 50]) (l111) (xsl111) ∧ (fmindex_Open_k4 a0 x3) l111 = some r) ?_ ?_
        · refine W_seqr ?_
          refine S_pu 1 rfl ?_
          obtain ⟨hk115, h⟩ := Go.L.chk_some h
          refine S_sliceL rfl rfl Try.underlying22 zr5 h0_0 hk115 rfl ?_
          intro v114 hv114
          refine S_v (r_len rfl Try.underlying22 hv114) rfl ?_
          refine S_pu 1 rfl ?_
          refine S_seqnil ?_
          refine W_block ?_
          obtain ⟨n128, h⟩ := Go.L.run_some h
          refine W_loop (σ := (List Int) × Int × Value × (List Value) × Nat) (fun (⟨l126, s59_127, vl126, xsl126, n⟩ : (List Int) × Int × Value × (List Value) × Nat) => [(0, v0_0), (2, .pointer (some ⟨b1, 0, none⟩)), (3, .pointer (some ⟨b2, 0, none⟩)), (4, .pointer (some ⟨b5, 0, none⟩)), (6, .int .i64 ((((a0.getD ((2 : Int).toNat) default).toNat : Int).toNat ||| (((a0.getD ((3 : Int).toNat) default).toNat : Int) * 256).toNat : Nat) : Int)), (7, vl126), (57, v114), (58, .int .i64 ((a0.drop (4 : Int).toNat).length : Int)), (59, .int .i64 s59_127)]) (fun (⟨l126, s59_127, vl126, xsl126, n⟩ : (List Int) × Int × Value × (List Value) × Nat) wr => Lcl w [.row (vl126) 3 1 (l126).length (xsl126), .box b5 [.int .i64 x3.1, .int .i64 x3.2] 25, .box b2 [.int .i64 (0 : Int), .int .i64 (0 : Int)] 25, .box b1 [.slice none 0 0, .slice none 0 0, .slice none 0 0] 50] wr ∧ Elems (.int .i64) (gz H w wr [.row (vl126) 3 1 (l126).length (xsl126), .box b5 [.int .i64 x3.1, .int .i64 x3.2] 25, .box b2 [.int .i64 (0 : Int), .int .i64 (0 : Int)] 25, .box b1 [.slice none 0 0, .slice none 0 0, .slice none 0 0] 50]) (l126) (xsl126) ∧ Go.L.itr (fmindex_Open_bl5 a0 x3) n (l126, s59_127) = some r) (fun (⟨l126, s59_127, vl126, xsl126, n⟩ : (List Int) × Int × Value × (List Value) × Nat) => n) (([] : List Int), (0 : Int), .slice none 0 0, [], n128) (.cons rfl (.cons rfl (.cons rfl (.cons rfl (.cons rfl (.cons rfl (.cons rfl (.cons rfl (.cons rfl (Sub.nil _)))))))))) ⟨hL96, he96, h⟩ ?_
          rintro ⟨l126, s59_127, vl126, xsl126, nn128⟩ wr128 ⟨hL128, hel126, h⟩
          obtain ⟨n128, e128, rfl, h, hm128⟩ := Go.L.itr_some h
          refine W_seqr ?_
          refine S_pu 1 rfl ?_
          refine S_seqnil ?_
          refine W_seq ?_
          refine W_if rfl (fun hc130 => ?_) (fun hc130 => ?_)
          · replace h := Go.L.ite_p hc130 h
            refine W_skip ?_
            refine At_seq ?_
            refine W_seq ?_
            refine W_block ?_
            refine W_seqr ?_
            obtain ⟨hk133, h⟩ := Go.L.chk_some h
            refine S_index rfl rfl Try.underlying22 zr5 hv114 s59_127.toNat (Int.toNat_of_nonneg hk133.1).symm (idx_lt hk133) rfl ?_
            rintro p132 _ rfl hp132
            refine S_v (r_load1 rfl Try.underlying5 rfl hp132 (hH.trans hL128.arg)) rfl ?_
            refine S_pu 1 rfl ?_
            refine S_seqnil ?_
            refine W_region ?_
            refine S_pu 2 rfl ?_
            refine S_v (r_conv Try.underlying5 Try.underlying3 rfl (conv_8_64 _)) rfl ?_
            refine S_litE (r := (.int .i64)) (l := [(((a0.drop (4 : Int).toNat).getD s59_127.toNat default).toNat : Int)]) rfl (fun _ => bsl23_1 _ _) rfl (show 1 ≤ 9223372036854775807 by decide) hH hL128 (.c1 rfl .nil) ?_
            intro v134 w134 hx134 hL134 hle134 hv134
            replace hel126 := hel126.mono (gz_mono hH hle134)
            obtain ⟨hk136, h⟩ := Go.L.chk_some h
            refine S_appE (r := (.int .i64)) (l := l126) (m := [(((a0.drop (4 : Int).toNat).getD s59_127.toNat default).toNat : Int)]) 0 rfl rfl Try.underlying23 zr3 rfl (by decide) rfl hH hL134 rfl hel126 hv134 hk136 ?_
            intro v135 w135 xs135 hL135 hle135 he135
            replace hv134 := hv134.mono (gz_mono hH hle135)
            refine S_pu 1 rfl ?_
            refine S_nil ?_
            refine At_block ?_
            refine At_seq ?_
            refine W_region ?_
            obtain ⟨hk137, h⟩ := Go.L.chk_some h
            refine S_v (r_ar64 rfl rfl rfl hk137) rfl ?_
            refine S_pu 1 rfl ?_
            refine S_nil ?_
            have h := Go.L.Nxt.again h hm128
            refine At_round ((l126 ++ [(((a0.drop (4 : Int).toNat).getD s59_127.toNat default).toNat : Int)]), (s59_127 + (1 : Int)), v135, xs135, n128) (.cons rfl (.cons rfl (.cons rfl (.cons rfl (.cons rfl (.cons rfl (.cons rfl (.cons rfl (.cons rfl (Sub.nil _)))))))))) ⟨hL135, he135, h⟩ (Nat.lt_succ_self _)
          · replace h := Go.L.ite_n hc130 h
            refine W_exit ?_
            refine At_seq_exit ?_
            refine At_loop_exit ?_
            replace h := Go.L.Nxt.out h hm128
            refine At_exit ?_
            refine At_cut (l126, vl126, xsl126) (.cons rfl (.cons rfl (.cons rfl (.cons rfl (.cons rfl (.cons rfl (Sub.nil _))))))) ⟨hL128, hel126, h⟩
        · rintro ⟨l111, vl111, xsl111⟩ wr112 ⟨hL112, hel111, h⟩
          refine W_seqr ?_
          refine S_pu 2 rfl ?_
          refine S_litO (r := (.int .i64)) (l := [(-1 : Int)]) rfl (fun _ => bsl23_1 _ _) rfl (show 1 ≤ 9223372036854775807 by decide) hH hL112 (.c1 rfl .nil) ?_
          intro v140 w140 xs140 hL140 hle140 he140
          replace hel111 := hel111.mono (gz_mono hH hle140)
          obtain ⟨hk142, h⟩ := Go.L.chk_some h
          refine S_insE (i := 1) (j := 0) (z := (-1 : Int)) Try.laysIns rfl rfl ⟨Try.f59, _, Try.func59, rfl, rfl⟩ rfl rfl hL140 (by decide) rfl hel111 rfl he140 hk142 ?_
          intro v141 w141 xs141 hL141 hle141 he141
          replace he140 := he140.mono (gz_mono hH hle141)
          refine S_pu 1 rfl ?_
          refine S_seqnil ?_
          refine W_seqr ?_
          refine S_pu 1 rfl ?_
          have hv143 := hL141.vecG hH (i := 1) rfl he141
          have hL143 := hL141.dropAt (i := 1) rfl
          replace he140 := he140.mono (gz_mono hH (fz_dropAt (i := 1) rfl))
          obtain ⟨x144, hb144, h⟩ := Go.L.bind_some h
          refine S_callL rfl rfl hL143 (fmindex_fromSymbols_ok _ _ (gz_le hH hL143) hv143 hb144) ?_
          rintro _ w145 ⟨u145_0, u145_1, u145_2, rfl, hR145_0, hR145_1, hR145_2⟩ hx145 hL145 hle145
          have hv145_0 := hR145_0.mono (gz_nw hH hL143 hx145)
          have hv145_1 := hR145_1.vecG hH hL143 hx145
          have hv145_2 := hR145_2.vecG hH hL143 hx145
          replace he140 := he140.mono (gz_mono hH hle145)
          replace hv143 := hv143.mono (gz_mono hH hle145)
          refine S_pu 3 rfl ?_
          refine S_alloc zr50 rfl rfl hL145 ?_
          intro w146 b146 hL146 hle146 _
          replace he140 := he140.mono (gz_mono hH hle146)
          replace hv143 := hv143.mono (gz_mono hH hle146)
          replace hv145_0 := hv145_0.mono (gz_mono hH hle146)
          replace hv145_1 := hv145_1.mono (gz_mono hH hle146)
          replace hv145_2 := hv145_2.mono (gz_mono hH hle146)
          refine S_storeBN 0 rfl rfl rfl zr50 hL146 rfl rfl (onc hv145_0.one (onc hv145_1.one (onc hv145_2.one on0))) ?_
          intro w147 hL147 hle147
          replace he140 := he140.mono (gz_mono hH hle147)
          replace hv143 := hv143.mono (gz_mono hH hle147)
          replace hv145_0 := hv145_0.mono (gz_mono hH hle147)
          replace hv145_1 := hv145_1.mono (gz_mono hH hle147)
          replace hv145_2 := hv145_2.mono (gz_mono hH hle147)
          refine S_pu 1 rfl ?_
          refine S_seqnil ?_
          refine W_seq ?_
          refine W_seqr ?_
          refine S_pu 2 rfl ?_
          refine S_seqnil ?_
          refine W_cond rfl (fun hc148 => ?_) (fun hc148 => ?_)
          · replace h := Go.L.ite_t hc148 h
            refine W_cut (σ := Int × Int) (fun (⟨c157, c158⟩ : Int × Int) => [(2, .pointer (some ⟨b1, 0, none⟩)), (3, .pointer (some ⟨b2, 0, none⟩))]) (fun (⟨c157, c158⟩ : Int × Int) wr => Lcl w [.box b146 [u145_0, u145_1, u145_2] 50, .row (v140) 3 1 ([(-1 : Int)]).length (xs140), .box b5 [.int .i64 x3.1, .int .i64 x3.2] 25, .box b2 [.int .i64 c157, .int .i64 c158] 25, .box b1 [.slice none 0 0, .slice none 0 0, .slice none 0 0] 50] wr ∧ Vec (.int .i64) (gz H w wr [.box b146 [u145_0, u145_1, u145_2] 50, .row (v140) 3 1 ([(-1 : Int)]).length (xs140), .box b5 [.int .i64 x3.1, .int .i64 x3.2] 25, .box b2 [.int .i64 c157, .int .i64 c158] 25, .box b1 [.slice none 0 0, .slice none 0 0, .slice none 0 0] 50]) (u145_0) (x144.1.1) ∧ Vec (.int .i64) (gz H w wr [.box b146 [u145_0, u145_1, u145_2] 50, .row (v140) 3 1 ([(-1 : Int)]).length (xs140), .box b5 [.int .i64 x3.1, .int .i64 x3.2] 25, .box b2 [.int .i64 c157, .int .i64 c158] 25, .box b1 [.slice none 0 0, .slice none 0 0, .slice none 0 0] 50]) (u145_1) (x144.1.2.1) ∧ Vec (.int .i64) (gz H w wr [.box b146 [u145_0, u145_1, u145_2] 50, .row (v140) 3 1 ([(-1 : Int)]).length (xs140), .box b5 [.int .i64 x3.1, .int .i64 x3.2] 25, .box b2 [.int .i64 c157, .int .i64 c158] 25, .box b1 [.slice none 0 0, .slice none 0 0, .slice none 0 0] 50]) (u145_2) (x144.1.2.2) ∧ Elems (.int .i64) (gz H w wr [.box b146 [u145_0, u145_1, u145_2] 50, .row (v140) 3 1 ([(-1 : Int)]).length (xs140), .box b5 [.int .i64 x3.1, .int .i64 x3.2] 25, .box b2 [.int .i64 c157, .int .i64 c158] 25, .box b1 [.slice none 0 0, .slice none 0 0, .slice none 0 0] 50]) ([(-1 : Int)]) (xs140) ∧ fmindex_Open_k6 c157 c158 = some r) ?_ ?_
            · refine W_naive mixed rfl (fun w164 hx164 => ?_)
              have hL165 := hL147.call hx164
              have hle165 := fz_ext hL147 hx164
              replace he140 := he140.mono (gz_mono hH hle165)
              replace hv145_0 := hv145_0.mono (gz_mono hH hle165)
              replace hv145_1 := hv145_1.mono (gz_mono hH hle165)
              replace hv145_2 := hv145_2.mono (gz_mono hH hle165)
              refine N_hoist 0 (np_cut (np_seq np_body)) (by kernel_rfl) rfl (fun _ => r_build rfl (fun _ => bld50_z _)) rfl ?_
              refine N2 (i := 1) (j := 2) (by kernel_rfl) rfl rfl ?_ ?_
              · refine S_v (r_loadBN 2 rfl Try.underlying25 rfl zr25 hL165 rfl) rfl ?_
                refine N_nil ?_
                refine N1 (i := 2) (by kernel_rfl) rfl ?_
                refine S_storeBN 4 rfl rfl rfl zr50 hL165 rfl rfl (onc rfl (onc rfl (onc rfl on0))) ?_
                intro w166 hL166 hle166
                replace he140 := he140.mono (gz_mono hH hle166)
                replace hv145_0 := hv145_0.mono (gz_mono hH hle166)
                replace hv145_1 := hv145_1.mono (gz_mono hH hle166)
                replace hv145_2 := hv145_2.mono (gz_mono hH hle166)
                refine N_nil ?_
                refine N1 (i := 3) (by kernel_rfl) rfl ?_
                refine S_storeBN 3 rfl rfl rfl zr25 hL166 rfl rfl (onc rfl (onc rfl on0)) ?_
                intro w167 hL167 hle167
                replace he140 := he140.mono (gz_mono hH hle167)
                replace hv145_0 := hv145_0.mono (gz_mono hH hle167)
                replace hv145_1 := hv145_1.mono (gz_mono hH hle167)
                replace hv145_2 := hv145_2.mono (gz_mono hH hle167)
                refine N_nil ?_
                refine N_end (by kernel_rfl) ?_
                refine At_cut (x3.1, x3.2) (.cons rfl (.cons rfl (Sub.nil _))) ⟨hL167, hv145_0, hv145_1, hv145_2, he140, h⟩
              · refine S_storeBN 4 rfl rfl rfl zr50 hL165 rfl rfl (onc rfl (onc rfl (onc rfl on0))) ?_
                intro w168 hL168 hle168
                replace he140 := he140.mono (gz_mono hH hle168)
                replace hv145_0 := hv145_0.mono (gz_mono hH hle168)
                replace hv145_1 := hv145_1.mono (gz_mono hH hle168)
                replace hv145_2 := hv145_2.mono (gz_mono hH hle168)
                refine N_nil ?_
                refine N1 (i := 1) (by kernel_rfl) rfl ?_
                refine S_v (r_loadBN 2 rfl Try.underlying25 rfl zr25 hL168 rfl) rfl ?_
                refine N_nil ?_
                refine N1 (i := 3) (by kernel_rfl) rfl ?_
                refine S_storeBN 3 rfl rfl rfl zr25 hL168 rfl rfl (onc rfl (onc rfl on0)) ?_
                intro w169 hL169 hle169
                replace he140 := he140.mono (gz_mono hH hle169)
                replace hv145_0 := hv145_0.mono (gz_mono hH hle169)
                replace hv145_1 := hv145_1.mono (gz_mono hH hle169)
                replace hv145_2 := hv145_2.mono (gz_mono hH hle169)
                refine N_nil ?_
                refine N_end (by kernel_rfl) ?_
                refine At_cut (x3.1, x3.2) (.cons rfl (.cons rfl (Sub.nil _))) ⟨hL169, hv145_0, hv145_1, hv145_2, he140, h⟩
            · rintro ⟨c157, c158⟩ wr162 ⟨hL162, hf162_0, hf162_1, hf162_2, he162_r140, h⟩
              refine W_ret ?_
              refine At_seq_ret ?_
              obtain rfl := Option.some.inj h
              refine At_got2 rfl (.cell rfl Try.underlying50 rfl zr50 (box_ptr (i := 4) hL162 rfl)) (.cell rfl Try.underlying25 rfl zr25 (box_ptr (i := 3) hL162 rfl)) ?_
              exact ⟨hL162.ext, _, _, _, rfl, (Vec.nil _ _), (Vec.nil _ _), (Vec.nil _ _)⟩
          · replace h := Go.L.ite_f hc148 h
            refine W_skip ?_
            refine At_seq ?_
            refine W_seqr ?_
            refine S_v (r_loadBN 0 rfl Try.underlying50 rfl zr50 hL147 rfl) rfl ?_
            obtain ⟨x172, hb172, h⟩ := Go.L.bind_some h
            refine S_callL rfl rfl hL147 (fmindex_Index_text_ok _ _ (gz_le hH hL147) hv145_0 hv145_1 hv145_2 hb172) ?_
            rintro u173_0 w173 ⟨_, rfl, hR173_0⟩ hx173 hL173 hle173
            have hv173_0 := hR173_0.vecG hH hL147 hx173
            replace he140 := he140.mono (gz_mono hH hle173)
            replace hv145_0 := hv145_0.mono (gz_mono hH hle173)
            replace hv145_1 := hv145_1.mono (gz_mono hH hle173)
            replace hv145_2 := hv145_2.mono (gz_mono hH hle173)
            obtain ⟨x174, hb174, h⟩ := Go.L.bind_some h
            refine S_callL rfl rfl hL173 (fmindex_Build_ok _ _ (gz_le hH hL173) hv173_0 hb174) ?_
            rintro _ w175 ⟨u175_0, u175_1, u175_2, rfl, hR175_0, hR175_1, hR175_2⟩ hx175 hL175 hle175
            have hv175_0 := hR175_0.mono (gz_nw hH hL173 hx175)
            have hv175_1 := hR175_1.mono (gz_nw hH hL173 hx175)
            have hv175_2 := hR175_2.mono (gz_nw hH hL173 hx175)
            replace he140 := he140.mono (gz_mono hH hle175)
            replace hv145_0 := hv145_0.mono (gz_mono hH hle175)
            replace hv145_1 := hv145_1.mono (gz_mono hH hle175)
            replace hv145_2 := hv145_2.mono (gz_mono hH hle175)
            replace hv173_0 := hv173_0.mono (gz_mono hH hle175)
            refine S_pu 3 rfl ?_
            refine S_alloc zr50 rfl rfl hL175 ?_
            intro w176 b176 hL176 hle176 _
            replace he140 := he140.mono (gz_mono hH hle176)
            replace hv145_0 := hv145_0.mono (gz_mono hH hle176)
            replace hv145_1 := hv145_1.mono (gz_mono hH hle176)
            replace hv145_2 := hv145_2.mono (gz_mono hH hle176)
            replace hv173_0 := hv173_0.mono (gz_mono hH hle176)
            replace hv175_0 := hv175_0.mono (gz_mono hH hle176)
            replace hv175_1 := hv175_1.mono (gz_mono hH hle176)
            replace hv175_2 := hv175_2.mono (gz_mono hH hle176)
            refine S_alloc zr25 rfl rfl hL176 ?_
            intro w177 b177 hL177 hle177 _
            replace he140 := he140.mono (gz_mono hH hle177)
            replace hv145_0 := hv145_0.mono (gz_mono hH hle177)
            replace hv145_1 := hv145_1.mono (gz_mono hH hle177)
            replace hv145_2 := hv145_2.mono (gz_mono hH hle177)
            replace hv173_0 := hv173_0.mono (gz_mono hH hle177)
            replace hv175_0 := hv175_0.mono (gz_mono hH hle177)
            replace hv175_1 := hv175_1.mono (gz_mono hH hle177)
            replace hv175_2 := hv175_2.mono (gz_mono hH hle177)
            refine S_storeBN 1 rfl rfl rfl zr50 hL177 rfl rfl (onc hv175_0.one (onc hv175_1.one (onc hv175_2.one on0))) ?_
            intro w178 hL178 hle178
            replace he140 := he140.mono (gz_mono hH hle178)
            replace hv145_0 := hv145_0.mono (gz_mono hH hle178)
            replace hv145_1 := hv145_1.mono (gz_mono hH hle178)
            replace hv145_2 := hv145_2.mono (gz_mono hH hle178)
            replace hv173_0 := hv173_0.mono (gz_mono hH hle178)
            replace hv175_0 := hv175_0.mono (gz_mono hH hle178)
            replace hv175_1 := hv175_1.mono (gz_mono hH hle178)
            replace hv175_2 := hv175_2.mono (gz_mono hH hle178)
            refine S_storeBN 0 rfl rfl rfl zr25 hL178 rfl rfl (onc rfl (onc rfl on0)) ?_
            intro w179 hL179 hle179
            replace he140 := he140.mono (gz_mono hH hle179)
            replace hv145_0 := hv145_0.mono (gz_mono hH hle179)
            replace hv145_1 := hv145_1.mono (gz_mono hH hle179)
            replace hv145_2 := hv145_2.mono (gz_mono hH hle179)
            replace hv173_0 := hv173_0.mono (gz_mono hH hle179)
            replace hv175_0 := hv175_0.mono (gz_mono hH hle179)
            replace hv175_1 := hv175_1.mono (gz_mono hH hle179)
            replace hv175_2 := hv175_2.mono (gz_mono hH hle179)
            refine S_seqnil ?_
            refine W_seq ?_
            refine W_seqr ?_
            refine S_v (r_loadBN 0 rfl Try.underlying25 rfl zr25 hL179 rfl) rfl ?_
            refine S_v (r_build rfl (fun _ => bld25_z _)) rfl ?_
            refine S_v (r_neA rfl rfl eqg25 (eq25 _ _ _ _ )) rfl ?_
            refine S_pu 1 rfl ?_
            refine S_split (s := 91) rfl (fun hg180 => ?_) (fun hg180 => ?_)
            · replace h := Go.L.ite_n (not_dec_t hg180) h
              refine S_unwanted rfl rfl hg180 rfl ?_
              refine S_unwanted rfl rfl hg180 rfl ?_
              refine S_unwanted rfl rfl hg180 rfl ?_
              refine S_unwanted rfl rfl hg180 rfl ?_
              refine S_unwanted rfl rfl hg180 rfl ?_
              refine S_v (r_pickT rfl hg180 rfl) rfl ?_
              refine S_seqnil ?_
              refine W_true rfl ?_
              refine W_cut (σ := Int × Int) (fun (⟨c189, c190⟩ : Int × Int) => [(2, .pointer (some ⟨b1, 0, none⟩)), (3, .pointer (some ⟨b2, 0, none⟩))]) (fun (⟨c189, c190⟩ : Int × Int) wr => Lcl w [.box b177 [.int .i64 x174.2.1, .int .i64 x174.2.2] 25, .box b176 [u175_0, u175_1, u175_2] 50, .box b146 [u145_0, u145_1, u145_2] 50, .row (v140) 3 1 ([(-1 : Int)]).length (xs140), .box b5 [.int .i64 x3.1, .int .i64 x3.2] 25, .box b2 [.int .i64 c189, .int .i64 c190] 25, .box b1 [.slice none 0 0, .slice none 0 0, .slice none 0 0] 50] wr ∧ Vec (.int .i64) (gz H w wr [.box b177 [.int .i64 x174.2.1, .int .i64 x174.2.2] 25, .box b176 [u175_0, u175_1, u175_2] 50, .box b146 [u145_0, u145_1, u145_2] 50, .row (v140) 3 1 ([(-1 : Int)]).length (xs140), .box b5 [.int .i64 x3.1, .int .i64 x3.2] 25, .box b2 [.int .i64 c189, .int .i64 c190] 25, .box b1 [.slice none 0 0, .slice none 0 0, .slice none 0 0] 50]) (u175_0) (x174.1.1) ∧ Vec (.int .i64) (gz H w wr [.box b177 [.int .i64 x174.2.1, .int .i64 x174.2.2] 25, .box b176 [u175_0, u175_1, u175_2] 50, .box b146 [u145_0, u145_1, u145_2] 50, .row (v140) 3 1 ([(-1 : Int)]).length (xs140), .box b5 [.int .i64 x3.1, .int .i64 x3.2] 25, .box b2 [.int .i64 c189, .int .i64 c190] 25, .box b1 [.slice none 0 0, .slice none 0 0, .slice none 0 0] 50]) (u175_1) (x174.1.2.1) ∧ Vec (.int .i64) (gz H w wr [.box b177 [.int .i64 x174.2.1, .int .i64 x174.2.2] 25, .box b176 [u175_0, u175_1, u175_2] 50, .box b146 [u145_0, u145_1, u145_2] 50, .row (v140) 3 1 ([(-1 : Int)]).length (xs140), .box b5 [.int .i64 x3.1, .int .i64 x3.2] 25, .box b2 [.int .i64 c189, .int .i64 c190] 25, .box b1 [.slice none 0 0, .slice none 0 0, .slice none 0 0] 50]) (u175_2) (x174.1.2.2) ∧ Vec (.int .i64) (gz H w wr [.box b177 [.int .i64 x174.2.1, .int .i64 x174.2.2] 25, .box b176 [u175_0, u175_1, u175_2] 50, .box b146 [u145_0, u145_1, u145_2] 50, .row (v140) 3 1 ([(-1 : Int)]).length (xs140), .box b5 [.int .i64 x3.1, .int .i64 x3.2] 25, .box b2 [.int .i64 c189, .int .i64 c190] 25, .box b1 [.slice none 0 0, .slice none 0 0, .slice none 0 0] 50]) (u145_0) (x144.1.1) ∧ Vec (.int .i64) (gz H w wr [.box b177 [.int .i64 x174.2.1, .int .i64 x174.2.2] 25, .box b176 [u175_0, u175_1, u175_2] 50, .box b146 [u145_0, u145_1, u145_2] 50, .row (v140) 3 1 ([(-1 : Int)]).length (xs140), .box b5 [.int .i64 x3.1, .int .i64 x3.2] 25, .box b2 [.int .i64 c189, .int .i64 c190] 25, .box b1 [.slice none 0 0, .slice none 0 0, .slice none 0 0] 50]) (u145_1) (x144.1.2.1) ∧ Vec (.int .i64) (gz H w wr [.box b177 [.int .i64 x174.2.1, .int .i64 x174.2.2] 25, .box b176 [u175_0, u175_1, u175_2] 50, .box b146 [u145_0, u145_1, u145_2] 50, .row (v140) 3 1 ([(-1 : Int)]).length (xs140), .box b5 [.int .i64 x3.1, .int .i64 x3.2] 25, .box b2 [.int .i64 c189, .int .i64 c190] 25, .box b1 [.slice none 0 0, .slice none 0 0, .slice none 0 0] 50]) (u145_2) (x144.1.2.2) ∧ Elems (.int .i64) (gz H w wr [.box b177 [.int .i64 x174.2.1, .int .i64 x174.2.2] 25, .box b176 [u175_0, u175_1, u175_2] 50, .box b146 [u145_0, u145_1, u145_2] 50, .row (v140) 3 1 ([(-1 : Int)]).length (xs140), .box b5 [.int .i64 x3.1, .int .i64 x3.2] 25, .box b2 [.int .i64 c189, .int .i64 c190] 25, .box b1 [.slice none 0 0, .slice none 0 0, .slice none 0 0] 50]) ([(-1 : Int)]) (xs140) ∧ fmindex_Open_k7 c189 c190 = some r) ?_ ?_
              · refine W_naive mixed rfl (fun w196 hx196 => ?_)
                have hL197 := hL179.call hx196
                have hle197 := fz_ext hL179 hx196
                replace he140 := he140.mono (gz_mono hH hle197)
                replace hv145_0 := hv145_0.mono (gz_mono hH hle197)
                replace hv145_1 := hv145_1.mono (gz_mono hH hle197)
                replace hv145_2 := hv145_2.mono (gz_mono hH hle197)
                replace hv175_0 := hv175_0.mono (gz_mono hH hle197)
                replace hv175_1 := hv175_1.mono (gz_mono hH hle197)
                replace hv175_2 := hv175_2.mono (gz_mono hH hle197)
                refine N_hoist 0 (np_cut (np_seq np_body)) (by kernel_rfl) rfl (fun _ => r_build rfl (fun _ => bld50_z _)) rfl ?_
                refine N2 (i := 1) (j := 2) (by kernel_rfl) rfl rfl ?_ ?_
                · refine S_v (r_loadBN 4 rfl Try.underlying25 rfl zr25 hL197 rfl) rfl ?_
                  refine N_nil ?_
                  refine N1 (i := 2) (by kernel_rfl) rfl ?_
                  refine S_storeBN 6 rfl rfl rfl zr50 hL197 rfl rfl (onc rfl (onc rfl (onc rfl on0))) ?_
                  intro w198 hL198 hle198
                  replace he140 := he140.mono (gz_mono hH hle198)
                  replace hv145_0 := hv145_0.mono (gz_mono hH hle198)
                  replace hv145_1 := hv145_1.mono (gz_mono hH hle198)
                  replace hv145_2 := hv145_2.mono (gz_mono hH hle198)
                  replace hv175_0 := hv175_0.mono (gz_mono hH hle198)
                  replace hv175_1 := hv175_1.mono (gz_mono hH hle198)
                  replace hv175_2 := hv175_2.mono (gz_mono hH hle198)
                  refine N_nil ?_
                  refine N1 (i := 3) (by kernel_rfl) rfl ?_
                  refine S_storeBN 5 rfl rfl rfl zr25 hL198 rfl rfl (onc rfl (onc rfl on0)) ?_
                  intro w199 hL199 hle199
                  replace he140 := he140.mono (gz_mono hH hle199)
                  replace hv145_0 := hv145_0.mono (gz_mono hH hle199)
                  replace hv145_1 := hv145_1.mono (gz_mono hH hle199)
                  replace hv145_2 := hv145_2.mono (gz_mono hH hle199)
                  replace hv175_0 := hv175_0.mono (gz_mono hH hle199)
                  replace hv175_1 := hv175_1.mono (gz_mono hH hle199)
                  replace hv175_2 := hv175_2.mono (gz_mono hH hle199)
                  refine N_nil ?_
                  refine N_end (by kernel_rfl) ?_
                  refine At_cut (x3.1, x3.2) (.cons rfl (.cons rfl (Sub.nil _))) ⟨hL199, hv175_0, hv175_1, hv175_2, hv145_0, hv145_1, hv145_2, he140, h⟩
                · refine S_storeBN 6 rfl rfl rfl zr50 hL197 rfl rfl (onc rfl (onc rfl (onc rfl on0))) ?_
                  intro w200 hL200 hle200
                  replace he140 := he140.mono (gz_mono hH hle200)
                  replace hv145_0 := hv145_0.mono (gz_mono hH hle200)
                  replace hv145_1 := hv145_1.mono (gz_mono hH hle200)
                  replace hv145_2 := hv145_2.mono (gz_mono hH hle200)
                  replace hv175_0 := hv175_0.mono (gz_mono hH hle200)
                  replace hv175_1 := hv175_1.mono (gz_mono hH hle200)
                  replace hv175_2 := hv175_2.mono (gz_mono hH hle200)
                  refine N_nil ?_
                  refine N1 (i := 1) (by kernel_rfl) rfl ?_
                  refine S_v (r_loadBN 4 rfl Try.underlying25 rfl zr25 hL200 rfl) rfl ?_
                  refine N_nil ?_
                  refine N1 (i := 3) (by kernel_rfl) rfl ?_
                  refine S_storeBN 5 rfl rfl rfl zr25 hL200 rfl rfl (onc rfl (onc rfl on0)) ?_
                  intro w201 hL201 hle201
                  replace he140 := he140.mono (gz_mono hH hle201)
                  replace hv145_0 := hv145_0.mono (gz_mono hH hle201)
                  replace hv145_1 := hv145_1.mono (gz_mono hH hle201)
                  replace hv145_2 := hv145_2.mono (gz_mono hH hle201)
                  replace hv175_0 := hv175_0.mono (gz_mono hH hle201)
                  replace hv175_1 := hv175_1.mono (gz_mono hH hle201)
                  replace hv175_2 := hv175_2.mono (gz_mono hH hle201)
                  refine N_nil ?_
                  refine N_end (by kernel_rfl) ?_
                  refine At_cut (x3.1, x3.2) (.cons rfl (.cons rfl (Sub.nil _))) ⟨hL201, hv175_0, hv175_1, hv175_2, hv145_0, hv145_1, hv145_2, he140, h⟩
              · rintro ⟨c189, c190⟩ wr194 ⟨hL194, hf194_0, hf194_1, hf194_2, hf194_3, hf194_4, hf194_5, he194_r140, h⟩
                refine W_ret ?_
                refine At_seq_ret ?_
                obtain rfl := Option.some.inj h
                refine At_got2 rfl (.cell rfl Try.underlying50 rfl zr50 (box_ptr (i := 6) hL194 rfl)) (.cell rfl Try.underlying25 rfl zr25 (box_ptr (i := 5) hL194 rfl)) ?_
                exact ⟨hL194.ext, _, _, _, rfl, (Vec.nil _ _), (Vec.nil _ _), (Vec.nil _ _)⟩
            · replace h := Go.L.ite_p (not_dec_f hg180) h
              refine S_guarded rfl rfl hg180 ?_
              refine S_v (r_loadBN 1 rfl Try.underlying50 rfl zr50 hL179 rfl) rfl ?_
              refine S_guarded rfl rfl hg180 ?_
              obtain ⟨x204, hb204, h⟩ := Go.L.bind_some h
              refine S_callL rfl rfl hL179 (fmindex_Index_Bytes_ok _ _ (gz_le hH hL179) hv175_0 hv175_1 hv175_2 hb204) ?_
              rintro u205_0 w205 ⟨_, rfl, hR205_0⟩ hx205 hL205 hle205
              have hv205_0 := hR205_0.vecG hH hL179 hx205
              replace he140 := he140.mono (gz_mono hH hle205)
              replace hv145_0 := hv145_0.mono (gz_mono hH hle205)
              replace hv145_1 := hv145_1.mono (gz_mono hH hle205)
              replace hv145_2 := hv145_2.mono (gz_mono hH hle205)
              replace hv175_0 := hv175_0.mono (gz_mono hH hle205)
              replace hv175_1 := hv175_1.mono (gz_mono hH hle205)
              replace hv175_2 := hv175_2.mono (gz_mono hH hle205)
              refine S_guarded rfl rfl hg180 ?_
              refine S_v (RunsAt_pu rfl) rfl ?_
              refine S_guarded rfl rfl hg180 ?_
              obtain ⟨x206, hb206, h⟩ := Go.L.bind_some h
              refine S_callL rfl rfl hL205 (bytes_Equal_ok _ _ (gz_le hH hL205) hv205_0 (h0_0.mono (gz_left hH)) hb206) ?_
              rintro _ w207 rfl hx207 hL207 hle207
              replace he140 := he140.mono (gz_mono hH hle207)
              replace hv145_0 := hv145_0.mono (gz_mono hH hle207)
              replace hv145_1 := hv145_1.mono (gz_mono hH hle207)
              replace hv145_2 := hv145_2.mono (gz_mono hH hle207)
              replace hv175_0 := hv175_0.mono (gz_mono hH hle207)
              replace hv175_1 := hv175_1.mono (gz_mono hH hle207)
              replace hv175_2 := hv175_2.mono (gz_mono hH hle207)
              replace hv205_0 := hv205_0.mono (gz_mono hH hle207)
              refine S_guarded rfl rfl hg180 ?_
              refine S_v (RunsAt_pu rfl) rfl ?_
              refine S_v (r_pickF rfl hg180 rfl) rfl ?_
              refine S_seqnil ?_
              refine W_cond rfl (fun hc208 => ?_) (fun hc208 => ?_)
              · replace h := Go.L.ite_t hc208 h
                refine W_cut (σ := Int × Int) (fun (⟨c217, c218⟩ : Int × Int) => [(2, .pointer (some ⟨b1, 0, none⟩)), (3, .pointer (some ⟨b2, 0, none⟩))]) (fun (⟨c217, c218⟩ : Int × Int) wr => Lcl w [.box b177 [.int .i64 x174.2.1, .int .i64 x174.2.2] 25, .box b176 [u175_0, u175_1, u175_2] 50, .box b146 [u145_0, u145_1, u145_2] 50, .row (v140) 3 1 ([(-1 : Int)]).length (xs140), .box b5 [.int .i64 x3.1, .int .i64 x3.2] 25, .box b2 [.int .i64 c217, .int .i64 c218] 25, .box b1 [.slice none 0 0, .slice none 0 0, .slice none 0 0] 50] wr ∧ Vec (.int .i64) (gz H w wr [.box b177 [.int .i64 x174.2.1, .int .i64 x174.2.2] 25, .box b176 [u175_0, u175_1, u175_2] 50, .box b146 [u145_0, u145_1, u145_2] 50, .row (v140) 3 1 ([(-1 : Int)]).length (xs140), .box b5 [.int .i64 x3.1, .int .i64 x3.2] 25, .box b2 [.int .i64 c217, .int .i64 c218] 25, .box b1 [.slice none 0 0, .slice none 0 0, .slice none 0 0] 50]) (u175_0) (x174.1.1) ∧ Vec (.int .i64) (gz H w wr [.box b177 [.int .i64 x174.2.1, .int .i64 x174.2.2] 25, .box b176 [u175_0, u175_1, u175_2] 50, .box b146 [u145_0, u145_1, u145_2] 50, .row (v140) 3 1 ([(-1 : Int)]).length (xs140), .box b5 [.int .i64 x3.1, .int .i64 x3.2] 25, .box b2 [.int .i64 c217, .int .i64 c218] 25, .box b1 [.slice none 0 0, .slice none 0 0, .slice none 0 0] 50]) (u175_1) (x174.1.2.1) ∧ Vec (.int .i64) (gz H w wr [.box b177 [.int .i64 x174.2.1, .int .i64 x174.2.2] 25, .box b176 [u175_0, u175_1, u175_2] 50, .box b146 [u145_0, u145_1, u145_2] 50, .row (v140) 3 1 ([(-1 : Int)]).length (xs140), .box b5 [.int .i64 x3.1, .int .i64 x3.2] 25, .box b2 [.int .i64 c217, .int .i64 c218] 25, .box b1 [.slice none 0 0, .slice none 0 0, .slice none 0 0] 50]) (u175_2) (x174.1.2.2) ∧ Vec (.int .i64) (gz H w wr [.box b177 [.int .i64 x174.2.1, .int .i64 x174.2.2] 25, .box b176 [u175_0, u175_1, u175_2] 50, .box b146 [u145_0, u145_1, u145_2] 50, .row (v140) 3 1 ([(-1 : Int)]).length (xs140), .box b5 [.int .i64 x3.1, .int .i64 x3.2] 25, .box b2 [.int .i64 c217, .int .i64 c218] 25, .box b1 [.slice none 0 0, .slice none 0 0, .slice none 0 0] 50]) (u145_0) (x144.1.1) ∧ Vec (.int .i64) (gz H w wr [.box b177 [.int .i64 x174.2.1, .int .i64 x174.2.2] 25, .box b176 [u175_0, u175_1, u175_2] 50, .box b146 [u145_0, u145_1, u145_2] 50, .row (v140) 3 1 ([(-1 : Int)]).length (xs140), .box b5 [.int .i64 x3.1, .int .i64 x3.2] 25, .box b2 [.int .i64 c217, .int .i64 c218] 25, .box b1 [.slice none 0 0, .slice none 0 0, .slice none 0 0] 50]) (u145_1) (x144.1.2.1) ∧ Vec (.int .i64) (gz H w wr [.box b177 [.int .i64 x174.2.1, .int .i64 x174.2.2] 25, .box b176 [u175_0, u175_1, u175_2] 50, .box b146 [u145_0, u145_1, u145_2] 50, .row (v140) 3 1 ([(-1 : Int)]).length (xs140), .box b5 [.int .i64 x3.1, .int .i64 x3.2] 25, .box b2 [.int .i64 c217, .int .i64 c218] 25, .box b1 [.slice none 0 0, .slice none 0 0, .slice none 0 0] 50]) (u145_2) (x144.1.2.2) ∧ Elems (.int .i64) (gz H w wr [.box b177 [.int .i64 x174.2.1, .int .i64 x174.2.2] 25, .box b176 [u175_0, u175_1, u175_2] 50, .box b146 [u145_0, u145_1, u145_2] 50, .row (v140) 3 1 ([(-1 : Int)]).length (xs140), .box b5 [.int .i64 x3.1, .int .i64 x3.2] 25, .box b2 [.int .i64 c217, .int .i64 c218] 25, .box b1 [.slice none 0 0, .slice none 0 0, .slice none 0 0] 50]) ([(-1 : Int)]) (xs140) ∧ fmindex_Open_k8 c217 c218 = some r) ?_ ?_
                · refine W_naive mixed rfl (fun w224 hx224 => ?_)
                  have hL225 := hL207.call hx224
                  have hle225 := fz_ext hL207 hx224
                  replace he140 := he140.mono (gz_mono hH hle225)
                  replace hv145_0 := hv145_0.mono (gz_mono hH hle225)
                  replace hv145_1 := hv145_1.mono (gz_mono hH hle225)
                  replace hv145_2 := hv145_2.mono (gz_mono hH hle225)
                  replace hv175_0 := hv175_0.mono (gz_mono hH hle225)
                  replace hv175_1 := hv175_1.mono (gz_mono hH hle225)
                  replace hv175_2 := hv175_2.mono (gz_mono hH hle225)
                  refine N_hoist 0 (np_cut (np_seq np_body)) (by kernel_rfl) rfl (fun _ => r_build rfl (fun _ => bld50_z _)) rfl ?_
                  refine N2 (i := 1) (j := 2) (by kernel_rfl) rfl rfl ?_ ?_
                  · refine S_v (r_loadBN 4 rfl Try.underlying25 rfl zr25 hL225 rfl) rfl ?_
                    refine N_nil ?_
                    refine N1 (i := 2) (by kernel_rfl) rfl ?_
                    refine S_storeBN 6 rfl rfl rfl zr50 hL225 rfl rfl (onc rfl (onc rfl (onc rfl on0))) ?_
                    intro w226 hL226 hle226
                    replace he140 := he140.mono (gz_mono hH hle226)
                    replace hv145_0 := hv145_0.mono (gz_mono hH hle226)
                    replace hv145_1 := hv145_1.mono (gz_mono hH hle226)
                    replace hv145_2 := hv145_2.mono (gz_mono hH hle226)
                    replace hv175_0 := hv175_0.mono (gz_mono hH hle226)
                    replace hv175_1 := hv175_1.mono (gz_mono hH hle226)
                    replace hv175_2 := hv175_2.mono (gz_mono hH hle226)
                    refine N_nil ?_
                    refine N1 (i := 3) (by kernel_rfl) rfl ?_
                    refine S_storeBN 5 rfl rfl rfl zr25 hL226 rfl rfl (onc rfl (onc rfl on0)) ?_
                    intro w227 hL227 hle227
                    replace he140 := he140.mono (gz_mono hH hle227)
                    replace hv145_0 := hv145_0.mono (gz_mono hH hle227)
                    replace hv145_1 := hv145_1.mono (gz_mono hH hle227)
                    replace hv145_2 := hv145_2.mono (gz_mono hH hle227)
                    replace hv175_0 := hv175_0.mono (gz_mono hH hle227)
                    replace hv175_1 := hv175_1.mono (gz_mono hH hle227)
                    replace hv175_2 := hv175_2.mono (gz_mono hH hle227)
                    refine N_nil ?_
                    refine N_end (by kernel_rfl) ?_
                    refine At_cut (x3.1, x3.2) (.cons rfl (.cons rfl (Sub.nil _))) ⟨hL227, hv175_0, hv175_1, hv175_2, hv145_0, hv145_1, hv145_2, he140, h⟩
                  · refine S_storeBN 6 rfl rfl rfl zr50 hL225 rfl rfl (onc rfl (onc rfl (onc rfl on0))) ?_
                    intro w228 hL228 hle228
                    replace he140 := he140.mono (gz_mono hH hle228)
                    replace hv145_0 := hv145_0.mono (gz_mono hH hle228)
                    replace hv145_1 := hv145_1.mono (gz_mono hH hle228)
                    replace hv145_2 := hv145_2.mono (gz_mono hH hle228)
                    replace hv175_0 := hv175_0.mono (gz_mono hH hle228)
                    replace hv175_1 := hv175_1.mono (gz_mono hH hle228)
                    replace hv175_2 := hv175_2.mono (gz_mono hH hle228)
                    refine N_nil ?_
                    refine N1 (i := 1) (by kernel_rfl) rfl ?_
                    refine S_v (r_loadBN 4 rfl Try.underlying25 rfl zr25 hL228 rfl) rfl ?_
                    refine N_nil ?_
                    refine N1 (i := 3) (by kernel_rfl) rfl ?_
                    refine S_storeBN 5 rfl rfl rfl zr25 hL228 rfl rfl (onc rfl (onc rfl on0)) ?_
                    intro w229 hL229 hle229
                    replace he140 := he140.mono (gz_mono hH hle229)
                    replace hv145_0 := hv145_0.mono (gz_mono hH hle229)
                    replace hv145_1 := hv145_1.mono (gz_mono hH hle229)
                    replace hv145_2 := hv145_2.mono (gz_mono hH hle229)
                    replace hv175_0 := hv175_0.mono (gz_mono hH hle229)
                    replace hv175_1 := hv175_1.mono (gz_mono hH hle229)
                    replace hv175_2 := hv175_2.mono (gz_mono hH hle229)
                    refine N_nil ?_
                    refine N_end (by kernel_rfl) ?_
                    refine At_cut (x3.1, x3.2) (.cons rfl (.cons rfl (Sub.nil _))) ⟨hL229, hv175_0, hv175_1, hv175_2, hv145_0, hv145_1, hv145_2, he140, h⟩
                · rintro ⟨c217, c218⟩ wr222 ⟨hL222, hf222_0, hf222_1, hf222_2, hf222_3, hf222_4, hf222_5, he222_r140, h⟩
                  refine W_ret ?_
                  refine At_seq_ret ?_
                  obtain rfl := Option.some.inj h
                  refine At_got2 rfl (.cell rfl Try.underlying50 rfl zr50 (box_ptr (i := 6) hL222 rfl)) (.cell rfl Try.underlying25 rfl zr25 (box_ptr (i := 5) hL222 rfl)) ?_
                  exact ⟨hL222.ext, _, _, _, rfl, (Vec.nil _ _), (Vec.nil _ _), (Vec.nil _ _)⟩
              · replace h := Go.L.ite_f hc208 h
                refine W_skip ?_
                refine At_seq ?_
                refine W_seqr ?_
                refine S_v (r_loadBN 1 rfl Try.underlying50 rfl zr50 hL207 rfl) rfl ?_
                refine S_v (r_build rfl (fun _ => bld25_z _)) rfl ?_
                refine S_storeBN 6 rfl rfl rfl zr50 hL207 rfl rfl (onc hv175_0.one (onc hv175_1.one (onc hv175_2.one on0))) ?_
                intro w232 hL232 hle232
                replace he140 := he140.mono (gz_mono hH hle232)
                replace hv145_0 := hv145_0.mono (gz_mono hH hle232)
                replace hv145_1 := hv145_1.mono (gz_mono hH hle232)
                replace hv145_2 := hv145_2.mono (gz_mono hH hle232)
                replace hv175_0 := hv175_0.mono (gz_mono hH hle232)
                replace hv175_1 := hv175_1.mono (gz_mono hH hle232)
                replace hv175_2 := hv175_2.mono (gz_mono hH hle232)
                refine S_storeBN 5 rfl rfl rfl zr25 hL232 rfl rfl (onc rfl (onc rfl on0)) ?_
                intro w233 hL233 hle233
                replace he140 := he140.mono (gz_mono hH hle233)
                replace hv145_0 := hv145_0.mono (gz_mono hH hle233)
                replace hv145_1 := hv145_1.mono (gz_mono hH hle233)
                replace hv145_2 := hv145_2.mono (gz_mono hH hle233)
                replace hv175_0 := hv175_0.mono (gz_mono hH hle233)
                replace hv175_1 := hv175_1.mono (gz_mono hH hle233)
                replace hv175_2 := hv175_2.mono (gz_mono hH hle233)
                refine S_seqnil ?_
                refine W_ret ?_
                obtain rfl := Option.some.inj h
                refine At_got2 rfl (.cell rfl Try.underlying50 rfl zr50 (box_ptr (i := 6) hL233 rfl)) (.cell rfl Try.underlying25 rfl zr25 (box_ptr (i := 5) hL233 rfl)) ?_
                exact ⟨hL233.ext, _, _, _, rfl, (hv175_0.mono (gz_res hH)), (hv175_1.mono (gz_res hH)), (hv175_2.mono (gz_res hH))⟩

noncomputable def law4_finds_k1 (s0_121 : Bool) : Option (Bool) :=
  some (s0_121)
noncomputable def law4_finds : Option (Bool) :=
  Option.bind (law4_abab) (fun x1 => Option.bind (fmindex_Build x1) (fun x3 => Go.L.chk ([(97 : UInt8), (98 : UInt8)] ≠ []) (Option.bind (fmindex_Index_Count (x3.1.1, x3.1.2.1, x3.1.2.2) ([(97 : UInt8), (98 : UInt8)])) (fun x12 => Go.L.chk ([(97 : UInt8), (98 : UInt8)] ≠ []) (Option.bind (fmindex_Index_Locate (x3.1.1, x3.1.2.1, x3.1.2.2) ([(97 : UInt8), (98 : UInt8)])) (fun x19 => Option.bind (fmindex_Index_Extract (x3.1.1, x3.1.2.1, x3.1.2.2) (1 : Int) (3 : Int)) (fun x23 => Option.bind (fmindex_Index_Bytes (x3.1.1, x3.1.2.1, x3.1.2.2)) (fun x27 => Option.bind (fmindex_Open x27) (fun x29 => Option.bind (fmindex_Open ([(1 : UInt8), (0 : UInt8), (0 : UInt8), (0 : UInt8), (97 : UInt8)])) (fun x36 => if x3.2.1 = (0 : Int) then if x12.2.1 = (0 : Int) then if x19.2.1 = (0 : Int) then if x23.2.1 = (0 : Int) then if x29.2.1 = (0 : Int) then (if x12.1 = (2 : Int) then Option.bind (ref3_Ints x19.1 ([(0 : Int), (2 : Int)])) (fun x129 => if x129 then Go.L.chk ([(98 : UInt8), (97 : UInt8)] ≠ []) (Option.bind (ref3_SameBytes x23.1 ([(98 : UInt8), (97 : UInt8)])) (fun x136 => if x136 then Option.bind (fmindex_Index_Bytes (x3.1.1, x3.1.2.1, x3.1.2.2)) (fun x140 => Option.bind (ref3_SameBytes x140 ([(4 : UInt8), (0 : UInt8), (2 : UInt8), (0 : UInt8), (98 : UInt8), (98 : UInt8), (97 : UInt8), (97 : UInt8)])) (fun x143 => if x143 then Option.bind (fmindex_Index_Length (x29.1.1, x29.1.2.1, x29.1.2.2)) (fun x147 => if x147 = (4 : Int) then Option.bind (ref3_At (16 : Int) (-1 : Int)) (fun x151 => law4_finds_k1 (decide (x36.2.1 = x151.1 ∧ x36.2.2 = x151.2))) else law4_finds_k1 false) else law4_finds_k1 false)) else law4_finds_k1 false)) else law4_finds_k1 false) else law4_finds_k1 false) else some (false) else some (false) else some (false) else some (false) else some (false)))))))))))

set_option maxRecDepth 10000 in
theorem law4_finds_ok (w : World) (H : PH) (hH : Le H (hp w))    {r : Bool} (h : law4_finds = some r) :
    Ok Try.prog 30 [] w (fun v w' => Ext w w' ∧ v = .bool r) := by
  refine Ok_enter (n := 100) [] Try.func30 rfl rfl rfl rfl rfl ?_
  have hL := Lcl.start w
  refine W_seqr ?_
  refine S_pu 1 rfl ?_
  refine S_seqnil ?_
  refine W_seqr ?_
  obtain ⟨x1, hb1, h⟩ := Go.L.bind_some h
  refine S_callL rfl rfl hL (law4_abab_ok _ _ (gz_le hH hL) hb1) ?_
  rintro u2_0 w2 ⟨_, rfl, hR2_0⟩ hx2 hL2 hle2
  have hv2_0 := hR2_0.mono (gz_nw hH hL hx2)
  obtain ⟨x3, hb3, h⟩ := Go.L.bind_some h
  refine S_callL rfl rfl hL2 (fmindex_Build_ok _ _ (gz_le hH hL2) hv2_0 hb3) ?_
  rintro _ w4 ⟨u4_0, u4_1, u4_2, rfl, hR4_0, hR4_1, hR4_2⟩ hx4 hL4 hle4
  have hv4_0 := hR4_0.mono (gz_nw hH hL2 hx4)
  have hv4_1 := hR4_1.mono (gz_nw hH hL2 hx4)
  have hv4_2 := hR4_2.mono (gz_nw hH hL2 hx4)
  replace hv2_0 := hv2_0.mono (gz_mono hH hle4)
  refine S_pu 3 rfl ?_
  refine S_alloc zr50 rfl rfl hL4 ?_
  intro w5 b5 hL5 hle5 _
  replace hv2_0 := hv2_0.mono (gz_mono hH hle5)
  replace hv4_0 := hv4_0.mono (gz_mono hH hle5)
  replace hv4_1 := hv4_1.mono (gz_mono hH hle5)
  replace hv4_2 := hv4_2.mono (gz_mono hH hle5)
  refine S_alloc zr25 rfl rfl hL5 ?_
  intro w6 b6 hL6 hle6 _
  replace hv2_0 := hv2_0.mono (gz_mono hH hle6)
  replace hv4_0 := hv4_0.mono (gz_mono hH hle6)
  replace hv4_1 := hv4_1.mono (gz_mono hH hle6)
  replace hv4_2 := hv4_2.mono (gz_mono hH hle6)
  refine S_storeBN 1 rfl rfl rfl zr50 hL6 rfl rfl (onc hv4_0.one (onc hv4_1.one (onc hv4_2.one on0))) ?_
  intro w7 hL7 hle7
  replace hv2_0 := hv2_0.mono (gz_mono hH hle7)
  replace hv4_0 := hv4_0.mono (gz_mono hH hle7)
  replace hv4_1 := hv4_1.mono (gz_mono hH hle7)
  replace hv4_2 := hv4_2.mono (gz_mono hH hle7)
  refine S_storeBN 0 rfl rfl rfl zr25 hL7 rfl rfl (onc rfl (onc rfl on0)) ?_
  intro w8 hL8 hle8
  replace hv2_0 := hv2_0.mono (gz_mono hH hle8)
  replace hv4_0 := hv4_0.mono (gz_mono hH hle8)
  replace hv4_1 := hv4_1.mono (gz_mono hH hle8)
  replace hv4_2 := hv4_2.mono (gz_mono hH hle8)
  refine S_seqnil ?_
  refine W_seqr ?_
  refine S_v (r_loadBN 1 rfl Try.underlying50 rfl zr50 hL8 rfl) rfl ?_
  refine S_litO (r := .byte) (l := [(97 : UInt8), (98 : UInt8)]) rfl (fun _ => bsl22_2 _ _ _) rfl (show 2 ≤ 9223372036854775807 by decide) hH hL8 (.c1 rfl (.c1 rfl .nil)) ?_
  intro v9 w9 xs9 hL9 hle9 he9
  replace hv4_0 := hv4_0.mono (gz_mono hH hle9)
  replace hv4_1 := hv4_1.mono (gz_mono hH hle9)
  replace hv4_2 := hv4_2.mono (gz_mono hH hle9)
  obtain ⟨hk11, h⟩ := Go.L.chk_some h
  refine S_cvB 0 rfl Try.underlying22 Try.underlying5 rfl hH hL9 rfl he9 hk11 ?_
  intro w10 hL10 hle10 hv10
  replace hv4_0 := hv4_0.mono (gz_mono hH hle10)
  replace hv4_1 := hv4_1.mono (gz_mono hH hle10)
  replace hv4_2 := hv4_2.mono (gz_mono hH hle10)
  obtain ⟨x12, hb12, h⟩ := Go.L.bind_some h
  refine S_callL rfl rfl hL10 (fmindex_Index_Count_ok _ _ (gz_le hH hL10) hv4_0 hv4_1 hv4_2 hv10 hb12) ?_
  rintro _ w13 rfl hx13 hL13 hle13
  replace hv4_0 := hv4_0.mono (gz_mono hH hle13)
  replace hv4_1 := hv4_1.mono (gz_mono hH hle13)
  replace hv4_2 := hv4_2.mono (gz_mono hH hle13)
  replace hv10 := hv10.mono (gz_mono hH hle13)
  refine S_pu 3 rfl ?_
  refine S_alloc zr25 rfl rfl hL13 ?_
  intro w14 b14 hL14 hle14 _
  replace hv4_0 := hv4_0.mono (gz_mono hH hle14)
  replace hv4_1 := hv4_1.mono (gz_mono hH hle14)
  replace hv4_2 := hv4_2.mono (gz_mono hH hle14)
  replace hv10 := hv10.mono (gz_mono hH hle14)
  refine S_pu 1 rfl ?_
  refine S_storeBN 0 rfl rfl rfl zr25 hL14 rfl rfl (onc rfl (onc rfl on0)) ?_
  intro w15 hL15 hle15
  replace hv4_0 := hv4_0.mono (gz_mono hH hle15)
  replace hv4_1 := hv4_1.mono (gz_mono hH hle15)
  replace hv4_2 := hv4_2.mono (gz_mono hH hle15)
  replace hv10 := hv10.mono (gz_mono hH hle15)
  refine S_seqnil ?_
  refine W_seqr ?_
  refine S_v (r_loadBN 2 rfl Try.underlying50 rfl zr50 hL15 rfl) rfl ?_
  refine S_litO (r := .byte) (l := [(97 : UInt8), (98 : UInt8)]) rfl (fun _ => bsl22_2 _ _ _) rfl (show 2 ≤ 9223372036854775807 by decide) hH hL15 (.c1 rfl (.c1 rfl .nil)) ?_
  intro v16 w16 xs16 hL16 hle16 he16
  replace hv4_0 := hv4_0.mono (gz_mono hH hle16)
  replace hv4_1 := hv4_1.mono (gz_mono hH hle16)
  replace hv4_2 := hv4_2.mono (gz_mono hH hle16)
  obtain ⟨hk18, h⟩ := Go.L.chk_some h
  refine S_cvB 0 rfl Try.underlying22 Try.underlying5 rfl hH hL16 rfl he16 hk18 ?_
  intro w17 hL17 hle17 hv17
  replace hv4_0 := hv4_0.mono (gz_mono hH hle17)
  replace hv4_1 := hv4_1.mono (gz_mono hH hle17)
  replace hv4_2 := hv4_2.mono (gz_mono hH hle17)
  obtain ⟨x19, hb19, h⟩ := Go.L.bind_some h
  refine S_callL rfl rfl hL17 (fmindex_Index_Locate_ok _ _ (gz_le hH hL17) hv4_0 hv4_1 hv4_2 hv17 hb19) ?_
  rintro _ w20 ⟨u20_0, rfl, hR20_0⟩ hx20 hL20 hle20
  have hv20_0 := hR20_0.vecG hH hL17 hx20
  replace hv4_0 := hv4_0.mono (gz_mono hH hle20)
  replace hv4_1 := hv4_1.mono (gz_mono hH hle20)
  replace hv4_2 := hv4_2.mono (gz_mono hH hle20)
  replace hv17 := hv17.mono (gz_mono hH hle20)
  refine S_pu 3 rfl ?_
  refine S_alloc zr25 rfl rfl hL20 ?_
  intro w21 b21 hL21 hle21 _
  replace hv4_0 := hv4_0.mono (gz_mono hH hle21)
  replace hv4_1 := hv4_1.mono (gz_mono hH hle21)
  replace hv4_2 := hv4_2.mono (gz_mono hH hle21)
  replace hv17 := hv17.mono (gz_mono hH hle21)
  replace hv20_0 := hv20_0.mono (gz_mono hH hle21)
  refine S_pu 1 rfl ?_
  refine S_storeBN 0 rfl rfl rfl zr25 hL21 rfl rfl (onc rfl (onc rfl on0)) ?_
  intro w22 hL22 hle22
  replace hv4_0 := hv4_0.mono (gz_mono hH hle22)
  replace hv4_1 := hv4_1.mono (gz_mono hH hle22)
  replace hv4_2 := hv4_2.mono (gz_mono hH hle22)
  replace hv17 := hv17.mono (gz_mono hH hle22)
  replace hv20_0 := hv20_0.mono (gz_mono hH hle22)
  refine S_seqnil ?_
  refine W_seqr ?_
  refine S_v (r_loadBN 3 rfl Try.underlying50 rfl zr50 hL22 rfl) rfl ?_
  obtain ⟨x23, hb23, h⟩ := Go.L.bind_some h
  refine S_callL rfl rfl hL22 (fmindex_Index_Extract_ok _ _ (gz_le hH hL22) hv4_0 hv4_1 hv4_2 hb23) ?_
  rintro _ w24 ⟨u24_0, rfl, hR24_0⟩ hx24 hL24 hle24
  have hv24_0 := hR24_0.vecG hH hL22 hx24
  replace hv4_0 := hv4_0.mono (gz_mono hH hle24)
  replace hv4_1 := hv4_1.mono (gz_mono hH hle24)
  replace hv4_2 := hv4_2.mono (gz_mono hH hle24)
  replace hv20_0 := hv20_0.mono (gz_mono hH hle24)
  refine S_pu 3 rfl ?_
  refine S_alloc zr25 rfl rfl hL24 ?_
  intro w25 b25 hL25 hle25 _
  replace hv4_0 := hv4_0.mono (gz_mono hH hle25)
  replace hv4_1 := hv4_1.mono (gz_mono hH hle25)
  replace hv4_2 := hv4_2.mono (gz_mono hH hle25)
  replace hv20_0 := hv20_0.mono (gz_mono hH hle25)
  replace hv24_0 := hv24_0.mono (gz_mono hH hle25)
  refine S_pu 1 rfl ?_
  refine S_storeBN 0 rfl rfl rfl zr25 hL25 rfl rfl (onc rfl (onc rfl on0)) ?_
  intro w26 hL26 hle26
  replace hv4_0 := hv4_0.mono (gz_mono hH hle26)
  replace hv4_1 := hv4_1.mono (gz_mono hH hle26)
  replace hv4_2 := hv4_2.mono (gz_mono hH hle26)
  replace hv20_0 := hv20_0.mono (gz_mono hH hle26)
  replace hv24_0 := hv24_0.mono (gz_mono hH hle26)
  refine S_seqnil ?_
  refine W_seqr ?_
  refine S_v (r_loadBN 4 rfl Try.underlying50 rfl zr50 hL26 rfl) rfl ?_
  obtain ⟨x27, hb27, h⟩ := Go.L.bind_some h
  refine S_callL rfl rfl hL26 (fmindex_Index_Bytes_ok _ _ (gz_le hH hL26) hv4_0 hv4_1 hv4_2 hb27) ?_
  rintro u28_0 w28 ⟨_, rfl, hR28_0⟩ hx28 hL28 hle28
  have hv28_0 := hR28_0.vecG hH hL26 hx28
  replace hv4_0 := hv4_0.mono (gz_mono hH hle28)
  replace hv4_1 := hv4_1.mono (gz_mono hH hle28)
  replace hv4_2 := hv4_2.mono (gz_mono hH hle28)
  replace hv20_0 := hv20_0.mono (gz_mono hH hle28)
  replace hv24_0 := hv24_0.mono (gz_mono hH hle28)
  obtain ⟨x29, hb29, h⟩ := Go.L.bind_some h
  refine S_callL rfl rfl hL28 (fmindex_Open_ok _ _ (gz_le hH hL28) hv28_0 hb29) ?_
  rintro _ w30 ⟨u30_0, u30_1, u30_2, rfl, hR30_0, hR30_1, hR30_2⟩ hx30 hL30 hle30
  have hv30_0 := hR30_0.mono (gz_nw hH hL28 hx30)
  have hv30_1 := hR30_1.mono (gz_nw hH hL28 hx30)
  have hv30_2 := hR30_2.mono (gz_nw hH hL28 hx30)
  replace hv4_0 := hv4_0.mono (gz_mono hH hle30)
  replace hv4_1 := hv4_1.mono (gz_mono hH hle30)
  replace hv4_2 := hv4_2.mono (gz_mono hH hle30)
  replace hv20_0 := hv20_0.mono (gz_mono hH hle30)
  replace hv24_0 := hv24_0.mono (gz_mono hH hle30)
  replace hv28_0 := hv28_0.mono (gz_mono hH hle30)
  refine S_pu 3 rfl ?_
  refine S_alloc zr50 rfl rfl hL30 ?_
  intro w31 b31 hL31 hle31 _
  replace hv4_0 := hv4_0.mono (gz_mono hH hle31)
  replace hv4_1 := hv4_1.mono (gz_mono hH hle31)
  replace hv4_2 := hv4_2.mono (gz_mono hH hle31)
  replace hv20_0 := hv20_0.mono (gz_mono hH hle31)
  replace hv24_0 := hv24_0.mono (gz_mono hH hle31)
  replace hv28_0 := hv28_0.mono (gz_mono hH hle31)
  replace hv30_0 := hv30_0.mono (gz_mono hH hle31)
  replace hv30_1 := hv30_1.mono (gz_mono hH hle31)
  replace hv30_2 := hv30_2.mono (gz_mono hH hle31)
  refine S_alloc zr25 rfl rfl hL31 ?_
  intro w32 b32 hL32 hle32 _
  replace hv4_0 := hv4_0.mono (gz_mono hH hle32)
  replace hv4_1 := hv4_1.mono (gz_mono hH hle32)
  replace hv4_2 := hv4_2.mono (gz_mono hH hle32)
  replace hv20_0 := hv20_0.mono (gz_mono hH hle32)
  replace hv24_0 := hv24_0.mono (gz_mono hH hle32)
  replace hv28_0 := hv28_0.mono (gz_mono hH hle32)
  replace hv30_0 := hv30_0.mono (gz_mono hH hle32)
  replace hv30_1 := hv30_1.mono (gz_mono hH hle32)
  replace hv30_2 := hv30_2.mono (gz_mono hH hle32)
  refine S_storeBN 1 rfl rfl rfl zr50 hL32 rfl rfl (onc hv30_0.one (onc hv30_1.one (onc hv30_2.one on0))) ?_
  intro w33 hL33 hle33
  replace hv4_0 := hv4_0.mono (gz_mono hH hle33)
  replace hv4_1 := hv4_1.mono (gz_mono hH hle33)
  replace hv4_2 := hv4_2.mono (gz_mono hH hle33)
  replace hv20_0 := hv20_0.mono (gz_mono hH hle33)
  replace hv24_0 := hv24_0.mono (gz_mono hH hle33)
  replace hv28_0 := hv28_0.mono (gz_mono hH hle33)
  replace hv30_0 := hv30_0.mono (gz_mono hH hle33)
  replace hv30_1 := hv30_1.mono (gz_mono hH hle33)
  replace hv30_2 := hv30_2.mono (gz_mono hH hle33)
  refine S_storeBN 0 rfl rfl rfl zr25 hL33 rfl rfl (onc rfl (onc rfl on0)) ?_
  intro w34 hL34 hle34
  replace hv4_0 := hv4_0.mono (gz_mono hH hle34)
  replace hv4_1 := hv4_1.mono (gz_mono hH hle34)
  replace hv4_2 := hv4_2.mono (gz_mono hH hle34)
  replace hv20_0 := hv20_0.mono (gz_mono hH hle34)
  replace hv24_0 := hv24_0.mono (gz_mono hH hle34)
  replace hv28_0 := hv28_0.mono (gz_mono hH hle34)
  replace hv30_0 := hv30_0.mono (gz_mono hH hle34)
  replace hv30_1 := hv30_1.mono (gz_mono hH hle34)
  replace hv30_2 := hv30_2.mono (gz_mono hH hle34)
  refine S_seqnil ?_
  refine W_seqr ?_
  refine S_litE (r := .byte) (l := [(1 : UInt8), (0 : UInt8), (0 : UInt8), (0 : UInt8), (97 : UInt8)]) rfl (fun _ => bsl22_5 _ _ _ _ _ _) rfl (show 5 ≤ 9223372036854775807 by decide) hH hL34 (.c1 rfl (.c1 rfl (.c1 rfl (.c1 rfl (.c1 rfl .nil))))) ?_
  intro v35 w35 hx35 hL35 hle35 hv35
  replace hv4_0 := hv4_0.mono (gz_mono hH hle35)
  replace hv4_1 := hv4_1.mono (gz_mono hH hle35)
  replace hv4_2 := hv4_2.mono (gz_mono hH hle35)
  replace hv20_0 := hv20_0.mono (gz_mono hH hle35)
  replace hv24_0 := hv24_0.mono (gz_mono hH hle35)
  replace hv30_0 := hv30_0.mono (gz_mono hH hle35)
  replace hv30_1 := hv30_1.mono (gz_mono hH hle35)
  replace hv30_2 := hv30_2.mono (gz_mono hH hle35)
  obtain ⟨x36, hb36, h⟩ := Go.L.bind_some h
  refine S_callL rfl rfl hL35 (fmindex_Open_ok _ _ (gz_le hH hL35) hv35 hb36) ?_
  rintro _ w37 ⟨u37_0, u37_1, u37_2, rfl, hR37_0, hR37_1, hR37_2⟩ hx37 hL37 hle37
  have hv37_0 := hR37_0.mono (gz_nw hH hL35 hx37)
  have hv37_1 := hR37_1.mono (gz_nw hH hL35 hx37)
  have hv37_2 := hR37_2.mono (gz_nw hH hL35 hx37)
  replace hv4_0 := hv4_0.mono (gz_mono hH hle37)
  replace hv4_1 := hv4_1.mono (gz_mono hH hle37)
  replace hv4_2 := hv4_2.mono (gz_mono hH hle37)
  replace hv20_0 := hv20_0.mono (gz_mono hH hle37)
  replace hv24_0 := hv24_0.mono (gz_mono hH hle37)
  replace hv30_0 := hv30_0.mono (gz_mono hH hle37)
  replace hv30_1 := hv30_1.mono (gz_mono hH hle37)
  replace hv30_2 := hv30_2.mono (gz_mono hH hle37)
  replace hv35 := hv35.mono (gz_mono hH hle37)
  refine S_pu 3 rfl ?_
  refine S_alloc zr50 rfl rfl hL37 ?_
  intro w38 b38 hL38 hle38 _
  replace hv4_0 := hv4_0.mono (gz_mono hH hle38)
  replace hv4_1 := hv4_1.mono (gz_mono hH hle38)
  replace hv4_2 := hv4_2.mono (gz_mono hH hle38)
  replace hv20_0 := hv20_0.mono (gz_mono hH hle38)
  replace hv24_0 := hv24_0.mono (gz_mono hH hle38)
  replace hv30_0 := hv30_0.mono (gz_mono hH hle38)
  replace hv30_1 := hv30_1.mono (gz_mono hH hle38)
  replace hv30_2 := hv30_2.mono (gz_mono hH hle38)
  replace hv35 := hv35.mono (gz_mono hH hle38)
  replace hv37_0 := hv37_0.mono (gz_mono hH hle38)
  replace hv37_1 := hv37_1.mono (gz_mono hH hle38)
  replace hv37_2 := hv37_2.mono (gz_mono hH hle38)
  refine S_alloc zr25 rfl rfl hL38 ?_
  intro w39 b39 hL39 hle39 _
  replace hv4_0 := hv4_0.mono (gz_mono hH hle39)
  replace hv4_1 := hv4_1.mono (gz_mono hH hle39)
  replace hv4_2 := hv4_2.mono (gz_mono hH hle39)
  replace hv20_0 := hv20_0.mono (gz_mono hH hle39)
  replace hv24_0 := hv24_0.mono (gz_mono hH hle39)
  replace hv30_0 := hv30_0.mono (gz_mono hH hle39)
  replace hv30_1 := hv30_1.mono (gz_mono hH hle39)
  replace hv30_2 := hv30_2.mono (gz_mono hH hle39)
  replace hv35 := hv35.mono (gz_mono hH hle39)
  replace hv37_0 := hv37_0.mono (gz_mono hH hle39)
  replace hv37_1 := hv37_1.mono (gz_mono hH hle39)
  replace hv37_2 := hv37_2.mono (gz_mono hH hle39)
  refine S_storeBN 1 rfl rfl rfl zr50 hL39 rfl rfl (onc hv37_0.one (onc hv37_1.one (onc hv37_2.one on0))) ?_
  intro w40 hL40 hle40
  replace hv4_0 := hv4_0.mono (gz_mono hH hle40)
  replace hv4_1 := hv4_1.mono (gz_mono hH hle40)
  replace hv4_2 := hv4_2.mono (gz_mono hH hle40)
  replace hv20_0 := hv20_0.mono (gz_mono hH hle40)
  replace hv24_0 := hv24_0.mono (gz_mono hH hle40)
  replace hv30_0 := hv30_0.mono (gz_mono hH hle40)
  replace hv30_1 := hv30_1.mono (gz_mono hH hle40)
  replace hv30_2 := hv30_2.mono (gz_mono hH hle40)
  replace hv35 := hv35.mono (gz_mono hH hle40)
  replace hv37_0 := hv37_0.mono (gz_mono hH hle40)
  replace hv37_1 := hv37_1.mono (gz_mono hH hle40)
  replace hv37_2 := hv37_2.mono (gz_mono hH hle40)
  refine S_storeBN 0 rfl rfl rfl zr25 hL40 rfl rfl (onc rfl (onc rfl on0)) ?_
  intro w41 hL41 hle41
  replace hv4_0 := hv4_0.mono (gz_mono hH hle41)
  replace hv4_1 := hv4_1.mono (gz_mono hH hle41)
  replace hv4_2 := hv4_2.mono (gz_mono hH hle41)
  replace hv20_0 := hv20_0.mono (gz_mono hH hle41)
  replace hv24_0 := hv24_0.mono (gz_mono hH hle41)
  replace hv30_0 := hv30_0.mono (gz_mono hH hle41)
  replace hv30_1 := hv30_1.mono (gz_mono hH hle41)
  replace hv30_2 := hv30_2.mono (gz_mono hH hle41)
  replace hv35 := hv35.mono (gz_mono hH hle41)
  replace hv37_0 := hv37_0.mono (gz_mono hH hle41)
  replace hv37_1 := hv37_1.mono (gz_mono hH hle41)
  replace hv37_2 := hv37_2.mono (gz_mono hH hle41)
  refine S_seqnil ?_
  refine W_seq ?_
  refine W_seqr ?_
  refine S_v (r_field rfl Try.underlying25 rfl zr3 (by decide)) rfl ?_
  refine S_v (r_loadB1 7 rfl Try.underlying3 rfl hL41 rfl rfl) rfl ?_
  refine S_pu 2 rfl ?_
  refine S_split (s := 51) rfl (fun hg42 => ?_) (fun hg42 => ?_)
  · replace h := Go.L.ite_n (not_dec_t hg42) h
    refine S_unwanted rfl rfl hg42 rfl ?_
    refine S_unwanted rfl rfl hg42 rfl ?_
    refine S_unwanted rfl rfl hg42 rfl ?_
    refine S_v (r_pickT rfl hg42 rfl) rfl ?_
    refine S_pu 1 rfl ?_
    refine S_unwanted rfl rfl rfl rfl ?_
    refine S_unwanted rfl rfl rfl rfl ?_
    refine S_unwanted rfl rfl rfl rfl ?_
    refine S_v (r_pickT rfl rfl rfl) rfl ?_
    refine S_pu 1 rfl ?_
    refine S_unwanted rfl rfl rfl rfl ?_
    refine S_unwanted rfl rfl rfl rfl ?_
    refine S_unwanted rfl rfl rfl rfl ?_
    refine S_v (r_pickT rfl rfl rfl) rfl ?_
    refine S_pu 1 rfl ?_
    refine S_unwanted rfl rfl rfl rfl ?_
    refine S_unwanted rfl rfl rfl rfl ?_
    refine S_unwanted rfl rfl rfl rfl ?_
    refine S_v (r_pickT rfl rfl rfl) rfl ?_
    refine S_seqnil ?_
    refine W_true rfl ?_
    refine W_seqr ?_
    refine S_pu 1 rfl ?_
    refine S_seqnil ?_
    refine W_ret ?_
    refine At_seq_ret ?_
    obtain rfl := Option.some.inj h
    refine At_body rfl rfl ?_
    exact ⟨hL41.ext, rfl⟩
  · replace h := Go.L.ite_p (not_dec_f hg42) h
    refine S_guarded rfl rfl hg42 ?_
    refine S_v (r_field rfl Try.underlying25 rfl zr3 (by decide)) rfl ?_
    refine S_guarded rfl rfl hg42 ?_
    refine S_v (r_loadB1 6 rfl Try.underlying3 rfl hL41 rfl rfl) rfl ?_
    refine S_guarded rfl rfl hg42 ?_
    refine S_v (RunsAt_pu rfl) rfl ?_
    refine S_v (r_pickF rfl hg42 rfl) rfl ?_
    refine S_pu 1 rfl ?_
    refine S_split (s := 56) rfl (fun hg45 => ?_) (fun hg45 => ?_)
    · replace h := Go.L.ite_n (not_dec_t hg45) h
      refine S_unwanted rfl rfl hg45 rfl ?_
      refine S_unwanted rfl rfl hg45 rfl ?_
      refine S_unwanted rfl rfl hg45 rfl ?_
      refine S_v (r_pickT rfl hg45 rfl) rfl ?_
      refine S_pu 1 rfl ?_
      refine S_unwanted rfl rfl rfl rfl ?_
      refine S_unwanted rfl rfl rfl rfl ?_
      refine S_unwanted rfl rfl rfl rfl ?_
      refine S_v (r_pickT rfl rfl rfl) rfl ?_
      refine S_pu 1 rfl ?_
      refine S_unwanted rfl rfl rfl rfl ?_
      refine S_unwanted rfl rfl rfl rfl ?_
      refine S_unwanted rfl rfl rfl rfl ?_
      refine S_v (r_pickT rfl rfl rfl) rfl ?_
      refine S_seqnil ?_
      refine W_true rfl ?_
      refine W_seqr ?_
      refine S_pu 1 rfl ?_
      refine S_seqnil ?_
      refine W_ret ?_
      refine At_seq_ret ?_
      obtain rfl := Option.some.inj h
      refine At_body rfl rfl ?_
      exact ⟨hL41.ext, rfl⟩
    · replace h := Go.L.ite_p (not_dec_f hg45) h
      refine S_guarded rfl rfl hg45 ?_
      refine S_v (r_field rfl Try.underlying25 rfl zr3 (by decide)) rfl ?_
      refine S_guarded rfl rfl hg45 ?_
      refine S_v (r_loadB1 5 rfl Try.underlying3 rfl hL41 rfl rfl) rfl ?_
      refine S_guarded rfl rfl hg45 ?_
      refine S_v (RunsAt_pu rfl) rfl ?_
      refine S_v (r_pickF rfl hg45 rfl) rfl ?_
      refine S_pu 1 rfl ?_
      refine S_split (s := 61) rfl (fun hg48 => ?_) (fun hg48 => ?_)
      · replace h := Go.L.ite_n (not_dec_t hg48) h
        refine S_unwanted rfl rfl hg48 rfl ?_
        refine S_unwanted rfl rfl hg48 rfl ?_
        refine S_unwanted rfl rfl hg48 rfl ?_
        refine S_v (r_pickT rfl hg48 rfl) rfl ?_
        refine S_pu 1 rfl ?_
        refine S_unwanted rfl rfl rfl rfl ?_
        refine S_unwanted rfl rfl rfl rfl ?_
        refine S_unwanted rfl rfl rfl rfl ?_
        refine S_v (r_pickT rfl rfl rfl) rfl ?_
        refine S_seqnil ?_
        refine W_true rfl ?_
        refine W_seqr ?_
        refine S_pu 1 rfl ?_
        refine S_seqnil ?_
        refine W_ret ?_
        refine At_seq_ret ?_
        obtain rfl := Option.some.inj h
        refine At_body rfl rfl ?_
        exact ⟨hL41.ext, rfl⟩
      · replace h := Go.L.ite_p (not_dec_f hg48) h
        refine S_guarded rfl rfl hg48 ?_
        refine S_v (r_field rfl Try.underlying25 rfl zr3 (by decide)) rfl ?_
        refine S_guarded rfl rfl hg48 ?_
        refine S_v (r_loadB1 4 rfl Try.underlying3 rfl hL41 rfl rfl) rfl ?_
        refine S_guarded rfl rfl hg48 ?_
        refine S_v (RunsAt_pu rfl) rfl ?_
        refine S_v (r_pickF rfl hg48 rfl) rfl ?_
        refine S_pu 1 rfl ?_
        refine S_split (s := 66) rfl (fun hg51 => ?_) (fun hg51 => ?_)
        · replace h := Go.L.ite_n (not_dec_t hg51) h
          refine S_unwanted rfl rfl hg51 rfl ?_
          refine S_unwanted rfl rfl hg51 rfl ?_
          refine S_unwanted rfl rfl hg51 rfl ?_
          refine S_v (r_pickT rfl hg51 rfl) rfl ?_
          refine S_seqnil ?_
          refine W_true rfl ?_
          refine W_seqr ?_
          refine S_pu 1 rfl ?_
          refine S_seqnil ?_
          refine W_ret ?_
          refine At_seq_ret ?_
          obtain rfl := Option.some.inj h
          refine At_body rfl rfl ?_
          exact ⟨hL41.ext, rfl⟩
        · replace h := Go.L.ite_p (not_dec_f hg51) h
          refine S_guarded rfl rfl hg51 ?_
          refine S_v (r_field rfl Try.underlying25 rfl zr3 (by decide)) rfl ?_
          refine S_guarded rfl rfl hg51 ?_
          refine S_v (r_loadB1 2 rfl Try.underlying3 rfl hL41 rfl rfl) rfl ?_
          refine S_guarded rfl rfl hg51 ?_
          refine S_v (RunsAt_pu rfl) rfl ?_
          refine S_v (r_pickF rfl hg51 rfl) rfl ?_
          refine S_seqnil ?_
          refine W_ifn rfl (fun hc54 => ?_) (fun hc54 => ?_)
          · replace h := Go.L.ite_n hc54 h
            refine W_seqr ?_
            refine S_pu 1 rfl ?_
            refine S_seqnil ?_
            refine W_ret ?_
            refine At_seq_ret ?_
            obtain rfl := Option.some.inj h
            refine At_body rfl rfl ?_
            exact ⟨hL41.ext, rfl⟩
          · replace h := Go.L.ite_p hc54 h
            refine W_skip ?_
            refine At_seq ?_
            refine W_cut (σ := Bool) (fun (s0_121 : Bool) => [(0, .bool s0_121)]) (fun (s0_121 : Bool) wr => Lcl w [.box b39 [.int .i64 x36.2.1, .int .i64 x36.2.2] 25, .box b38 [u37_0, u37_1, u37_2] 50, .box b32 [.int .i64 x29.2.1, .int .i64 x29.2.2] 25, .box b31 [u30_0, u30_1, u30_2] 50, .box b25 [.int .i64 x23.2.1, .int .i64 x23.2.2] 25, .box b21 [.int .i64 x19.2.1, .int .i64 x19.2.2] 25, .box b14 [.int .i64 x12.2.1, .int .i64 x12.2.2] 25, .box b6 [.int .i64 x3.2.1, .int .i64 x3.2.2] 25, .box b5 [u4_0, u4_1, u4_2] 50] wr ∧ Vec (.int .i64) (gz H w wr [.box b39 [.int .i64 x36.2.1, .int .i64 x36.2.2] 25, .box b38 [u37_0, u37_1, u37_2] 50, .box b32 [.int .i64 x29.2.1, .int .i64 x29.2.2] 25, .box b31 [u30_0, u30_1, u30_2] 50, .box b25 [.int .i64 x23.2.1, .int .i64 x23.2.2] 25, .box b21 [.int .i64 x19.2.1, .int .i64 x19.2.2] 25, .box b14 [.int .i64 x12.2.1, .int .i64 x12.2.2] 25, .box b6 [.int .i64 x3.2.1, .int .i64 x3.2.2] 25, .box b5 [u4_0, u4_1, u4_2] 50]) (u37_0) (x36.1.1) ∧ Vec (.int .i64) (gz H w wr [.box b39 [.int .i64 x36.2.1, .int .i64 x36.2.2] 25, .box b38 [u37_0, u37_1, u37_2] 50, .box b32 [.int .i64 x29.2.1, .int .i64 x29.2.2] 25, .box b31 [u30_0, u30_1, u30_2] 50, .box b25 [.int .i64 x23.2.1, .int .i64 x23.2.2] 25, .box b21 [.int .i64 x19.2.1, .int .i64 x19.2.2] 25, .box b14 [.int .i64 x12.2.1, .int .i64 x12.2.2] 25, .box b6 [.int .i64 x3.2.1, .int .i64 x3.2.2] 25, .box b5 [u4_0, u4_1, u4_2] 50]) (u37_1) (x36.1.2.1) ∧ Vec (.int .i64) (gz H w wr [.box b39 [.int .i64 x36.2.1, .int .i64 x36.2.2] 25, .box b38 [u37_0, u37_1, u37_2] 50, .box b32 [.int .i64 x29.2.1, .int .i64 x29.2.2] 25, .box b31 [u30_0, u30_1, u30_2] 50, .box b25 [.int .i64 x23.2.1, .int .i64 x23.2.2] 25, .box b21 [.int .i64 x19.2.1, .int .i64 x19.2.2] 25, .box b14 [.int .i64 x12.2.1, .int .i64 x12.2.2] 25, .box b6 [.int .i64 x3.2.1, .int .i64 x3.2.2] 25, .box b5 [u4_0, u4_1, u4_2] 50]) (u37_2) (x36.1.2.2) ∧ Vec (.int .i64) (gz H w wr [.box b39 [.int .i64 x36.2.1, .int .i64 x36.2.2] 25, .box b38 [u37_0, u37_1, u37_2] 50, .box b32 [.int .i64 x29.2.1, .int .i64 x29.2.2] 25, .box b31 [u30_0, u30_1, u30_2] 50, .box b25 [.int .i64 x23.2.1, .int .i64 x23.2.2] 25, .box b21 [.int .i64 x19.2.1, .int .i64 x19.2.2] 25, .box b14 [.int .i64 x12.2.1, .int .i64 x12.2.2] 25, .box b6 [.int .i64 x3.2.1, .int .i64 x3.2.2] 25, .box b5 [u4_0, u4_1, u4_2] 50]) (u30_0) (x29.1.1) ∧ Vec (.int .i64) (gz H w wr [.box b39 [.int .i64 x36.2.1, .int .i64 x36.2.2] 25, .box b38 [u37_0, u37_1, u37_2] 50, .box b32 [.int .i64 x29.2.1, .int .i64 x29.2.2] 25, .box b31 [u30_0, u30_1, u30_2] 50, .box b25 [.int .i64 x23.2.1, .int .i64 x23.2.2] 25, .box b21 [.int .i64 x19.2.1, .int .i64 x19.2.2] 25, .box b14 [.int .i64 x12.2.1, .int .i64 x12.2.2] 25, .box b6 [.int .i64 x3.2.1, .int .i64 x3.2.2] 25, .box b5 [u4_0, u4_1, u4_2] 50]) (u30_1) (x29.1.2.1) ∧ Vec (.int .i64) (gz H w wr [.box b39 [.int .i64 x36.2.1, .int .i64 x36.2.2] 25, .box b38 [u37_0, u37_1, u37_2] 50, .box b32 [.int .i64 x29.2.1, .int .i64 x29.2.2] 25, .box b31 [u30_0, u30_1, u30_2] 50, .box b25 [.int .i64 x23.2.1, .int .i64 x23.2.2] 25, .box b21 [.int .i64 x19.2.1, .int .i64 x19.2.2] 25, .box b14 [.int .i64 x12.2.1, .int .i64 x12.2.2] 25, .box b6 [.int .i64 x3.2.1, .int .i64 x3.2.2] 25, .box b5 [u4_0, u4_1, u4_2] 50]) (u30_2) (x29.1.2.2) ∧ Vec (.int .i64) (gz H w wr [.box b39 [.int .i64 x36.2.1, .int .i64 x36.2.2] 25, .box b38 [u37_0, u37_1, u37_2] 50, .box b32 [.int .i64 x29.2.1, .int .i64 x29.2.2] 25, .box b31 [u30_0, u30_1, u30_2] 50, .box b25 [.int .i64 x23.2.1, .int .i64 x23.2.2] 25, .box b21 [.int .i64 x19.2.1, .int .i64 x19.2.2] 25, .box b14 [.int .i64 x12.2.1, .int .i64 x12.2.2] 25, .box b6 [.int .i64 x3.2.1, .int .i64 x3.2.2] 25, .box b5 [u4_0, u4_1, u4_2] 50]) (u4_0) (x3.1.1) ∧ Vec (.int .i64) (gz H w wr [.box b39 [.int .i64 x36.2.1, .int .i64 x36.2.2] 25, .box b38 [u37_0, u37_1, u37_2] 50, .box b32 [.int .i64 x29.2.1, .int .i64 x29.2.2] 25, .box b31 [u30_0, u30_1, u30_2] 50, .box b25 [.int .i64 x23.2.1, .int .i64 x23.2.2] 25, .box b21 [.int .i64 x19.2.1, .int .i64 x19.2.2] 25, .box b14 [.int .i64 x12.2.1, .int .i64 x12.2.2] 25, .box b6 [.int .i64 x3.2.1, .int .i64 x3.2.2] 25, .box b5 [u4_0, u4_1, u4_2] 50]) (u4_1) (x3.1.2.1) ∧ Vec (.int .i64) (gz H w wr [.box b39 [.int .i64 x36.2.1, .int .i64 x36.2.2] 25, .box b38 [u37_0, u37_1, u37_2] 50, .box b32 [.int .i64 x29.2.1, .int .i64 x29.2.2] 25, .box b31 [u30_0, u30_1, u30_2] 50, .box b25 [.int .i64 x23.2.1, .int .i64 x23.2.2] 25, .box b21 [.int .i64 x19.2.1, .int .i64 x19.2.2] 25, .box b14 [.int .i64 x12.2.1, .int .i64 x12.2.2] 25, .box b6 [.int .i64 x3.2.1, .int .i64 x3.2.2] 25, .box b5 [u4_0, u4_1, u4_2] 50]) (u4_2) (x3.1.2.2) ∧ law4_finds_k1 s0_121 = some r) ?_ ?_
            · refine W_naive mixed rfl (fun w124 hx124 => ?_)
              have hL125 := hL41.call hx124
              have hle125 := fz_ext hL41 hx124
              replace hv4_0 := hv4_0.mono (gz_mono hH hle125)
              replace hv4_1 := hv4_1.mono (gz_mono hH hle125)
              replace hv4_2 := hv4_2.mono (gz_mono hH hle125)
              replace hv20_0 := hv20_0.mono (gz_mono hH hle125)
              replace hv24_0 := hv24_0.mono (gz_mono hH hle125)
              replace hv30_0 := hv30_0.mono (gz_mono hH hle125)
              replace hv30_1 := hv30_1.mono (gz_mono hH hle125)
              replace hv30_2 := hv30_2.mono (gz_mono hH hle125)
              replace hv37_0 := hv37_0.mono (gz_mono hH hle125)
              replace hv37_1 := hv37_1.mono (gz_mono hH hle125)
              replace hv37_2 := hv37_2.mono (gz_mono hH hle125)
              refine N_hoist 0 (np_cut np_body) (by kernel_rfl) rfl (fun _ => RunsAt_pu rfl) rfl ?_
              refine N_hoist 1 (np_cut np_body) (by kernel_rfl) rfl (fun _ => RunsAt_pu rfl) rfl ?_
              refine N_hoist 2 (np_cut np_body) (by kernel_rfl) rfl (fun _ => RunsAt_pu rfl) rfl ?_
              refine N_split (s := 73) rfl (fun hg126 => ?_) (fun hg126 => ?_)
              · replace h := Go.L.ite_p (of_decide_eq_true hg126) h
                refine N_hoistg 3 (np_cut np_body) (by kernel_rfl) rfl rfl rfl rfl hg126 (fun _ => RunsAt_pu rfl) rfl ?_
                refine N1 (i := 4) (by kernel_rfl) rfl ?_
                refine S_guarded rfl rfl hg126 ?_
                refine S_litE (r := (.int .i64)) (l := [(0 : Int), (2 : Int)]) rfl (fun _ => bsl23_2 _ _ _) rfl (show 2 ≤ 9223372036854775807 by decide) hH hL125 (.c1 rfl (.c1 rfl .nil)) ?_
                intro v128 w128 hx128 hL128 hle128 hv128
                replace hv4_0 := hv4_0.mono (gz_mono hH hle128)
                replace hv4_1 := hv4_1.mono (gz_mono hH hle128)
                replace hv4_2 := hv4_2.mono (gz_mono hH hle128)
                replace hv20_0 := hv20_0.mono (gz_mono hH hle128)
                replace hv24_0 := hv24_0.mono (gz_mono hH hle128)
                replace hv30_0 := hv30_0.mono (gz_mono hH hle128)
                replace hv30_1 := hv30_1.mono (gz_mono hH hle128)
                replace hv30_2 := hv30_2.mono (gz_mono hH hle128)
                replace hv37_0 := hv37_0.mono (gz_mono hH hle128)
                replace hv37_1 := hv37_1.mono (gz_mono hH hle128)
                replace hv37_2 := hv37_2.mono (gz_mono hH hle128)
                refine N_nil ?_
                refine N1 (i := 5) (by kernel_rfl) rfl ?_
                refine S_guarded rfl rfl hg126 ?_
                obtain ⟨x129, hb129, h⟩ := Go.L.bind_some h
                refine S_callL rfl rfl hL128 (ref3_Ints_ok _ _ (gz_le hH hL128) hv20_0 hv128 hb129) ?_
                rintro _ w130 rfl hx130 hL130 hle130
                replace hv4_0 := hv4_0.mono (gz_mono hH hle130)
                replace hv4_1 := hv4_1.mono (gz_mono hH hle130)
                replace hv4_2 := hv4_2.mono (gz_mono hH hle130)
                replace hv20_0 := hv20_0.mono (gz_mono hH hle130)
                replace hv24_0 := hv24_0.mono (gz_mono hH hle130)
                replace hv30_0 := hv30_0.mono (gz_mono hH hle130)
                replace hv30_1 := hv30_1.mono (gz_mono hH hle130)
                replace hv30_2 := hv30_2.mono (gz_mono hH hle130)
                replace hv37_0 := hv37_0.mono (gz_mono hH hle130)
                replace hv37_1 := hv37_1.mono (gz_mono hH hle130)
                replace hv37_2 := hv37_2.mono (gz_mono hH hle130)
                replace hv128 := hv128.mono (gz_mono hH hle130)
                refine N_nil ?_
                refine N_hoist 6 (np_cut np_body) (by kernel_rfl) rfl (fun _ => r_pickT rfl hg126 rfl) rfl ?_
                refine N_hoist 7 (np_cut np_body) (by kernel_rfl) rfl (fun _ => RunsAt_pu rfl) rfl ?_
                refine N_split (s := 78) rfl (fun hg131 => ?_) (fun hg131 => ?_)
                · replace h := Go.L.ite_t hg131 h
                  refine N_hoistg 8 (np_cut np_body) (by kernel_rfl) rfl rfl rfl rfl hg131 (fun _ => RunsAt_pu rfl) rfl ?_
                  refine N1 (i := 9) (by kernel_rfl) rfl ?_
                  refine S_guarded rfl rfl hg131 ?_
                  refine S_litO (r := .byte) (l := [(98 : UInt8), (97 : UInt8)]) rfl (fun _ => bsl22_2 _ _ _) rfl (show 2 ≤ 9223372036854775807 by decide) hH hL130 (.c1 rfl (.c1 rfl .nil)) ?_
                  intro v133 w133 xs133 hL133 hle133 he133
                  replace hv4_0 := hv4_0.mono (gz_mono hH hle133)
                  replace hv4_1 := hv4_1.mono (gz_mono hH hle133)
                  replace hv4_2 := hv4_2.mono (gz_mono hH hle133)
                  replace hv20_0 := hv20_0.mono (gz_mono hH hle133)
                  replace hv24_0 := hv24_0.mono (gz_mono hH hle133)
                  replace hv30_0 := hv30_0.mono (gz_mono hH hle133)
                  replace hv30_1 := hv30_1.mono (gz_mono hH hle133)
                  replace hv30_2 := hv30_2.mono (gz_mono hH hle133)
                  replace hv37_0 := hv37_0.mono (gz_mono hH hle133)
                  replace hv37_1 := hv37_1.mono (gz_mono hH hle133)
                  replace hv37_2 := hv37_2.mono (gz_mono hH hle133)
                  replace hv128 := hv128.mono (gz_mono hH hle133)
                  refine N_nil ?_
                  refine N1 (i := 10) (by kernel_rfl) rfl ?_
                  refine S_guarded rfl rfl hg131 ?_
                  obtain ⟨hk135, h⟩ := Go.L.chk_some h
                  refine S_cvB 0 rfl Try.underlying22 Try.underlying5 rfl hH hL133 rfl he133 hk135 ?_
                  intro w134 hL134 hle134 hv134
                  replace hv4_0 := hv4_0.mono (gz_mono hH hle134)
                  replace hv4_1 := hv4_1.mono (gz_mono hH hle134)
                  replace hv4_2 := hv4_2.mono (gz_mono hH hle134)
                  replace hv20_0 := hv20_0.mono (gz_mono hH hle134)
                  replace hv24_0 := hv24_0.mono (gz_mono hH hle134)
                  replace hv30_0 := hv30_0.mono (gz_mono hH hle134)
                  replace hv30_1 := hv30_1.mono (gz_mono hH hle134)
                  replace hv30_2 := hv30_2.mono (gz_mono hH hle134)
                  replace hv37_0 := hv37_0.mono (gz_mono hH hle134)
                  replace hv37_1 := hv37_1.mono (gz_mono hH hle134)
                  replace hv37_2 := hv37_2.mono (gz_mono hH hle134)
                  replace hv128 := hv128.mono (gz_mono hH hle134)
                  refine N_nil ?_
                  refine N1 (i := 11) (by kernel_rfl) rfl ?_
                  refine S_guarded rfl rfl hg131 ?_
                  obtain ⟨x136, hb136, h⟩ := Go.L.bind_some h
                  refine S_callL rfl rfl hL134 (ref3_SameBytes_ok _ _ (gz_le hH hL134) hv24_0 hv134 hb136) ?_
                  rintro _ w137 rfl hx137 hL137 hle137
                  replace hv4_0 := hv4_0.mono (gz_mono hH hle137)
                  replace hv4_1 := hv4_1.mono (gz_mono hH hle137)
                  replace hv4_2 := hv4_2.mono (gz_mono hH hle137)
                  replace hv20_0 := hv20_0.mono (gz_mono hH hle137)
                  replace hv24_0 := hv24_0.mono (gz_mono hH hle137)
                  replace hv30_0 := hv30_0.mono (gz_mono hH hle137)
                  replace hv30_1 := hv30_1.mono (gz_mono hH hle137)
                  replace hv30_2 := hv30_2.mono (gz_mono hH hle137)
                  replace hv37_0 := hv37_0.mono (gz_mono hH hle137)
                  replace hv37_1 := hv37_1.mono (gz_mono hH hle137)
                  replace hv37_2 := hv37_2.mono (gz_mono hH hle137)
                  replace hv128 := hv128.mono (gz_mono hH hle137)
                  replace hv134 := hv134.mono (gz_mono hH hle137)
                  refine N_nil ?_
                  refine N_hoist 12 (np_cut np_body) (by kernel_rfl) rfl (fun _ => r_pickT rfl hg131 rfl) rfl ?_
                  refine N_hoist 13 (np_cut np_body) (by kernel_rfl) rfl (fun _ => RunsAt_pu rfl) rfl ?_
                  refine N_split (s := 84) rfl (fun hg138 => ?_) (fun hg138 => ?_)
                  · replace h := Go.L.ite_t hg138 h
                    refine N2 (i := 14) (j := 16) (by kernel_rfl) rfl rfl ?_ ?_
                    · refine S_guarded rfl rfl hg138 ?_
                      refine S_v (r_loadBN 8 rfl Try.underlying50 rfl zr50 hL137 rfl) rfl ?_
                      refine N_nil ?_
                      refine N2 (i := 15) (j := 16) (by kernel_rfl) rfl rfl ?_ ?_
                      · refine S_guarded rfl rfl hg138 ?_
                        obtain ⟨x140, hb140, h⟩ := Go.L.bind_some h
                        refine S_callL rfl rfl hL137 (fmindex_Index_Bytes_ok _ _ (gz_le hH hL137) hv4_0 hv4_1 hv4_2 hb140) ?_
                        rintro u141_0 w141 ⟨_, rfl, hR141_0⟩ hx141 hL141 hle141
                        have hv141_0 := hR141_0.vecG hH hL137 hx141
                        replace hv4_0 := hv4_0.mono (gz_mono hH hle141)
                        replace hv4_1 := hv4_1.mono (gz_mono hH hle141)
                        replace hv4_2 := hv4_2.mono (gz_mono hH hle141)
                        replace hv20_0 := hv20_0.mono (gz_mono hH hle141)
                        replace hv24_0 := hv24_0.mono (gz_mono hH hle141)
                        replace hv30_0 := hv30_0.mono (gz_mono hH hle141)
                        replace hv30_1 := hv30_1.mono (gz_mono hH hle141)
                        replace hv30_2 := hv30_2.mono (gz_mono hH hle141)
                        replace hv37_0 := hv37_0.mono (gz_mono hH hle141)
                        replace hv37_1 := hv37_1.mono (gz_mono hH hle141)
                        replace hv37_2 := hv37_2.mono (gz_mono hH hle141)
                        replace hv128 := hv128.mono (gz_mono hH hle141)
                        replace hv134 := hv134.mono (gz_mono hH hle141)
                        refine N_nil ?_
                        refine N1 (i := 16) (by kernel_rfl) rfl ?_
                        refine S_guarded rfl rfl hg138 ?_
                        refine S_litE (r := .byte) (l := [(4 : UInt8), (0 : UInt8), (2 : UInt8), (0 : UInt8), (98 : UInt8), (98 : UInt8), (97 : UInt8), (97 : UInt8)]) rfl (fun _ => bsl22_8 _ _ _ _ _ _ _ _ _) rfl (show 8 ≤ 9223372036854775807 by decide) hH hL141 (.c1 rfl (.c1 rfl (.c1 rfl (.c1 rfl (.c1 rfl (.c1 rfl (.c1 rfl (.c1 rfl .nil)))))))) ?_
                        intro v142 w142 hx142 hL142 hle142 hv142
                        replace hv4_0 := hv4_0.mono (gz_mono hH hle142)
                        replace hv4_1 := hv4_1.mono (gz_mono hH hle142)
                        replace hv4_2 := hv4_2.mono (gz_mono hH hle142)
                        replace hv20_0 := hv20_0.mono (gz_mono hH hle142)
                        replace hv24_0 := hv24_0.mono (gz_mono hH hle142)
                        replace hv30_0 := hv30_0.mono (gz_mono hH hle142)
                        replace hv30_1 := hv30_1.mono (gz_mono hH hle142)
                        replace hv30_2 := hv30_2.mono (gz_mono hH hle142)
                        replace hv37_0 := hv37_0.mono (gz_mono hH hle142)
                        replace hv37_1 := hv37_1.mono (gz_mono hH hle142)
                        replace hv37_2 := hv37_2.mono (gz_mono hH hle142)
                        replace hv128 := hv128.mono (gz_mono hH hle142)
                        replace hv134 := hv134.mono (gz_mono hH hle142)
                        replace hv141_0 := hv141_0.mono (gz_mono hH hle142)
                        refine N_nil ?_
                        refine N1 (i := 17) (by kernel_rfl) rfl ?_
                        refine S_guarded rfl rfl hg138 ?_
                        obtain ⟨x143, hb143, h⟩ := Go.L.bind_some h
                        refine S_callL rfl rfl hL142 (ref3_SameBytes_ok _ _ (gz_le hH hL142) hv141_0 hv142 hb143) ?_
                        rintro _ w144 rfl hx144 hL144 hle144
                        replace hv4_0 := hv4_0.mono (gz_mono hH hle144)
                        replace hv4_1 := hv4_1.mono (gz_mono hH hle144)
                        replace hv4_2 := hv4_2.mono (gz_mono hH hle144)
                        replace hv20_0 := hv20_0.mono (gz_mono hH hle144)
                        replace hv24_0 := hv24_0.mono (gz_mono hH hle144)
                        replace hv30_0 := hv30_0.mono (gz_mono hH hle144)
                        replace hv30_1 := hv30_1.mono (gz_mono hH hle144)
                        replace hv30_2 := hv30_2.mono (gz_mono hH hle144)
                        replace hv37_0 := hv37_0.mono (gz_mono hH hle144)
                        replace hv37_1 := hv37_1.mono (gz_mono hH hle144)
                        replace hv37_2 := hv37_2.mono (gz_mono hH hle144)
                        replace hv128 := hv128.mono (gz_mono hH hle144)
                        replace hv134 := hv134.mono (gz_mono hH hle144)
                        replace hv141_0 := hv141_0.mono (gz_mono hH hle144)
                        replace hv142 := hv142.mono (gz_mono hH hle144)
                        refine N_nil ?_
                        refine N_hoist 18 (np_cut np_body) (by kernel_rfl) rfl (fun _ => r_pickT rfl hg138 rfl) rfl ?_
                        refine N_hoist 19 (np_cut np_body) (by kernel_rfl) rfl (fun _ => RunsAt_pu rfl) rfl ?_
                        refine N_split (s := 90) rfl (fun hg145 => ?_) (fun hg145 => ?_)
                        · replace h := Go.L.ite_t hg145 h
                          refine N1 (i := 20) (by kernel_rfl) rfl ?_
                          refine S_guarded rfl rfl hg145 ?_
                          refine S_v (r_loadBN 3 rfl Try.underlying50 rfl zr50 hL144 rfl) rfl ?_
                          refine N_nil ?_
                          refine N1 (i := 21) (by kernel_rfl) rfl ?_
                          refine S_guarded rfl rfl hg145 ?_
                          obtain ⟨x147, hb147, h⟩ := Go.L.bind_some h
                          refine S_callL rfl rfl hL144 (fmindex_Index_Length_ok _ _ (gz_le hH hL144) hv30_0 hv30_1 hv30_2 hb147) ?_
                          rintro _ w148 rfl hx148 hL148 hle148
                          replace hv4_0 := hv4_0.mono (gz_mono hH hle148)
                          replace hv4_1 := hv4_1.mono (gz_mono hH hle148)
                          replace hv4_2 := hv4_2.mono (gz_mono hH hle148)
                          replace hv20_0 := hv20_0.mono (gz_mono hH hle148)
                          replace hv24_0 := hv24_0.mono (gz_mono hH hle148)
                          replace hv30_0 := hv30_0.mono (gz_mono hH hle148)
                          replace hv30_1 := hv30_1.mono (gz_mono hH hle148)
                          replace hv30_2 := hv30_2.mono (gz_mono hH hle148)
                          replace hv37_0 := hv37_0.mono (gz_mono hH hle148)
                          replace hv37_1 := hv37_1.mono (gz_mono hH hle148)
                          replace hv37_2 := hv37_2.mono (gz_mono hH hle148)
                          replace hv128 := hv128.mono (gz_mono hH hle148)
                          replace hv134 := hv134.mono (gz_mono hH hle148)
                          replace hv141_0 := hv141_0.mono (gz_mono hH hle148)
                          replace hv142 := hv142.mono (gz_mono hH hle148)
                          refine N_nil ?_
                          refine N_hoistg 22 (np_cut np_body) (by kernel_rfl) rfl rfl rfl rfl hg145 (fun _ => RunsAt_pu rfl) rfl ?_
                          refine N_hoist 23 (np_cut np_body) (by kernel_rfl) rfl (fun _ => r_pickT rfl hg145 rfl) rfl ?_
                          refine N_hoist 24 (np_cut np_body) (by kernel_rfl) rfl (fun _ => RunsAt_pu rfl) rfl ?_
                          refine N_split (s := 95) rfl (fun hg149 => ?_) (fun hg149 => ?_)
                          · replace h := Go.L.ite_p (of_decide_eq_true hg149) h
                            refine N2 (i := 25) (j := 26) (by kernel_rfl) rfl rfl ?_ ?_
                            · refine S_guarded rfl rfl hg149 ?_
                              refine S_v (r_loadBN 0 rfl Try.underlying25 rfl zr25 hL148 rfl) rfl ?_
                              refine N_nil ?_
                              refine N1 (i := 26) (by kernel_rfl) rfl ?_
                              refine S_guarded rfl rfl hg149 ?_
                              obtain ⟨x151, hb151, h⟩ := Go.L.bind_some h
                              refine S_callL rfl rfl hL148 (ref3_At_ok _ _ (gz_le hH hL148) hb151) ?_
                              rintro _ w152 rfl hx152 hL152 hle152
                              replace hv4_0 := hv4_0.mono (gz_mono hH hle152)
                              replace hv4_1 := hv4_1.mono (gz_mono hH hle152)
                              replace hv4_2 := hv4_2.mono (gz_mono hH hle152)
                              replace hv20_0 := hv20_0.mono (gz_mono hH hle152)
                              replace hv24_0 := hv24_0.mono (gz_mono hH hle152)
                              replace hv30_0 := hv30_0.mono (gz_mono hH hle152)
                              replace hv30_1 := hv30_1.mono (gz_mono hH hle152)
                              replace hv30_2 := hv30_2.mono (gz_mono hH hle152)
                              replace hv37_0 := hv37_0.mono (gz_mono hH hle152)
                              replace hv37_1 := hv37_1.mono (gz_mono hH hle152)
                              replace hv37_2 := hv37_2.mono (gz_mono hH hle152)
                              replace hv128 := hv128.mono (gz_mono hH hle152)
                              replace hv134 := hv134.mono (gz_mono hH hle152)
                              replace hv141_0 := hv141_0.mono (gz_mono hH hle152)
                              replace hv142 := hv142.mono (gz_mono hH hle152)
                              refine N_nil ?_
                              refine N_hoistg 27 (np_cut np_body) (by kernel_rfl) rfl rfl rfl rfl hg149 (fun _ => r_eqA rfl rfl eqg25 (eq25 _ _ _ _ )) rfl ?_
                              refine N_hoist 28 (np_cut np_body) (by kernel_rfl) rfl (fun _ => r_pickT rfl hg149 rfl) rfl ?_
                              refine N_hoist 29 (np_cut np_body) (by kernel_rfl) rfl (fun _ => RunsAt_pu rfl) rfl ?_
                              refine N_end (by kernel_rfl) ?_
                              refine At_cut (decide (x36.2.1 = x151.1 ∧ x36.2.2 = x151.2)) (.cons rfl (Sub.nil _)) ⟨hL152, hv37_0, hv37_1, hv37_2, hv30_0, hv30_1, hv30_2, hv4_0, hv4_1, hv4_2, h⟩
                            · obtain ⟨x151, hb151, h⟩ := Go.L.bind_some h
                              refine S_guarded rfl rfl hg149 ?_
                              refine S_callL rfl rfl hL148 (ref3_At_ok _ _ (gz_le hH hL148) hb151) ?_
                              rintro _ w153 rfl hx153 hL153 hle153
                              replace hv4_0 := hv4_0.mono (gz_mono hH hle153)
                              replace hv4_1 := hv4_1.mono (gz_mono hH hle153)
                              replace hv4_2 := hv4_2.mono (gz_mono hH hle153)
                              replace hv20_0 := hv20_0.mono (gz_mono hH hle153)
                              replace hv24_0 := hv24_0.mono (gz_mono hH hle153)
                              replace hv30_0 := hv30_0.mono (gz_mono hH hle153)
                              replace hv30_1 := hv30_1.mono (gz_mono hH hle153)
                              replace hv30_2 := hv30_2.mono (gz_mono hH hle153)
                              replace hv37_0 := hv37_0.mono (gz_mono hH hle153)
                              replace hv37_1 := hv37_1.mono (gz_mono hH hle153)
                              replace hv37_2 := hv37_2.mono (gz_mono hH hle153)
                              replace hv128 := hv128.mono (gz_mono hH hle153)
                              replace hv134 := hv134.mono (gz_mono hH hle153)
                              replace hv141_0 := hv141_0.mono (gz_mono hH hle153)
                              replace hv142 := hv142.mono (gz_mono hH hle153)
                              refine N_nil ?_
                              refine N1 (i := 25) (by kernel_rfl) rfl ?_
                              refine S_guarded rfl rfl hg149 ?_
                              refine S_v (r_loadBN 0 rfl Try.underlying25 rfl zr25 hL153 rfl) rfl ?_
                              refine N_nil ?_
                              refine N_hoistg 27 (np_cut np_body) (by kernel_rfl) rfl rfl rfl rfl hg149 (fun _ => r_eqA rfl rfl eqg25 (eq25 _ _ _ _ )) rfl ?_
                              refine N_hoist 28 (np_cut np_body) (by kernel_rfl) rfl (fun _ => r_pickT rfl hg149 rfl) rfl ?_
                              refine N_hoist 29 (np_cut np_body) (by kernel_rfl) rfl (fun _ => RunsAt_pu rfl) rfl ?_
                              refine N_end (by kernel_rfl) ?_
                              refine At_cut (decide (x36.2.1 = x151.1 ∧ x36.2.2 = x151.2)) (.cons rfl (Sub.nil _)) ⟨hL153, hv37_0, hv37_1, hv37_2, hv30_0, hv30_1, hv30_2, hv4_0, hv4_1, hv4_2, h⟩
                          · replace h := Go.L.ite_n (of_decide_eq_false hg149) h
                            refine N_no 25 (np_cut np_body) (by kernel_rfl) rfl rfl rfl rfl hg149 rfl ?_
                            refine N_no 26 (np_cut np_body) (by kernel_rfl) rfl rfl rfl rfl hg149 rfl ?_
                            refine N_no 27 (np_cut np_body) (by kernel_rfl) rfl rfl rfl rfl hg149 rfl ?_
                            refine N_hoist 28 (np_cut np_body) (by kernel_rfl) rfl (fun _ => r_pickF rfl hg149 rfl) rfl ?_
                            refine N_hoist 29 (np_cut np_body) (by kernel_rfl) rfl (fun _ => RunsAt_pu rfl) rfl ?_
                            refine N_end (by kernel_rfl) ?_
                            refine At_cut false (.cons rfl (Sub.nil _)) ⟨hL148, hv37_0, hv37_1, hv37_2, hv30_0, hv30_1, hv30_2, hv4_0, hv4_1, hv4_2, h⟩
                        · replace h := Go.L.ite_f hg145 h
                          refine N_no 20 (np_cut np_body) (by kernel_rfl) rfl rfl rfl rfl hg145 rfl ?_
                          refine N_no 21 (np_cut np_body) (by kernel_rfl) rfl rfl rfl rfl hg145 rfl ?_
                          refine N_no 22 (np_cut np_body) (by kernel_rfl) rfl rfl rfl rfl hg145 rfl ?_
                          refine N_hoist 23 (np_cut np_body) (by kernel_rfl) rfl (fun _ => r_pickF rfl hg145 rfl) rfl ?_
                          refine N_hoist 24 (np_cut np_body) (by kernel_rfl) rfl (fun _ => RunsAt_pu rfl) rfl ?_
                          refine N_no 25 (np_cut np_body) (by kernel_rfl) rfl rfl rfl rfl rfl rfl ?_
                          refine N_no 26 (np_cut np_body) (by kernel_rfl) rfl rfl rfl rfl rfl rfl ?_
                          refine N_no 27 (np_cut np_body) (by kernel_rfl) rfl rfl rfl rfl rfl rfl ?_
                          refine N_hoist 28 (np_cut np_body) (by kernel_rfl) rfl (fun _ => r_pickF rfl rfl rfl) rfl ?_
                          refine N_hoist 29 (np_cut np_body) (by kernel_rfl) rfl (fun _ => RunsAt_pu rfl) rfl ?_
                          refine N_end (by kernel_rfl) ?_
                          refine At_cut false (.cons rfl (Sub.nil _)) ⟨hL144, hv37_0, hv37_1, hv37_2, hv30_0, hv30_1, hv30_2, hv4_0, hv4_1, hv4_2, h⟩
                      · obtain ⟨x140, hb140, h⟩ := Go.L.bind_some h
                        obtain ⟨x143, hb143, h⟩ := Go.L.bind_some h
                        refine S_guarded rfl rfl hg138 ?_
                        refine S_litE (r := .byte) (l := [(4 : UInt8), (0 : UInt8), (2 : UInt8), (0 : UInt8), (98 : UInt8), (98 : UInt8), (97 : UInt8), (97 : UInt8)]) rfl (fun _ => bsl22_8 _ _ _ _ _ _ _ _ _) rfl (show 8 ≤ 9223372036854775807 by decide) hH hL137 (.c1 rfl (.c1 rfl (.c1 rfl (.c1 rfl (.c1 rfl (.c1 rfl (.c1 rfl (.c1 rfl .nil)))))))) ?_
                        intro v156 w156 hx156 hL156 hle156 hv156
                        replace hv4_0 := hv4_0.mono (gz_mono hH hle156)
                        replace hv4_1 := hv4_1.mono (gz_mono hH hle156)
                        replace hv4_2 := hv4_2.mono (gz_mono hH hle156)
                        replace hv20_0 := hv20_0.mono (gz_mono hH hle156)
                        replace hv24_0 := hv24_0.mono (gz_mono hH hle156)
                        replace hv30_0 := hv30_0.mono (gz_mono hH hle156)
                        replace hv30_1 := hv30_1.mono (gz_mono hH hle156)
                        replace hv30_2 := hv30_2.mono (gz_mono hH hle156)
                        replace hv37_0 := hv37_0.mono (gz_mono hH hle156)
                        replace hv37_1 := hv37_1.mono (gz_mono hH hle156)
                        replace hv37_2 := hv37_2.mono (gz_mono hH hle156)
                        replace hv128 := hv128.mono (gz_mono hH hle156)
                        replace hv134 := hv134.mono (gz_mono hH hle156)
                        refine N_nil ?_
                        refine N1 (i := 15) (by kernel_rfl) rfl ?_
                        refine S_guarded rfl rfl hg138 ?_
                        refine S_callL rfl rfl hL156 (fmindex_Index_Bytes_ok _ _ (gz_le hH hL156) hv4_0 hv4_1 hv4_2 hb140) ?_
                        rintro u157_0 w157 ⟨_, rfl, hR157_0⟩ hx157 hL157 hle157
                        have hv157_0 := hR157_0.vecG hH hL156 hx157
                        replace hv4_0 := hv4_0.mono (gz_mono hH hle157)
                        replace hv4_1 := hv4_1.mono (gz_mono hH hle157)
                        replace hv4_2 := hv4_2.mono (gz_mono hH hle157)
                        replace hv20_0 := hv20_0.mono (gz_mono hH hle157)
                        replace hv24_0 := hv24_0.mono (gz_mono hH hle157)
                        replace hv30_0 := hv30_0.mono (gz_mono hH hle157)
                        replace hv30_1 := hv30_1.mono (gz_mono hH hle157)
                        replace hv30_2 := hv30_2.mono (gz_mono hH hle157)
                        replace hv37_0 := hv37_0.mono (gz_mono hH hle157)
                        replace hv37_1 := hv37_1.mono (gz_mono hH hle157)
                        replace hv37_2 := hv37_2.mono (gz_mono hH hle157)
                        replace hv128 := hv128.mono (gz_mono hH hle157)
                        replace hv134 := hv134.mono (gz_mono hH hle157)
                        replace hv156 := hv156.mono (gz_mono hH hle157)
                        refine N_nil ?_
                        refine N1 (i := 17) (by kernel_rfl) rfl ?_
                        refine S_guarded rfl rfl hg138 ?_
                        refine S_callL rfl rfl hL157 (ref3_SameBytes_ok _ _ (gz_le hH hL157) hv157_0 hv156 hb143) ?_
                        rintro _ w158 rfl hx158 hL158 hle158
                        replace hv4_0 := hv4_0.mono (gz_mono hH hle158)
                        replace hv4_1 := hv4_1.mono (gz_mono hH hle158)
                        replace hv4_2 := hv4_2.mono (gz_mono hH hle158)
                        replace hv20_0 := hv20_0.mono (gz_mono hH hle158)
                        replace hv24_0 := hv24_0.mono (gz_mono hH hle158)
                        replace hv30_0 := hv30_0.mono (gz_mono hH hle158)
                        replace hv30_1 := hv30_1.mono (gz_mono hH hle158)
                        replace hv30_2 := hv30_2.mono (gz_mono hH hle158)
                        replace hv37_0 := hv37_0.mono (gz_mono hH hle158)
                        replace hv37_1 := hv37_1.mono (gz_mono hH hle158)
                        replace hv37_2 := hv37_2.mono (gz_mono hH hle158)
                        replace hv128 := hv128.mono (gz_mono hH hle158)
                        replace hv134 := hv134.mono (gz_mono hH hle158)
                        replace hv156 := hv156.mono (gz_mono hH hle158)
                        replace hv157_0 := hv157_0.mono (gz_mono hH hle158)
                        refine N_nil ?_
                        refine N_hoist 18 (np_cut np_body) (by kernel_rfl) rfl (fun _ => r_pickT rfl hg138 rfl) rfl ?_
                        refine N_hoist 19 (np_cut np_body) (by kernel_rfl) rfl (fun _ => RunsAt_pu rfl) rfl ?_
                        refine N_split (s := 90) rfl (fun hg159 => ?_) (fun hg159 => ?_)
                        · replace h := Go.L.ite_t hg159 h
                          refine N1 (i := 20) (by kernel_rfl) rfl ?_
                          refine S_guarded rfl rfl hg159 ?_
                          refine S_v (r_loadBN 3 rfl Try.underlying50 rfl zr50 hL158 rfl) rfl ?_
                          refine N_nil ?_
                          refine N1 (i := 21) (by kernel_rfl) rfl ?_
                          refine S_guarded rfl rfl hg159 ?_
                          obtain ⟨x161, hb161, h⟩ := Go.L.bind_some h
                          refine S_callL rfl rfl hL158 (fmindex_Index_Length_ok _ _ (gz_le hH hL158) hv30_0 hv30_1 hv30_2 hb161) ?_
                          rintro _ w162 rfl hx162 hL162 hle162
                          replace hv4_0 := hv4_0.mono (gz_mono hH hle162)
                          replace hv4_1 := hv4_1.mono (gz_mono hH hle162)
                          replace hv4_2 := hv4_2.mono (gz_mono hH hle162)
                          replace hv20_0 := hv20_0.mono (gz_mono hH hle162)
                          replace hv24_0 := hv24_0.mono (gz_mono hH hle162)
                          replace hv30_0 := hv30_0.mono (gz_mono hH hle162)
                          replace hv30_1 := hv30_1.mono (gz_mono hH hle162)
                          replace hv30_2 := hv30_2.mono (gz_mono hH hle162)
                          replace hv37_0 := hv37_0.mono (gz_mono hH hle162)
                          replace hv37_1 := hv37_1.mono (gz_mono hH hle162)
                          replace hv37_2 := hv37_2.mono (gz_mono hH hle162)
                          replace hv128 := hv128.mono (gz_mono hH hle162)
                          replace hv134 := hv134.mono (gz_mono hH hle162)
                          replace hv156 := hv156.mono (gz_mono hH hle162)
                          replace hv157_0 := hv157_0.mono (gz_mono hH hle162)
                          refine N_nil ?_
                          refine N_hoistg 22 (np_cut np_body) (by kernel_rfl) rfl rfl rfl rfl hg159 (fun _ => RunsAt_pu rfl) rfl ?_
                          refine N_hoist 23 (np_cut np_body) (by kernel_rfl) rfl (fun _ => r_pickT rfl hg159 rfl) rfl ?_
                          refine N_hoist 24 (np_cut np_body) (by kernel_rfl) rfl (fun _ => RunsAt_pu rfl) rfl ?_
                          refine N_split (s := 95) rfl (fun hg163 => ?_) (fun hg163 => ?_)
                          · replace h := Go.L.ite_p (of_decide_eq_true hg163) h
                            refine N2 (i := 25) (j := 26) (by kernel_rfl) rfl rfl ?_ ?_
                            · refine S_guarded rfl rfl hg163 ?_
                              refine S_v (r_loadBN 0 rfl Try.underlying25 rfl zr25 hL162 rfl) rfl ?_
                              refine N_nil ?_
                              refine N1 (i := 26) (by kernel_rfl) rfl ?_
                              refine S_guarded rfl rfl hg163 ?_
                              obtain ⟨x165, hb165, h⟩ := Go.L.bind_some h
                              refine S_callL rfl rfl hL162 (ref3_At_ok _ _ (gz_le hH hL162) hb165) ?_
                              rintro _ w166 rfl hx166 hL166 hle166
                              replace hv4_0 := hv4_0.mono (gz_mono hH hle166)
                              replace hv4_1 := hv4_1.mono (gz_mono hH hle166)
                              replace hv4_2 := hv4_2.mono (gz_mono hH hle166)
                              replace hv20_0 := hv20_0.mono (gz_mono hH hle166)
                              replace hv24_0 := hv24_0.mono (gz_mono hH hle166)
                              replace hv30_0 := hv30_0.mono (gz_mono hH hle166)
                              replace hv30_1 := hv30_1.mono (gz_mono hH hle166)
                              replace hv30_2 := hv30_2.mono (gz_mono hH hle166)
                              replace hv37_0 := hv37_0.mono (gz_mono hH hle166)
                              replace hv37_1 := hv37_1.mono (gz_mono hH hle166)
                              replace hv37_2 := hv37_2.mono (gz_mono hH hle166)
                              replace hv128 := hv128.mono (gz_mono hH hle166)
                              replace hv134 := hv134.mono (gz_mono hH hle166)
                              replace hv156 := hv156.mono (gz_mono hH hle166)
                              replace hv157_0 := hv157_0.mono (gz_mono hH hle166)
                              refine N_nil ?_
                              refine N_hoistg 27 (np_cut np_body) (by kernel_rfl) rfl rfl rfl rfl hg163 (fun _ => r_eqA rfl rfl eqg25 (eq25 _ _ _ _ )) rfl ?_
                              refine N_hoist 28 (np_cut np_body) (by kernel_rfl) rfl (fun _ => r_pickT rfl hg163 rfl) rfl ?_
                              refine N_hoist 29 (np_cut np_body) (by kernel_rfl) rfl (fun _ => RunsAt_pu rfl) rfl ?_
                              refine N_end (by kernel_rfl) ?_
                              refine At_cut (decide (x36.2.1 = x165.1 ∧ x36.2.2 = x165.2)) (.cons rfl (Sub.nil _)) ⟨hL166, hv37_0, hv37_1, hv37_2, hv30_0, hv30_1, hv30_2, hv4_0, hv4_1, hv4_2, h⟩
                            · obtain ⟨x165, hb165, h⟩ := Go.L.bind_some h
                              refine S_guarded rfl rfl hg163 ?_
                              refine S_callL rfl rfl hL162 (ref3_At_ok _ _ (gz_le hH hL162) hb165) ?_
                              rintro _ w167 rfl hx167 hL167 hle167
                              replace hv4_0 := hv4_0.mono (gz_mono hH hle167)
                              replace hv4_1 := hv4_1.mono (gz_mono hH hle167)
                              replace hv4_2 := hv4_2.mono (gz_mono hH hle167)
                              replace hv20_0 := hv20_0.mono (gz_mono hH hle167)
                              replace hv24_0 := hv24_0.mono (gz_mono hH hle167)
                              replace hv30_0 := hv30_0.mono (gz_mono hH hle167)
                              replace hv30_1 := hv30_1.mono (gz_mono hH hle167)
                              replace hv30_2 := hv30_2.mono (gz_mono hH hle167)
                              replace hv37_0 := hv37_0.mono (gz_mono hH hle167)
                              replace hv37_1 := hv37_1.mono (gz_mono hH hle167)
                              replace hv37_2 := hv37_2.mono (gz_mono hH hle167)
                              replace hv128 := hv128.mono (gz_mono hH hle167)
                              replace hv134 := hv134.mono (gz_mono hH hle167)
                              replace hv156 := hv156.mono (gz_mono hH hle167)
                              replace hv157_0 := hv157_0.mono (gz_mono hH hle167)
                              refine N_nil ?_
                              refine N1 (i := 25) (by kernel_rfl) rfl ?_
                              refine S_guarded rfl rfl hg163 ?_
                              refine S_v (r_loadBN 0 rfl Try.underlying25 rfl zr25 hL167 rfl) rfl ?_
                              refine N_nil ?_
                              refine N_hoistg 27 (np_cut np_body) (by kernel_rfl) rfl rfl rfl rfl hg163 (fun _ => r_eqA rfl rfl eqg25 (eq25 _ _ _ _ )) rfl ?_
                              refine N_hoist 28 (np_cut np_body) (by kernel_rfl) rfl (fun _ => r_pickT rfl hg163 rfl) rfl ?_
                              refine N_hoist 29 (np_cut np_body) (by kernel_rfl) rfl (fun _ => RunsAt_pu rfl) rfl ?_
                              refine N_end (by kernel_rfl) ?_
                              refine At_cut (decide (x36.2.1 = x165.1 ∧ x36.2.2 = x165.2)) (.cons rfl (Sub.nil _)) ⟨hL167, hv37_0, hv37_1, hv37_2, hv30_0, hv30_1, hv30_2, hv4_0, hv4_1, hv4_2, h⟩
                          · replace h := Go.L.ite_n (of_decide_eq_false hg163) h
                            refine N_no 25 (np_cut np_body) (by kernel_rfl) rfl rfl rfl rfl hg163 rfl ?_
                            refine N_no 26 (np_cut np_body) (by kernel_rfl) rfl rfl rfl rfl hg163 rfl ?_
                            refine N_no 27 (np_cut np_body) (by kernel_rfl) rfl rfl rfl rfl hg163 rfl ?_
                            refine N_hoist 28 (np_cut np_body) (by kernel_rfl) rfl (fun _ => r_pickF rfl hg163 rfl) rfl ?_
                            refine N_hoist 29 (np_cut np_body) (by kernel_rfl) rfl (fun _ => RunsAt_pu rfl) rfl ?_
                            refine N_end (by kernel_rfl) ?_
                            refine At_cut false (.cons rfl (Sub.nil _)) ⟨hL162, hv37_0, hv37_1, hv37_2, hv30_0, hv30_1, hv30_2, hv4_0, hv4_1, hv4_2, h⟩
                        · replace h := Go.L.ite_f hg159 h
                          refine N_no 20 (np_cut np_body) (by kernel_rfl) rfl rfl rfl rfl hg159 rfl ?_
                          refine N_no 21 (np_cut np_body) (by kernel_rfl) rfl rfl rfl rfl hg159 rfl ?_
                          refine N_no 22 (np_cut np_body) (by kernel_rfl) rfl rfl rfl rfl hg159 rfl ?_
                          refine N_hoist 23 (np_cut np_body) (by kernel_rfl) rfl (fun _ => r_pickF rfl hg159 rfl) rfl ?_
                          refine N_hoist 24 (np_cut np_body) (by kernel_rfl) rfl (fun _ => RunsAt_pu rfl) rfl ?_
                          refine N_no 25 (np_cut np_body) (by kernel_rfl) rfl rfl rfl rfl rfl rfl ?_
                          refine N_no 26 (np_cut np_body) (by kernel_rfl) rfl rfl rfl rfl rfl rfl ?_
                          refine N_no 27 (np_cut np_body) (by kernel_rfl) rfl rfl rfl rfl rfl rfl ?_
                          refine N_hoist 28 (np_cut np_body) (by kernel_rfl) rfl (fun _ => r_pickF rfl rfl rfl) rfl ?_
                          refine N_hoist 29 (np_cut np_body) (by kernel_rfl) rfl (fun _ => RunsAt_pu rfl) rfl ?_
                          refine N_end (by kernel_rfl) ?_
                          refine At_cut false (.cons rfl (Sub.nil _)) ⟨hL158, hv37_0, hv37_1, hv37_2, hv30_0, hv30_1, hv30_2, hv4_0, hv4_1, hv4_2, h⟩
                    · obtain ⟨x140, hb140, h⟩ := Go.L.bind_some h
                      obtain ⟨x143, hb143, h⟩ := Go.L.bind_some h
                      refine S_guarded rfl rfl hg138 ?_
                      refine S_litE (r := .byte) (l := [(4 : UInt8), (0 : UInt8), (2 : UInt8), (0 : UInt8), (98 : UInt8), (98 : UInt8), (97 : UInt8), (97 : UInt8)]) rfl (fun _ => bsl22_8 _ _ _ _ _ _ _ _ _) rfl (show 8 ≤ 9223372036854775807 by decide) hH hL137 (.c1 rfl (.c1 rfl (.c1 rfl (.c1 rfl (.c1 rfl (.c1 rfl (.c1 rfl (.c1 rfl .nil)))))))) ?_
                      intro v170 w170 hx170 hL170 hle170 hv170
                      replace hv4_0 := hv4_0.mono (gz_mono hH hle170)
                      replace hv4_1 := hv4_1.mono (gz_mono hH hle170)
                      replace hv4_2 := hv4_2.mono (gz_mono hH hle170)
                      replace hv20_0 := hv20_0.mono (gz_mono hH hle170)
                      replace hv24_0 := hv24_0.mono (gz_mono hH hle170)
                      replace hv30_0 := hv30_0.mono (gz_mono hH hle170)
                      replace hv30_1 := hv30_1.mono (gz_mono hH hle170)
                      replace hv30_2 := hv30_2.mono (gz_mono hH hle170)
                      replace hv37_0 := hv37_0.mono (gz_mono hH hle170)
                      replace hv37_1 := hv37_1.mono (gz_mono hH hle170)
                      replace hv37_2 := hv37_2.mono (gz_mono hH hle170)
                      replace hv128 := hv128.mono (gz_mono hH hle170)
                      replace hv134 := hv134.mono (gz_mono hH hle170)
                      refine N_nil ?_
                      refine N1 (i := 14) (by kernel_rfl) rfl ?_
                      refine S_guarded rfl rfl hg138 ?_
                      refine S_v (r_loadBN 8 rfl Try.underlying50 rfl zr50 hL170 rfl) rfl ?_
                      refine N_nil ?_
                      refine N1 (i := 15) (by kernel_rfl) rfl ?_
                      refine S_guarded rfl rfl hg138 ?_
                      refine S_callL rfl rfl hL170 (fmindex_Index_Bytes_ok _ _ (gz_le hH hL170) hv4_0 hv4_1 hv4_2 hb140) ?_
                      rintro u171_0 w171 ⟨_, rfl, hR171_0⟩ hx171 hL171 hle171
                      have hv171_0 := hR171_0.vecG hH hL170 hx171
                      replace hv4_0 := hv4_0.mono (gz_mono hH hle171)
                      replace hv4_1 := hv4_1.mono (gz_mono hH hle171)
                      replace hv4_2 := hv4_2.mono (gz_mono hH hle171)
                      replace hv20_0 := hv20_0.mono (gz_mono hH hle171)
                      replace hv24_0 := hv24_0.mono (gz_mono hH hle171)
                      replace hv30_0 := hv30_0.mono (gz_mono hH hle171)
                      replace hv30_1 := hv30_1.mono (gz_mono hH hle171)
                      replace hv30_2 := hv30_2.mono (gz_mono hH hle171)
                      replace hv37_0 := hv37_0.mono (gz_mono hH hle171)
                      replace hv37_1 := hv37_1.mono (gz_mono hH hle171)
                      replace hv37_2 := hv37_2.mono (gz_mono hH hle171)
                      replace hv128 := hv128.mono (gz_mono hH hle171)
                      replace hv134 := hv134.mono (gz_mono hH hle171)
                      replace hv170 := hv170.mono (gz_mono hH hle171)
                      refine N_nil ?_
                      refine N1 (i := 17) (by kernel_rfl) rfl ?_
                      refine S_guarded rfl rfl hg138 ?_
                      refine S_callL rfl rfl hL171 (ref3_SameBytes_ok _ _ (gz_le hH hL171) hv171_0 hv170 hb143) ?_
                      rintro _ w172 rfl hx172 hL172 hle172
                      replace hv4_0 := hv4_0.mono (gz_mono hH hle172)
                      replace hv4_1 := hv4_1.mono (gz_mono hH hle172)
                      replace hv4_2 := hv4_2.mono (gz_mono hH hle172)
                      replace hv20_0 := hv20_0.mono (gz_mono hH hle172)
                      replace hv24_0 := hv24_0.mono (gz_mono hH hle172)
                      replace hv30_0 := hv30_0.mono (gz_mono hH hle172)
                      replace hv30_1 := hv30_1.mono (gz_mono hH hle172)
                      replace hv30_2 := hv30_2.mono (gz_mono hH hle172)
                      replace hv37_0 := hv37_0.mono (gz_mono hH hle172)
                      replace hv37_1 := hv37_1.mono (gz_mono hH hle172)
                      replace hv37_2 := hv37_2.mono (gz_mono hH hle172)
                      replace hv128 := hv128.mono (gz_mono hH hle172)
                      replace hv134 := hv134.mono (gz_mono hH hle172)
                      replace hv170 := hv170.mono (gz_mono hH hle172)
                      replace hv171_0 := hv171_0.mono (gz_mono hH hle172)
                      refine N_nil ?_
                      refine N_hoist 18 (np_cut np_body) (by kernel_rfl) rfl (fun _ => r_pickT rfl hg138 rfl) rfl ?_
                      refine N_hoist 19 (np_cut np_body) (by kernel_rfl) rfl (fun _ => RunsAt_pu rfl) rfl ?_
                      refine N_split (s := 90) rfl (fun hg173 => ?_) (fun hg173 => ?_)
                      · replace h := Go.L.ite_t hg173 h
                        refine N1 (i := 20) (by kernel_rfl) rfl ?_
                        refine S_guarded rfl rfl hg173 ?_
                        refine S_v (r_loadBN 3 rfl Try.underlying50 rfl zr50 hL172 rfl) rfl ?_
                        refine N_nil ?_
                        refine N1 (i := 21) (by kernel_rfl) rfl ?_
                        refine S_guarded rfl rfl hg173 ?_
                        obtain ⟨x175, hb175, h⟩ := Go.L.bind_some h
                        refine S_callL rfl rfl hL172 (fmindex_Index_Length_ok _ _ (gz_le hH hL172) hv30_0 hv30_1 hv30_2 hb175) ?_
                        rintro _ w176 rfl hx176 hL176 hle176
                        replace hv4_0 := hv4_0.mono (gz_mono hH hle176)
                        replace hv4_1 := hv4_1.mono (gz_mono hH hle176)
                        replace hv4_2 := hv4_2.mono (gz_mono hH hle176)
                        replace hv20_0 := hv20_0.mono (gz_mono hH hle176)
                        replace hv24_0 := hv24_0.mono (gz_mono hH hle176)
                        replace hv30_0 := hv30_0.mono (gz_mono hH hle176)
                        replace hv30_1 := hv30_1.mono (gz_mono hH hle176)
                        replace hv30_2 := hv30_2.mono (gz_mono hH hle176)
                        replace hv37_0 := hv37_0.mono (gz_mono hH hle176)
                        replace hv37_1 := hv37_1.mono (gz_mono hH hle176)
                        replace hv37_2 := hv37_2.mono (gz_mono hH hle176)
                        replace hv128 := hv128.mono (gz_mono hH hle176)
                        replace hv134 := hv134.mono (gz_mono hH hle176)
                        replace hv170 := hv170.mono (gz_mono hH hle176)
                        replace hv171_0 := hv171_0.mono (gz_mono hH hle176)
                        refine N_nil ?_
                        refine N_hoistg 22 (np_cut np_body) (by kernel_rfl) rfl rfl rfl rfl hg173 (fun _ => RunsAt_pu rfl) rfl ?_
                        refine N_hoist 23 (np_cut np_body) (by kernel_rfl) rfl (fun _ => r_pickT rfl hg173 rfl) rfl ?_
                        refine N_hoist 24 (np_cut np_body) (by kernel_rfl) rfl (fun _ => RunsAt_pu rfl) rfl ?_
                        refine N_split (s := 95) rfl (fun hg177 => ?_) (fun hg177 => ?_)
                        · replace h := Go.L.ite_p (of_decide_eq_true hg177) h
                          refine N2 (i := 25) (j := 26) (by kernel_rfl) rfl rfl ?_ ?_
                          · refine S_guarded rfl rfl hg177 ?_
                            refine S_v (r_loadBN 0 rfl Try.underlying25 rfl zr25 hL176 rfl) rfl ?_
                            refine N_nil ?_
                            refine N1 (i := 26) (by kernel_rfl) rfl ?_
                            refine S_guarded rfl rfl hg177 ?_
                            obtain ⟨x179, hb179, h⟩ := Go.L.bind_some h
                            refine S_callL rfl rfl hL176 (ref3_At_ok _ _ (gz_le hH hL176) hb179) ?_
                            rintro _ w180 rfl hx180 hL180 hle180
                            replace hv4_0 := hv4_0.mono (gz_mono hH hle180)
                            replace hv4_1 := hv4_1.mono (gz_mono hH hle180)
                            replace hv4_2 := hv4_2.mono (gz_mono hH hle180)
                            replace hv20_0 := hv20_0.mono (gz_mono hH hle180)
                            replace hv24_0 := hv24_0.mono (gz_mono hH hle180)
                            replace hv30_0 := hv30_0.mono (gz_mono hH hle180)
                            replace hv30_1 := hv30_1.mono (gz_mono hH hle180)
                            replace hv30_2 := hv30_2.mono (gz_mono hH hle180)
                            replace hv37_0 := hv37_0.mono (gz_mono hH hle180)
                            replace hv37_1 := hv37_1.mono (gz_mono hH hle180)
                            replace hv37_2 := hv37_2.mono (gz_mono hH hle180)
                            replace hv128 := hv128.mono (gz_mono hH hle180)
                            replace hv134 := hv134.mono (gz_mono hH hle180)
                            replace hv170 := hv170.mono (gz_mono hH hle180)
                            replace hv171_0 := hv171_0.mono (gz_mono hH hle180)
                            refine N_nil ?_
                            refine N_hoistg 27 (np_cut np_body) (by kernel_rfl) rfl rfl rfl rfl hg177 (fun _ => r_eqA rfl rfl eqg25 (eq25 _ _ _ _ )) rfl ?_
                            refine N_hoist 28 (np_cut np_body) (by kernel_rfl) rfl (fun _ => r_pickT rfl hg177 rfl) rfl ?_
                            refine N_hoist 29 (np_cut np_body) (by kernel_rfl) rfl (fun _ => RunsAt_pu rfl) rfl ?_
                            refine N_end (by kernel_rfl) ?_
                            refine At_cut (decide (x36.2.1 = x179.1 ∧ x36.2.2 = x179.2)) (.cons rfl (Sub.nil _)) ⟨hL180, hv37_0, hv37_1, hv37_2, hv30_0, hv30_1, hv30_2, hv4_0, hv4_1, hv4_2, h⟩
                          · obtain ⟨x179, hb179, h⟩ := Go.L.bind_some h
                            refine S_guarded rfl rfl hg177 ?_
                            refine S_callL rfl rfl hL176 (ref3_At_ok _ _ (gz_le hH hL176) hb179) ?_
                            rintro _ w181 rfl hx181 hL181 hle181
                            replace hv4_0 := hv4_0.mono (gz_mono hH hle181)
                            replace hv4_1 := hv4_1.mono (gz_mono hH hle181)
                            replace hv4_2 := hv4_2.mono (gz_mono hH hle181)
                            replace hv20_0 := hv20_0.mono (gz_mono hH hle181)
                            replace hv24_0 := hv24_0.mono (gz_mono hH hle181)
                            replace hv30_0 := hv30_0.mono (gz_mono hH hle181)
                            replace hv30_1 := hv30_1.mono (gz_mono hH hle181)
                            replace hv30_2 := hv30_2.mono (gz_mono hH hle181)
                            replace hv37_0 := hv37_0.mono (gz_mono hH hle181)
                            replace hv37_1 := hv37_1.mono (gz_mono hH hle181)
                            replace hv37_2 := hv37_2.mono (gz_mono hH hle181)
                            replace hv128 := hv128.mono (gz_mono hH hle181)
                            replace hv134 := hv134.mono (gz_mono hH hle181)
                            replace hv170 := hv170.mono (gz_mono hH hle181)
                            replace hv171_0 := hv171_0.mono (gz_mono hH hle181)
                            refine N_nil ?_
                            refine N1 (i := 25) (by kernel_rfl) rfl ?_
                            refine S_guarded rfl rfl hg177 ?_
                            refine S_v (r_loadBN 0 rfl Try.underlying25 rfl zr25 hL181 rfl) rfl ?_
                            refine N_nil ?_
                            refine N_hoistg 27 (np_cut np_body) (by kernel_rfl) rfl rfl rfl rfl hg177 (fun _ => r_eqA rfl rfl eqg25 (eq25 _ _ _ _ )) rfl ?_
                            refine N_hoist 28 (np_cut np_body) (by kernel_rfl) rfl (fun _ => r_pickT rfl hg177 rfl) rfl ?_
                            refine N_hoist 29 (np_cut np_body) (by kernel_rfl) rfl (fun _ => RunsAt_pu rfl) rfl ?_
                            refine N_end (by kernel_rfl) ?_
                            refine At_cut (decide (x36.2.1 = x179.1 ∧ x36.2.2 = x179.2)) (.cons rfl (Sub.nil _)) ⟨hL181, hv37_0, hv37_1, hv37_2, hv30_0, hv30_1, hv30_2, hv4_0, hv4_1, hv4_2, h⟩
                        · replace h := Go.L.ite_n (of_decide_eq_false hg177) h
                          refine N_no 25 (np_cut np_body) (by kernel_rfl) rfl rfl rfl rfl hg177 rfl ?_
                          refine N_no 26 (np_cut np_body) (by kernel_rfl) rfl rfl rfl rfl hg177 rfl ?_
                          refine N_no 27 (np_cut np_body) (by kernel_rfl) rfl rfl rfl rfl hg177 rfl ?_
                          refine N_hoist 28 (np_cut np_body) (by kernel_rfl) rfl (fun _ => r_pickF rfl hg177 rfl) rfl ?_
                          refine N_hoist 29 (np_cut np_body) (by kernel_rfl) rfl (fun _ => RunsAt_pu rfl) rfl ?_
                          refine N_end (by kernel_rfl) ?_
                          refine At_cut false (.cons rfl (Sub.nil _)) ⟨hL176, hv37_0, hv37_1, hv37_2, hv30_0, hv30_1, hv30_2, hv4_0, hv4_1, hv4_2, h⟩
                      · replace h := Go.L.ite_f hg173 h
                        refine N_no 20 (np_cut np_body) (by kernel_rfl) rfl rfl rfl rfl hg173 rfl ?_
                        refine N_no 21 (np_cut np_body) (by kernel_rfl) rfl rfl rfl rfl hg173 rfl ?_
                        refine N_no 22 (np_cut np_body) (by kernel_rfl) rfl rfl rfl rfl hg173 rfl ?_
                        refine N_hoist 23 (np_cut np_body) (by kernel_rfl) rfl (fun _ => r_pickF rfl hg173 rfl) rfl ?_
                        refine N_hoist 24 (np_cut np_body) (by kernel_rfl) rfl (fun _ => RunsAt_pu rfl) rfl ?_
                        refine N_no 25 (np_cut np_body) (by kernel_rfl) rfl rfl rfl rfl rfl rfl ?_
                        refine N_no 26 (np_cut np_body) (by kernel_rfl) rfl rfl rfl rfl rfl rfl ?_
                        refine N_no 27 (np_cut np_body) (by kernel_rfl) rfl rfl rfl rfl rfl rfl ?_
                        refine N_hoist 28 (np_cut np_body) (by kernel_rfl) rfl (fun _ => r_pickF rfl rfl rfl) rfl ?_
                        refine N_hoist 29 (np_cut np_body) (by kernel_rfl) rfl (fun _ => RunsAt_pu rfl) rfl ?_
                        refine N_end (by kernel_rfl) ?_
                        refine At_cut false (.cons rfl (Sub.nil _)) ⟨hL172, hv37_0, hv37_1, hv37_2, hv30_0, hv30_1, hv30_2, hv4_0, hv4_1, hv4_2, h⟩
                  · replace h := Go.L.ite_f hg138 h
                    refine N_no 14 (np_cut np_body) (by kernel_rfl) rfl rfl rfl rfl hg138 rfl ?_
                    refine N_no 15 (np_cut np_body) (by kernel_rfl) rfl rfl rfl rfl hg138 rfl ?_
                    refine N_no 16 (np_cut np_body) (by kernel_rfl) rfl rfl rfl rfl hg138 rfl ?_
                    refine N_no 17 (np_cut np_body) (by kernel_rfl) rfl rfl rfl rfl hg138 rfl ?_
                    refine N_hoist 18 (np_cut np_body) (by kernel_rfl) rfl (fun _ => r_pickF rfl hg138 rfl) rfl ?_
                    refine N_hoist 19 (np_cut np_body) (by kernel_rfl) rfl (fun _ => RunsAt_pu rfl) rfl ?_
                    refine N_no 20 (np_cut np_body) (by kernel_rfl) rfl rfl rfl rfl rfl rfl ?_
                    refine N_no 21 (np_cut np_body) (by kernel_rfl) rfl rfl rfl rfl rfl rfl ?_
                    refine N_no 22 (np_cut np_body) (by kernel_rfl) rfl rfl rfl rfl rfl rfl ?_
                    refine N_hoist 23 (np_cut np_body) (by kernel_rfl) rfl (fun _ => r_pickF rfl rfl rfl) rfl ?_
                    refine N_hoist 24 (np_cut np_body) (by kernel_rfl) rfl (fun _ => RunsAt_pu rfl) rfl ?_
                    refine N_no 25 (np_cut np_body) (by kernel_rfl) rfl rfl rfl rfl rfl rfl ?_
                    refine N_no 26 (np_cut np_body) (by kernel_rfl) rfl rfl rfl rfl rfl rfl ?_
                    refine N_no 27 (np_cut np_body) (by kernel_rfl) rfl rfl rfl rfl rfl rfl ?_
                    refine N_hoist 28 (np_cut np_body) (by kernel_rfl) rfl (fun _ => r_pickF rfl rfl rfl) rfl ?_
                    refine N_hoist 29 (np_cut np_body) (by kernel_rfl) rfl (fun _ => RunsAt_pu rfl) rfl ?_
                    refine N_end (by kernel_rfl) ?_
                    refine At_cut false (.cons rfl (Sub.nil _)) ⟨hL137, hv37_0, hv37_1, hv37_2, hv30_0, hv30_1, hv30_2, hv4_0, hv4_1, hv4_2, h⟩
                · replace h := Go.L.ite_f hg131 h
                  refine N_no 8 (np_cut np_body) (by kernel_rfl) rfl rfl rfl rfl hg131 rfl ?_
                  refine N_no 9 (np_cut np_body) (by kernel_rfl) rfl rfl rfl rfl hg131 rfl ?_
                  refine N_no 10 (np_cut np_body) (by kernel_rfl) rfl rfl rfl rfl hg131 rfl ?_
                  refine N_no 11 (np_cut np_body) (by kernel_rfl) rfl rfl rfl rfl hg131 rfl ?_
                  refine N_hoist 12 (np_cut np_body) (by kernel_rfl) rfl (fun _ => r_pickF rfl hg131 rfl) rfl ?_
                  refine N_hoist 13 (np_cut np_body) (by kernel_rfl) rfl (fun _ => RunsAt_pu rfl) rfl ?_
                  refine N_no 14 (np_cut np_body) (by kernel_rfl) rfl rfl rfl rfl rfl rfl ?_
                  refine N_no 15 (np_cut np_body) (by kernel_rfl) rfl rfl rfl rfl rfl rfl ?_
                  refine N_no 16 (np_cut np_body) (by kernel_rfl) rfl rfl rfl rfl rfl rfl ?_
                  refine N_no 17 (np_cut np_body) (by kernel_rfl) rfl rfl rfl rfl rfl rfl ?_
                  refine N_hoist 18 (np_cut np_body) (by kernel_rfl) rfl (fun _ => r_pickF rfl rfl rfl) rfl ?_
                  refine N_hoist 19 (np_cut np_body) (by kernel_rfl) rfl (fun _ => RunsAt_pu rfl) rfl ?_
                  refine N_no 20 (np_cut np_body) (by kernel_rfl) rfl rfl rfl rfl rfl rfl ?_
                  refine N_no 21 (np_cut np_body) (by kernel_rfl) rfl rfl rfl rfl rfl rfl ?_
                  refine N_no 22 (np_cut np_body) (by kernel_rfl) rfl rfl rfl rfl rfl rfl ?_
                  refine N_hoist 23 (np_cut np_body) (by kernel_rfl) rfl (fun _ => r_pickF rfl rfl rfl) rfl ?_
                  refine N_hoist 24 (np_cut np_body) (by kernel_rfl) rfl (fun _ => RunsAt_pu rfl) rfl ?_
                  refine N_no 25 (np_cut np_body) (by kernel_rfl) rfl rfl rfl rfl rfl rfl ?_
                  refine N_no 26 (np_cut np_body) (by kernel_rfl) rfl rfl rfl rfl rfl rfl ?_
                  refine N_no 27 (np_cut np_body) (by kernel_rfl) rfl rfl rfl rfl rfl rfl ?_
                  refine N_hoist 28 (np_cut np_body) (by kernel_rfl) rfl (fun _ => r_pickF rfl rfl rfl) rfl ?_
                  refine N_hoist 29 (np_cut np_body) (by kernel_rfl) rfl (fun _ => RunsAt_pu rfl) rfl ?_
                  refine N_end (by kernel_rfl) ?_
                  refine At_cut false (.cons rfl (Sub.nil _)) ⟨hL130, hv37_0, hv37_1, hv37_2, hv30_0, hv30_1, hv30_2, hv4_0, hv4_1, hv4_2, h⟩
              · replace h := Go.L.ite_n (of_decide_eq_false hg126) h
                refine N_no 3 (np_cut np_body) (by kernel_rfl) rfl rfl rfl rfl hg126 rfl ?_
                refine N_no 4 (np_cut np_body) (by kernel_rfl) rfl rfl rfl rfl hg126 rfl ?_
                refine N_no 5 (np_cut np_body) (by kernel_rfl) rfl rfl rfl rfl hg126 rfl ?_
                refine N_hoist 6 (np_cut np_body) (by kernel_rfl) rfl (fun _ => r_pickF rfl hg126 rfl) rfl ?_
                refine N_hoist 7 (np_cut np_body) (by kernel_rfl) rfl (fun _ => RunsAt_pu rfl) rfl ?_
                refine N_no 8 (np_cut np_body) (by kernel_rfl) rfl rfl rfl rfl rfl rfl ?_
                refine N_no 9 (np_cut np_body) (by kernel_rfl) rfl rfl rfl rfl rfl rfl ?_
                refine N_no 10 (np_cut np_body) (by kernel_rfl) rfl rfl rfl rfl rfl rfl ?_
                refine N_no 11 (np_cut np_body) (by kernel_rfl) rfl rfl rfl rfl rfl rfl ?_
                refine N_hoist 12 (np_cut np_body) (by kernel_rfl) rfl (fun _ => r_pickF rfl rfl rfl) rfl ?_
                refine N_hoist 13 (np_cut np_body) (by kernel_rfl) rfl (fun _ => RunsAt_pu rfl) rfl ?_
                refine N_no 14 (np_cut np_body) (by kernel_rfl) rfl rfl rfl rfl rfl rfl ?_
                refine N_no 15 (np_cut np_body) (by kernel_rfl) rfl rfl rfl rfl rfl rfl ?_
                refine N_no 16 (np_cut np_body) (by kernel_rfl) rfl rfl rfl rfl rfl rfl ?_
                refine N_no 17 (np_cut np_body) (by kernel_rfl) rfl rfl rfl rfl rfl rfl ?_
                refine N_hoist 18 (np_cut np_body) (by kernel_rfl) rfl (fun _ => r_pickF rfl rfl rfl) rfl ?_
                refine N_hoist 19 (np_cut np_body) (by kernel_rfl) rfl (fun _ => RunsAt_pu rfl) rfl ?_
                refine N_no 20 (np_cut np_body) (by kernel_rfl) rfl rfl rfl rfl rfl rfl ?_
                refine N_no 21 (np_cut np_body) (by kernel_rfl) rfl rfl rfl rfl rfl rfl ?_
                refine N_no 22 (np_cut np_body) (by kernel_rfl) rfl rfl rfl rfl rfl rfl ?_
                refine N_hoist 23 (np_cut np_body) (by kernel_rfl) rfl (fun _ => r_pickF rfl rfl rfl) rfl ?_
                refine N_hoist 24 (np_cut np_body) (by kernel_rfl) rfl (fun _ => RunsAt_pu rfl) rfl ?_
                refine N_no 25 (np_cut np_body) (by kernel_rfl) rfl rfl rfl rfl rfl rfl ?_
                refine N_no 26 (np_cut np_body) (by kernel_rfl) rfl rfl rfl rfl rfl rfl ?_
                refine N_no 27 (np_cut np_body) (by kernel_rfl) rfl rfl rfl rfl rfl rfl ?_
                refine N_hoist 28 (np_cut np_body) (by kernel_rfl) rfl (fun _ => r_pickF rfl rfl rfl) rfl ?_
                refine N_hoist 29 (np_cut np_body) (by kernel_rfl) rfl (fun _ => RunsAt_pu rfl) rfl ?_
                refine N_end (by kernel_rfl) ?_
                refine At_cut false (.cons rfl (Sub.nil _)) ⟨hL125, hv37_0, hv37_1, hv37_2, hv30_0, hv30_1, hv30_2, hv4_0, hv4_1, hv4_2, h⟩
            · rintro s0_121 wr122 ⟨hL122, hf122_0, hf122_1, hf122_2, hf122_3, hf122_4, hf122_5, hf122_6, hf122_7, hf122_8, h⟩
              refine W_ret ?_
              obtain rfl := Option.some.inj h
              refine At_body rfl rfl ?_
              exact ⟨hL122.ext, rfl⟩
end Go.Proofs.Ytmifkdfaaaaicaa
