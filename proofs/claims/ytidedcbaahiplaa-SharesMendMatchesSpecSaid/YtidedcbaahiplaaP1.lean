/- Generated walks: laws on shares. -/
import Derived.Test.YtidedcbaahiplaaW1
import Derived.KernelRfl
namespace Go.Proofs.Ytidedcbaahiplaa
open Go Go.E Go.RowKit
noncomputable def ref4_SharesFault_k3 (s3_131 : Int) : Option ((Int) ⊕ ((Int × Int))) :=
  Go.L.chk (Go.L.I64 (s3_131 + (1 : Int))) (some (Sum.inl (s3_131 + (1 : Int))))
noncomputable def ref4_SharesFault_k4 (a0 : List (Int × (List UInt8))) (s3_131 : Int) : Option ((Int) ⊕ ((Int × Int))) :=
  Go.L.chk (0 ≤ s3_131 ∧ s3_131 < (a0.length : Int)) (if (4096 : Int) < (((a0.getD s3_131.toNat default).2).length : Int) then Option.map Sum.inr (some (((((3 : Int), s3_131)).1, (((3 : Int), s3_131)).2))) else Go.L.chk (0 ≤ s3_131 ∧ s3_131 < (a0.length : Int)) (Go.L.chk (0 ≤ (0 : Int) ∧ (0 : Int) < (a0.length : Int)) (if (((a0.getD s3_131.toNat default).2).length : Int) = (((a0.getD ((0 : Int).toNat) default).2).length : Int) then (ref4_SharesFault_k3 s3_131) else Option.map Sum.inr (some (((((9 : Int), s3_131)).1, (((9 : Int), s3_131)).2))))))
noncomputable def ref4_SharesFault_bl5 (a0 : List (Int × (List UInt8))) (s3_131 : Int) : Int → Option ((Int) ⊕ ((Int) ⊕ ((Int × Int)))) := fun s4_246 =>
  if s4_246 < s3_131 then Go.L.chk (0 ≤ s4_246 ∧ s4_246 < (a0.length : Int)) (Go.L.chk (0 ≤ s3_131 ∧ s3_131 < (a0.length : Int)) (if (a0.getD s4_246.toNat default).1 = (a0.getD s3_131.toNat default).1 then Option.map Sum.inr (Option.map Sum.inr (some (((((8 : Int), s3_131)).1, (((8 : Int), s3_131)).2)))) else Go.L.chk (Go.L.I64 (s4_246 + (1 : Int))) (some (Sum.inl (s4_246 + (1 : Int)))))) else Option.map Sum.inr ((ref4_SharesFault_k4 a0 s3_131))
noncomputable def ref4_SharesFault_l5 (a0 : List (Int × (List UInt8))) (s3_131 : Int) (s : Int) : Option ((Int) ⊕ ((Int × Int))) := Go.L.run (ref4_SharesFault_bl5 a0 s3_131) s
noncomputable def ref4_SharesFault_k1 : Option ((Int × Int)) :=
  some (((0 : Int), (0 : Int)))
noncomputable def ref4_SharesFault_bl2 (a0 : List (Int × (List UInt8))) : Int → Option ((Int) ⊕ ((Int × Int))) := fun s3_131 =>
  if s3_131 < (a0.length : Int) then Go.L.chk (0 ≤ s3_131 ∧ s3_131 < (a0.length : Int)) (if (1 : Int) ≤ ((a0.getD s3_131.toNat default).1) ∧ ((a0.getD s3_131.toNat default).1) ≤ (10 : Int) then (ref4_SharesFault_l5 a0 s3_131) (0 : Int) else Option.map Sum.inr (some (((((4 : Int), s3_131)).1, (((4 : Int), s3_131)).2)))) else Option.map Sum.inr (ref4_SharesFault_k1)
noncomputable def ref4_SharesFault_l2 (a0 : List (Int × (List UInt8))) (s : Int) : Option ((Int × Int)) := Go.L.run (ref4_SharesFault_bl2 a0) s
noncomputable def ref4_SharesFault (a0 : List (Int × (List UInt8))) : Option ((Int × Int)) :=
  if (10 : Int) < (a0.length : Int) then some (((((2 : Int), (-1 : Int))).1, (((2 : Int), (-1 : Int))).2)) else (ref4_SharesFault_l2 a0) (0 : Int)

set_option maxRecDepth 10000 in
theorem ref4_SharesFault_ok (w : World) (H : PH) (hH : Le H (hp w)) {a0 : List (Int × (List UInt8))} {v0_0 : Value} (h0_0 : Vec (.pair (.int .i64) (.vec .byte)) H v0_0 (a0)) {r : (Int × Int)} (h : ref4_SharesFault a0 = some r) :
    Ok Try.prog 36 [v0_0] w (fun v w' => Ext w w' ∧ v = .agg #[.int .i64 r.1, .int .i64 r.2]) := by
  refine Ok_enter (n := 66) [(0, v0_0)] Try.func36 rfl rfl rfl rfl rfl ?_
  have hL := Lcl.start w
  refine W_seqr ?_
  refine S_alloc zr25 rfl rfl hL ?_
  intro w1 b1 hL1 hle1 _
  refine S_seqnil ?_
  refine W_seq ?_
  refine W_seqr ?_
  refine S_pu 1 rfl ?_
  refine S_v (r_len rfl Try.underlying23 h0_0) rfl ?_
  refine S_pu 1 rfl ?_
  refine S_seqnil ?_
  refine W_if rfl (fun hc2 => ?_) (fun hc2 => ?_)
  · replace h := Go.L.ite_p hc2 h
    refine W_seqr ?_
    refine S_callL rfl rfl hL1 (rat_l _ _ (gz_le hH hL1) ) ?_
    rintro _ w4 rfl hx4 hL4 hle4
    refine S_storeBN 0 rfl rfl rfl zr25 hL4 rfl rfl (onc rfl (onc rfl on0)) ?_
    intro w5 hL5 hle5
    refine S_seqnil ?_
    refine W_ret ?_
    refine At_seq_ret ?_
    obtain rfl := Option.some.inj h
    refine At_got1 rfl (.cell rfl Try.underlying25 rfl zr25 (box_ptr (i := 0) hL5 rfl)) ?_
    exact ⟨hL5.ext, rfl⟩
  · replace h := Go.L.ite_n hc2 h
    refine W_skip ?_
    refine At_seq ?_
    refine W_cut (σ := Unit) (fun (_ : Unit) => [(2, .pointer (some ⟨b1, 0, none⟩))]) (fun (_ : Unit) wr => Lcl w [.box b1 [.int .i64 (0 : Int), .int .i64 (0 : Int)] 25] wr ∧ ref4_SharesFault_k1 = some r) ?_ ?_
    · refine W_seqr ?_
      refine S_pu 1 rfl ?_
      refine S_seqnil ?_
      refine W_block ?_
      obtain ⟨n132, h⟩ := Go.L.run_some h
      refine W_loop (σ := Int × Nat) (fun (⟨s3_131, n⟩ : Int × Nat) => [(0, v0_0), (2, .pointer (some ⟨b1, 0, none⟩)), (3, .int .i64 s3_131)]) (fun (⟨s3_131, n⟩ : Int × Nat) wr => Lcl w [.box b1 [.int .i64 (0 : Int), .int .i64 (0 : Int)] 25] wr ∧ Go.L.itr (ref4_SharesFault_bl2 a0) n s3_131 = some r) (fun (⟨s3_131, n⟩ : Int × Nat) => n) ((0 : Int), n132) (.cons rfl (.cons rfl (.cons rfl (Sub.nil _)))) ⟨hL1, h⟩ ?_
      rintro ⟨s3_131, nn132⟩ wr132 ⟨hL132, h⟩
      obtain ⟨n132, e132, rfl, h, hm132⟩ := Go.L.itr_some h
      refine W_seq ?_
      refine W_seqr ?_
      refine S_pu 2 rfl ?_
      refine S_v (r_len rfl Try.underlying23 h0_0) rfl ?_
      refine S_pu 1 rfl ?_
      refine S_seqnil ?_
      refine W_if rfl (fun hc134 => ?_) (fun hc134 => ?_)
      · replace h := Go.L.ite_p hc134 h
        refine W_skip ?_
        refine At_seq ?_
        refine W_cut (σ := Unit) (fun (_ : Unit) => [(0, v0_0), (2, .pointer (some ⟨b1, 0, none⟩)), (3, .int .i64 s3_131)]) (fun (_ : Unit) wr => Lcl w [.box b1 [.int .i64 (0 : Int), .int .i64 (0 : Int)] 25] wr ∧ (ref4_SharesFault_k3 s3_131) = some e132) ?_ ?_
        · refine W_block ?_
          refine W_seq ?_
          refine W_seqr ?_
          refine S_pu 2 rfl ?_
          obtain ⟨hk194, h⟩ := Go.L.chk_some h
          refine S_index rfl rfl Try.underlying23 zr32 h0_0 s3_131.toNat (Int.toNat_of_nonneg hk194.1).symm (idx_lt hk194) rfl ?_
          rintro p193 _ ⟨_, _, rfl, rfl, ⟨e193v1, rfl, e193h1⟩⟩ hp193
          refine S_v (r_field rfl Try.underlying32 rfl zr3 (by decide)) rfl ?_
          have hp195 := hp193.add 0
          refine S_v (r_load1 rfl Try.underlying3 rfl hp195 (hH.trans hL132.arg)) rfl ?_
          refine S_callL rfl rfl hL132 (in_l _ _ (gz_le hH hL132) ) ?_
          rintro _ w196 rfl hx196 hL196 hle196
          refine S_pu 1 rfl ?_
          refine S_seqnil ?_
          refine W_ifn rfl (fun hc197 => ?_) (fun hc197 => ?_)
          · replace h := Go.L.ite_n hc197 h
            refine W_seqr ?_
            refine S_pu 1 rfl ?_
            refine S_callL rfl rfl hL196 (rat_l _ _ (gz_le hH hL196) ) ?_
            rintro _ w199 rfl hx199 hL199 hle199
            refine S_storeBN 0 rfl rfl rfl zr25 hL199 rfl rfl (onc rfl (onc rfl on0)) ?_
            intro w200 hL200 hle200
            refine S_seqnil ?_
            refine W_ret ?_
            refine At_seq_ret ?_
            refine At_block_ret ?_
            refine At_cut_ret ?_
            refine At_loop_ret ?_
            replace h := Go.L.Nxt.out h hm132
            refine At_block_ret ?_
            refine At_cut_ret ?_
            obtain rfl := Option.some.inj h
            refine At_got1 rfl (.cell rfl Try.underlying25 rfl zr25 (box_ptr (i := 0) hL200 rfl)) ?_
            exact ⟨hL200.ext, rfl⟩
          · replace h := Go.L.ite_p hc197 h
            refine W_skip ?_
            refine At_seq ?_
            refine W_cut (σ := Unit) (fun (_ : Unit) => [(0, v0_0), (2, .pointer (some ⟨b1, 0, none⟩)), (3, .int .i64 s3_131)]) (fun (_ : Unit) wr => Lcl w [.box b1 [.int .i64 (0 : Int), .int .i64 (0 : Int)] 25] wr ∧ (ref4_SharesFault_k4 a0 s3_131) = some e132) ?_ ?_
            · refine W_seqr ?_
              refine S_pu 1 rfl ?_
              refine S_seqnil ?_
              refine W_block ?_
              obtain ⟨n247, h⟩ := Go.L.run_some h
              refine W_loop (σ := Int × Nat) (fun (⟨s4_246, n⟩ : Int × Nat) => [(0, v0_0), (2, .pointer (some ⟨b1, 0, none⟩)), (3, .int .i64 s3_131), (4, .int .i64 s4_246)]) (fun (⟨s4_246, n⟩ : Int × Nat) wr => Lcl w [.box b1 [.int .i64 (0 : Int), .int .i64 (0 : Int)] 25] wr ∧ Go.L.itr (ref4_SharesFault_bl5 a0 s3_131) n s4_246 = some e132) (fun (⟨s4_246, n⟩ : Int × Nat) => n) ((0 : Int), n247) (.cons rfl (.cons rfl (.cons rfl (.cons rfl (Sub.nil _))))) ⟨hL196, h⟩ ?_
              rintro ⟨s4_246, nn247⟩ wr247 ⟨hL247, h⟩
              obtain ⟨n247, e247, rfl, h, hm247⟩ := Go.L.itr_some h
              refine W_seq ?_
              refine W_seqr ?_
              refine S_pu 3 rfl ?_
              refine S_seqnil ?_
              refine W_if rfl (fun hc249 => ?_) (fun hc249 => ?_)
              · replace h := Go.L.ite_p hc249 h
                refine W_skip ?_
                refine At_seq ?_
                refine W_seq ?_
                refine W_block ?_
                refine W_seqd (.q 0 (.q 1 (.q 2 (.q 3 (.q 4 (.q 5 (.q 6 (.q 7 (.q 8 (.q 9 (.q 10 (.tail 11)))))))))))) mixed (by kernel_rfl) (fun w251 hx251 => ?_)
                have hL252 := hL247.call hx251
                refine D_pu 2 rfl ?_
                obtain ⟨hk254, h⟩ := Go.L.chk_some h
                refine D_index rfl rfl rfl Try.underlying23 zr32 h0_0 s4_246.toNat (Int.toNat_of_nonneg hk254.1).symm (idx_lt hk254) rfl ?_
                rintro p253 _ ⟨_, _, rfl, rfl, ⟨e253v1, rfl, e253h1⟩⟩ hp253
                refine D_v (r_field rfl Try.underlying32 rfl zr3 (by decide)) rfl rfl ?_
                have hp255 := hp253.add 0
                refine D_v (r_load1 rfl Try.underlying3 rfl hp255 (hH.trans hL252.arg)) rfl rfl ?_
                refine D_pu 2 rfl ?_
                obtain ⟨hk257, h⟩ := Go.L.chk_some h
                refine D_index rfl rfl rfl Try.underlying23 zr32 h0_0 s3_131.toNat (Int.toNat_of_nonneg hk257.1).symm (idx_lt hk257) rfl ?_
                rintro p256 _ ⟨_, _, rfl, rfl, ⟨e256v1, rfl, e256h1⟩⟩ hp256
                refine D_v (r_field rfl Try.underlying32 rfl zr3 (by decide)) rfl rfl ?_
                have hp258 := hp256.add 0
                refine D_v (r_load1 rfl Try.underlying3 rfl hp258 (hH.trans hL252.arg)) rfl rfl ?_
                refine D_pu 1 rfl ?_
                refine D_tail (fun w259 hx259 => ?_)
                have hL260 := hL252.call hx259
                refine S_seqnil ?_
                refine W_if rfl (fun hc261 => ?_) (fun hc261 => ?_)
                · replace h := Go.L.ite_p hc261 h
                  refine W_seqr ?_
                  refine S_pu 1 rfl ?_
                  refine S_callL rfl rfl hL260 (rat_l _ _ (gz_le hH hL260) ) ?_
                  rintro _ w263 rfl hx263 hL263 hle263
                  refine S_storeBN 0 rfl rfl rfl zr25 hL263 rfl rfl (onc rfl (onc rfl on0)) ?_
                  intro w264 hL264 hle264
                  refine S_seqnil ?_
                  refine W_ret ?_
                  refine At_block_ret ?_
                  refine At_seq_ret ?_
                  refine At_loop_ret ?_
                  replace h := Go.L.Nxt.out h hm247
                  refine At_block_ret ?_
                  refine At_cut_ret ?_
                  refine At_block_ret ?_
                  refine At_cut_ret ?_
                  refine At_loop_ret ?_
                  replace h := Go.L.Nxt.out h hm132
                  refine At_block_ret ?_
                  refine At_cut_ret ?_
                  obtain rfl := Option.some.inj h
                  refine At_got1 rfl (.cell rfl Try.underlying25 rfl zr25 (box_ptr (i := 0) hL264 rfl)) ?_
                  exact ⟨hL264.ext, rfl⟩
                · replace h := Go.L.ite_n hc261 h
                  refine W_skip ?_
                  refine At_block ?_
                  refine At_seq ?_
                  refine W_region ?_
                  refine S_pu 1 rfl ?_
                  obtain ⟨hk266, h⟩ := Go.L.chk_some h
                  refine S_v (r_ar64 rfl rfl rfl hk266) rfl ?_
                  refine S_pu 1 rfl ?_
                  refine S_nil ?_
                  have h := Go.L.Nxt.again h hm247
                  refine At_round ((s4_246 + (1 : Int)), n247) (.cons rfl (.cons rfl (.cons rfl (.cons rfl (Sub.nil _))))) ⟨hL260, h⟩ (Nat.lt_succ_self _)
              · replace h := Go.L.ite_n hc249 h
                refine W_exit ?_
                refine At_seq_exit ?_
                refine At_loop_exit ?_
                replace h := Go.L.Nxt.out h hm247
                refine At_exit ?_
                refine At_cut () (.cons rfl (.cons rfl (.cons rfl (Sub.nil _)))) ⟨hL247, h⟩
            · rintro _ wr224 ⟨hL224, h⟩
              refine W_seq ?_
              refine W_seqr ?_
              refine S_pu 2 rfl ?_
              obtain ⟨hk270, h⟩ := Go.L.chk_some h
              refine S_index rfl rfl Try.underlying23 zr32 h0_0 s3_131.toNat (Int.toNat_of_nonneg hk270.1).symm (idx_lt hk270) rfl ?_
              rintro p269 _ ⟨_, _, rfl, rfl, ⟨e269v1, rfl, e269h1⟩⟩ hp269
              refine S_v (r_field rfl Try.underlying32 rfl zr22 (by decide)) rfl ?_
              have hp271 := hp269.add 1
              refine S_v (r_load1 rfl Try.underlying22 rfl hp271 (hH.trans hL224.arg)) rfl ?_
              refine S_v (r_len rfl Try.underlying22 e269h1) rfl ?_
              refine S_pu 1 rfl ?_
              refine S_seqnil ?_
              refine W_if rfl (fun hc272 => ?_) (fun hc272 => ?_)
              · replace h := Go.L.ite_p hc272 h
                refine W_seqr ?_
                refine S_pu 1 rfl ?_
                refine S_callL rfl rfl hL224 (rat_l _ _ (gz_le hH hL224) ) ?_
                rintro _ w274 rfl hx274 hL274 hle274
                refine S_storeBN 0 rfl rfl rfl zr25 hL274 rfl rfl (onc rfl (onc rfl on0)) ?_
                intro w275 hL275 hle275
                refine S_seqnil ?_
                refine W_ret ?_
                refine At_seq_ret ?_
                refine At_block_ret ?_
                refine At_cut_ret ?_
                refine At_loop_ret ?_
                replace h := Go.L.Nxt.out h hm132
                refine At_block_ret ?_
                refine At_cut_ret ?_
                obtain rfl := Option.some.inj h
                refine At_got1 rfl (.cell rfl Try.underlying25 rfl zr25 (box_ptr (i := 0) hL275 rfl)) ?_
                exact ⟨hL275.ext, rfl⟩
              · replace h := Go.L.ite_n hc272 h
                refine W_skip ?_
                refine At_seq ?_
                refine W_seqd (.q 0 (.q 1 (.q 2 (.q 3 (.q 4 (.q 5 (.q 6 (.q 7 (.q 8 (.q 9 (.q 10 (.q 11 (.tail 12))))))))))))) mixed (by kernel_rfl) (fun w277 hx277 => ?_)
                have hL278 := hL224.call hx277
                refine D_pu 2 rfl ?_
                obtain ⟨hk280, h⟩ := Go.L.chk_some h
                refine D_index rfl rfl rfl Try.underlying23 zr32 h0_0 s3_131.toNat (Int.toNat_of_nonneg hk280.1).symm (idx_lt hk280) rfl ?_
                rintro p279 _ ⟨_, _, rfl, rfl, ⟨e279v1, rfl, e279h1⟩⟩ hp279
                refine D_v (r_field rfl Try.underlying32 rfl zr22 (by decide)) rfl rfl ?_
                have hp281 := hp279.add 1
                refine D_v (r_load1 rfl Try.underlying22 rfl hp281 (hH.trans hL278.arg)) rfl rfl ?_
                refine D_v (r_len rfl Try.underlying22 e279h1) rfl rfl ?_
                refine D_pu 1 rfl ?_
                obtain ⟨hk283, h⟩ := Go.L.chk_some h
                refine D_index rfl rfl rfl Try.underlying23 zr32 h0_0 ((0 : Int).toNat) (Int.toNat_of_nonneg hk283.1).symm (idx_lt hk283) rfl ?_
                rintro p282 _ ⟨_, _, rfl, rfl, ⟨e282v1, rfl, e282h1⟩⟩ hp282
                refine D_v (r_field rfl Try.underlying32 rfl zr22 (by decide)) rfl rfl ?_
                have hp284 := hp282.add 1
                refine D_v (r_load1 rfl Try.underlying22 rfl hp284 (hH.trans hL278.arg)) rfl rfl ?_
                refine D_v (r_len rfl Try.underlying22 e282h1) rfl rfl ?_
                refine D_pu 1 rfl ?_
                refine D_tail (fun w285 hx285 => ?_)
                have hL286 := hL278.call hx285
                refine S_seqnil ?_
                refine W_ifn rfl (fun hc287 => ?_) (fun hc287 => ?_)
                · replace h := Go.L.ite_n hc287 h
                  refine W_seqr ?_
                  refine S_pu 1 rfl ?_
                  refine S_callL rfl rfl hL286 (rat_l _ _ (gz_le hH hL286) ) ?_
                  rintro _ w289 rfl hx289 hL289 hle289
                  refine S_storeBN 0 rfl rfl rfl zr25 hL289 rfl rfl (onc rfl (onc rfl on0)) ?_
                  intro w290 hL290 hle290
                  refine S_seqnil ?_
                  refine W_ret ?_
                  refine At_block_ret ?_
                  refine At_cut_ret ?_
                  refine At_loop_ret ?_
                  replace h := Go.L.Nxt.out h hm132
                  refine At_block_ret ?_
                  refine At_cut_ret ?_
                  obtain rfl := Option.some.inj h
                  refine At_got1 rfl (.cell rfl Try.underlying25 rfl zr25 (box_ptr (i := 0) hL290 rfl)) ?_
                  exact ⟨hL290.ext, rfl⟩
                · replace h := Go.L.ite_p hc287 h
                  refine W_skip ?_
                  refine At_block ?_
                  refine At_cut () (.cons rfl (.cons rfl (.cons rfl (Sub.nil _)))) ⟨hL286, h⟩
        · rintro _ wr191 ⟨hL191, h⟩
          refine W_region ?_
          refine S_pu 1 rfl ?_
          obtain ⟨hk293, h⟩ := Go.L.chk_some h
          refine S_v (r_ar64 rfl rfl rfl hk293) rfl ?_
          refine S_pu 1 rfl ?_
          refine S_nil ?_
          have h := Go.L.Nxt.again h hm132
          refine At_round ((s3_131 + (1 : Int)), n132) (.cons rfl (.cons rfl (.cons rfl (Sub.nil _)))) ⟨hL191, h⟩ (Nat.lt_succ_self _)
      · replace h := Go.L.ite_n hc134 h
        refine W_exit ?_
        refine At_seq_exit ?_
        refine At_loop_exit ?_
        replace h := Go.L.Nxt.out h hm132
        refine At_exit ?_
        refine At_cut () (.cons rfl (Sub.nil _)) ⟨hL132, h⟩
    · rintro _ wr69 ⟨hL69, h⟩
      refine W_seqr ?_
      refine S_v (r_build rfl (fun _ => bld25_z _)) rfl ?_
      refine S_storeBN 0 rfl rfl rfl zr25 hL69 rfl rfl (onc rfl (onc rfl on0)) ?_
      intro w296 hL296 hle296
      refine S_seqnil ?_
      refine W_ret ?_
      obtain rfl := Option.some.inj h
      refine At_got1 rfl (.cell rfl Try.underlying25 rfl zr25 (box_ptr (i := 0) hL296 rfl)) ?_
      exact ⟨hL296.ext, rfl⟩

noncomputable def ref4_EnoughFault_k1 (a0 : List (Int × (List UInt8))) (a1 : Int) (c16 : Int) (c17 : Int) : Option ((Int × Int)) :=
  if c16 = (0 : Int) then if (a0.length : Int) < a1 then some (((((18 : Int), (-1 : Int))).1, (((18 : Int), (-1 : Int))).2)) else some ((c16, c17)) else some ((c16, c17))
noncomputable def ref4_EnoughFault (a0 : List (Int × (List UInt8))) (a1 : Int) : Option ((Int × Int)) :=
  Option.bind (ref4_SharesFault a0) (fun x2 => if x2.1 = (0 : Int) then if (1 : Int) ≤ a1 ∧ a1 ≤ (10 : Int) then (ref4_EnoughFault_k1 a0 a1) x2.1 x2.2 else (ref4_EnoughFault_k1 a0 a1) ((((4 : Int), (-2 : Int))).1) ((((4 : Int), (-2 : Int))).2) else (ref4_EnoughFault_k1 a0 a1) x2.1 x2.2)

set_option maxRecDepth 10000 in
theorem ref4_EnoughFault_ok (w : World) (H : PH) (hH : Le H (hp w)) {a0 : List (Int × (List UInt8))} {a1 : Int} {v0_0 : Value} (h0_0 : Vec (.pair (.int .i64) (.vec .byte)) H v0_0 (a0)) {r : (Int × Int)} (h : ref4_EnoughFault a0 a1 = some r) :
    Ok Try.prog 19 [v0_0, .int .i64 a1] w (fun v w' => Ext w w' ∧ v = .agg #[.int .i64 r.1, .int .i64 r.2]) := by
  refine Ok_enter (n := 28) [(0, v0_0), (1, .int .i64 a1)] Try.func19 rfl rfl rfl rfl rfl ?_
  have hL := Lcl.start w
  refine W_seqr ?_
  refine S_alloc zr25 rfl rfl hL ?_
  intro w1 b1 hL1 hle1 _
  refine S_seqnil ?_
  refine W_seqr ?_
  refine S_pu 1 rfl ?_
  obtain ⟨x2, hb2, h⟩ := Go.L.bind_some h
  refine S_callL rfl rfl hL1 (ref4_SharesFault_ok _ _ (gz_le hH hL1) (h0_0.mono (gz_left hH)) hb2) ?_
  rintro _ w3 rfl hx3 hL3 hle3
  refine S_alloc zr25 rfl rfl hL3 ?_
  intro w4 b4 hL4 hle4 _
  refine S_storeBN 0 rfl rfl rfl zr25 hL4 rfl rfl (onc rfl (onc rfl on0)) ?_
  intro w5 hL5 hle5
  refine S_seqnil ?_
  refine W_cut (σ := Int × Int) (fun (⟨c16, c17⟩ : Int × Int) => [(0, v0_0), (1, .int .i64 a1), (4, .pointer (some ⟨b1, 0, none⟩)), (5, .pointer (some ⟨b4, 0, none⟩))]) (fun (⟨c16, c17⟩ : Int × Int) wr => Lcl w [.box b4 [.int .i64 c16, .int .i64 c17] 25, .box b1 [.int .i64 (0 : Int), .int .i64 (0 : Int)] 25] wr ∧ (ref4_EnoughFault_k1 a0 a1) c16 c17 = some r) ?_ ?_
  · refine W_seqr ?_
    refine S_v (r_field rfl Try.underlying25 rfl zr3 (by decide)) rfl ?_
    refine S_v (r_loadB1 0 rfl Try.underlying3 rfl hL5 rfl rfl) rfl ?_
    refine S_pu 2 rfl ?_
    refine S_split (s := 11) rfl (fun hg20 => ?_) (fun hg20 => ?_)
    · replace h := Go.L.ite_p (of_decide_eq_true hg20) h
      refine S_guarded rfl rfl hg20 ?_
      refine S_v (RunsAt_pu rfl) rfl ?_
      refine S_guarded rfl rfl hg20 ?_
      refine S_callL rfl rfl hL5 (in_l _ _ (gz_le hH hL5) ) ?_
      rintro _ w22 rfl hx22 hL22 hle22
      refine S_guarded rfl rfl hg20 ?_
      refine S_v (RunsAt_pu rfl) rfl ?_
      refine S_v (r_pickT rfl hg20 rfl) rfl ?_
      refine S_seqnil ?_
      refine W_ifn rfl (fun hc23 => ?_) (fun hc23 => ?_)
      · replace h := Go.L.ite_n hc23 h
        refine W_region ?_
        refine S_callL rfl rfl hL22 (rat_l _ _ (gz_le hH hL22) ) ?_
        rintro _ w25 rfl hx25 hL25 hle25
        refine S_storeBN 0 rfl rfl rfl zr25 hL25 rfl rfl (onc rfl (onc rfl on0)) ?_
        intro w26 hL26 hle26
        refine S_nil ?_
        refine At_cut ((((4 : Int), (-2 : Int))).1, (((4 : Int), (-2 : Int))).2) (.cons rfl (.cons rfl (.cons rfl (.cons rfl (Sub.nil _))))) ⟨hL26, h⟩
      · replace h := Go.L.ite_p hc23 h
        refine W_skip ?_
        refine At_cut (x2.1, x2.2) (.cons rfl (.cons rfl (.cons rfl (.cons rfl (Sub.nil _))))) ⟨hL22, h⟩
    · replace h := Go.L.ite_n (of_decide_eq_false hg20) h
      refine S_unwanted rfl rfl hg20 rfl ?_
      refine S_unwanted rfl rfl hg20 rfl ?_
      refine S_unwanted rfl rfl hg20 rfl ?_
      refine S_v (r_pickF rfl hg20 rfl) rfl ?_
      refine S_seqnil ?_
      refine W_false rfl ?_
      refine W_skip ?_
      refine At_cut (x2.1, x2.2) (.cons rfl (.cons rfl (.cons rfl (.cons rfl (Sub.nil _))))) ⟨hL5, h⟩
  · rintro ⟨c16, c17⟩ wr18 ⟨hL18, h⟩
    refine W_seq ?_
    refine W_seqr ?_
    refine S_v (r_field rfl Try.underlying25 rfl zr3 (by decide)) rfl ?_
    refine S_v (r_loadB1 0 rfl Try.underlying3 rfl hL18 rfl rfl) rfl ?_
    refine S_pu 2 rfl ?_
    refine S_split (s := 20) rfl (fun hg30 => ?_) (fun hg30 => ?_)
    · replace h := Go.L.ite_p (of_decide_eq_true hg30) h
      refine S_guarded rfl rfl hg30 ?_
      refine S_v (RunsAt_pu rfl) rfl ?_
      refine S_guarded rfl rfl hg30 ?_
      refine S_v (r_len rfl Try.underlying23 h0_0) rfl ?_
      refine S_guarded rfl rfl hg30 ?_
      refine S_v (RunsAt_pu rfl) rfl ?_
      refine S_guarded rfl rfl hg30 ?_
      refine S_v (RunsAt_pu rfl) rfl ?_
      refine S_v (r_pickT rfl hg30 rfl) rfl ?_
      refine S_seqnil ?_
      refine W_if rfl (fun hc32 => ?_) (fun hc32 => ?_)
      · replace h := Go.L.ite_p hc32 h
        refine W_region ?_
        refine S_callL rfl rfl hL18 (rat_l _ _ (gz_le hH hL18) ) ?_
        rintro _ w34 rfl hx34 hL34 hle34
        refine S_storeBN 0 rfl rfl rfl zr25 hL34 rfl rfl (onc rfl (onc rfl on0)) ?_
        intro w35 hL35 hle35
        refine S_nil ?_
        refine At_seq ?_
        refine W_seqr ?_
        refine S_v (r_loadBN 0 rfl Try.underlying25 rfl zr25 hL35 rfl) rfl ?_
        refine S_storeBN 1 rfl rfl rfl zr25 hL35 rfl rfl (onc rfl (onc rfl on0)) ?_
        intro w36 hL36 hle36
        refine S_seqnil ?_
        refine W_ret ?_
        obtain rfl := Option.some.inj h
        refine At_got1 rfl (.cell rfl Try.underlying25 rfl zr25 (box_ptr (i := 1) hL36 rfl)) ?_
        exact ⟨hL36.ext, rfl⟩
      · replace h := Go.L.ite_n hc32 h
        refine W_skip ?_
        refine At_seq ?_
        refine W_seqr ?_
        refine S_v (r_loadBN 0 rfl Try.underlying25 rfl zr25 hL18 rfl) rfl ?_
        refine S_storeBN 1 rfl rfl rfl zr25 hL18 rfl rfl (onc rfl (onc rfl on0)) ?_
        intro w38 hL38 hle38
        refine S_seqnil ?_
        refine W_ret ?_
        obtain rfl := Option.some.inj h
        refine At_got1 rfl (.cell rfl Try.underlying25 rfl zr25 (box_ptr (i := 1) hL38 rfl)) ?_
        exact ⟨hL38.ext, rfl⟩
    · replace h := Go.L.ite_n (of_decide_eq_false hg30) h
      refine S_unwanted rfl rfl hg30 rfl ?_
      refine S_unwanted rfl rfl hg30 rfl ?_
      refine S_unwanted rfl rfl hg30 rfl ?_
      refine S_unwanted rfl rfl hg30 rfl ?_
      refine S_v (r_pickF rfl hg30 rfl) rfl ?_
      refine S_seqnil ?_
      refine W_false rfl ?_
      refine W_skip ?_
      refine At_seq ?_
      refine W_seqr ?_
      refine S_v (r_loadBN 0 rfl Try.underlying25 rfl zr25 hL18 rfl) rfl ?_
      refine S_storeBN 1 rfl rfl rfl zr25 hL18 rfl rfl (onc rfl (onc rfl on0)) ?_
      intro w40 hL40 hle40
      refine S_seqnil ?_
      refine W_ret ?_
      obtain rfl := Option.some.inj h
      refine At_got1 rfl (.cell rfl Try.underlying25 rfl zr25 (box_ptr (i := 1) hL40 rfl)) ?_
      exact ⟨hL40.ext, rfl⟩

noncomputable def ref4_Sum_k1 (l20 : List UInt8) : Option ((List UInt8)) :=
  some (l20)
noncomputable def ref4_Sum_bl2 (a0 : List UInt8) (a1 : List UInt8) : (List UInt8) × Int → Option (((List UInt8) × Int) ⊕ ((List UInt8))) := fun ⟨l39, s6_40⟩ =>
  if s6_40 < (a0.length : Int) then Go.L.chk (0 ≤ s6_40 ∧ s6_40 < (a0.length : Int)) (Go.L.chk (0 ≤ s6_40 ∧ s6_40 < (a1.length : Int)) (Go.L.chk (Go.E.Cap 1 (l39.length + ([(a0.getD s6_40.toNat default ^^^ a1.getD s6_40.toNat default)]).length)) (Go.L.chk (Go.L.I64 (s6_40 + (1 : Int))) (some (Sum.inl ((l39 ++ [(a0.getD s6_40.toNat default ^^^ a1.getD s6_40.toNat default)]), (s6_40 + (1 : Int)))))))) else Option.map Sum.inr (ref4_Sum_k1 l39)
noncomputable def ref4_Sum_l2 (a0 : List UInt8) (a1 : List UInt8) (s : (List UInt8) × Int) : Option ((List UInt8)) := Go.L.run (ref4_Sum_bl2 a0 a1) s
noncomputable def ref4_Sum (a0 : List UInt8) (a1 : List UInt8) : Option ((List UInt8)) :=
  (ref4_Sum_l2 a0 a1) (([] : List UInt8), (0 : Int))

set_option maxRecDepth 10000 in
theorem ref4_Sum_ok (w : World) (H : PH) (hH : Le H (hp w)) {a0 : List UInt8} {a1 : List UInt8} {v0_0 : Value} {v1_0 : Value} (h0_0 : Vec .byte H v0_0 (a0)) (h1_0 : Vec .byte H v1_0 (a1)) {r : (List UInt8)} (h : ref4_Sum a0 a1 = some r) :
    Ok Try.prog 34 [v0_0, v1_0] w (fun v w' => Ext w w' ∧ ∃ u0, v = u0 ∧ OwnH 5 .byte H w w' u0 (r)) := by
  refine Ok_enter (n := 26) [(0, v0_0), (1, v1_0)] Try.func34 rfl rfl rfl rfl rfl ?_
  have hL := Lcl.start w
  refine W_seqr ?_
  refine S_pu 1 rfl ?_
  refine S_seqnil ?_
  refine W_seqr ?_
  refine S_pu 1 rfl ?_
  obtain ⟨hL1, hle1, he1⟩ := row_nilE .byte H 5 hL
  refine S_seqnil ?_
  refine W_cut (σ := (List UInt8) × Value × (List Value)) (fun (⟨l20, vl20, xsl20⟩ : (List UInt8) × Value × (List Value)) => [(5, vl20)]) (fun (⟨l20, vl20, xsl20⟩ : (List UInt8) × Value × (List Value)) wr => Lcl w [.row (vl20) 5 1 (l20).length (xsl20)] wr ∧ Elems .byte (gz H w wr [.row (vl20) 5 1 (l20).length (xsl20)]) (l20) (xsl20) ∧ ref4_Sum_k1 l20 = some r) ?_ ?_
  · refine W_seqr ?_
    refine S_pu 1 rfl ?_
    refine S_seqnil ?_
    refine W_block ?_
    obtain ⟨n41, h⟩ := Go.L.run_some h
    refine W_loop (σ := (List UInt8) × Int × Value × (List Value) × Nat) (fun (⟨l39, s6_40, vl39, xsl39, n⟩ : (List UInt8) × Int × Value × (List Value) × Nat) => [(0, v0_0), (1, v1_0), (5, vl39), (6, .int .i64 s6_40)]) (fun (⟨l39, s6_40, vl39, xsl39, n⟩ : (List UInt8) × Int × Value × (List Value) × Nat) wr => Lcl w [.row (vl39) 5 1 (l39).length (xsl39)] wr ∧ Elems .byte (gz H w wr [.row (vl39) 5 1 (l39).length (xsl39)]) (l39) (xsl39) ∧ Go.L.itr (ref4_Sum_bl2 a0 a1) n (l39, s6_40) = some r) (fun (⟨l39, s6_40, vl39, xsl39, n⟩ : (List UInt8) × Int × Value × (List Value) × Nat) => n) (([] : List UInt8), (0 : Int), .slice none 0 0, [], n41) (.cons rfl (.cons rfl (.cons rfl (.cons rfl (Sub.nil _))))) ⟨hL1, he1, h⟩ ?_
    rintro ⟨l39, s6_40, vl39, xsl39, nn41⟩ wr41 ⟨hL41, hel39, h⟩
    obtain ⟨n41, e41, rfl, h, hm41⟩ := Go.L.itr_some h
    refine W_seq ?_
    refine W_seqr ?_
    refine S_pu 2 rfl ?_
    refine S_v (r_len rfl Try.underlying22 h0_0) rfl ?_
    refine S_pu 1 rfl ?_
    refine S_seqnil ?_
    refine W_if rfl (fun hc43 => ?_) (fun hc43 => ?_)
    · replace h := Go.L.ite_p hc43 h
      refine W_skip ?_
      refine At_seq ?_
      refine W_seq ?_
      refine W_block ?_
      refine W_regd (.q 0 (.q 1 (.q 2 (.q 3 (.q 4 (.q 5 (.q 6 (.q 7 (.q 8 (.q 9 (.h 10 (.tail 11)))))))))))) mixed (by kernel_rfl) (fun w45 hx45 => ?_)
      have hL46 := hL41.call hx45
      have hle46 := fz_ext hL41 hx45
      replace hel39 := hel39.mono (gz_mono hH hle46)
      refine D_pu 3 rfl ?_
      obtain ⟨hk48, h⟩ := Go.L.chk_some h
      refine D_index rfl rfl rfl Try.underlying22 zr5 h0_0 s6_40.toNat (Int.toNat_of_nonneg hk48.1).symm (idx_lt hk48) rfl ?_
      rintro p47 _ rfl hp47
      refine D_v (r_load1 rfl Try.underlying5 rfl hp47 (hH.trans hL46.arg)) rfl rfl ?_
      refine D_pu 2 rfl ?_
      obtain ⟨hk50, h⟩ := Go.L.chk_some h
      refine D_index rfl rfl rfl Try.underlying22 zr5 h1_0 s6_40.toNat (Int.toNat_of_nonneg hk50.1).symm (idx_lt hk50) rfl ?_
      rintro p49 _ rfl hp49
      refine D_v (r_load1 rfl Try.underlying5 rfl hp49 (hH.trans hL46.arg)) rfl rfl ?_
      refine D_v (r_bit8 rfl rfl rfl) rfl rfl ?_
      refine D_litE (r := .byte) (l := [(a0.getD s6_40.toNat default ^^^ a1.getD s6_40.toNat default)]) rfl rfl (fun _ => bsl22_1 _ _) rfl (show 1 ≤ 9223372036854775807 by decide) hH hL46 (.c1 rfl .nil) ?_
      intro v51 w51 hx51 hL51 hle51 hv51
      replace hel39 := hel39.mono (gz_mono hH hle51)
      refine D_tail (fun w52 hx52 => ?_)
      have hL53 := hL51.call hx52
      have hle53 := fz_ext hL51 hx52
      replace hel39 := hel39.mono (gz_mono hH hle53)
      replace hv51 := hv51.mono (gz_mono hH hle53)
      obtain ⟨hk55, h⟩ := Go.L.chk_some h
      refine S_appE (r := .byte) (l := l39) (m := [(a0.getD s6_40.toNat default ^^^ a1.getD s6_40.toNat default)]) 0 rfl rfl Try.underlying22 zr5 rfl (by decide) rfl hH hL53 rfl hel39 hv51 hk55 ?_
      intro v54 w54 xs54 hL54 hle54 he54
      replace hv51 := hv51.mono (gz_mono hH hle54)
      refine S_pu 1 rfl ?_
      refine S_nil ?_
      refine At_block ?_
      refine At_seq ?_
      refine W_region ?_
      refine S_pu 1 rfl ?_
      obtain ⟨hk56, h⟩ := Go.L.chk_some h
      refine S_v (r_ar64 rfl rfl rfl hk56) rfl ?_
      refine S_pu 1 rfl ?_
      refine S_nil ?_
      have h := Go.L.Nxt.again h hm41
      refine At_round ((l39 ++ [(a0.getD s6_40.toNat default ^^^ a1.getD s6_40.toNat default)]), (s6_40 + (1 : Int)), v54, xs54, n41) (.cons rfl (.cons rfl (.cons rfl (.cons rfl (Sub.nil _))))) ⟨hL54, he54, h⟩ (Nat.lt_succ_self _)
    · replace h := Go.L.ite_n hc43 h
      refine W_exit ?_
      refine At_seq_exit ?_
      refine At_loop_exit ?_
      replace h := Go.L.Nxt.out h hm41
      refine At_exit ?_
      refine At_cut (l39, vl39, xsl39) (.cons rfl (Sub.nil _)) ⟨hL41, hel39, h⟩
  · rintro ⟨l20, vl20, xsl20⟩ wr21 ⟨hL21, hel20, h⟩
    refine W_seqr ?_
    refine S_pu 2 rfl ?_
    refine S_seqnil ?_
    refine W_ret ?_
    obtain rfl := Option.some.inj h
    refine At_body rfl rfl ?_
    exact ⟨hL21.ext, _, rfl, (hL21.ownH hH (i := 0) rfl hel20)⟩

noncomputable def law4_SharesExplainIsUnique (a0 : List UInt8) (a1 : Int) (a2 : List UInt8) (a3 : Int) : Option (Bool) :=
  if !true then if true then some (decide (((M.spA a0 a1 (10 : Int) a2).length : Int) = (0 : Int))) else some (false) else if ((M.spF a0 a1 (10 : Int) a2)).1 = (0 : Int) then Option.bind (digitsL (max a3 (0 : Int)) (10 : Int)) (fun x19 => Option.bind (numberL x19) (fun x21 => Option.bind (chosenL (M.spA a0 a1 (10 : Int) a2) x21) (fun x23 => Go.L.chk (Go.L.I64 (a1 - (1 : Int))) (if (x23.length : Int) = (a1 - (1 : Int)) then (if ((M.exF x23 a1 a0)).1 = (0 : Int) then some (decide ((M.exA x23 a1 a0) = a2)) else some (false)) else some (true))))) else (if true then some (decide (((M.spA a0 a1 (10 : Int) a2).length : Int) = (0 : Int))) else some (false))

set_option maxRecDepth 10000 in
theorem law4_SharesExplainIsUnique_ok (w : World) (H : PH) (hH : Le H (hp w)) {a0 : List UInt8} {a1 : Int} {a2 : List UInt8} {a3 : Int} {v0_0 : Value} {v2_0 : Value} (h0_0 : Vec .byte H v0_0 (a0)) (h2_0 : Vec .byte H v2_0 (a2)) {r : Bool} (h : law4_SharesExplainIsUnique a0 a1 a2 a3 = some r) :
    Ok Try.prog 11 [v0_0, .int .i64 a1, v2_0, .int .i64 a3] w (fun v w' => Ext w w' ∧ v = .bool r) := by
  refine Ok_enter (n := 60) [(0, v0_0), (1, .int .i64 a1), (2, v2_0), (3, .int .i64 a3)] Try.func11 rfl rfl rfl rfl rfl ?_
  have hL := Lcl.start w
  refine W_seqr ?_
  refine S_pu 1 rfl ?_
  refine S_seqnil ?_
  refine W_seqr ?_
  refine S_pu 3 rfl ?_
  refine S_callL rfl rfl hL (split_l _ _ (gz_le hH hL) (h0_0.mono (gz_left hH)) (h2_0.mono (gz_left hH))) ?_
  rintro _ w1 ⟨u1_0, rfl, hR1_0⟩ hx1 hL1 hle1
  have hv1_0 := hR1_0.vecG hH hL hx1
  refine S_pu 3 rfl ?_
  refine S_alloc zr25 rfl rfl hL1 ?_
  intro w2 b2 hL2 hle2 _
  replace hv1_0 := hv1_0.mono (gz_mono hH hle2)
  refine S_pu 1 rfl ?_
  refine S_storeBN 0 rfl rfl rfl zr25 hL2 rfl rfl (onc rfl (onc rfl on0)) ?_
  intro w3 hL3 hle3
  replace hv1_0 := hv1_0.mono (gz_mono hH hle3)
  refine S_seqnil ?_
  refine W_seq ?_
  refine W_seqr ?_
  refine S_callL rfl rfl hL3 (opens_l _ _ (gz_le hH hL3) ) ?_
  rintro _ w4 rfl hx4 hL4 hle4
  replace hv1_0 := hv1_0.mono (gz_mono hH hle4)
  refine S_pu 2 rfl ?_
  refine S_split (s := 23) rfl (fun hg5 => ?_) (fun hg5 => ?_)
  · replace h := Go.L.ite_t hg5 h
    refine S_unwanted rfl rfl hg5 rfl ?_
    refine S_unwanted rfl rfl hg5 rfl ?_
    refine S_unwanted rfl rfl hg5 rfl ?_
    refine S_v (r_pickT rfl hg5 rfl) rfl ?_
    refine S_seqnil ?_
    refine W_true rfl ?_
    refine W_seqr ?_
    refine S_callL rfl rfl hL4 (opens_l _ _ (gz_le hH hL4) ) ?_
    rintro _ w7 rfl hx7 hL7 hle7
    replace hv1_0 := hv1_0.mono (gz_mono hH hle7)
    refine S_pu 1 rfl ?_
    refine S_split (s := 29) rfl (fun hg8 => ?_) (fun hg8 => ?_)
    · replace h := Go.L.ite_t hg8 h
      refine S_guarded rfl rfl hg8 ?_
      refine S_v (RunsAt_pu rfl) rfl ?_
      refine S_guarded rfl rfl hg8 ?_
      refine S_v (r_len rfl Try.underlying23 hv1_0) rfl ?_
      refine S_guarded rfl rfl hg8 ?_
      refine S_v (RunsAt_pu rfl) rfl ?_
      refine S_v (r_pickT rfl hg8 rfl) rfl ?_
      refine S_pu 1 rfl ?_
      refine S_seqnil ?_
      refine W_ret ?_
      refine At_seq_ret ?_
      obtain rfl := Option.some.inj h
      refine At_body rfl rfl ?_
      exact ⟨hL7.ext, rfl⟩
    · replace h := Go.L.ite_f hg8 h
      refine S_unwanted rfl rfl hg8 rfl ?_
      refine S_unwanted rfl rfl hg8 rfl ?_
      refine S_unwanted rfl rfl hg8 rfl ?_
      refine S_v (r_pickF rfl hg8 rfl) rfl ?_
      refine S_pu 1 rfl ?_
      refine S_seqnil ?_
      refine W_ret ?_
      refine At_seq_ret ?_
      obtain rfl := Option.some.inj h
      refine At_body rfl rfl ?_
      exact ⟨hL7.ext, rfl⟩
  · replace h := Go.L.ite_f hg5 h
    refine S_guarded rfl rfl hg5 ?_
    refine S_v (r_field rfl Try.underlying25 rfl zr3 (by decide)) rfl ?_
    refine S_guarded rfl rfl hg5 ?_
    refine S_v (r_loadB1 0 rfl Try.underlying3 rfl hL4 rfl rfl) rfl ?_
    refine S_guarded rfl rfl hg5 ?_
    refine S_v (RunsAt_pu rfl) rfl ?_
    refine S_v (r_pickF rfl hg5 rfl) rfl ?_
    refine S_seqnil ?_
    refine W_ifn rfl (fun hc12 => ?_) (fun hc12 => ?_)
    · replace h := Go.L.ite_n hc12 h
      refine W_seqr ?_
      refine S_callL rfl rfl hL4 (opens_l _ _ (gz_le hH hL4) ) ?_
      rintro _ w14 rfl hx14 hL14 hle14
      replace hv1_0 := hv1_0.mono (gz_mono hH hle14)
      refine S_pu 1 rfl ?_
      refine S_split (s := 29) rfl (fun hg15 => ?_) (fun hg15 => ?_)
      · replace h := Go.L.ite_t hg15 h
        refine S_guarded rfl rfl hg15 ?_
        refine S_v (RunsAt_pu rfl) rfl ?_
        refine S_guarded rfl rfl hg15 ?_
        refine S_v (r_len rfl Try.underlying23 hv1_0) rfl ?_
        refine S_guarded rfl rfl hg15 ?_
        refine S_v (RunsAt_pu rfl) rfl ?_
        refine S_v (r_pickT rfl hg15 rfl) rfl ?_
        refine S_pu 1 rfl ?_
        refine S_seqnil ?_
        refine W_ret ?_
        refine At_seq_ret ?_
        obtain rfl := Option.some.inj h
        refine At_body rfl rfl ?_
        exact ⟨hL14.ext, rfl⟩
      · replace h := Go.L.ite_f hg15 h
        refine S_unwanted rfl rfl hg15 rfl ?_
        refine S_unwanted rfl rfl hg15 rfl ?_
        refine S_unwanted rfl rfl hg15 rfl ?_
        refine S_v (r_pickF rfl hg15 rfl) rfl ?_
        refine S_pu 1 rfl ?_
        refine S_seqnil ?_
        refine W_ret ?_
        refine At_seq_ret ?_
        obtain rfl := Option.some.inj h
        refine At_body rfl rfl ?_
        exact ⟨hL14.ext, rfl⟩
    · replace h := Go.L.ite_p hc12 h
      refine W_skip ?_
      refine At_seq ?_
      refine W_seqr ?_
      refine S_pu 2 rfl ?_
      refine S_v (r_max rfl rfl) rfl ?_
      obtain ⟨x19, hb19, h⟩ := Go.L.bind_some h
      refine S_callL rfl rfl hL4 (digits_l _ _ (gz_le hH hL4) hb19) ?_
      rintro u20_0 w20 ⟨_, rfl, hR20_0⟩ hx20 hL20 hle20
      have hv20_0 := hR20_0.vecG hH hL4 hx20
      replace hv1_0 := hv1_0.mono (gz_mono hH hle20)
      obtain ⟨x21, hb21, h⟩ := Go.L.bind_some h
      refine S_callL rfl rfl hL20 (number_l _ _ (gz_le hH hL20) hv20_0 hb21) ?_
      rintro _ w22 rfl hx22 hL22 hle22
      replace hv1_0 := hv1_0.mono (gz_mono hH hle22)
      replace hv20_0 := hv20_0.mono (gz_mono hH hle22)
      obtain ⟨x23, hb23, h⟩ := Go.L.bind_some h
      refine S_callL rfl rfl hL22 (chosen_l _ _ (gz_le hH hL22) hv1_0 hb23) ?_
      rintro u24_0 w24 ⟨_, rfl, hR24_0⟩ hx24 hL24 hle24
      have hv24_0 := hR24_0.mono (gz_nw hH hL22 hx24)
      replace hv1_0 := hv1_0.mono (gz_mono hH hle24)
      replace hv20_0 := hv20_0.mono (gz_mono hH hle24)
      refine S_pu 1 rfl ?_
      refine S_seqnil ?_
      refine W_seq ?_
      refine W_seqr ?_
      refine S_pu 1 rfl ?_
      refine S_v (r_len rfl Try.underlying23 hv24_0) rfl ?_
      refine S_pu 1 rfl ?_
      obtain ⟨hk25, h⟩ := Go.L.chk_some h
      refine S_v (r_ar64 rfl rfl rfl hk25) rfl ?_
      refine S_pu 1 rfl ?_
      refine S_seqnil ?_
      refine W_ifn rfl (fun hc26 => ?_) (fun hc26 => ?_)
      · replace h := Go.L.ite_n hc26 h
        refine W_seqr ?_
        refine S_pu 1 rfl ?_
        refine S_seqnil ?_
        refine W_ret ?_
        refine At_seq_ret ?_
        obtain rfl := Option.some.inj h
        refine At_body rfl rfl ?_
        exact ⟨hL24.ext, rfl⟩
      · replace h := Go.L.ite_p hc26 h
        refine W_skip ?_
        refine At_seq ?_
        refine W_seqr ?_
        refine S_pu 3 rfl ?_
        refine S_callL rfl rfl hL24 (explain_l _ _ (gz_le hH hL24) hv24_0 (h0_0.mono (gz_left hH))) ?_
        rintro _ w29 ⟨u29_0, rfl, hR29_0⟩ hx29 hL29 hle29
        have hv29_0 := hR29_0.vecG hH hL24 hx29
        replace hv24_0 := hv24_0.mono (gz_mono hH hle29)
        refine S_pu 3 rfl ?_
        refine S_alloc zr25 rfl rfl hL29 ?_
        intro w30 b30 hL30 hle30 _
        replace hv24_0 := hv24_0.mono (gz_mono hH hle30)
        replace hv29_0 := hv29_0.mono (gz_mono hH hle30)
        refine S_pu 1 rfl ?_
        refine S_storeBN 0 rfl rfl rfl zr25 hL30 rfl rfl (onc rfl (onc rfl on0)) ?_
        intro w31 hL31 hle31
        replace hv24_0 := hv24_0.mono (gz_mono hH hle31)
        replace hv29_0 := hv29_0.mono (gz_mono hH hle31)
        refine S_seqnil ?_
        refine W_seqr ?_
        refine S_v (r_field rfl Try.underlying25 rfl zr3 (by decide)) rfl ?_
        refine S_v (r_loadB1 0 rfl Try.underlying3 rfl hL31 rfl rfl) rfl ?_
        refine S_pu 2 rfl ?_
        refine S_split (s := 55) rfl (fun hg32 => ?_) (fun hg32 => ?_)
        · replace h := Go.L.ite_p (of_decide_eq_true hg32) h
          refine S_guarded rfl rfl hg32 ?_
          refine S_v (RunsAt_pu rfl) rfl ?_
          refine S_guarded rfl rfl hg32 ?_
          refine S_v (RunsAt_pu rfl) rfl ?_
          refine S_guarded rfl rfl hg32 ?_
          refine S_callL rfl rfl hL31 (same_l _ _ (gz_le hH hL31) hv29_0 (h2_0.mono (gz_left hH))) ?_
          rintro _ w34 rfl hx34 hL34 hle34
          replace hv29_0 := hv29_0.mono (gz_mono hH hle34)
          refine S_v (r_pickT rfl hg32 rfl) rfl ?_
          refine S_pu 1 rfl ?_
          refine S_seqnil ?_
          refine W_ret ?_
          obtain rfl := Option.some.inj h
          refine At_body rfl rfl ?_
          exact ⟨hL34.ext, rfl⟩
        · replace h := Go.L.ite_n (of_decide_eq_false hg32) h
          refine S_unwanted rfl rfl hg32 rfl ?_
          refine S_unwanted rfl rfl hg32 rfl ?_
          refine S_unwanted rfl rfl hg32 rfl ?_
          refine S_v (r_pickF rfl hg32 rfl) rfl ?_
          refine S_pu 1 rfl ?_
          refine S_seqnil ?_
          refine W_ret ?_
          obtain rfl := Option.some.inj h
          refine At_body rfl rfl ?_
          exact ⟨hL31.ext, rfl⟩

noncomputable def law4_SharesExplainMatchesSpec_k4 : Option (Bool) :=
  some (true)
noncomputable def law4_SharesExplainMatchesSpec_bl5 (a0 : List (Int × (List UInt8))) (a1 : Int) (a2 : List UInt8) : Int → Option ((Int) ⊕ (Bool)) := fun s12_183 =>
  if s12_183 < (a0.length : Int) then Go.L.chk (0 ≤ s12_183 ∧ s12_183 < (a0.length : Int)) (Go.L.chk (Go.L.I64 ((a0.getD s12_183.toNat default).1 - (1 : Int))) (Go.L.chk (0 ≤ s12_183 ∧ s12_183 < (a0.length : Int)) (Go.L.chk (0 ≤ ((a0.getD s12_183.toNat default).1 - (1 : Int)) ∧ ((a0.getD s12_183.toNat default).1 - (1 : Int)) ≤ (a0.getD s12_183.toNat default).1 ∧ (a0.getD s12_183.toNat default).1 ≤ ((M.spA a2 a1 (10 : Int) (M.exA a0 a1 a2)).length : Int)) (Go.L.chk (Go.L.I64 (s12_183 + (1 : Int))) (Go.L.chk (0 ≤ s12_183 ∧ s12_183 ≤ (s12_183 + (1 : Int)) ∧ (s12_183 + (1 : Int)) ≤ (a0.length : Int)) (if (((M.spA a2 a1 (10 : Int) (M.exA a0 a1 a2)).drop ((a0.getD s12_183.toNat default).1 - (1 : Int)).toNat).take (((a0.getD s12_183.toNat default).1).toNat - ((a0.getD s12_183.toNat default).1 - (1 : Int)).toNat)) = ((a0.drop s12_183.toNat).take ((s12_183 + (1 : Int)).toNat - s12_183.toNat)) then Go.L.chk (Go.L.I64 (s12_183 + (1 : Int))) (some (Sum.inl (s12_183 + (1 : Int)))) else Option.map Sum.inr (some (false)))))))) else Option.map Sum.inr (law4_SharesExplainMatchesSpec_k4)
noncomputable def law4_SharesExplainMatchesSpec_l5 (a0 : List (Int × (List UInt8))) (a1 : Int) (a2 : List UInt8) (s : Int) : Option (Bool) := Go.L.run (law4_SharesExplainMatchesSpec_bl5 a0 a1 a2) s
noncomputable def law4_SharesExplainMatchesSpec_k3 (a0 : List (Int × (List UInt8))) (a1 : Int) (a2 : List UInt8) (c70 : Int) (c71 : Int) : Option (Bool) :=
  if !true then if true then if ((M.exF a0 a1 a2)).1 = c70 ∧ ((M.exF a0 a1 a2)).2 = c71 then some (decide (((M.exA a0 a1 a2).length : Int) = (0 : Int))) else some (false) else some (false) else if ((M.exF a0 a1 a2)).1 = c70 ∧ ((M.exF a0 a1 a2)).2 = c71 then if c70 = (0 : Int) then (if ((M.spF a2 a1 (10 : Int) (M.exA a0 a1 a2))).1 = (0 : Int) then if ((M.spA a2 a1 (10 : Int) (M.exA a0 a1 a2)).length : Int) = (10 : Int) then (law4_SharesExplainMatchesSpec_l5 a0 a1 a2) (0 : Int) else some (false) else some (false)) else (if true then if ((M.exF a0 a1 a2)).1 = c70 ∧ ((M.exF a0 a1 a2)).2 = c71 then some (decide (((M.exA a0 a1 a2).length : Int) = (0 : Int))) else some (false) else some (false)) else if true then if ((M.exF a0 a1 a2)).1 = c70 ∧ ((M.exF a0 a1 a2)).2 = c71 then some (decide (((M.exA a0 a1 a2).length : Int) = (0 : Int))) else some (false) else some (false)
noncomputable def law4_SharesExplainMatchesSpec_k2 (a0 : List (Int × (List UInt8))) (a1 : Int) (a2 : List UInt8) (c42 : Int) (c43 : Int) : Option (Bool) :=
  if c42 = (0 : Int) then if (0 : Int) < (a0.length : Int) then Go.L.chk (0 ≤ (0 : Int) ∧ (0 : Int) < (a0.length : Int)) (if (a2.length : Int) = (((a0.getD ((0 : Int).toNat) default).2).length : Int) then (law4_SharesExplainMatchesSpec_k3 a0 a1 a2) c42 c43 else (law4_SharesExplainMatchesSpec_k3 a0 a1 a2) ((((9 : Int), (-3 : Int))).1) ((((9 : Int), (-3 : Int))).2)) else (law4_SharesExplainMatchesSpec_k3 a0 a1 a2) c42 c43 else (law4_SharesExplainMatchesSpec_k3 a0 a1 a2) c42 c43
noncomputable def law4_SharesExplainMatchesSpec_k1 (a0 : List (Int × (List UInt8))) (a1 : Int) (a2 : List UInt8) (c19 : Int) (c20 : Int) : Option (Bool) :=
  if c19 = (0 : Int) then if (4096 : Int) < (a2.length : Int) then (law4_SharesExplainMatchesSpec_k2 a0 a1 a2) ((((3 : Int), (-3 : Int))).1) ((((3 : Int), (-3 : Int))).2) else (law4_SharesExplainMatchesSpec_k2 a0 a1 a2) c19 c20 else (law4_SharesExplainMatchesSpec_k2 a0 a1 a2) c19 c20
noncomputable def law4_SharesExplainMatchesSpec (a0 : List (Int × (List UInt8))) (a1 : Int) (a2 : List UInt8) : Option (Bool) :=
  Option.bind (ref4_SharesFault a0) (fun x4 => if ((M.rgF (x4.1, x4.2) a1 (1 : Int) (10 : Int) (-2 : Int))).1 = (0 : Int) then Go.L.chk (Go.L.I64 (a1 - (1 : Int))) (if (a0.length : Int) = (a1 - (1 : Int)) then (law4_SharesExplainMatchesSpec_k1 a0 a1 a2) (((M.rgF (x4.1, x4.2) a1 (1 : Int) (10 : Int) (-2 : Int))).1) (((M.rgF (x4.1, x4.2) a1 (1 : Int) (10 : Int) (-2 : Int))).2) else (law4_SharesExplainMatchesSpec_k1 a0 a1 a2) ((((9 : Int), (-1 : Int))).1) ((((9 : Int), (-1 : Int))).2)) else (law4_SharesExplainMatchesSpec_k1 a0 a1 a2) (((M.rgF (x4.1, x4.2) a1 (1 : Int) (10 : Int) (-2 : Int))).1) (((M.rgF (x4.1, x4.2) a1 (1 : Int) (10 : Int) (-2 : Int))).2))

set_option maxRecDepth 10000 in
theorem law4_SharesExplainMatchesSpec_ok (w : World) (H : PH) (hH : Le H (hp w)) {a0 : List (Int × (List UInt8))} {a1 : Int} {a2 : List UInt8} {v0_0 : Value} {v2_0 : Value} (h0_0 : Vec (.pair (.int .i64) (.vec .byte)) H v0_0 (a0)) (h2_0 : Vec .byte H v2_0 (a2)) {r : Bool} (h : law4_SharesExplainMatchesSpec a0 a1 a2 = some r) :
    Ok Try.prog 10 [v0_0, .int .i64 a1, v2_0] w (fun v w' => Ext w w' ∧ v = .bool r) := by
  refine Ok_enter (n := 127) [(0, v0_0), (1, .int .i64 a1), (2, v2_0)] Try.func10 rfl rfl rfl rfl rfl ?_
  have hL := Lcl.start w
  refine W_seqr ?_
  refine S_pu 1 rfl ?_
  refine S_seqnil ?_
  refine W_seqr ?_
  refine S_pu 3 rfl ?_
  refine S_callL rfl rfl hL (explain_l _ _ (gz_le hH hL) (h0_0.mono (gz_left hH)) (h2_0.mono (gz_left hH))) ?_
  rintro _ w1 ⟨u1_0, rfl, hR1_0⟩ hx1 hL1 hle1
  have hv1_0 := hR1_0.vecG hH hL hx1
  refine S_pu 3 rfl ?_
  refine S_alloc zr25 rfl rfl hL1 ?_
  intro w2 b2 hL2 hle2 _
  replace hv1_0 := hv1_0.mono (gz_mono hH hle2)
  refine S_pu 1 rfl ?_
  refine S_storeBN 0 rfl rfl rfl zr25 hL2 rfl rfl (onc rfl (onc rfl on0)) ?_
  intro w3 hL3 hle3
  replace hv1_0 := hv1_0.mono (gz_mono hH hle3)
  refine S_seqnil ?_
  refine W_seqr ?_
  refine S_pu 1 rfl ?_
  obtain ⟨x4, hb4, h⟩ := Go.L.bind_some h
  refine S_callL rfl rfl hL3 (ref4_SharesFault_ok _ _ (gz_le hH hL3) (h0_0.mono (gz_left hH)) hb4) ?_
  rintro _ w5 rfl hx5 hL5 hle5
  replace hv1_0 := hv1_0.mono (gz_mono hH hle5)
  refine S_pu 1 rfl ?_
  refine S_callL rfl rfl hL5 (range_l _ _ (gz_le hH hL5) ) ?_
  rintro _ w6 rfl hx6 hL6 hle6
  replace hv1_0 := hv1_0.mono (gz_mono hH hle6)
  refine S_alloc zr25 rfl rfl hL6 ?_
  intro w7 b7 hL7 hle7 _
  replace hv1_0 := hv1_0.mono (gz_mono hH hle7)
  refine S_storeBN 0 rfl rfl rfl zr25 hL7 rfl rfl (onc rfl (onc rfl on0)) ?_
  intro w8 hL8 hle8
  replace hv1_0 := hv1_0.mono (gz_mono hH hle8)
  refine S_seqnil ?_
  refine W_cut (σ := Int × Int) (fun (⟨c19, c20⟩ : Int × Int) => [(0, v0_0), (1, .int .i64 a1), (2, v2_0), (7, u1_0), (8, .pointer (some ⟨b2, 0, none⟩)), (9, .pointer (some ⟨b7, 0, none⟩))]) (fun (⟨c19, c20⟩ : Int × Int) wr => Lcl w [.box b7 [.int .i64 c19, .int .i64 c20] 25, .box b2 [.int .i64 (((M.exF a0 a1 a2)).1), .int .i64 (((M.exF a0 a1 a2)).2)] 25] wr ∧ Vec .byte (gz H w wr [.box b7 [.int .i64 c19, .int .i64 c20] 25, .box b2 [.int .i64 (((M.exF a0 a1 a2)).1), .int .i64 (((M.exF a0 a1 a2)).2)] 25]) (u1_0) ((M.exA a0 a1 a2)) ∧ (law4_SharesExplainMatchesSpec_k1 a0 a1 a2) c19 c20 = some r) ?_ ?_
  · refine W_seqr ?_
    refine S_v (r_field rfl Try.underlying25 rfl zr3 (by decide)) rfl ?_
    refine S_v (r_loadB1 0 rfl Try.underlying3 rfl hL8 rfl rfl) rfl ?_
    refine S_pu 2 rfl ?_
    refine S_split (s := 27) rfl (fun hg23 => ?_) (fun hg23 => ?_)
    · replace h := Go.L.ite_p (of_decide_eq_true hg23) h
      refine S_guarded rfl rfl hg23 ?_
      refine S_v (RunsAt_pu rfl) rfl ?_
      refine S_guarded rfl rfl hg23 ?_
      refine S_v (r_len rfl Try.underlying23 h0_0) rfl ?_
      refine S_guarded rfl rfl hg23 ?_
      refine S_v (RunsAt_pu rfl) rfl ?_
      refine S_guarded rfl rfl hg23 ?_
      obtain ⟨hk25, h⟩ := Go.L.chk_some h
      refine S_v (r_ar64 rfl rfl rfl hk25) rfl ?_
      refine S_guarded rfl rfl hg23 ?_
      refine S_v (RunsAt_pu rfl) rfl ?_
      refine S_v (r_pickT rfl hg23 rfl) rfl ?_
      refine S_seqnil ?_
      refine W_ifn rfl (fun hc26 => ?_) (fun hc26 => ?_)
      · replace h := Go.L.ite_n hc26 h
        refine W_region ?_
        refine S_callL rfl rfl hL8 (rat_l _ _ (gz_le hH hL8) ) ?_
        rintro _ w28 rfl hx28 hL28 hle28
        replace hv1_0 := hv1_0.mono (gz_mono hH hle28)
        refine S_storeBN 0 rfl rfl rfl zr25 hL28 rfl rfl (onc rfl (onc rfl on0)) ?_
        intro w29 hL29 hle29
        replace hv1_0 := hv1_0.mono (gz_mono hH hle29)
        refine S_nil ?_
        refine At_cut ((((9 : Int), (-1 : Int))).1, (((9 : Int), (-1 : Int))).2) (.cons rfl (.cons rfl (.cons rfl (.cons rfl (.cons rfl (.cons rfl (Sub.nil _))))))) ⟨hL29, hv1_0, h⟩
      · replace h := Go.L.ite_p hc26 h
        refine W_skip ?_
        refine At_cut (((M.rgF (x4.1, x4.2) a1 (1 : Int) (10 : Int) (-2 : Int))).1, ((M.rgF (x4.1, x4.2) a1 (1 : Int) (10 : Int) (-2 : Int))).2) (.cons rfl (.cons rfl (.cons rfl (.cons rfl (.cons rfl (.cons rfl (Sub.nil _))))))) ⟨hL8, hv1_0, h⟩
    · replace h := Go.L.ite_n (of_decide_eq_false hg23) h
      refine S_unwanted rfl rfl hg23 rfl ?_
      refine S_unwanted rfl rfl hg23 rfl ?_
      refine S_unwanted rfl rfl hg23 rfl ?_
      refine S_unwanted rfl rfl hg23 rfl ?_
      refine S_unwanted rfl rfl hg23 rfl ?_
      refine S_v (r_pickF rfl hg23 rfl) rfl ?_
      refine S_seqnil ?_
      refine W_false rfl ?_
      refine W_skip ?_
      refine At_cut (((M.rgF (x4.1, x4.2) a1 (1 : Int) (10 : Int) (-2 : Int))).1, ((M.rgF (x4.1, x4.2) a1 (1 : Int) (10 : Int) (-2 : Int))).2) (.cons rfl (.cons rfl (.cons rfl (.cons rfl (.cons rfl (.cons rfl (Sub.nil _))))))) ⟨hL8, hv1_0, h⟩
  · rintro ⟨c19, c20⟩ wr21 ⟨hL21, hf21_0, h⟩
    refine W_cut (σ := Int × Int) (fun (⟨c42, c43⟩ : Int × Int) => [(0, v0_0), (1, .int .i64 a1), (2, v2_0), (7, u1_0), (8, .pointer (some ⟨b2, 0, none⟩)), (9, .pointer (some ⟨b7, 0, none⟩))]) (fun (⟨c42, c43⟩ : Int × Int) wr => Lcl w [.box b7 [.int .i64 c42, .int .i64 c43] 25, .box b2 [.int .i64 (((M.exF a0 a1 a2)).1), .int .i64 (((M.exF a0 a1 a2)).2)] 25] wr ∧ Vec .byte (gz H w wr [.box b7 [.int .i64 c42, .int .i64 c43] 25, .box b2 [.int .i64 (((M.exF a0 a1 a2)).1), .int .i64 (((M.exF a0 a1 a2)).2)] 25]) (u1_0) ((M.exA a0 a1 a2)) ∧ (law4_SharesExplainMatchesSpec_k2 a0 a1 a2) c42 c43 = some r) ?_ ?_
    · refine W_seqr ?_
      refine S_v (r_field rfl Try.underlying25 rfl zr3 (by decide)) rfl ?_
      refine S_v (r_loadB1 0 rfl Try.underlying3 rfl hL21 rfl rfl) rfl ?_
      refine S_pu 2 rfl ?_
      refine S_split (s := 38) rfl (fun hg46 => ?_) (fun hg46 => ?_)
      · replace h := Go.L.ite_p (of_decide_eq_true hg46) h
        refine S_guarded rfl rfl hg46 ?_
        refine S_v (RunsAt_pu rfl) rfl ?_
        refine S_guarded rfl rfl hg46 ?_
        refine S_v (r_len rfl Try.underlying22 h2_0) rfl ?_
        refine S_guarded rfl rfl hg46 ?_
        refine S_v (RunsAt_pu rfl) rfl ?_
        refine S_v (r_pickT rfl hg46 rfl) rfl ?_
        refine S_seqnil ?_
        refine W_if rfl (fun hc48 => ?_) (fun hc48 => ?_)
        · replace h := Go.L.ite_p hc48 h
          refine W_region ?_
          refine S_callL rfl rfl hL21 (rat_l _ _ (gz_le hH hL21) ) ?_
          rintro _ w50 rfl hx50 hL50 hle50
          replace hf21_0 := hf21_0.mono (gz_mono hH hle50)
          refine S_storeBN 0 rfl rfl rfl zr25 hL50 rfl rfl (onc rfl (onc rfl on0)) ?_
          intro w51 hL51 hle51
          replace hf21_0 := hf21_0.mono (gz_mono hH hle51)
          refine S_nil ?_
          refine At_cut ((((3 : Int), (-3 : Int))).1, (((3 : Int), (-3 : Int))).2) (.cons rfl (.cons rfl (.cons rfl (.cons rfl (.cons rfl (.cons rfl (Sub.nil _))))))) ⟨hL51, hf21_0, h⟩
        · replace h := Go.L.ite_n hc48 h
          refine W_skip ?_
          refine At_cut (c19, c20) (.cons rfl (.cons rfl (.cons rfl (.cons rfl (.cons rfl (.cons rfl (Sub.nil _))))))) ⟨hL21, hf21_0, h⟩
      · replace h := Go.L.ite_n (of_decide_eq_false hg46) h
        refine S_unwanted rfl rfl hg46 rfl ?_
        refine S_unwanted rfl rfl hg46 rfl ?_
        refine S_unwanted rfl rfl hg46 rfl ?_
        refine S_v (r_pickF rfl hg46 rfl) rfl ?_
        refine S_seqnil ?_
        refine W_false rfl ?_
        refine W_skip ?_
        refine At_cut (c19, c20) (.cons rfl (.cons rfl (.cons rfl (.cons rfl (.cons rfl (.cons rfl (Sub.nil _))))))) ⟨hL21, hf21_0, h⟩
    · rintro ⟨c42, c43⟩ wr44 ⟨hL44, hf44_0, h⟩
      refine W_cut (σ := Int × Int) (fun (⟨c70, c71⟩ : Int × Int) => [(0, v0_0), (1, .int .i64 a1), (2, v2_0), (7, u1_0), (8, .pointer (some ⟨b2, 0, none⟩)), (9, .pointer (some ⟨b7, 0, none⟩))]) (fun (⟨c70, c71⟩ : Int × Int) wr => Lcl w [.box b7 [.int .i64 c70, .int .i64 c71] 25, .box b2 [.int .i64 (((M.exF a0 a1 a2)).1), .int .i64 (((M.exF a0 a1 a2)).2)] 25] wr ∧ Vec .byte (gz H w wr [.box b7 [.int .i64 c70, .int .i64 c71] 25, .box b2 [.int .i64 (((M.exF a0 a1 a2)).1), .int .i64 (((M.exF a0 a1 a2)).2)] 25]) (u1_0) ((M.exA a0 a1 a2)) ∧ (law4_SharesExplainMatchesSpec_k3 a0 a1 a2) c70 c71 = some r) ?_ ?_
      · refine W_seqr ?_
        refine S_v (r_field rfl Try.underlying25 rfl zr3 (by decide)) rfl ?_
        refine S_v (r_loadB1 0 rfl Try.underlying3 rfl hL44 rfl rfl) rfl ?_
        refine S_pu 2 rfl ?_
        refine S_split (s := 47) rfl (fun hg74 => ?_) (fun hg74 => ?_)
        · replace h := Go.L.ite_p (of_decide_eq_true hg74) h
          refine S_guarded rfl rfl hg74 ?_
          refine S_v (RunsAt_pu rfl) rfl ?_
          refine S_guarded rfl rfl hg74 ?_
          refine S_v (r_len rfl Try.underlying23 h0_0) rfl ?_
          refine S_guarded rfl rfl hg74 ?_
          refine S_v (RunsAt_pu rfl) rfl ?_
          refine S_v (r_pickT rfl hg74 rfl) rfl ?_
          refine S_pu 1 rfl ?_
          refine S_split (s := 52) rfl (fun hg76 => ?_) (fun hg76 => ?_)
          · replace h := Go.L.ite_p (of_decide_eq_true hg76) h
            refine S_guarded rfl rfl hg76 ?_
            refine S_v (RunsAt_pu rfl) rfl ?_
            refine S_guarded rfl rfl hg76 ?_
            refine S_v (r_len rfl Try.underlying22 h2_0) rfl ?_
            refine S_guarded rfl rfl hg76 ?_
            refine S_v (RunsAt_pu rfl) rfl ?_
            refine S_guarded rfl rfl hg76 ?_
            obtain ⟨hk79, h⟩ := Go.L.chk_some h
            refine S_index rfl rfl Try.underlying23 zr32 h0_0 ((0 : Int).toNat) (Int.toNat_of_nonneg hk79.1).symm (idx_lt hk79) rfl ?_
            rintro p78 _ ⟨_, _, rfl, rfl, ⟨e78v1, rfl, e78h1⟩⟩ hp78
            refine S_guarded rfl rfl hg76 ?_
            refine S_v (r_field rfl Try.underlying32 rfl zr22 (by decide)) rfl ?_
            have hp80 := hp78.add 1
            refine S_guarded rfl rfl hg76 ?_
            refine S_v (r_load1 rfl Try.underlying22 rfl hp80 (hH.trans hL44.arg)) rfl ?_
            refine S_guarded rfl rfl hg76 ?_
            refine S_v (r_len rfl Try.underlying22 e78h1) rfl ?_
            refine S_guarded rfl rfl hg76 ?_
            refine S_v (RunsAt_pu rfl) rfl ?_
            refine S_v (r_pickT rfl hg76 rfl) rfl ?_
            refine S_seqnil ?_
            refine W_ifn rfl (fun hc81 => ?_) (fun hc81 => ?_)
            · replace h := Go.L.ite_n hc81 h
              refine W_region ?_
              refine S_callL rfl rfl hL44 (rat_l _ _ (gz_le hH hL44) ) ?_
              rintro _ w83 rfl hx83 hL83 hle83
              replace hf44_0 := hf44_0.mono (gz_mono hH hle83)
              refine S_storeBN 0 rfl rfl rfl zr25 hL83 rfl rfl (onc rfl (onc rfl on0)) ?_
              intro w84 hL84 hle84
              replace hf44_0 := hf44_0.mono (gz_mono hH hle84)
              refine S_nil ?_
              refine At_cut ((((9 : Int), (-3 : Int))).1, (((9 : Int), (-3 : Int))).2) (.cons rfl (.cons rfl (.cons rfl (.cons rfl (.cons rfl (.cons rfl (Sub.nil _))))))) ⟨hL84, hf44_0, h⟩
            · replace h := Go.L.ite_p hc81 h
              refine W_skip ?_
              refine At_cut (c42, c43) (.cons rfl (.cons rfl (.cons rfl (.cons rfl (.cons rfl (.cons rfl (Sub.nil _))))))) ⟨hL44, hf44_0, h⟩
          · replace h := Go.L.ite_n (of_decide_eq_false hg76) h
            refine S_unwanted rfl rfl hg76 rfl ?_
            refine S_unwanted rfl rfl hg76 rfl ?_
            refine S_unwanted rfl rfl hg76 rfl ?_
            refine S_unwanted rfl rfl hg76 rfl ?_
            refine S_unwanted rfl rfl hg76 rfl ?_
            refine S_unwanted rfl rfl hg76 rfl ?_
            refine S_unwanted rfl rfl hg76 rfl ?_
            refine S_unwanted rfl rfl hg76 rfl ?_
            refine S_v (r_pickF rfl hg76 rfl) rfl ?_
            refine S_seqnil ?_
            refine W_false rfl ?_
            refine W_skip ?_
            refine At_cut (c42, c43) (.cons rfl (.cons rfl (.cons rfl (.cons rfl (.cons rfl (.cons rfl (Sub.nil _))))))) ⟨hL44, hf44_0, h⟩
        · replace h := Go.L.ite_n (of_decide_eq_false hg74) h
          refine S_unwanted rfl rfl hg74 rfl ?_
          refine S_unwanted rfl rfl hg74 rfl ?_
          refine S_unwanted rfl rfl hg74 rfl ?_
          refine S_v (r_pickF rfl hg74 rfl) rfl ?_
          refine S_pu 1 rfl ?_
          refine S_unwanted rfl rfl rfl rfl ?_
          refine S_unwanted rfl rfl rfl rfl ?_
          refine S_unwanted rfl rfl rfl rfl ?_
          refine S_unwanted rfl rfl rfl rfl ?_
          refine S_unwanted rfl rfl rfl rfl ?_
          refine S_unwanted rfl rfl rfl rfl ?_
          refine S_unwanted rfl rfl rfl rfl ?_
          refine S_unwanted rfl rfl rfl rfl ?_
          refine S_v (r_pickF rfl rfl rfl) rfl ?_
          refine S_seqnil ?_
          refine W_false rfl ?_
          refine W_skip ?_
          refine At_cut (c42, c43) (.cons rfl (.cons rfl (.cons rfl (.cons rfl (.cons rfl (.cons rfl (Sub.nil _))))))) ⟨hL44, hf44_0, h⟩
      · rintro ⟨c70, c71⟩ wr72 ⟨hL72, hf72_0, h⟩
        refine W_seq ?_
        refine W_seqr ?_
        refine S_callL rfl rfl hL72 (opens_l _ _ (gz_le hH hL72) ) ?_
        rintro _ w89 rfl hx89 hL89 hle89
        replace hf72_0 := hf72_0.mono (gz_mono hH hle89)
        refine S_pu 2 rfl ?_
        refine S_split (s := 65) rfl (fun hg90 => ?_) (fun hg90 => ?_)
        · replace h := Go.L.ite_t hg90 h
          refine S_unwanted rfl rfl hg90 rfl ?_
          refine S_unwanted rfl rfl hg90 rfl ?_
          refine S_unwanted rfl rfl hg90 rfl ?_
          refine S_v (r_pickT rfl hg90 rfl) rfl ?_
          refine S_pu 1 rfl ?_
          refine S_unwanted rfl rfl rfl rfl ?_
          refine S_unwanted rfl rfl rfl rfl ?_
          refine S_unwanted rfl rfl rfl rfl ?_
          refine S_v (r_pickT rfl rfl rfl) rfl ?_
          refine S_seqnil ?_
          refine W_true rfl ?_
          refine W_seqr ?_
          refine S_callL rfl rfl hL89 (opens_l _ _ (gz_le hH hL89) ) ?_
          rintro _ w92 rfl hx92 hL92 hle92
          replace hf72_0 := hf72_0.mono (gz_mono hH hle92)
          refine S_pu 1 rfl ?_
          refine S_split (s := 76) rfl (fun hg93 => ?_) (fun hg93 => ?_)
          · replace h := Go.L.ite_t hg93 h
            refine S_guarded rfl rfl hg93 ?_
            refine S_v (r_loadBN 1 rfl Try.underlying25 rfl zr25 hL92 rfl) rfl ?_
            refine S_guarded rfl rfl hg93 ?_
            refine S_v (r_loadBN 0 rfl Try.underlying25 rfl zr25 hL92 rfl) rfl ?_
            refine S_guarded rfl rfl hg93 ?_
            refine S_v (r_eqA rfl rfl eqg25 (eq25 _ _ _ _ )) rfl ?_
            refine S_v (r_pickT rfl hg93 rfl) rfl ?_
            refine S_pu 1 rfl ?_
            refine S_split (s := 81) rfl (fun hg95 => ?_) (fun hg95 => ?_)
            · replace h := Go.L.ite_p (of_decide_eq_true hg95) h
              refine S_guarded rfl rfl hg95 ?_
              refine S_v (RunsAt_pu rfl) rfl ?_
              refine S_guarded rfl rfl hg95 ?_
              refine S_v (r_len rfl Try.underlying22 hf72_0) rfl ?_
              refine S_guarded rfl rfl hg95 ?_
              refine S_v (RunsAt_pu rfl) rfl ?_
              refine S_v (r_pickT rfl hg95 rfl) rfl ?_
              refine S_pu 1 rfl ?_
              refine S_seqnil ?_
              refine W_ret ?_
              refine At_seq_ret ?_
              obtain rfl := Option.some.inj h
              refine At_body rfl rfl ?_
              exact ⟨hL92.ext, rfl⟩
            · replace h := Go.L.ite_n (of_decide_eq_false hg95) h
              refine S_unwanted rfl rfl hg95 rfl ?_
              refine S_unwanted rfl rfl hg95 rfl ?_
              refine S_unwanted rfl rfl hg95 rfl ?_
              refine S_v (r_pickF rfl hg95 rfl) rfl ?_
              refine S_pu 1 rfl ?_
              refine S_seqnil ?_
              refine W_ret ?_
              refine At_seq_ret ?_
              obtain rfl := Option.some.inj h
              refine At_body rfl rfl ?_
              exact ⟨hL92.ext, rfl⟩
          · replace h := Go.L.ite_f hg93 h
            refine S_unwanted rfl rfl hg93 rfl ?_
            refine S_unwanted rfl rfl hg93 rfl ?_
            refine S_unwanted rfl rfl hg93 rfl ?_
            refine S_v (r_pickF rfl hg93 rfl) rfl ?_
            refine S_pu 1 rfl ?_
            refine S_unwanted rfl rfl rfl rfl ?_
            refine S_unwanted rfl rfl rfl rfl ?_
            refine S_unwanted rfl rfl rfl rfl ?_
            refine S_v (r_pickF rfl rfl rfl) rfl ?_
            refine S_pu 1 rfl ?_
            refine S_seqnil ?_
            refine W_ret ?_
            refine At_seq_ret ?_
            obtain rfl := Option.some.inj h
            refine At_body rfl rfl ?_
            exact ⟨hL92.ext, rfl⟩
        · replace h := Go.L.ite_f hg90 h
          refine S_guarded rfl rfl hg90 ?_
          refine S_v (r_loadBN 1 rfl Try.underlying25 rfl zr25 hL89 rfl) rfl ?_
          refine S_guarded rfl rfl hg90 ?_
          refine S_v (r_loadBN 0 rfl Try.underlying25 rfl zr25 hL89 rfl) rfl ?_
          refine S_guarded rfl rfl hg90 ?_
          refine S_v (r_neA rfl rfl eqg25 (eq25 _ _ _ _ )) rfl ?_
          refine S_v (r_pickF rfl hg90 rfl) rfl ?_
          refine S_pu 1 rfl ?_
          refine S_split (s := 70) rfl (fun hg100 => ?_) (fun hg100 => ?_)
          · replace h := Go.L.ite_n (not_dec_t hg100) h
            refine S_unwanted rfl rfl hg100 rfl ?_
            refine S_unwanted rfl rfl hg100 rfl ?_
            refine S_unwanted rfl rfl hg100 rfl ?_
            refine S_v (r_pickT rfl hg100 rfl) rfl ?_
            refine S_seqnil ?_
            refine W_true rfl ?_
            refine W_seqr ?_
            refine S_callL rfl rfl hL89 (opens_l _ _ (gz_le hH hL89) ) ?_
            rintro _ w102 rfl hx102 hL102 hle102
            replace hf72_0 := hf72_0.mono (gz_mono hH hle102)
            refine S_pu 1 rfl ?_
            refine S_split (s := 76) rfl (fun hg103 => ?_) (fun hg103 => ?_)
            · replace h := Go.L.ite_t hg103 h
              refine S_guarded rfl rfl hg103 ?_
              refine S_v (r_loadBN 1 rfl Try.underlying25 rfl zr25 hL102 rfl) rfl ?_
              refine S_guarded rfl rfl hg103 ?_
              refine S_v (r_loadBN 0 rfl Try.underlying25 rfl zr25 hL102 rfl) rfl ?_
              refine S_guarded rfl rfl hg103 ?_
              refine S_v (r_eqA rfl rfl eqg25 (eq25 _ _ _ _ )) rfl ?_
              refine S_v (r_pickT rfl hg103 rfl) rfl ?_
              refine S_pu 1 rfl ?_
              refine S_split (s := 81) rfl (fun hg105 => ?_) (fun hg105 => ?_)
              · replace h := Go.L.ite_p (of_decide_eq_true hg105) h
                refine S_guarded rfl rfl hg105 ?_
                refine S_v (RunsAt_pu rfl) rfl ?_
                refine S_guarded rfl rfl hg105 ?_
                refine S_v (r_len rfl Try.underlying22 hf72_0) rfl ?_
                refine S_guarded rfl rfl hg105 ?_
                refine S_v (RunsAt_pu rfl) rfl ?_
                refine S_v (r_pickT rfl hg105 rfl) rfl ?_
                refine S_pu 1 rfl ?_
                refine S_seqnil ?_
                refine W_ret ?_
                refine At_seq_ret ?_
                obtain rfl := Option.some.inj h
                refine At_body rfl rfl ?_
                exact ⟨hL102.ext, rfl⟩
              · replace h := Go.L.ite_n (of_decide_eq_false hg105) h
                refine S_unwanted rfl rfl hg105 rfl ?_
                refine S_unwanted rfl rfl hg105 rfl ?_
                refine S_unwanted rfl rfl hg105 rfl ?_
                refine S_v (r_pickF rfl hg105 rfl) rfl ?_
                refine S_pu 1 rfl ?_
                refine S_seqnil ?_
                refine W_ret ?_
                refine At_seq_ret ?_
                obtain rfl := Option.some.inj h
                refine At_body rfl rfl ?_
                exact ⟨hL102.ext, rfl⟩
            · replace h := Go.L.ite_f hg103 h
              refine S_unwanted rfl rfl hg103 rfl ?_
              refine S_unwanted rfl rfl hg103 rfl ?_
              refine S_unwanted rfl rfl hg103 rfl ?_
              refine S_v (r_pickF rfl hg103 rfl) rfl ?_
              refine S_pu 1 rfl ?_
              refine S_unwanted rfl rfl rfl rfl ?_
              refine S_unwanted rfl rfl rfl rfl ?_
              refine S_unwanted rfl rfl rfl rfl ?_
              refine S_v (r_pickF rfl rfl rfl) rfl ?_
              refine S_pu 1 rfl ?_
              refine S_seqnil ?_
              refine W_ret ?_
              refine At_seq_ret ?_
              obtain rfl := Option.some.inj h
              refine At_body rfl rfl ?_
              exact ⟨hL102.ext, rfl⟩
          · replace h := Go.L.ite_p (not_dec_f hg100) h
            refine S_guarded rfl rfl hg100 ?_
            refine S_v (r_field rfl Try.underlying25 rfl zr3 (by decide)) rfl ?_
            refine S_guarded rfl rfl hg100 ?_
            refine S_v (r_loadB1 0 rfl Try.underlying3 rfl hL89 rfl rfl) rfl ?_
            refine S_guarded rfl rfl hg100 ?_
            refine S_v (RunsAt_pu rfl) rfl ?_
            refine S_v (r_pickF rfl hg100 rfl) rfl ?_
            refine S_seqnil ?_
            refine W_ifn rfl (fun hc110 => ?_) (fun hc110 => ?_)
            · replace h := Go.L.ite_n hc110 h
              refine W_seqr ?_
              refine S_callL rfl rfl hL89 (opens_l _ _ (gz_le hH hL89) ) ?_
              rintro _ w112 rfl hx112 hL112 hle112
              replace hf72_0 := hf72_0.mono (gz_mono hH hle112)
              refine S_pu 1 rfl ?_
              refine S_split (s := 76) rfl (fun hg113 => ?_) (fun hg113 => ?_)
              · replace h := Go.L.ite_t hg113 h
                refine S_guarded rfl rfl hg113 ?_
                refine S_v (r_loadBN 1 rfl Try.underlying25 rfl zr25 hL112 rfl) rfl ?_
                refine S_guarded rfl rfl hg113 ?_
                refine S_v (r_loadBN 0 rfl Try.underlying25 rfl zr25 hL112 rfl) rfl ?_
                refine S_guarded rfl rfl hg113 ?_
                refine S_v (r_eqA rfl rfl eqg25 (eq25 _ _ _ _ )) rfl ?_
                refine S_v (r_pickT rfl hg113 rfl) rfl ?_
                refine S_pu 1 rfl ?_
                refine S_split (s := 81) rfl (fun hg115 => ?_) (fun hg115 => ?_)
                · replace h := Go.L.ite_p (of_decide_eq_true hg115) h
                  refine S_guarded rfl rfl hg115 ?_
                  refine S_v (RunsAt_pu rfl) rfl ?_
                  refine S_guarded rfl rfl hg115 ?_
                  refine S_v (r_len rfl Try.underlying22 hf72_0) rfl ?_
                  refine S_guarded rfl rfl hg115 ?_
                  refine S_v (RunsAt_pu rfl) rfl ?_
                  refine S_v (r_pickT rfl hg115 rfl) rfl ?_
                  refine S_pu 1 rfl ?_
                  refine S_seqnil ?_
                  refine W_ret ?_
                  refine At_seq_ret ?_
                  obtain rfl := Option.some.inj h
                  refine At_body rfl rfl ?_
                  exact ⟨hL112.ext, rfl⟩
                · replace h := Go.L.ite_n (of_decide_eq_false hg115) h
                  refine S_unwanted rfl rfl hg115 rfl ?_
                  refine S_unwanted rfl rfl hg115 rfl ?_
                  refine S_unwanted rfl rfl hg115 rfl ?_
                  refine S_v (r_pickF rfl hg115 rfl) rfl ?_
                  refine S_pu 1 rfl ?_
                  refine S_seqnil ?_
                  refine W_ret ?_
                  refine At_seq_ret ?_
                  obtain rfl := Option.some.inj h
                  refine At_body rfl rfl ?_
                  exact ⟨hL112.ext, rfl⟩
              · replace h := Go.L.ite_f hg113 h
                refine S_unwanted rfl rfl hg113 rfl ?_
                refine S_unwanted rfl rfl hg113 rfl ?_
                refine S_unwanted rfl rfl hg113 rfl ?_
                refine S_v (r_pickF rfl hg113 rfl) rfl ?_
                refine S_pu 1 rfl ?_
                refine S_unwanted rfl rfl rfl rfl ?_
                refine S_unwanted rfl rfl rfl rfl ?_
                refine S_unwanted rfl rfl rfl rfl ?_
                refine S_v (r_pickF rfl rfl rfl) rfl ?_
                refine S_pu 1 rfl ?_
                refine S_seqnil ?_
                refine W_ret ?_
                refine At_seq_ret ?_
                obtain rfl := Option.some.inj h
                refine At_body rfl rfl ?_
                exact ⟨hL112.ext, rfl⟩
            · replace h := Go.L.ite_p hc110 h
              refine W_skip ?_
              refine At_seq ?_
              refine W_seqr ?_
              refine S_pu 3 rfl ?_
              refine S_callL rfl rfl hL89 (split_l _ _ (gz_le hH hL89) (h2_0.mono (gz_left hH)) hf72_0) ?_
              rintro _ w120 ⟨u120_0, rfl, hR120_0⟩ hx120 hL120 hle120
              have hv120_0 := hR120_0.vecG hH hL89 hx120
              replace hf72_0 := hf72_0.mono (gz_mono hH hle120)
              refine S_pu 3 rfl ?_
              refine S_alloc zr25 rfl rfl hL120 ?_
              intro w121 b121 hL121 hle121 _
              replace hf72_0 := hf72_0.mono (gz_mono hH hle121)
              replace hv120_0 := hv120_0.mono (gz_mono hH hle121)
              refine S_pu 1 rfl ?_
              refine S_storeBN 0 rfl rfl rfl zr25 hL121 rfl rfl (onc rfl (onc rfl on0)) ?_
              intro w122 hL122 hle122
              replace hf72_0 := hf72_0.mono (gz_mono hH hle122)
              replace hv120_0 := hv120_0.mono (gz_mono hH hle122)
              refine S_seqnil ?_
              refine W_seq ?_
              refine W_seqr ?_
              refine S_v (r_field rfl Try.underlying25 rfl zr3 (by decide)) rfl ?_
              refine S_v (r_loadB1 0 rfl Try.underlying3 rfl hL122 rfl rfl) rfl ?_
              refine S_pu 2 rfl ?_
              refine S_split (s := 96) rfl (fun hg123 => ?_) (fun hg123 => ?_)
              · replace h := Go.L.ite_n (not_dec_t hg123) h
                refine S_unwanted rfl rfl hg123 rfl ?_
                refine S_unwanted rfl rfl hg123 rfl ?_
                refine S_unwanted rfl rfl hg123 rfl ?_
                refine S_v (r_pickT rfl hg123 rfl) rfl ?_
                refine S_seqnil ?_
                refine W_true rfl ?_
                refine W_seqr ?_
                refine S_pu 1 rfl ?_
                refine S_seqnil ?_
                refine W_ret ?_
                refine At_seq_ret ?_
                obtain rfl := Option.some.inj h
                refine At_body rfl rfl ?_
                exact ⟨hL122.ext, rfl⟩
              · replace h := Go.L.ite_p (not_dec_f hg123) h
                refine S_guarded rfl rfl hg123 ?_
                refine S_v (RunsAt_pu rfl) rfl ?_
                refine S_guarded rfl rfl hg123 ?_
                refine S_v (r_len rfl Try.underlying23 hv120_0) rfl ?_
                refine S_guarded rfl rfl hg123 ?_
                refine S_v (RunsAt_pu rfl) rfl ?_
                refine S_v (r_pickF rfl hg123 rfl) rfl ?_
                refine S_seqnil ?_
                refine W_ifn rfl (fun hc126 => ?_) (fun hc126 => ?_)
                · replace h := Go.L.ite_n hc126 h
                  refine W_seqr ?_
                  refine S_pu 1 rfl ?_
                  refine S_seqnil ?_
                  refine W_ret ?_
                  refine At_seq_ret ?_
                  obtain rfl := Option.some.inj h
                  refine At_body rfl rfl ?_
                  exact ⟨hL122.ext, rfl⟩
                · replace h := Go.L.ite_p hc126 h
                  refine W_skip ?_
                  refine At_seq ?_
                  refine W_cut (σ := Unit) (fun (_ : Unit) => []) (fun (_ : Unit) wr => Lcl w [.box b121 [.int .i64 (((M.spF a2 a1 (10 : Int) (M.exA a0 a1 a2))).1), .int .i64 (((M.spF a2 a1 (10 : Int) (M.exA a0 a1 a2))).2)] 25, .box b7 [.int .i64 c70, .int .i64 c71] 25, .box b2 [.int .i64 (((M.exF a0 a1 a2)).1), .int .i64 (((M.exF a0 a1 a2)).2)] 25] wr ∧ law4_SharesExplainMatchesSpec_k4 = some r) ?_ ?_
                  · refine W_seqr ?_
                    refine S_pu 1 rfl ?_
                    refine S_seqnil ?_
                    refine W_block ?_
                    obtain ⟨n184, h⟩ := Go.L.run_some h
                    refine W_loop (σ := Int × Nat) (fun (⟨s12_183, n⟩ : Int × Nat) => [(0, v0_0), (10, u120_0), (12, .int .i64 s12_183)]) (fun (⟨s12_183, n⟩ : Int × Nat) wr => Lcl w [.box b121 [.int .i64 (((M.spF a2 a1 (10 : Int) (M.exA a0 a1 a2))).1), .int .i64 (((M.spF a2 a1 (10 : Int) (M.exA a0 a1 a2))).2)] 25, .box b7 [.int .i64 c70, .int .i64 c71] 25, .box b2 [.int .i64 (((M.exF a0 a1 a2)).1), .int .i64 (((M.exF a0 a1 a2)).2)] 25] wr ∧ Vec (.pair (.int .i64) (.vec .byte)) (gz H w wr [.box b121 [.int .i64 (((M.spF a2 a1 (10 : Int) (M.exA a0 a1 a2))).1), .int .i64 (((M.spF a2 a1 (10 : Int) (M.exA a0 a1 a2))).2)] 25, .box b7 [.int .i64 c70, .int .i64 c71] 25, .box b2 [.int .i64 (((M.exF a0 a1 a2)).1), .int .i64 (((M.exF a0 a1 a2)).2)] 25]) (u120_0) ((M.spA a2 a1 (10 : Int) (M.exA a0 a1 a2))) ∧ Go.L.itr (law4_SharesExplainMatchesSpec_bl5 a0 a1 a2) n s12_183 = some r) (fun (⟨s12_183, n⟩ : Int × Nat) => n) ((0 : Int), n184) (.cons rfl (.cons rfl (.cons rfl (Sub.nil _)))) ⟨hL122, hv120_0, h⟩ ?_
                    rintro ⟨s12_183, nn184⟩ wr184 ⟨hL184, hf184_0, h⟩
                    obtain ⟨n184, e184, rfl, h, hm184⟩ := Go.L.itr_some h
                    refine W_seq ?_
                    refine W_seqr ?_
                    refine S_pu 2 rfl ?_
                    refine S_v (r_len rfl Try.underlying23 h0_0) rfl ?_
                    refine S_pu 1 rfl ?_
                    refine S_seqnil ?_
                    refine W_if rfl (fun hc186 => ?_) (fun hc186 => ?_)
                    · replace h := Go.L.ite_p hc186 h
                      refine W_skip ?_
                      refine At_seq ?_
                      refine W_seq ?_
                      refine W_block ?_
                      refine W_seqd (.q 0 (.q 1 (.q 2 (.q 3 (.q 4 (.q 5 (.q 6 (.q 7 (.q 8 (.q 9 (.q 10 (.q 11 (.q 12 (.q 13 (.q 14 (.q 15 (.q 16 (.q 17 (.q 18 (.q 19 (.tail 20))))))))))))))))))))) mixed (by kernel_rfl) (fun w188 hx188 => ?_)
                      have hL189 := hL184.call hx188
                      have hle189 := fz_ext hL184 hx188
                      replace hf184_0 := hf184_0.mono (gz_mono hH hle189)
                      refine D_pu 3 rfl ?_
                      obtain ⟨hk191, h⟩ := Go.L.chk_some h
                      refine D_index rfl rfl rfl Try.underlying23 zr32 h0_0 s12_183.toNat (Int.toNat_of_nonneg hk191.1).symm (idx_lt hk191) rfl ?_
                      rintro p190 _ ⟨_, _, rfl, rfl, ⟨e190v1, rfl, e190h1⟩⟩ hp190
                      refine D_v (r_field rfl Try.underlying32 rfl zr3 (by decide)) rfl rfl ?_
                      have hp192 := hp190.add 0
                      refine D_v (r_load1 rfl Try.underlying3 rfl hp192 (hH.trans hL189.arg)) rfl rfl ?_
                      obtain ⟨hk193, h⟩ := Go.L.chk_some h
                      refine D_v (r_ar64 rfl rfl rfl hk193) rfl rfl ?_
                      refine D_pu 2 rfl ?_
                      obtain ⟨hk195, h⟩ := Go.L.chk_some h
                      refine D_index rfl rfl rfl Try.underlying23 zr32 h0_0 s12_183.toNat (Int.toNat_of_nonneg hk195.1).symm (idx_lt hk195) rfl ?_
                      rintro p194 _ ⟨_, _, rfl, rfl, ⟨e194v1, rfl, e194h1⟩⟩ hp194
                      refine D_v (r_field rfl Try.underlying32 rfl zr3 (by decide)) rfl rfl ?_
                      have hp196 := hp194.add 0
                      refine D_v (r_load1 rfl Try.underlying3 rfl hp196 (hH.trans hL189.arg)) rfl rfl ?_
                      obtain ⟨hk198, h⟩ := Go.L.chk_some h
                      refine D_sliceB rfl rfl rfl rfl Try.underlying23 zr32 hf184_0 hk198 rfl ?_
                      intro v197 hv197
                      refine D_pu 3 rfl ?_
                      obtain ⟨hk199, h⟩ := Go.L.chk_some h
                      refine D_v (r_ar64 rfl rfl rfl hk199) rfl rfl ?_
                      obtain ⟨hk201, h⟩ := Go.L.chk_some h
                      refine D_sliceB rfl rfl rfl rfl Try.underlying23 zr32 h0_0 hk201 rfl ?_
                      intro v200 hv200
                      refine D_call rfl rfl rfl (fun w202 hx202 => samesh_l _ _ (Le.refl _) ((hv197.mono (gz_le hH hL189)).mono hx202.le) ((hv200.mono (hH.trans hL189.arg)).mono hx202.le)) ?_
                      refine D_pu 1 rfl ?_
                      refine D_tail (fun w203 hx203 => ?_)
                      have hL204 := hL189.call hx203
                      have hle204 := fz_ext hL189 hx203
                      replace hf184_0 := hf184_0.mono (gz_mono hH hle204)
                      replace hv197 := hv197.mono (gz_mono hH hle204)
                      refine S_seqnil ?_
                      refine W_ifn rfl (fun hc205 => ?_) (fun hc205 => ?_)
                      · replace h := Go.L.ite_n hc205 h
                        refine W_seqr ?_
                        refine S_pu 1 rfl ?_
                        refine S_seqnil ?_
                        refine W_ret ?_
                        refine At_block_ret ?_
                        refine At_seq_ret ?_
                        refine At_loop_ret ?_
                        replace h := Go.L.Nxt.out h hm184
                        refine At_block_ret ?_
                        refine At_cut_ret ?_
                        obtain rfl := Option.some.inj h
                        refine At_body rfl rfl ?_
                        exact ⟨hL204.ext, rfl⟩
                      · replace h := Go.L.ite_p hc205 h
                        refine W_skip ?_
                        refine At_block ?_
                        refine At_seq ?_
                        refine W_region ?_
                        refine S_pu 1 rfl ?_
                        obtain ⟨hk208, h⟩ := Go.L.chk_some h
                        refine S_v (r_ar64 rfl rfl rfl hk208) rfl ?_
                        refine S_pu 1 rfl ?_
                        refine S_nil ?_
                        have h := Go.L.Nxt.again h hm184
                        refine At_round ((s12_183 + (1 : Int)), n184) (.cons rfl (.cons rfl (.cons rfl (Sub.nil _)))) ⟨hL204, hf184_0, h⟩ (Nat.lt_succ_self _)
                    · replace h := Go.L.ite_n hc186 h
                      refine W_exit ?_
                      refine At_seq_exit ?_
                      refine At_loop_exit ?_
                      replace h := Go.L.Nxt.out h hm184
                      refine At_exit ?_
                      refine At_cut () (Sub.nil _) ⟨hL184, h⟩
                  · rintro _ wr156 ⟨hL156, h⟩
                    refine W_seqr ?_
                    refine S_pu 1 rfl ?_
                    refine S_seqnil ?_
                    refine W_ret ?_
                    obtain rfl := Option.some.inj h
                    refine At_body rfl rfl ?_
                    exact ⟨hL156.ext, rfl⟩

noncomputable def law4_SharesRenewMatchesSpec_k3 (a0 : List (Int × (List UInt8))) (a1 : Int) (a2 : List UInt8) : Option (Bool) :=
  if ((M.jnF (M.rnA a0 a1 a2) a1)).1 = (0 : Int) then some (decide ((M.jn a0 a1) = (M.jn (M.rnA a0 a1 a2) a1))) else some (false)
noncomputable def law4_SharesRenewMatchesSpec_bl4 (a0 : List (Int × (List UInt8))) (a1 : Int) (a2 : List UInt8) : Int → Option ((Int) ⊕ (Bool)) := fun s12_214 =>
  if s12_214 < (a0.length : Int) then Go.L.chk (0 ≤ s12_214 ∧ s12_214 < (a0.length : Int)) (Go.L.chk (0 ≤ (((a0.getD s12_214.toNat default).2).length : Int) ∧ ((1 : Nat) : Int) * (((a0.getD s12_214.toNat default).2).length : Int) ≤ 281474976710656 ∧ (((a0.getD s12_214.toNat default).2).length : Int) ≤ 9223372036854775807) (Go.L.chk (0 ≤ s12_214 ∧ s12_214 < (a0.length : Int)) (Go.L.chk (0 ≤ s12_214 ∧ s12_214 < (a0.length : Int)) (Option.bind (shareL (List.replicate (((a0.getD s12_214.toNat default).2).length : Int).toNat (0 : UInt8)) a1 a2 ((a0.getD s12_214.toNat default).1)) (fun x232 => Option.bind (ref4_Sum ((a0.getD s12_214.toNat default).2) x232.2) (fun x236 => Go.L.chk (0 ≤ s12_214 ∧ s12_214 < ((M.rnA a0 a1 a2).length : Int)) (Go.L.chk (0 ≤ s12_214 ∧ s12_214 < (a0.length : Int)) (if ((M.rnA a0 a1 a2).getD s12_214.toNat default).1 = (a0.getD s12_214.toNat default).1 then Go.L.chk (0 ≤ s12_214 ∧ s12_214 < ((M.rnA a0 a1 a2).length : Int)) (if (((M.rnA a0 a1 a2).getD s12_214.toNat default).2) = x236 then Go.L.chk (Go.L.I64 (s12_214 + (1 : Int))) (some (Sum.inl (s12_214 + (1 : Int)))) else Option.map Sum.inr (some (false))) else Option.map Sum.inr (some (false)))))))))) else Option.map Sum.inr ((law4_SharesRenewMatchesSpec_k3 a0 a1 a2))
noncomputable def law4_SharesRenewMatchesSpec_l4 (a0 : List (Int × (List UInt8))) (a1 : Int) (a2 : List UInt8) (s : Int) : Option (Bool) := Go.L.run (law4_SharesRenewMatchesSpec_bl4 a0 a1 a2) s
noncomputable def law4_SharesRenewMatchesSpec_k2 (a0 : List (Int × (List UInt8))) (a1 : Int) (a2 : List UInt8) (c48 : Int) (c49 : Int) : Option (Bool) :=
  if !true then if true then if ((M.rnF a0 a1 a2)).1 = c48 ∧ ((M.rnF a0 a1 a2)).2 = c49 then if c48 = (0 : Int) then some (false) else some (decide (((M.rnA a0 a1 a2).length : Int) = (0 : Int))) else some (false) else some (false) else if ((M.rnF a0 a1 a2)).1 = c48 ∧ ((M.rnF a0 a1 a2)).2 = c49 then if c48 = (0 : Int) then if ((M.rnA a0 a1 a2).length : Int) = (a0.length : Int) then (law4_SharesRenewMatchesSpec_l4 a0 a1 a2) (0 : Int) else (if true then if ((M.rnF a0 a1 a2)).1 = c48 ∧ ((M.rnF a0 a1 a2)).2 = c49 then if c48 = (0 : Int) then some (false) else some (decide (((M.rnA a0 a1 a2).length : Int) = (0 : Int))) else some (false) else some (false)) else if true then if ((M.rnF a0 a1 a2)).1 = c48 ∧ ((M.rnF a0 a1 a2)).2 = c49 then if c48 = (0 : Int) then some (false) else some (decide (((M.rnA a0 a1 a2).length : Int) = (0 : Int))) else some (false) else some (false) else if true then if ((M.rnF a0 a1 a2)).1 = c48 ∧ ((M.rnF a0 a1 a2)).2 = c49 then if c48 = (0 : Int) then some (false) else some (decide (((M.rnA a0 a1 a2).length : Int) = (0 : Int))) else some (false) else some (false)
noncomputable def law4_SharesRenewMatchesSpec_k1 (a0 : List (Int × (List UInt8))) (a1 : Int) (a2 : List UInt8) (c25 : Int) (c26 : Int) : Option (Bool) :=
  if c25 = (0 : Int) then (law4_SharesRenewMatchesSpec_k2 a0 a1 a2) (((M.jnF a0 a1)).1) (((M.jnF a0 a1)).2) else (law4_SharesRenewMatchesSpec_k2 a0 a1 a2) c25 c26
noncomputable def law4_SharesRenewMatchesSpec (a0 : List (Int × (List UInt8))) (a1 : Int) (a2 : List UInt8) : Option (Bool) :=
  Option.bind (ref4_EnoughFault a0 a1) (fun x7 => if x7.1 = (0 : Int) then Go.L.chk (Go.L.I64 (a1 - (1 : Int))) (Go.L.chk (0 ≤ (0 : Int) ∧ (0 : Int) < (a0.length : Int)) (Go.L.chk (Go.L.I64 ((a1 - (1 : Int)) * (((a0.getD ((0 : Int).toNat) default).2).length : Int))) (if (a2.length : Int) = ((a1 - (1 : Int)) * (((a0.getD ((0 : Int).toNat) default).2).length : Int)) then (law4_SharesRenewMatchesSpec_k1 a0 a1 a2) x7.1 x7.2 else (law4_SharesRenewMatchesSpec_k1 a0 a1 a2) ((((9 : Int), (-3 : Int))).1) ((((9 : Int), (-3 : Int))).2)))) else (law4_SharesRenewMatchesSpec_k1 a0 a1 a2) x7.1 x7.2)

set_option maxRecDepth 10000 in
theorem law4_SharesRenewMatchesSpec_ok (w : World) (H : PH) (hH : Le H (hp w)) {a0 : List (Int × (List UInt8))} {a1 : Int} {a2 : List UInt8} {v0_0 : Value} {v2_0 : Value} (h0_0 : Vec (.pair (.int .i64) (.vec .byte)) H v0_0 (a0)) (h2_0 : Vec .byte H v2_0 (a2)) {r : Bool} (h : law4_SharesRenewMatchesSpec a0 a1 a2 = some r) :
    Ok Try.prog 9 [v0_0, .int .i64 a1, v2_0] w (fun v w' => Ext w w' ∧ v = .bool r) := by
  refine Ok_enter (n := 153) [(0, v0_0), (1, .int .i64 a1), (2, v2_0)] Try.func9 rfl rfl rfl rfl rfl ?_
  have hL := Lcl.start w
  refine W_seqr ?_
  refine S_pu 1 rfl ?_
  refine S_seqnil ?_
  refine W_seqr ?_
  refine S_pu 3 rfl ?_
  refine S_callL rfl rfl hL (renew_l _ _ (gz_le hH hL) (h0_0.mono (gz_left hH)) (h2_0.mono (gz_left hH))) ?_
  rintro _ w1 ⟨u1_0, rfl, hR1_0⟩ hx1 hL1 hle1
  have hv1_0 := hR1_0.vecG hH hL hx1
  refine S_pu 3 rfl ?_
  refine S_alloc zr25 rfl rfl hL1 ?_
  intro w2 b2 hL2 hle2 _
  replace hv1_0 := hv1_0.mono (gz_mono hH hle2)
  refine S_pu 1 rfl ?_
  refine S_storeBN 0 rfl rfl rfl zr25 hL2 rfl rfl (onc rfl (onc rfl on0)) ?_
  intro w3 hL3 hle3
  replace hv1_0 := hv1_0.mono (gz_mono hH hle3)
  refine S_seqnil ?_
  refine W_seqr ?_
  refine S_pu 2 rfl ?_
  refine S_callL rfl rfl hL3 (join_l _ _ (gz_le hH hL3) (h0_0.mono (gz_left hH))) ?_
  rintro _ w4 ⟨u4_0, rfl, hR4_0⟩ hx4 hL4 hle4
  have hv4_0 := hR4_0.vecG hH hL3 hx4
  replace hv1_0 := hv1_0.mono (gz_mono hH hle4)
  refine S_pu 3 rfl ?_
  refine S_alloc zr25 rfl rfl hL4 ?_
  intro w5 b5 hL5 hle5 _
  replace hv1_0 := hv1_0.mono (gz_mono hH hle5)
  replace hv4_0 := hv4_0.mono (gz_mono hH hle5)
  refine S_pu 1 rfl ?_
  refine S_storeBN 0 rfl rfl rfl zr25 hL5 rfl rfl (onc rfl (onc rfl on0)) ?_
  intro w6 hL6 hle6
  replace hv1_0 := hv1_0.mono (gz_mono hH hle6)
  replace hv4_0 := hv4_0.mono (gz_mono hH hle6)
  refine S_seqnil ?_
  refine W_seqr ?_
  refine S_pu 2 rfl ?_
  obtain ⟨x7, hb7, h⟩ := Go.L.bind_some h
  refine S_callL rfl rfl hL6 (ref4_EnoughFault_ok _ _ (gz_le hH hL6) (h0_0.mono (gz_left hH)) hb7) ?_
  rintro _ w8 rfl hx8 hL8 hle8
  replace hv1_0 := hv1_0.mono (gz_mono hH hle8)
  replace hv4_0 := hv4_0.mono (gz_mono hH hle8)
  refine S_alloc zr25 rfl rfl hL8 ?_
  intro w9 b9 hL9 hle9 _
  replace hv1_0 := hv1_0.mono (gz_mono hH hle9)
  replace hv4_0 := hv4_0.mono (gz_mono hH hle9)
  refine S_storeBN 0 rfl rfl rfl zr25 hL9 rfl rfl (onc rfl (onc rfl on0)) ?_
  intro w10 hL10 hle10
  replace hv1_0 := hv1_0.mono (gz_mono hH hle10)
  replace hv4_0 := hv4_0.mono (gz_mono hH hle10)
  refine S_seqnil ?_
  refine W_cut (σ := Int × Int) (fun (⟨c25, c26⟩ : Int × Int) => [(0, v0_0), (1, .int .i64 a1), (2, v2_0), (7, u1_0), (8, .pointer (some ⟨b2, 0, none⟩)), (9, u4_0), (10, .pointer (some ⟨b5, 0, none⟩)), (11, .pointer (some ⟨b9, 0, none⟩))]) (fun (⟨c25, c26⟩ : Int × Int) wr => Lcl w [.box b9 [.int .i64 c25, .int .i64 c26] 25, .box b5 [.int .i64 (((M.jnF a0 a1)).1), .int .i64 (((M.jnF a0 a1)).2)] 25, .box b2 [.int .i64 (((M.rnF a0 a1 a2)).1), .int .i64 (((M.rnF a0 a1 a2)).2)] 25] wr ∧ Vec (.pair (.int .i64) (.vec .byte)) (gz H w wr [.box b9 [.int .i64 c25, .int .i64 c26] 25, .box b5 [.int .i64 (((M.jnF a0 a1)).1), .int .i64 (((M.jnF a0 a1)).2)] 25, .box b2 [.int .i64 (((M.rnF a0 a1 a2)).1), .int .i64 (((M.rnF a0 a1 a2)).2)] 25]) (u1_0) ((M.rnA a0 a1 a2)) ∧ Vec .byte (gz H w wr [.box b9 [.int .i64 c25, .int .i64 c26] 25, .box b5 [.int .i64 (((M.jnF a0 a1)).1), .int .i64 (((M.jnF a0 a1)).2)] 25, .box b2 [.int .i64 (((M.rnF a0 a1 a2)).1), .int .i64 (((M.rnF a0 a1 a2)).2)] 25]) (u4_0) ((M.jn a0 a1)) ∧ (law4_SharesRenewMatchesSpec_k1 a0 a1 a2) c25 c26 = some r) ?_ ?_
  · refine W_seqr ?_
    refine S_v (r_field rfl Try.underlying25 rfl zr3 (by decide)) rfl ?_
    refine S_v (r_loadB1 0 rfl Try.underlying3 rfl hL10 rfl rfl) rfl ?_
    refine S_pu 2 rfl ?_
    refine S_split (s := 36) rfl (fun hg29 => ?_) (fun hg29 => ?_)
    · replace h := Go.L.ite_p (of_decide_eq_true hg29) h
      refine S_guarded rfl rfl hg29 ?_
      refine S_v (RunsAt_pu rfl) rfl ?_
      refine S_guarded rfl rfl hg29 ?_
      refine S_v (r_len rfl Try.underlying22 h2_0) rfl ?_
      refine S_guarded rfl rfl hg29 ?_
      refine S_v (RunsAt_pu rfl) rfl ?_
      refine S_guarded rfl rfl hg29 ?_
      obtain ⟨hk31, h⟩ := Go.L.chk_some h
      refine S_v (r_ar64 rfl rfl rfl hk31) rfl ?_
      refine S_guarded rfl rfl hg29 ?_
      refine S_v (RunsAt_pu rfl) rfl ?_
      refine S_guarded rfl rfl hg29 ?_
      obtain ⟨hk33, h⟩ := Go.L.chk_some h
      refine S_index rfl rfl Try.underlying23 zr32 h0_0 ((0 : Int).toNat) (Int.toNat_of_nonneg hk33.1).symm (idx_lt hk33) rfl ?_
      rintro p32 _ ⟨_, _, rfl, rfl, ⟨e32v1, rfl, e32h1⟩⟩ hp32
      refine S_guarded rfl rfl hg29 ?_
      refine S_v (r_field rfl Try.underlying32 rfl zr22 (by decide)) rfl ?_
      have hp34 := hp32.add 1
      refine S_guarded rfl rfl hg29 ?_
      refine S_v (r_load1 rfl Try.underlying22 rfl hp34 (hH.trans hL10.arg)) rfl ?_
      refine S_guarded rfl rfl hg29 ?_
      refine S_v (r_len rfl Try.underlying22 e32h1) rfl ?_
      refine S_guarded rfl rfl hg29 ?_
      obtain ⟨hk35, h⟩ := Go.L.chk_some h
      refine S_v (r_ar64 rfl rfl rfl hk35) rfl ?_
      refine S_guarded rfl rfl hg29 ?_
      refine S_v (RunsAt_pu rfl) rfl ?_
      refine S_v (r_pickT rfl hg29 rfl) rfl ?_
      refine S_seqnil ?_
      refine W_ifn rfl (fun hc36 => ?_) (fun hc36 => ?_)
      · replace h := Go.L.ite_n hc36 h
        refine W_region ?_
        refine S_callL rfl rfl hL10 (rat_l _ _ (gz_le hH hL10) ) ?_
        rintro _ w38 rfl hx38 hL38 hle38
        replace hv1_0 := hv1_0.mono (gz_mono hH hle38)
        replace hv4_0 := hv4_0.mono (gz_mono hH hle38)
        refine S_storeBN 0 rfl rfl rfl zr25 hL38 rfl rfl (onc rfl (onc rfl on0)) ?_
        intro w39 hL39 hle39
        replace hv1_0 := hv1_0.mono (gz_mono hH hle39)
        replace hv4_0 := hv4_0.mono (gz_mono hH hle39)
        refine S_nil ?_
        refine At_cut ((((9 : Int), (-3 : Int))).1, (((9 : Int), (-3 : Int))).2) (.cons rfl (.cons rfl (.cons rfl (.cons rfl (.cons rfl (.cons rfl (.cons rfl (.cons rfl (Sub.nil _))))))))) ⟨hL39, hv1_0, hv4_0, h⟩
      · replace h := Go.L.ite_p hc36 h
        refine W_skip ?_
        refine At_cut (x7.1, x7.2) (.cons rfl (.cons rfl (.cons rfl (.cons rfl (.cons rfl (.cons rfl (.cons rfl (.cons rfl (Sub.nil _))))))))) ⟨hL10, hv1_0, hv4_0, h⟩
    · replace h := Go.L.ite_n (of_decide_eq_false hg29) h
      refine S_unwanted rfl rfl hg29 rfl ?_
      refine S_unwanted rfl rfl hg29 rfl ?_
      refine S_unwanted rfl rfl hg29 rfl ?_
      refine S_unwanted rfl rfl hg29 rfl ?_
      refine S_unwanted rfl rfl hg29 rfl ?_
      refine S_unwanted rfl rfl hg29 rfl ?_
      refine S_unwanted rfl rfl hg29 rfl ?_
      refine S_unwanted rfl rfl hg29 rfl ?_
      refine S_unwanted rfl rfl hg29 rfl ?_
      refine S_unwanted rfl rfl hg29 rfl ?_
      refine S_unwanted rfl rfl hg29 rfl ?_
      refine S_v (r_pickF rfl hg29 rfl) rfl ?_
      refine S_seqnil ?_
      refine W_false rfl ?_
      refine W_skip ?_
      refine At_cut (x7.1, x7.2) (.cons rfl (.cons rfl (.cons rfl (.cons rfl (.cons rfl (.cons rfl (.cons rfl (.cons rfl (Sub.nil _))))))))) ⟨hL10, hv1_0, hv4_0, h⟩
  · rintro ⟨c25, c26⟩ wr27 ⟨hL27, hf27_0, hf27_1, h⟩
    refine W_cut (σ := Int × Int) (fun (⟨c48, c49⟩ : Int × Int) => [(0, v0_0), (1, .int .i64 a1), (2, v2_0), (7, u1_0), (8, .pointer (some ⟨b2, 0, none⟩)), (9, u4_0), (11, .pointer (some ⟨b9, 0, none⟩))]) (fun (⟨c48, c49⟩ : Int × Int) wr => Lcl w [.box b9 [.int .i64 c48, .int .i64 c49] 25, .box b5 [.int .i64 (((M.jnF a0 a1)).1), .int .i64 (((M.jnF a0 a1)).2)] 25, .box b2 [.int .i64 (((M.rnF a0 a1 a2)).1), .int .i64 (((M.rnF a0 a1 a2)).2)] 25] wr ∧ Vec (.pair (.int .i64) (.vec .byte)) (gz H w wr [.box b9 [.int .i64 c48, .int .i64 c49] 25, .box b5 [.int .i64 (((M.jnF a0 a1)).1), .int .i64 (((M.jnF a0 a1)).2)] 25, .box b2 [.int .i64 (((M.rnF a0 a1 a2)).1), .int .i64 (((M.rnF a0 a1 a2)).2)] 25]) (u1_0) ((M.rnA a0 a1 a2)) ∧ Vec .byte (gz H w wr [.box b9 [.int .i64 c48, .int .i64 c49] 25, .box b5 [.int .i64 (((M.jnF a0 a1)).1), .int .i64 (((M.jnF a0 a1)).2)] 25, .box b2 [.int .i64 (((M.rnF a0 a1 a2)).1), .int .i64 (((M.rnF a0 a1 a2)).2)] 25]) (u4_0) ((M.jn a0 a1)) ∧ (law4_SharesRenewMatchesSpec_k2 a0 a1 a2) c48 c49 = some r) ?_ ?_
    · refine W_seqr ?_
      refine S_v (r_field rfl Try.underlying25 rfl zr3 (by decide)) rfl ?_
      refine S_v (r_loadB1 0 rfl Try.underlying3 rfl hL27 rfl rfl) rfl ?_
      refine S_pu 1 rfl ?_
      refine S_seqnil ?_
      refine W_if rfl (fun hc52 => ?_) (fun hc52 => ?_)
      · replace h := Go.L.ite_p hc52 h
        refine W_region ?_
        refine S_v (r_loadBN 1 rfl Try.underlying25 rfl zr25 hL27 rfl) rfl ?_
        refine S_storeBN 0 rfl rfl rfl zr25 hL27 rfl rfl (onc rfl (onc rfl on0)) ?_
        intro w54 hL54 hle54
        replace hf27_0 := hf27_0.mono (gz_mono hH hle54)
        replace hf27_1 := hf27_1.mono (gz_mono hH hle54)
        refine S_nil ?_
        refine At_cut (((M.jnF a0 a1)).1, ((M.jnF a0 a1)).2) (.cons rfl (.cons rfl (.cons rfl (.cons rfl (.cons rfl (.cons rfl (.cons rfl (Sub.nil _)))))))) ⟨hL54, hf27_0, hf27_1, h⟩
      · replace h := Go.L.ite_n hc52 h
        refine W_skip ?_
        refine At_cut (c25, c26) (.cons rfl (.cons rfl (.cons rfl (.cons rfl (.cons rfl (.cons rfl (.cons rfl (Sub.nil _)))))))) ⟨hL27, hf27_0, hf27_1, h⟩
    · rintro ⟨c48, c49⟩ wr50 ⟨hL50, hf50_0, hf50_1, h⟩
      refine W_seq ?_
      refine W_seqr ?_
      refine S_callL rfl rfl hL50 (opens_l _ _ (gz_le hH hL50) ) ?_
      rintro _ w57 rfl hx57 hL57 hle57
      replace hf50_0 := hf50_0.mono (gz_mono hH hle57)
      replace hf50_1 := hf50_1.mono (gz_mono hH hle57)
      refine S_pu 2 rfl ?_
      refine S_split (s := 56) rfl (fun hg58 => ?_) (fun hg58 => ?_)
      · replace h := Go.L.ite_t hg58 h
        refine S_unwanted rfl rfl hg58 rfl ?_
        refine S_unwanted rfl rfl hg58 rfl ?_
        refine S_unwanted rfl rfl hg58 rfl ?_
        refine S_v (r_pickT rfl hg58 rfl) rfl ?_
        refine S_pu 1 rfl ?_
        refine S_unwanted rfl rfl rfl rfl ?_
        refine S_unwanted rfl rfl rfl rfl ?_
        refine S_unwanted rfl rfl rfl rfl ?_
        refine S_v (r_pickT rfl rfl rfl) rfl ?_
        refine S_pu 1 rfl ?_
        refine S_unwanted rfl rfl rfl rfl ?_
        refine S_unwanted rfl rfl rfl rfl ?_
        refine S_unwanted rfl rfl rfl rfl ?_
        refine S_unwanted rfl rfl rfl rfl ?_
        refine S_unwanted rfl rfl rfl rfl ?_
        refine S_v (r_pickT rfl rfl rfl) rfl ?_
        refine S_seqnil ?_
        refine W_true rfl ?_
        refine W_seqr ?_
        refine S_callL rfl rfl hL57 (opens_l _ _ (gz_le hH hL57) ) ?_
        rintro _ w60 rfl hx60 hL60 hle60
        replace hf50_0 := hf50_0.mono (gz_mono hH hle60)
        replace hf50_1 := hf50_1.mono (gz_mono hH hle60)
        refine S_pu 1 rfl ?_
        refine S_split (s := 74) rfl (fun hg61 => ?_) (fun hg61 => ?_)
        · replace h := Go.L.ite_t hg61 h
          refine S_guarded rfl rfl hg61 ?_
          refine S_v (r_loadBN 2 rfl Try.underlying25 rfl zr25 hL60 rfl) rfl ?_
          refine S_guarded rfl rfl hg61 ?_
          refine S_v (r_loadBN 0 rfl Try.underlying25 rfl zr25 hL60 rfl) rfl ?_
          refine S_guarded rfl rfl hg61 ?_
          refine S_v (r_eqA rfl rfl eqg25 (eq25 _ _ _ _ )) rfl ?_
          refine S_v (r_pickT rfl hg61 rfl) rfl ?_
          refine S_pu 1 rfl ?_
          refine S_split (s := 79) rfl (fun hg63 => ?_) (fun hg63 => ?_)
          · replace h := Go.L.ite_p (of_decide_eq_true hg63) h
            refine S_guarded rfl rfl hg63 ?_
            refine S_v (r_field rfl Try.underlying25 rfl zr3 (by decide)) rfl ?_
            refine S_guarded rfl rfl hg63 ?_
            refine S_v (r_loadB1 0 rfl Try.underlying3 rfl hL60 rfl rfl) rfl ?_
            refine S_guarded rfl rfl hg63 ?_
            refine S_v (RunsAt_pu rfl) rfl ?_
            refine S_v (r_pickT rfl hg63 rfl) rfl ?_
            refine S_pu 1 rfl ?_
            refine S_split (s := 84) rfl (fun hg65 => ?_) (fun hg65 => ?_)
            · replace h := Go.L.ite_n (not_dec_t hg65) h
              refine S_guarded rfl rfl hg65 ?_
              refine S_v (RunsAt_pu rfl) rfl ?_
              refine S_guarded rfl rfl hg65 ?_
              refine S_v (r_len rfl Try.underlying23 hf50_0) rfl ?_
              refine S_guarded rfl rfl hg65 ?_
              refine S_v (RunsAt_pu rfl) rfl ?_
              refine S_v (r_pickT rfl hg65 rfl) rfl ?_
              refine S_pu 1 rfl ?_
              refine S_seqnil ?_
              refine W_ret ?_
              refine At_seq_ret ?_
              obtain rfl := Option.some.inj h
              refine At_body rfl rfl ?_
              exact ⟨hL60.ext, rfl⟩
            · replace h := Go.L.ite_p (not_dec_f hg65) h
              refine S_unwanted rfl rfl hg65 rfl ?_
              refine S_unwanted rfl rfl hg65 rfl ?_
              refine S_unwanted rfl rfl hg65 rfl ?_
              refine S_v (r_pickF rfl hg65 rfl) rfl ?_
              refine S_pu 1 rfl ?_
              refine S_seqnil ?_
              refine W_ret ?_
              refine At_seq_ret ?_
              obtain rfl := Option.some.inj h
              refine At_body rfl rfl ?_
              exact ⟨hL60.ext, rfl⟩
          · replace h := Go.L.ite_n (of_decide_eq_false hg63) h
            refine S_unwanted rfl rfl hg63 rfl ?_
            refine S_unwanted rfl rfl hg63 rfl ?_
            refine S_unwanted rfl rfl hg63 rfl ?_
            refine S_v (r_pickF rfl hg63 rfl) rfl ?_
            refine S_pu 1 rfl ?_
            refine S_unwanted rfl rfl rfl rfl ?_
            refine S_unwanted rfl rfl rfl rfl ?_
            refine S_unwanted rfl rfl rfl rfl ?_
            refine S_v (r_pickF rfl rfl rfl) rfl ?_
            refine S_pu 1 rfl ?_
            refine S_seqnil ?_
            refine W_ret ?_
            refine At_seq_ret ?_
            obtain rfl := Option.some.inj h
            refine At_body rfl rfl ?_
            exact ⟨hL60.ext, rfl⟩
        · replace h := Go.L.ite_f hg61 h
          refine S_unwanted rfl rfl hg61 rfl ?_
          refine S_unwanted rfl rfl hg61 rfl ?_
          refine S_unwanted rfl rfl hg61 rfl ?_
          refine S_v (r_pickF rfl hg61 rfl) rfl ?_
          refine S_pu 1 rfl ?_
          refine S_unwanted rfl rfl rfl rfl ?_
          refine S_unwanted rfl rfl rfl rfl ?_
          refine S_unwanted rfl rfl rfl rfl ?_
          refine S_v (r_pickF rfl rfl rfl) rfl ?_
          refine S_pu 1 rfl ?_
          refine S_unwanted rfl rfl rfl rfl ?_
          refine S_unwanted rfl rfl rfl rfl ?_
          refine S_unwanted rfl rfl rfl rfl ?_
          refine S_v (r_pickF rfl rfl rfl) rfl ?_
          refine S_pu 1 rfl ?_
          refine S_seqnil ?_
          refine W_ret ?_
          refine At_seq_ret ?_
          obtain rfl := Option.some.inj h
          refine At_body rfl rfl ?_
          exact ⟨hL60.ext, rfl⟩
      · replace h := Go.L.ite_f hg58 h
        refine S_guarded rfl rfl hg58 ?_
        refine S_v (r_loadBN 2 rfl Try.underlying25 rfl zr25 hL57 rfl) rfl ?_
        refine S_guarded rfl rfl hg58 ?_
        refine S_v (r_loadBN 0 rfl Try.underlying25 rfl zr25 hL57 rfl) rfl ?_
        refine S_guarded rfl rfl hg58 ?_
        refine S_v (r_neA rfl rfl eqg25 (eq25 _ _ _ _ )) rfl ?_
        refine S_v (r_pickF rfl hg58 rfl) rfl ?_
        refine S_pu 1 rfl ?_
        refine S_split (s := 61) rfl (fun hg71 => ?_) (fun hg71 => ?_)
        · replace h := Go.L.ite_n (not_dec_t hg71) h
          refine S_unwanted rfl rfl hg71 rfl ?_
          refine S_unwanted rfl rfl hg71 rfl ?_
          refine S_unwanted rfl rfl hg71 rfl ?_
          refine S_v (r_pickT rfl hg71 rfl) rfl ?_
          refine S_pu 1 rfl ?_
          refine S_unwanted rfl rfl rfl rfl ?_
          refine S_unwanted rfl rfl rfl rfl ?_
          refine S_unwanted rfl rfl rfl rfl ?_
          refine S_unwanted rfl rfl rfl rfl ?_
          refine S_unwanted rfl rfl rfl rfl ?_
          refine S_v (r_pickT rfl rfl rfl) rfl ?_
          refine S_seqnil ?_
          refine W_true rfl ?_
          refine W_seqr ?_
          refine S_callL rfl rfl hL57 (opens_l _ _ (gz_le hH hL57) ) ?_
          rintro _ w73 rfl hx73 hL73 hle73
          replace hf50_0 := hf50_0.mono (gz_mono hH hle73)
          replace hf50_1 := hf50_1.mono (gz_mono hH hle73)
          refine S_pu 1 rfl ?_
          refine S_split (s := 74) rfl (fun hg74 => ?_) (fun hg74 => ?_)
          · replace h := Go.L.ite_t hg74 h
            refine S_guarded rfl rfl hg74 ?_
            refine S_v (r_loadBN 2 rfl Try.underlying25 rfl zr25 hL73 rfl) rfl ?_
            refine S_guarded rfl rfl hg74 ?_
            refine S_v (r_loadBN 0 rfl Try.underlying25 rfl zr25 hL73 rfl) rfl ?_
            refine S_guarded rfl rfl hg74 ?_
            refine S_v (r_eqA rfl rfl eqg25 (eq25 _ _ _ _ )) rfl ?_
            refine S_v (r_pickT rfl hg74 rfl) rfl ?_
            refine S_pu 1 rfl ?_
            refine S_split (s := 79) rfl (fun hg76 => ?_) (fun hg76 => ?_)
            · replace h := Go.L.ite_p (of_decide_eq_true hg76) h
              refine S_guarded rfl rfl hg76 ?_
              refine S_v (r_field rfl Try.underlying25 rfl zr3 (by decide)) rfl ?_
              refine S_guarded rfl rfl hg76 ?_
              refine S_v (r_loadB1 0 rfl Try.underlying3 rfl hL73 rfl rfl) rfl ?_
              refine S_guarded rfl rfl hg76 ?_
              refine S_v (RunsAt_pu rfl) rfl ?_
              refine S_v (r_pickT rfl hg76 rfl) rfl ?_
              refine S_pu 1 rfl ?_
              refine S_split (s := 84) rfl (fun hg78 => ?_) (fun hg78 => ?_)
              · replace h := Go.L.ite_n (not_dec_t hg78) h
                refine S_guarded rfl rfl hg78 ?_
                refine S_v (RunsAt_pu rfl) rfl ?_
                refine S_guarded rfl rfl hg78 ?_
                refine S_v (r_len rfl Try.underlying23 hf50_0) rfl ?_
                refine S_guarded rfl rfl hg78 ?_
                refine S_v (RunsAt_pu rfl) rfl ?_
                refine S_v (r_pickT rfl hg78 rfl) rfl ?_
                refine S_pu 1 rfl ?_
                refine S_seqnil ?_
                refine W_ret ?_
                refine At_seq_ret ?_
                obtain rfl := Option.some.inj h
                refine At_body rfl rfl ?_
                exact ⟨hL73.ext, rfl⟩
              · replace h := Go.L.ite_p (not_dec_f hg78) h
                refine S_unwanted rfl rfl hg78 rfl ?_
                refine S_unwanted rfl rfl hg78 rfl ?_
                refine S_unwanted rfl rfl hg78 rfl ?_
                refine S_v (r_pickF rfl hg78 rfl) rfl ?_
                refine S_pu 1 rfl ?_
                refine S_seqnil ?_
                refine W_ret ?_
                refine At_seq_ret ?_
                obtain rfl := Option.some.inj h
                refine At_body rfl rfl ?_
                exact ⟨hL73.ext, rfl⟩
            · replace h := Go.L.ite_n (of_decide_eq_false hg76) h
              refine S_unwanted rfl rfl hg76 rfl ?_
              refine S_unwanted rfl rfl hg76 rfl ?_
              refine S_unwanted rfl rfl hg76 rfl ?_
              refine S_v (r_pickF rfl hg76 rfl) rfl ?_
              refine S_pu 1 rfl ?_
              refine S_unwanted rfl rfl rfl rfl ?_
              refine S_unwanted rfl rfl rfl rfl ?_
              refine S_unwanted rfl rfl rfl rfl ?_
              refine S_v (r_pickF rfl rfl rfl) rfl ?_
              refine S_pu 1 rfl ?_
              refine S_seqnil ?_
              refine W_ret ?_
              refine At_seq_ret ?_
              obtain rfl := Option.some.inj h
              refine At_body rfl rfl ?_
              exact ⟨hL73.ext, rfl⟩
          · replace h := Go.L.ite_f hg74 h
            refine S_unwanted rfl rfl hg74 rfl ?_
            refine S_unwanted rfl rfl hg74 rfl ?_
            refine S_unwanted rfl rfl hg74 rfl ?_
            refine S_v (r_pickF rfl hg74 rfl) rfl ?_
            refine S_pu 1 rfl ?_
            refine S_unwanted rfl rfl rfl rfl ?_
            refine S_unwanted rfl rfl rfl rfl ?_
            refine S_unwanted rfl rfl rfl rfl ?_
            refine S_v (r_pickF rfl rfl rfl) rfl ?_
            refine S_pu 1 rfl ?_
            refine S_unwanted rfl rfl rfl rfl ?_
            refine S_unwanted rfl rfl rfl rfl ?_
            refine S_unwanted rfl rfl rfl rfl ?_
            refine S_v (r_pickF rfl rfl rfl) rfl ?_
            refine S_pu 1 rfl ?_
            refine S_seqnil ?_
            refine W_ret ?_
            refine At_seq_ret ?_
            obtain rfl := Option.some.inj h
            refine At_body rfl rfl ?_
            exact ⟨hL73.ext, rfl⟩
        · replace h := Go.L.ite_p (not_dec_f hg71) h
          refine S_guarded rfl rfl hg71 ?_
          refine S_v (r_field rfl Try.underlying25 rfl zr3 (by decide)) rfl ?_
          refine S_guarded rfl rfl hg71 ?_
          refine S_v (r_loadB1 0 rfl Try.underlying3 rfl hL57 rfl rfl) rfl ?_
          refine S_guarded rfl rfl hg71 ?_
          refine S_v (RunsAt_pu rfl) rfl ?_
          refine S_v (r_pickF rfl hg71 rfl) rfl ?_
          refine S_pu 1 rfl ?_
          refine S_split (s := 66) rfl (fun hg84 => ?_) (fun hg84 => ?_)
          · replace h := Go.L.ite_n (not_dec_t hg84) h
            refine S_unwanted rfl rfl hg84 rfl ?_
            refine S_unwanted rfl rfl hg84 rfl ?_
            refine S_unwanted rfl rfl hg84 rfl ?_
            refine S_unwanted rfl rfl hg84 rfl ?_
            refine S_unwanted rfl rfl hg84 rfl ?_
            refine S_v (r_pickT rfl hg84 rfl) rfl ?_
            refine S_seqnil ?_
            refine W_true rfl ?_
            refine W_seqr ?_
            refine S_callL rfl rfl hL57 (opens_l _ _ (gz_le hH hL57) ) ?_
            rintro _ w86 rfl hx86 hL86 hle86
            replace hf50_0 := hf50_0.mono (gz_mono hH hle86)
            replace hf50_1 := hf50_1.mono (gz_mono hH hle86)
            refine S_pu 1 rfl ?_
            refine S_split (s := 74) rfl (fun hg87 => ?_) (fun hg87 => ?_)
            · replace h := Go.L.ite_t hg87 h
              refine S_guarded rfl rfl hg87 ?_
              refine S_v (r_loadBN 2 rfl Try.underlying25 rfl zr25 hL86 rfl) rfl ?_
              refine S_guarded rfl rfl hg87 ?_
              refine S_v (r_loadBN 0 rfl Try.underlying25 rfl zr25 hL86 rfl) rfl ?_
              refine S_guarded rfl rfl hg87 ?_
              refine S_v (r_eqA rfl rfl eqg25 (eq25 _ _ _ _ )) rfl ?_
              refine S_v (r_pickT rfl hg87 rfl) rfl ?_
              refine S_pu 1 rfl ?_
              refine S_split (s := 79) rfl (fun hg89 => ?_) (fun hg89 => ?_)
              · replace h := Go.L.ite_p (of_decide_eq_true hg89) h
                refine S_guarded rfl rfl hg89 ?_
                refine S_v (r_field rfl Try.underlying25 rfl zr3 (by decide)) rfl ?_
                refine S_guarded rfl rfl hg89 ?_
                refine S_v (r_loadB1 0 rfl Try.underlying3 rfl hL86 rfl rfl) rfl ?_
                refine S_guarded rfl rfl hg89 ?_
                refine S_v (RunsAt_pu rfl) rfl ?_
                refine S_v (r_pickT rfl hg89 rfl) rfl ?_
                refine S_pu 1 rfl ?_
                refine S_split (s := 84) rfl (fun hg91 => ?_) (fun hg91 => ?_)
                · replace h := Go.L.ite_n (not_dec_t hg91) h
                  refine S_guarded rfl rfl hg91 ?_
                  refine S_v (RunsAt_pu rfl) rfl ?_
                  refine S_guarded rfl rfl hg91 ?_
                  refine S_v (r_len rfl Try.underlying23 hf50_0) rfl ?_
                  refine S_guarded rfl rfl hg91 ?_
                  refine S_v (RunsAt_pu rfl) rfl ?_
                  refine S_v (r_pickT rfl hg91 rfl) rfl ?_
                  refine S_pu 1 rfl ?_
                  refine S_seqnil ?_
                  refine W_ret ?_
                  refine At_seq_ret ?_
                  obtain rfl := Option.some.inj h
                  refine At_body rfl rfl ?_
                  exact ⟨hL86.ext, rfl⟩
                · replace h := Go.L.ite_p (not_dec_f hg91) h
                  refine S_unwanted rfl rfl hg91 rfl ?_
                  refine S_unwanted rfl rfl hg91 rfl ?_
                  refine S_unwanted rfl rfl hg91 rfl ?_
                  refine S_v (r_pickF rfl hg91 rfl) rfl ?_
                  refine S_pu 1 rfl ?_
                  refine S_seqnil ?_
                  refine W_ret ?_
                  refine At_seq_ret ?_
                  obtain rfl := Option.some.inj h
                  refine At_body rfl rfl ?_
                  exact ⟨hL86.ext, rfl⟩
              · replace h := Go.L.ite_n (of_decide_eq_false hg89) h
                refine S_unwanted rfl rfl hg89 rfl ?_
                refine S_unwanted rfl rfl hg89 rfl ?_
                refine S_unwanted rfl rfl hg89 rfl ?_
                refine S_v (r_pickF rfl hg89 rfl) rfl ?_
                refine S_pu 1 rfl ?_
                refine S_unwanted rfl rfl rfl rfl ?_
                refine S_unwanted rfl rfl rfl rfl ?_
                refine S_unwanted rfl rfl rfl rfl ?_
                refine S_v (r_pickF rfl rfl rfl) rfl ?_
                refine S_pu 1 rfl ?_
                refine S_seqnil ?_
                refine W_ret ?_
                refine At_seq_ret ?_
                obtain rfl := Option.some.inj h
                refine At_body rfl rfl ?_
                exact ⟨hL86.ext, rfl⟩
            · replace h := Go.L.ite_f hg87 h
              refine S_unwanted rfl rfl hg87 rfl ?_
              refine S_unwanted rfl rfl hg87 rfl ?_
              refine S_unwanted rfl rfl hg87 rfl ?_
              refine S_v (r_pickF rfl hg87 rfl) rfl ?_
              refine S_pu 1 rfl ?_
              refine S_unwanted rfl rfl rfl rfl ?_
              refine S_unwanted rfl rfl rfl rfl ?_
              refine S_unwanted rfl rfl rfl rfl ?_
              refine S_v (r_pickF rfl rfl rfl) rfl ?_
              refine S_pu 1 rfl ?_
              refine S_unwanted rfl rfl rfl rfl ?_
              refine S_unwanted rfl rfl rfl rfl ?_
              refine S_unwanted rfl rfl rfl rfl ?_
              refine S_v (r_pickF rfl rfl rfl) rfl ?_
              refine S_pu 1 rfl ?_
              refine S_seqnil ?_
              refine W_ret ?_
              refine At_seq_ret ?_
              obtain rfl := Option.some.inj h
              refine At_body rfl rfl ?_
              exact ⟨hL86.ext, rfl⟩
          · replace h := Go.L.ite_p (not_dec_f hg84) h
            refine S_guarded rfl rfl hg84 ?_
            refine S_v (RunsAt_pu rfl) rfl ?_
            refine S_guarded rfl rfl hg84 ?_
            refine S_v (r_len rfl Try.underlying23 hf50_0) rfl ?_
            refine S_guarded rfl rfl hg84 ?_
            refine S_v (RunsAt_pu rfl) rfl ?_
            refine S_guarded rfl rfl hg84 ?_
            refine S_v (r_len rfl Try.underlying23 h0_0) rfl ?_
            refine S_guarded rfl rfl hg84 ?_
            refine S_v (RunsAt_pu rfl) rfl ?_
            refine S_v (r_pickF rfl hg84 rfl) rfl ?_
            refine S_seqnil ?_
            refine W_ifn rfl (fun hc97 => ?_) (fun hc97 => ?_)
            · replace h := Go.L.ite_n hc97 h
              refine W_seqr ?_
              refine S_callL rfl rfl hL57 (opens_l _ _ (gz_le hH hL57) ) ?_
              rintro _ w99 rfl hx99 hL99 hle99
              replace hf50_0 := hf50_0.mono (gz_mono hH hle99)
              refine S_pu 1 rfl ?_
              refine S_split (s := 74) rfl (fun hg100 => ?_) (fun hg100 => ?_)
              · replace h := Go.L.ite_t hg100 h
                refine S_guarded rfl rfl hg100 ?_
                refine S_v (r_loadBN 2 rfl Try.underlying25 rfl zr25 hL99 rfl) rfl ?_
                refine S_guarded rfl rfl hg100 ?_
                refine S_v (r_loadBN 0 rfl Try.underlying25 rfl zr25 hL99 rfl) rfl ?_
                refine S_guarded rfl rfl hg100 ?_
                refine S_v (r_eqA rfl rfl eqg25 (eq25 _ _ _ _ )) rfl ?_
                refine S_v (r_pickT rfl hg100 rfl) rfl ?_
                refine S_pu 1 rfl ?_
                refine S_split (s := 79) rfl (fun hg102 => ?_) (fun hg102 => ?_)
                · replace h := Go.L.ite_p (of_decide_eq_true hg102) h
                  refine S_guarded rfl rfl hg102 ?_
                  refine S_v (r_field rfl Try.underlying25 rfl zr3 (by decide)) rfl ?_
                  refine S_guarded rfl rfl hg102 ?_
                  refine S_v (r_loadB1 0 rfl Try.underlying3 rfl hL99 rfl rfl) rfl ?_
                  refine S_guarded rfl rfl hg102 ?_
                  refine S_v (RunsAt_pu rfl) rfl ?_
                  refine S_v (r_pickT rfl hg102 rfl) rfl ?_
                  refine S_pu 1 rfl ?_
                  refine S_split (s := 84) rfl (fun hg104 => ?_) (fun hg104 => ?_)
                  · replace h := Go.L.ite_n (not_dec_t hg104) h
                    refine S_guarded rfl rfl hg104 ?_
                    refine S_v (RunsAt_pu rfl) rfl ?_
                    refine S_guarded rfl rfl hg104 ?_
                    refine S_v (r_len rfl Try.underlying23 hf50_0) rfl ?_
                    refine S_guarded rfl rfl hg104 ?_
                    refine S_v (RunsAt_pu rfl) rfl ?_
                    refine S_v (r_pickT rfl hg104 rfl) rfl ?_
                    refine S_pu 1 rfl ?_
                    refine S_seqnil ?_
                    refine W_ret ?_
                    refine At_seq_ret ?_
                    obtain rfl := Option.some.inj h
                    refine At_body rfl rfl ?_
                    exact ⟨hL99.ext, rfl⟩
                  · replace h := Go.L.ite_p (not_dec_f hg104) h
                    refine S_unwanted rfl rfl hg104 rfl ?_
                    refine S_unwanted rfl rfl hg104 rfl ?_
                    refine S_unwanted rfl rfl hg104 rfl ?_
                    refine S_v (r_pickF rfl hg104 rfl) rfl ?_
                    refine S_pu 1 rfl ?_
                    refine S_seqnil ?_
                    refine W_ret ?_
                    refine At_seq_ret ?_
                    obtain rfl := Option.some.inj h
                    refine At_body rfl rfl ?_
                    exact ⟨hL99.ext, rfl⟩
                · replace h := Go.L.ite_n (of_decide_eq_false hg102) h
                  refine S_unwanted rfl rfl hg102 rfl ?_
                  refine S_unwanted rfl rfl hg102 rfl ?_
                  refine S_unwanted rfl rfl hg102 rfl ?_
                  refine S_v (r_pickF rfl hg102 rfl) rfl ?_
                  refine S_pu 1 rfl ?_
                  refine S_unwanted rfl rfl rfl rfl ?_
                  refine S_unwanted rfl rfl rfl rfl ?_
                  refine S_unwanted rfl rfl rfl rfl ?_
                  refine S_v (r_pickF rfl rfl rfl) rfl ?_
                  refine S_pu 1 rfl ?_
                  refine S_seqnil ?_
                  refine W_ret ?_
                  refine At_seq_ret ?_
                  obtain rfl := Option.some.inj h
                  refine At_body rfl rfl ?_
                  exact ⟨hL99.ext, rfl⟩
              · replace h := Go.L.ite_f hg100 h
                refine S_unwanted rfl rfl hg100 rfl ?_
                refine S_unwanted rfl rfl hg100 rfl ?_
                refine S_unwanted rfl rfl hg100 rfl ?_
                refine S_v (r_pickF rfl hg100 rfl) rfl ?_
                refine S_pu 1 rfl ?_
                refine S_unwanted rfl rfl rfl rfl ?_
                refine S_unwanted rfl rfl rfl rfl ?_
                refine S_unwanted rfl rfl rfl rfl ?_
                refine S_v (r_pickF rfl rfl rfl) rfl ?_
                refine S_pu 1 rfl ?_
                refine S_unwanted rfl rfl rfl rfl ?_
                refine S_unwanted rfl rfl rfl rfl ?_
                refine S_unwanted rfl rfl rfl rfl ?_
                refine S_v (r_pickF rfl rfl rfl) rfl ?_
                refine S_pu 1 rfl ?_
                refine S_seqnil ?_
                refine W_ret ?_
                refine At_seq_ret ?_
                obtain rfl := Option.some.inj h
                refine At_body rfl rfl ?_
                exact ⟨hL99.ext, rfl⟩
            · replace h := Go.L.ite_p hc97 h
              refine W_skip ?_
              refine At_seq ?_
              refine W_cut (σ := Unit) (fun (_ : Unit) => [(1, .int .i64 a1), (7, u1_0), (9, u4_0)]) (fun (_ : Unit) wr => Lcl w [.box b9 [.int .i64 c48, .int .i64 c49] 25, .box b5 [.int .i64 (((M.jnF a0 a1)).1), .int .i64 (((M.jnF a0 a1)).2)] 25, .box b2 [.int .i64 (((M.rnF a0 a1 a2)).1), .int .i64 (((M.rnF a0 a1 a2)).2)] 25] wr ∧ Vec (.pair (.int .i64) (.vec .byte)) (gz H w wr [.box b9 [.int .i64 c48, .int .i64 c49] 25, .box b5 [.int .i64 (((M.jnF a0 a1)).1), .int .i64 (((M.jnF a0 a1)).2)] 25, .box b2 [.int .i64 (((M.rnF a0 a1 a2)).1), .int .i64 (((M.rnF a0 a1 a2)).2)] 25]) (u1_0) ((M.rnA a0 a1 a2)) ∧ Vec .byte (gz H w wr [.box b9 [.int .i64 c48, .int .i64 c49] 25, .box b5 [.int .i64 (((M.jnF a0 a1)).1), .int .i64 (((M.jnF a0 a1)).2)] 25, .box b2 [.int .i64 (((M.rnF a0 a1 a2)).1), .int .i64 (((M.rnF a0 a1 a2)).2)] 25]) (u4_0) ((M.jn a0 a1)) ∧ (law4_SharesRenewMatchesSpec_k3 a0 a1 a2) = some r) ?_ ?_
              · refine W_seqr ?_
                refine S_pu 1 rfl ?_
                refine S_seqnil ?_
                refine W_block ?_
                obtain ⟨n215, h⟩ := Go.L.run_some h
                refine W_loop (σ := Int × Nat) (fun (⟨s12_214, n⟩ : Int × Nat) => [(0, v0_0), (1, .int .i64 a1), (2, v2_0), (7, u1_0), (9, u4_0), (12, .int .i64 s12_214)]) (fun (⟨s12_214, n⟩ : Int × Nat) wr => Lcl w [.box b9 [.int .i64 c48, .int .i64 c49] 25, .box b5 [.int .i64 (((M.jnF a0 a1)).1), .int .i64 (((M.jnF a0 a1)).2)] 25, .box b2 [.int .i64 (((M.rnF a0 a1 a2)).1), .int .i64 (((M.rnF a0 a1 a2)).2)] 25] wr ∧ Vec (.pair (.int .i64) (.vec .byte)) (gz H w wr [.box b9 [.int .i64 c48, .int .i64 c49] 25, .box b5 [.int .i64 (((M.jnF a0 a1)).1), .int .i64 (((M.jnF a0 a1)).2)] 25, .box b2 [.int .i64 (((M.rnF a0 a1 a2)).1), .int .i64 (((M.rnF a0 a1 a2)).2)] 25]) (u1_0) ((M.rnA a0 a1 a2)) ∧ Vec .byte (gz H w wr [.box b9 [.int .i64 c48, .int .i64 c49] 25, .box b5 [.int .i64 (((M.jnF a0 a1)).1), .int .i64 (((M.jnF a0 a1)).2)] 25, .box b2 [.int .i64 (((M.rnF a0 a1 a2)).1), .int .i64 (((M.rnF a0 a1 a2)).2)] 25]) (u4_0) ((M.jn a0 a1)) ∧ Go.L.itr (law4_SharesRenewMatchesSpec_bl4 a0 a1 a2) n s12_214 = some r) (fun (⟨s12_214, n⟩ : Int × Nat) => n) ((0 : Int), n215) (.cons rfl (.cons rfl (.cons rfl (.cons rfl (.cons rfl (.cons rfl (Sub.nil _))))))) ⟨hL57, hf50_0, hf50_1, h⟩ ?_
                rintro ⟨s12_214, nn215⟩ wr215 ⟨hL215, hf215_0, hf215_1, h⟩
                obtain ⟨n215, e215, rfl, h, hm215⟩ := Go.L.itr_some h
                refine W_seq ?_
                refine W_seqr ?_
                refine S_pu 2 rfl ?_
                refine S_v (r_len rfl Try.underlying23 h0_0) rfl ?_
                refine S_pu 1 rfl ?_
                refine S_seqnil ?_
                refine W_if rfl (fun hc217 => ?_) (fun hc217 => ?_)
                · replace h := Go.L.ite_p hc217 h
                  refine W_skip ?_
                  refine At_seq ?_
                  refine W_seq ?_
                  refine W_block ?_
                  refine W_seqr ?_
                  refine S_pu 2 rfl ?_
                  obtain ⟨hk220, h⟩ := Go.L.chk_some h
                  refine S_index rfl rfl Try.underlying23 zr32 h0_0 s12_214.toNat (Int.toNat_of_nonneg hk220.1).symm (idx_lt hk220) rfl ?_
                  rintro p219 _ ⟨_, _, rfl, rfl, ⟨e219v1, rfl, e219h1⟩⟩ hp219
                  refine S_v (r_field rfl Try.underlying32 rfl zr22 (by decide)) rfl ?_
                  have hp221 := hp219.add 1
                  refine S_v (r_load1 rfl Try.underlying22 rfl hp221 (hH.trans hL215.arg)) rfl ?_
                  refine S_v (r_len rfl Try.underlying22 e219h1) rfl ?_
                  obtain ⟨hk223, h⟩ := Go.L.chk_some h
                  refine S_makeE (r := .byte) (z := (0 : UInt8)) rfl rfl rfl Try.underlying22 zr5 rfl (fun _ => rfl) rfl hH hL215 hk223 ?_
                  intro v222 w222 xs222 hL222 hle222 he222
                  replace hf215_0 := hf215_0.mono (gz_mono hH hle222)
                  replace hf215_1 := hf215_1.mono (gz_mono hH hle222)
                  refine S_pu 1 rfl ?_
                  refine S_seqnil ?_
                  refine W_seqd (.q 0 (.q 1 (.q 2 (.q 3 (.q 4 (.q 5 (.q 6 (.q 7 (.q 8 (.q 9 (.q 10 (.q 11 (.q 12 (.h 13 (.q 14 (.h 15 (.q 16 (.tail 17)))))))))))))))))) mixed (by kernel_rfl) (fun w224 hx224 => ?_)
                  have hL225 := hL222.call hx224
                  have hle225 := fz_ext hL222 hx224
                  replace hf215_0 := hf215_0.mono (gz_mono hH hle225)
                  replace hf215_1 := hf215_1.mono (gz_mono hH hle225)
                  replace he222 := he222.mono (gz_mono hH hle225)
                  refine D_pu 2 rfl ?_
                  obtain ⟨hk227, h⟩ := Go.L.chk_some h
                  refine D_index rfl rfl rfl Try.underlying23 zr32 h0_0 s12_214.toNat (Int.toNat_of_nonneg hk227.1).symm (idx_lt hk227) rfl ?_
                  rintro p226 _ ⟨_, _, rfl, rfl, ⟨e226v1, rfl, e226h1⟩⟩ hp226
                  refine D_v (r_field rfl Try.underlying32 rfl zr22 (by decide)) rfl rfl ?_
                  have hp228 := hp226.add 1
                  refine D_v (r_load1 rfl Try.underlying22 rfl hp228 (hH.trans hL225.arg)) rfl rfl ?_
                  refine D_pu 5 rfl ?_
                  obtain ⟨hk230, h⟩ := Go.L.chk_some h
                  refine D_index rfl rfl rfl Try.underlying23 zr32 h0_0 s12_214.toNat (Int.toNat_of_nonneg hk230.1).symm (idx_lt hk230) rfl ?_
                  rintro p229 _ ⟨_, _, rfl, rfl, ⟨e229v1, rfl, e229h1⟩⟩ hp229
                  refine D_v (r_field rfl Try.underlying32 rfl zr3 (by decide)) rfl rfl ?_
                  have hp231 := hp229.add 0
                  refine D_v (r_load1 rfl Try.underlying3 rfl hp231 (hH.trans hL225.arg)) rfl rfl ?_
                  obtain ⟨x232, hb232, h⟩ := Go.L.bind_some h
                  refine D_hcall rfl rfl rfl (fun w234 hx234 => share_l _ _ (Le.refl _) ((hL225.vecN hH (i := 0) rfl he222).mono hx234.le) ((h2_0.mono (hH.trans hL225.arg)).mono hx234.le) hb232) ?_
                  rintro w234 _ w233 hx234 hx233 ⟨u233_0, rfl, hR233_0⟩
                  have hL235 := hL225.call hx234
                  have hle235 := fz_ext hL225 hx234
                  replace hf215_0 := hf215_0.mono (gz_mono hH hle235)
                  replace hf215_1 := hf215_1.mono (gz_mono hH hle235)
                  replace he222 := he222.mono (gz_mono hH hle235)
                  have hL233 := hL235.call hx233
                  have hle233 := fz_ext hL235 hx233
                  have hv233_0 := (hR233_0.ofPlain plain_byte).vecG hH hL235 hx233
                  replace hf215_0 := hf215_0.mono (gz_mono hH hle233)
                  replace hf215_1 := hf215_1.mono (gz_mono hH hle233)
                  replace he222 := he222.mono (gz_mono hH hle233)
                  refine D_v (r_part rfl Try.underlying32 rfl Try.underlying22 rfl rfl) rfl rfl ?_
                  obtain ⟨x236, hb236, h⟩ := Go.L.bind_some h
                  refine D_hcall rfl rfl rfl (fun w238 hx238 => ref4_Sum_ok _ _ (gz_le hH (hL233.call hx238)) (e226h1.mono (gz_left hH)) (hv233_0.mono (gz_mono hH (fz_ext hL233 hx238))) hb236) ?_
                  rintro w238 u237_0 w237 hx238 hx237 ⟨_, rfl, hR237_0⟩
                  have hL239 := hL233.call hx238
                  have hle239 := fz_ext hL233 hx238
                  replace hf215_0 := hf215_0.mono (gz_mono hH hle239)
                  replace hf215_1 := hf215_1.mono (gz_mono hH hle239)
                  replace he222 := he222.mono (gz_mono hH hle239)
                  replace hv233_0 := hv233_0.mono (gz_mono hH hle239)
                  have hL237 := hL239.call hx237
                  have hle237 := fz_ext hL239 hx237
                  have hv237_0 := hR237_0.vecG hH hL239 hx237
                  replace hf215_0 := hf215_0.mono (gz_mono hH hle237)
                  replace hf215_1 := hf215_1.mono (gz_mono hH hle237)
                  replace he222 := he222.mono (gz_mono hH hle237)
                  replace hv233_0 := hv233_0.mono (gz_mono hH hle237)
                  refine D_pu 1 rfl ?_
                  refine D_tail (fun w240 hx240 => ?_)
                  have hL241 := hL237.call hx240
                  have hle241 := fz_ext hL237 hx240
                  replace hf215_0 := hf215_0.mono (gz_mono hH hle241)
                  replace hf215_1 := hf215_1.mono (gz_mono hH hle241)
                  replace he222 := he222.mono (gz_mono hH hle241)
                  replace hv233_0 := hv233_0.mono (gz_mono hH hle241)
                  replace hv237_0 := hv237_0.mono (gz_mono hH hle241)
                  refine S_seqnil ?_
                  refine W_seqd (.q 0 (.q 1 (.q 2 (.q 3 (.q 4 (.q 5 (.q 6 (.q 7 (.q 8 (.q 9 (.q 10 (.q 11 (.q 12 (.q 13 (.q 14 (.q 15 (.q 16 (.q 17 (.q 18 (.q 19 (.q 20 (.tail 21)))))))))))))))))))))) mixed (by kernel_rfl) (fun w242 hx242 => ?_)
                  have hL243 := hL241.call hx242
                  have hle243 := fz_ext hL241 hx242
                  replace hf215_0 := hf215_0.mono (gz_mono hH hle243)
                  replace hf215_1 := hf215_1.mono (gz_mono hH hle243)
                  replace he222 := he222.mono (gz_mono hH hle243)
                  replace hv237_0 := hv237_0.mono (gz_mono hH hle243)
                  refine D_pu 2 rfl ?_
                  obtain ⟨hk245, h⟩ := Go.L.chk_some h
                  refine D_index rfl rfl rfl Try.underlying23 zr32 hf215_0 s12_214.toNat (Int.toNat_of_nonneg hk245.1).symm (idx_lt hk245) rfl ?_
                  rintro p244 _ ⟨_, _, rfl, rfl, ⟨e244v1, rfl, e244h1⟩⟩ hp244
                  refine D_v (r_field rfl Try.underlying32 rfl zr3 (by decide)) rfl rfl ?_
                  have hp246 := hp244.add 0
                  refine D_v (r_load1 rfl Try.underlying3 rfl hp246 (gz_le hH hL243)) rfl rfl ?_
                  refine D_pu 2 rfl ?_
                  obtain ⟨hk248, h⟩ := Go.L.chk_some h
                  refine D_index rfl rfl rfl Try.underlying23 zr32 h0_0 s12_214.toNat (Int.toNat_of_nonneg hk248.1).symm (idx_lt hk248) rfl ?_
                  rintro p247 _ ⟨_, _, rfl, rfl, ⟨e247v1, rfl, e247h1⟩⟩ hp247
                  refine D_v (r_field rfl Try.underlying32 rfl zr3 (by decide)) rfl rfl ?_
                  have hp249 := hp247.add 0
                  refine D_v (r_load1 rfl Try.underlying3 rfl hp249 (hH.trans hL243.arg)) rfl rfl ?_
                  refine D_pu 2 rfl ?_
                  refine D_split (s := 129) rfl (fun hg250 => ?_) (fun hg250 => ?_)
                  · replace h := Go.L.ite_n (not_dec_t hg250) h
                    refine D_no rfl rfl rfl rfl hg250 rfl ?_
                    refine D_no rfl rfl rfl rfl hg250 rfl ?_
                    refine D_no rfl rfl rfl rfl hg250 rfl ?_
                    refine D_no rfl rfl rfl rfl hg250 rfl ?_
                    refine D_no rfl rfl rfl rfl hg250 rfl ?_
                    refine D_no rfl rfl rfl rfl hg250 rfl ?_
                    refine D_no rfl rfl rfl rfl hg250 rfl ?_
                    refine D_no rfl rfl rfl rfl hg250 rfl ?_
                    refine D_v (r_pickT rfl hg250 rfl) rfl rfl ?_
                    refine D_tail (fun w252 hx252 => ?_)
                    have hL253 := hL243.call hx252
                    have hle253 := fz_ext hL243 hx252
                    replace hf215_0 := hf215_0.mono (gz_mono hH hle253)
                    replace hf215_1 := hf215_1.mono (gz_mono hH hle253)
                    replace he222 := he222.mono (gz_mono hH hle253)
                    replace hv237_0 := hv237_0.mono (gz_mono hH hle253)
                    replace hp244 := hp244.mono (gz_mono hH hle253)
                    replace e244h1 := e244h1.mono (gz_mono hH hle253)
                    replace hp246 := hp246.mono (gz_mono hH hle253)
                    refine S_seqnil ?_
                    refine W_true rfl ?_
                    refine W_seqr ?_
                    refine S_pu 1 rfl ?_
                    refine S_seqnil ?_
                    refine W_ret ?_
                    refine At_block_ret ?_
                    refine At_seq_ret ?_
                    refine At_loop_ret ?_
                    replace h := Go.L.Nxt.out h hm215
                    refine At_block_ret ?_
                    refine At_cut_ret ?_
                    obtain rfl := Option.some.inj h
                    refine At_body rfl rfl ?_
                    exact ⟨hL253.ext, rfl⟩
                  · replace h := Go.L.ite_p (not_dec_f hg250) h
                    refine D_vg (RunsAt_pu rfl) rfl rfl rfl rfl hg250 rfl ?_
                    refine D_vg (RunsAt_pu rfl) rfl rfl rfl rfl hg250 rfl ?_
                    obtain ⟨hk256, h⟩ := Go.L.chk_some h
                    refine D_indexg rfl rfl rfl rfl hg250 rfl rfl Try.underlying23 zr32 hf215_0 s12_214.toNat (Int.toNat_of_nonneg hk256.1).symm (idx_lt hk256) rfl ?_
                    rintro p255 _ ⟨_, _, rfl, rfl, ⟨e255v1, rfl, e255h1⟩⟩ hp255
                    refine D_vg (r_field rfl Try.underlying32 rfl zr22 (by decide)) rfl rfl rfl rfl hg250 rfl ?_
                    have hp257 := hp255.add 1
                    refine D_vg (r_load1 rfl Try.underlying22 rfl hp257 (gz_le hH hL243)) rfl rfl rfl rfl hg250 rfl ?_
                    refine D_vg (RunsAt_pu rfl) rfl rfl rfl rfl hg250 rfl ?_
                    refine D_callg rfl rfl rfl rfl hg250 rfl rfl (fun w258 hx258 => same_l _ _ (Le.refl _) ((e255h1.mono (gz_le hH hL243)).mono hx258.le) ((hv237_0.mono (gz_le hH hL243)).mono hx258.le)) ?_
                    refine D_vg (RunsAt_pu rfl) rfl rfl rfl rfl hg250 rfl ?_
                    refine D_v (r_pickF rfl hg250 rfl) rfl rfl ?_
                    refine D_tail (fun w259 hx259 => ?_)
                    have hL260 := hL243.call hx259
                    have hle260 := fz_ext hL243 hx259
                    replace hf215_0 := hf215_0.mono (gz_mono hH hle260)
                    replace hf215_1 := hf215_1.mono (gz_mono hH hle260)
                    replace he222 := he222.mono (gz_mono hH hle260)
                    replace hv237_0 := hv237_0.mono (gz_mono hH hle260)
                    replace hp244 := hp244.mono (gz_mono hH hle260)
                    replace e244h1 := e244h1.mono (gz_mono hH hle260)
                    replace hp246 := hp246.mono (gz_mono hH hle260)
                    replace hp255 := hp255.mono (gz_mono hH hle260)
                    replace e255h1 := e255h1.mono (gz_mono hH hle260)
                    replace hp257 := hp257.mono (gz_mono hH hle260)
                    refine S_seqnil ?_
                    refine W_ifn rfl (fun hc261 => ?_) (fun hc261 => ?_)
                    · replace h := Go.L.ite_n hc261 h
                      refine W_seqr ?_
                      refine S_pu 1 rfl ?_
                      refine S_seqnil ?_
                      refine W_ret ?_
                      refine At_block_ret ?_
                      refine At_seq_ret ?_
                      refine At_loop_ret ?_
                      replace h := Go.L.Nxt.out h hm215
                      refine At_block_ret ?_
                      refine At_cut_ret ?_
                      obtain rfl := Option.some.inj h
                      refine At_body rfl rfl ?_
                      exact ⟨hL260.ext, rfl⟩
                    · replace h := Go.L.ite_p hc261 h
                      refine W_skip ?_
                      refine At_block ?_
                      refine At_seq ?_
                      refine W_region ?_
                      refine S_pu 1 rfl ?_
                      obtain ⟨hk264, h⟩ := Go.L.chk_some h
                      refine S_v (r_ar64 rfl rfl rfl hk264) rfl ?_
                      refine S_pu 1 rfl ?_
                      refine S_nil ?_
                      have hL265 := hL260.dropAt (i := 0) rfl
                      replace hf215_0 := hf215_0.mono (gz_mono hH (fz_dropAt (i := 0) rfl))
                      replace hf215_1 := hf215_1.mono (gz_mono hH (fz_dropAt (i := 0) rfl))
                      replace hv237_0 := hv237_0.mono (gz_mono hH (fz_dropAt (i := 0) rfl))
                      replace e255h1 := e255h1.mono (gz_mono hH (fz_dropAt (i := 0) rfl))
                      have h := Go.L.Nxt.again h hm215
                      refine At_round ((s12_214 + (1 : Int)), n215) (.cons rfl (.cons rfl (.cons rfl (.cons rfl (.cons rfl (.cons rfl (Sub.nil _))))))) ⟨hL265, hf215_0, hf215_1, h⟩ (Nat.lt_succ_self _)
                · replace h := Go.L.ite_n hc217 h
                  refine W_exit ?_
                  refine At_seq_exit ?_
                  refine At_loop_exit ?_
                  replace h := Go.L.Nxt.out h hm215
                  refine At_exit ?_
                  refine At_cut () (.cons rfl (.cons rfl (.cons rfl (Sub.nil _)))) ⟨hL215, hf215_0, hf215_1, h⟩
              · rintro _ wr162 ⟨hL162, hf162_0, hf162_1, h⟩
                refine W_seqr ?_
                refine S_pu 2 rfl ?_
                refine S_callL rfl rfl hL162 (join_l _ _ (gz_le hH hL162) hf162_0) ?_
                rintro _ w268 ⟨u268_0, rfl, hR268_0⟩ hx268 hL268 hle268
                have hv268_0 := hR268_0.vecG hH hL162 hx268
                replace hf162_0 := hf162_0.mono (gz_mono hH hle268)
                replace hf162_1 := hf162_1.mono (gz_mono hH hle268)
                refine S_pu 3 rfl ?_
                refine S_alloc zr25 rfl rfl hL268 ?_
                intro w269 b269 hL269 hle269 _
                replace hf162_0 := hf162_0.mono (gz_mono hH hle269)
                replace hf162_1 := hf162_1.mono (gz_mono hH hle269)
                replace hv268_0 := hv268_0.mono (gz_mono hH hle269)
                refine S_pu 1 rfl ?_
                refine S_storeBN 0 rfl rfl rfl zr25 hL269 rfl rfl (onc rfl (onc rfl on0)) ?_
                intro w270 hL270 hle270
                replace hf162_0 := hf162_0.mono (gz_mono hH hle270)
                replace hf162_1 := hf162_1.mono (gz_mono hH hle270)
                replace hv268_0 := hv268_0.mono (gz_mono hH hle270)
                refine S_seqnil ?_
                refine W_seqr ?_
                refine S_v (r_field rfl Try.underlying25 rfl zr3 (by decide)) rfl ?_
                refine S_v (r_loadB1 0 rfl Try.underlying3 rfl hL270 rfl rfl) rfl ?_
                refine S_pu 2 rfl ?_
                refine S_split (s := 148) rfl (fun hg271 => ?_) (fun hg271 => ?_)
                · replace h := Go.L.ite_p (of_decide_eq_true hg271) h
                  refine S_guarded rfl rfl hg271 ?_
                  refine S_v (RunsAt_pu rfl) rfl ?_
                  refine S_guarded rfl rfl hg271 ?_
                  refine S_v (RunsAt_pu rfl) rfl ?_
                  refine S_guarded rfl rfl hg271 ?_
                  refine S_callL rfl rfl hL270 (same_l _ _ (gz_le hH hL270) hf162_1 hv268_0) ?_
                  rintro _ w273 rfl hx273 hL273 hle273
                  replace hf162_1 := hf162_1.mono (gz_mono hH hle273)
                  replace hv268_0 := hv268_0.mono (gz_mono hH hle273)
                  refine S_v (r_pickT rfl hg271 rfl) rfl ?_
                  refine S_pu 1 rfl ?_
                  refine S_seqnil ?_
                  refine W_ret ?_
                  obtain rfl := Option.some.inj h
                  refine At_body rfl rfl ?_
                  exact ⟨hL273.ext, rfl⟩
                · replace h := Go.L.ite_n (of_decide_eq_false hg271) h
                  refine S_unwanted rfl rfl hg271 rfl ?_
                  refine S_unwanted rfl rfl hg271 rfl ?_
                  refine S_unwanted rfl rfl hg271 rfl ?_
                  refine S_v (r_pickF rfl hg271 rfl) rfl ?_
                  refine S_pu 1 rfl ?_
                  refine S_seqnil ?_
                  refine W_ret ?_
                  obtain rfl := Option.some.inj h
                  refine At_body rfl rfl ?_
                  exact ⟨hL270.ext, rfl⟩
end Go.Proofs.Ytidedcbaahiplaa
