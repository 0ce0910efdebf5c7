/- Generated walk: a law of words. -/
import Derived.Test.YtdiieblgeaehpaaDoorP8
import Derived.KernelRfl
namespace Go.Proofs.YtdiieblgeaehpaaDoor
open Go Go.E Go.RowKit
noncomputable def law4_WordsSplitMatchesSpec_k1 : Option (Bool) :=
  some (true)
noncomputable def law4_WordsSplitMatchesSpec_bl2 (x1 : (List ((List UInt8) × Int × Int)) × (Int × Int)) (x35 : (List ((List UInt8) × Int × Int))) : Int → Option ((Int) ⊕ (Bool)) := fun s7_92 =>
  if s7_92 < (x1.1.length : Int) then Go.L.chk (0 ≤ s7_92 ∧ s7_92 < (x1.1.length : Int)) (Go.L.chk (0 ≤ s7_92 ∧ s7_92 < (x35.length : Int)) (if (x1.1.getD s7_92.toNat default).1 = (x35.getD s7_92.toNat default).1 ∧ (x1.1.getD s7_92.toNat default).2.1 = (x35.getD s7_92.toNat default).2.1 ∧ (x1.1.getD s7_92.toNat default).2.2 = (x35.getD s7_92.toNat default).2.2 then Go.L.chk (Go.L.I64 (s7_92 + (1 : Int))) (some (Sum.inl (s7_92 + (1 : Int)))) else Option.map Sum.inr (some (false)))) else Option.map Sum.inr (law4_WordsSplitMatchesSpec_k1)
noncomputable def law4_WordsSplitMatchesSpec_l2 (x1 : (List ((List UInt8) × Int × Int)) × (Int × Int)) (x35 : (List ((List UInt8) × Int × Int))) (s : Int) : Option (Bool) := Go.L.run (law4_WordsSplitMatchesSpec_bl2 x1 x35) s
noncomputable def law4_WordsSplitMatchesSpec (a0 : List UInt8) : Option (Bool) :=
  Option.bind (words_Split a0) (fun x1 => Option.bind (law4_textFault a0) (fun x5 => Option.bind (law4_speaks) (fun x11 => if !x11 then some (false) else if x1.2.1 = x5.1 ∧ x1.2.2 = x5.2 then Option.bind (words_Check a0) (fun x23 => Option.bind (ref4_WordFault a0) (fun x25 => if x23.1 = x25.1 ∧ x23.2 = x25.2 then (if x5.1 = (0 : Int) then Option.bind (ref4_Words a0) (fun x35 => if (x1.1.length : Int) = (x35.length : Int) then (law4_WordsSplitMatchesSpec_l2 x1 x35) (0 : Int) else some (false)) else some (decide ((x1.1.length : Int) = (0 : Int)))) else some (false))) else some (false))))

set_option maxHeartbeats 1000000 in
set_option maxRecDepth 10000 in
theorem law4_WordsSplitMatchesSpec_ok (w : World) (H : PH) (hH : Le H (hp w)) (hU : Utab H) {a0 : List UInt8} {v0_0 : Value} (h0_0 : Vec .byte H v0_0 (a0)) {r : Bool} (h : law4_WordsSplitMatchesSpec a0 = some r) :
    Ok Tryd.prog 3 [v0_0] w (fun v w' => Ext w w' ∧ v = .bool r) := by
  refine Ok_enter (n := 59) [(0, v0_0)] Tryd.func3 rfl rfl rfl rfl rfl ?_
  have hL := Lcl.start w
  refine W_seqr ?_
  refine S_pu 1 rfl ?_
  refine S_seqnil ?_
  refine W_seqr ?_
  refine S_pu 1 rfl ?_
  obtain ⟨x1, hb1, h⟩ := Go.L.bind_some h
  refine S_callL rfl rfl hL (words_Split_ok _ _ (gz_le hH hL) (hU.mono (gz_left hH)) (h0_0.mono (gz_left hH)) hb1) ?_
  rintro _ w2 ⟨u2_0, rfl, hR2_0⟩ hx2 hL2 hle2
  have hv2_0 := hR2_0.vecG hH hL hx2
  refine S_pu 3 rfl ?_
  refine S_alloc zr25 rfl rfl hL2 ?_
  intro w3 b3 hL3 hle3 _
  replace hv2_0 := hv2_0.mono (gz_mono hH hle3)
  refine S_pu 1 rfl ?_
  refine S_storeBN 0 rfl rfl rfl zr25 hL3 rfl rfl (onc rfl (onc rfl on0)) ?_
  intro w4 hL4 hle4
  replace hv2_0 := hv2_0.mono (gz_mono hH hle4)
  refine S_seqnil ?_
  refine W_seqr ?_
  refine S_pu 1 rfl ?_
  obtain ⟨x5, hb5, h⟩ := Go.L.bind_some h
  refine S_callL rfl rfl hL4 (law4_textFault_ok _ _ (gz_le hH hL4) (h0_0.mono (gz_left hH)) hb5) ?_
  rintro _ w6 rfl hx6 hL6 hle6
  replace hv2_0 := hv2_0.mono (gz_mono hH hle6)
  refine S_alloc zr25 rfl rfl hL6 ?_
  intro w7 b7 hL7 hle7 _
  replace hv2_0 := hv2_0.mono (gz_mono hH hle7)
  refine S_storeBN 0 rfl rfl rfl zr25 hL7 rfl rfl (onc rfl (onc rfl on0)) ?_
  intro w8 hL8 hle8
  replace hv2_0 := hv2_0.mono (gz_mono hH hle8)
  refine S_seqnil ?_
  refine W_seq ?_
  refine W_seqd (.q 0 (.q 1 (.q 2 (.q 3 (.q 4 (.q 5 (.q 6 (.q 7 (.q 8 (.q 9 (.q 10 (.q 11 (.q 12 (.q 13 (.q 14 (.q 15 (.tail 16))))))))))))))))) mixed (by kernel_rfl) (fun w9 hx9 => ?_)
  have hL10 := hL8.call hx9
  have hle10 := fz_ext hL8 hx9
  replace hv2_0 := hv2_0.mono (gz_mono hH hle10)
  obtain ⟨x11, hb11, h⟩ := Go.L.bind_some h
  refine D_call rfl rfl rfl (fun w12 hx12 => law4_speaks_ok _ _ (Le.refl _) (hU.mono (hH.trans (hL10.call hx12).arg)) hb11) ?_
  refine D_pu 2 rfl ?_
  refine D_split (s := 17) rfl (fun hg13 => ?_) (fun hg13 => ?_)
  · replace h := Go.L.ite_t hg13 h
    refine D_no rfl rfl rfl rfl hg13 rfl ?_
    refine D_no rfl rfl rfl rfl hg13 rfl ?_
    refine D_no rfl rfl rfl rfl hg13 rfl ?_
    refine D_v (r_pickT rfl hg13 rfl) rfl rfl ?_
    refine D_pu 1 rfl ?_
    refine D_no rfl rfl rfl rfl rfl rfl ?_
    refine D_no rfl rfl rfl rfl rfl rfl ?_
    refine D_no rfl rfl rfl rfl rfl rfl ?_
    refine D_no rfl rfl rfl rfl rfl rfl ?_
    refine D_no rfl rfl rfl rfl rfl rfl ?_
    refine D_no rfl rfl rfl rfl rfl rfl ?_
    refine D_no rfl rfl rfl rfl rfl rfl ?_
    refine D_v (r_pickT rfl rfl rfl) rfl rfl ?_
    refine D_tail (fun w15 hx15 => ?_)
    have hL16 := hL10.call hx15
    have hle16 := fz_ext hL10 hx15
    replace hv2_0 := hv2_0.mono (gz_mono hH hle16)
    refine S_seqnil ?_
    refine W_true rfl ?_
    refine W_seqr ?_
    refine S_pu 1 rfl ?_
    refine S_seqnil ?_
    refine W_ret ?_
    refine At_seq_ret ?_
    obtain rfl := Option.some.inj h
    refine At_body rfl rfl ?_
    exact ⟨hL16.ext, rfl⟩
  · replace h := Go.L.ite_f hg13 h
    refine D_vg (r_loadBN 1 rfl Tryd.underlying25 rfl zr25 hL10 rfl) rfl rfl rfl rfl hg13 rfl ?_
    refine D_vg (r_loadBN 0 rfl Tryd.underlying25 rfl zr25 hL10 rfl) rfl rfl rfl rfl hg13 rfl ?_
    refine D_vg (r_neA rfl rfl eqg25 (eq25 _ _ _ _ )) rfl rfl rfl rfl hg13 rfl ?_
    refine D_v (r_pickF rfl hg13 rfl) rfl rfl ?_
    refine D_pu 1 rfl ?_
    refine D_split (s := 22) rfl (fun hg18 => ?_) (fun hg18 => ?_)
    · replace h := Go.L.ite_n (not_dec_t hg18) h
      refine D_no rfl rfl rfl rfl hg18 rfl ?_
      refine D_no rfl rfl rfl rfl hg18 rfl ?_
      refine D_no rfl rfl rfl rfl hg18 rfl ?_
      refine D_no rfl rfl rfl rfl hg18 rfl ?_
      refine D_no rfl rfl rfl rfl hg18 rfl ?_
      refine D_no rfl rfl rfl rfl hg18 rfl ?_
      refine D_no rfl rfl rfl rfl hg18 rfl ?_
      refine D_v (r_pickT rfl hg18 rfl) rfl rfl ?_
      refine D_tail (fun w20 hx20 => ?_)
      have hL21 := hL10.call hx20
      have hle21 := fz_ext hL10 hx20
      replace hv2_0 := hv2_0.mono (gz_mono hH hle21)
      refine S_seqnil ?_
      refine W_true rfl ?_
      refine W_seqr ?_
      refine S_pu 1 rfl ?_
      refine S_seqnil ?_
      refine W_ret ?_
      refine At_seq_ret ?_
      obtain rfl := Option.some.inj h
      refine At_body rfl rfl ?_
      exact ⟨hL21.ext, rfl⟩
    · replace h := Go.L.ite_p (not_dec_f hg18) h
      refine D_vg (RunsAt_pu rfl) rfl rfl rfl rfl hg18 rfl ?_
      refine D_vg (r_str rfl Tryd.underlying22 Tryd.underlying5 Tryd.underlying9 h0_0 (hH.trans hL10.arg)) rfl rfl rfl rfl hg18 rfl ?_
      obtain ⟨x23, hb23, h⟩ := Go.L.bind_some h
      refine D_callg rfl rfl rfl rfl hg18 rfl rfl (fun w24 hx24 => words_Check_ok _ _ (Le.refl _) (hU.mono (hH.trans (hL10.call hx24).arg)) hb23) ?_
      refine D_vg (RunsAt_pu rfl) rfl rfl rfl rfl hg18 rfl ?_
      refine D_vg (r_str rfl Tryd.underlying22 Tryd.underlying5 Tryd.underlying9 h0_0 (hH.trans hL10.arg)) rfl rfl rfl rfl hg18 rfl ?_
      obtain ⟨x25, hb25, h⟩ := Go.L.bind_some h
      refine D_callg rfl rfl rfl rfl hg18 rfl rfl (fun w26 hx26 => ref4_WordFault_ok _ _ (Le.refl _) hb25) ?_
      refine D_vg (r_neA rfl rfl eqg25 (eq25 _ _ _ _ )) rfl rfl rfl rfl hg18 rfl ?_
      refine D_v (r_pickF rfl hg18 rfl) rfl rfl ?_
      refine D_tail (fun w27 hx27 => ?_)
      have hL28 := hL10.call hx27
      have hle28 := fz_ext hL10 hx27
      replace hv2_0 := hv2_0.mono (gz_mono hH hle28)
      refine S_seqnil ?_
      refine W_ifn rfl (fun hc29 => ?_) (fun hc29 => ?_)
      · replace h := Go.L.ite_n hc29 h
        refine W_seqr ?_
        refine S_pu 1 rfl ?_
        refine S_seqnil ?_
        refine W_ret ?_
        refine At_seq_ret ?_
        obtain rfl := Option.some.inj h
        refine At_body rfl rfl ?_
        exact ⟨hL28.ext, rfl⟩
      · replace h := Go.L.ite_p hc29 h
        refine W_skip ?_
        refine At_seq ?_
        refine W_seq ?_
        refine W_seqr ?_
        refine S_v (r_field rfl Tryd.underlying25 rfl zr3 (by decide)) rfl ?_
        refine S_v (r_loadB1 0 rfl Tryd.underlying3 rfl hL28 rfl rfl) rfl ?_
        refine S_pu 1 rfl ?_
        refine S_seqnil ?_
        refine W_ifn rfl (fun hc32 => ?_) (fun hc32 => ?_)
        · replace h := Go.L.ite_n hc32 h
          refine W_seqr ?_
          refine S_pu 1 rfl ?_
          refine S_v (r_len rfl Tryd.underlying23 hv2_0) rfl ?_
          refine S_pu 2 rfl ?_
          refine S_seqnil ?_
          refine W_ret ?_
          refine At_seq_ret ?_
          obtain rfl := Option.some.inj h
          refine At_body rfl rfl ?_
          exact ⟨hL28.ext, rfl⟩
        · replace h := Go.L.ite_p hc32 h
          refine W_skip ?_
          refine At_seq ?_
          refine W_seqr ?_
          refine S_pu 1 rfl ?_
          obtain ⟨x35, hb35, h⟩ := Go.L.bind_some h
          refine S_callL rfl rfl hL28 (ref4_Words_ok _ _ (gz_le hH hL28) (h0_0.mono (gz_left hH)) hb35) ?_
          rintro u36_0 w36 ⟨_, rfl, hR36_0⟩ hx36 hL36 hle36
          have hv36_0 := hR36_0.vecG hH hL28 hx36
          replace hv2_0 := hv2_0.mono (gz_mono hH hle36)
          refine S_pu 1 rfl ?_
          refine S_seqnil ?_
          refine W_seq ?_
          refine W_seqr ?_
          refine S_pu 1 rfl ?_
          refine S_v (r_len rfl Tryd.underlying23 hv2_0) rfl ?_
          refine S_pu 1 rfl ?_
          refine S_v (r_len rfl Tryd.underlying23 hv36_0) rfl ?_
          refine S_pu 1 rfl ?_
          refine S_seqnil ?_
          refine W_ifn rfl (fun hc37 => ?_) (fun hc37 => ?_)
          · replace h := Go.L.ite_n hc37 h
            refine W_seqr ?_
            refine S_pu 1 rfl ?_
            refine S_seqnil ?_
            refine W_ret ?_
            refine At_seq_ret ?_
            obtain rfl := Option.some.inj h
            refine At_body rfl rfl ?_
            exact ⟨hL36.ext, rfl⟩
          · replace h := Go.L.ite_p hc37 h
            refine W_skip ?_
            refine At_seq ?_
            refine W_cut (σ := Unit) (fun (_ : Unit) => []) (fun (_ : Unit) wr => Lcl w [.box b7 [.int .i64 x5.1, .int .i64 x5.2] 25, .box b3 [.int .i64 x1.2.1, .int .i64 x1.2.2] 25] wr ∧ law4_WordsSplitMatchesSpec_k1 = some r) ?_ ?_
            · refine W_seqr ?_
              refine S_pu 1 rfl ?_
              refine S_seqnil ?_
              refine W_block ?_
              obtain ⟨n93, h⟩ := Go.L.run_some h
              refine W_loop (σ := Int × Nat) (fun ⟨s7_92, n⟩ => [(3, u2_0), (6, u36_0), (7, .int .i64 s7_92)]) (fun ⟨s7_92, n⟩ wr => InO w [.box b7 [.int .i64 x5.1, .int .i64 x5.2] 25, .box b3 [.int .i64 x1.2.1, .int .i64 x1.2.2] 25] wr fun Oz => Vec (.pair .st (.pair (.int .i64) (.int .i64))) (gz H w wr Oz) (u2_0) (x1.1) ∧ Vec (.pair .st (.pair (.int .i64) (.int .i64))) (gz H w wr Oz) (u36_0) (x35) ∧ Go.L.itr (law4_WordsSplitMatchesSpec_bl2 x1 x35) n s7_92 = some r) (fun ⟨s7_92, n⟩ => n) ((0 : Int), n93) (.cons rfl (.cons rfl (.cons rfl (Sub.nil _)))) ⟨hL36, hv2_0, hv36_0, h⟩ ?_
              rintro ⟨s7_92, nn93⟩ wr93 ⟨hL93, hf93_0, hf93_1, h⟩
              obtain ⟨n93, e93, rfl, h, hm93⟩ := Go.L.itr_some h
              refine W_seq ?_
              refine W_seqr ?_
              refine S_pu 2 rfl ?_
              refine S_v (r_len rfl Tryd.underlying23 hf93_0) rfl ?_
              refine S_pu 1 rfl ?_
              refine S_seqnil ?_
              refine W_if rfl (fun hc95 => ?_) (fun hc95 => ?_)
              · replace h := Go.L.ite_p hc95 h
                refine W_skip ?_
                refine At_seq ?_
                refine W_seq ?_
                refine W_block ?_
                refine W_seqd (.q 0 (.q 1 (.q 2 (.q 3 (.q 4 (.q 5 (.q 6 (.q 7 (.q 8 (.tail 9)))))))))) mixed (by kernel_rfl) (fun w97 hx97 => ?_)
                have hL98 := hL93.call hx97
                have hle98 := fz_ext hL93 hx97
                replace hf93_0 := hf93_0.mono (gz_mono hH hle98)
                replace hf93_1 := hf93_1.mono (gz_mono hH hle98)
                refine D_pu 2 rfl ?_
                obtain ⟨hk100, h⟩ := Go.L.chk_some h
                refine D_index rfl rfl rfl Tryd.underlying23 zr33 hf93_0 s7_92.toNat (Int.toNat_of_nonneg hk100.1).symm (idx_lt hk100) rfl ?_
                rintro p99 _ ⟨_, _, rfl, rfl, ⟨_, _, rfl, rfl, rfl⟩⟩ hp99
                refine D_v (r_loadN rfl Tryd.underlying33 rfl zr33 hp99 (gz_le hH hL98)) rfl rfl ?_
                refine D_pu 2 rfl ?_
                obtain ⟨hk102, h⟩ := Go.L.chk_some h
                refine D_index rfl rfl rfl Tryd.underlying23 zr33 hf93_1 s7_92.toNat (Int.toNat_of_nonneg hk102.1).symm (idx_lt hk102) rfl ?_
                rintro p101 _ ⟨_, _, rfl, rfl, ⟨_, _, rfl, rfl, rfl⟩⟩ hp101
                refine D_v (r_loadN rfl Tryd.underlying33 rfl zr33 hp101 (gz_le hH hL98)) rfl rfl ?_
                refine D_v (r_neA rfl rfl eqg33 (eq33 _ _ _ _ _ _ )) rfl rfl ?_
                refine D_tail (fun w103 hx103 => ?_)
                have hL104 := hL98.call hx103
                have hle104 := fz_ext hL98 hx103
                replace hf93_0 := hf93_0.mono (gz_mono hH hle104)
                replace hf93_1 := hf93_1.mono (gz_mono hH hle104)
                replace hp99 := hp99.mono (gz_mono hH hle104)
                replace hp101 := hp101.mono (gz_mono hH hle104)
                refine S_seqnil ?_
                refine W_ifn rfl (fun hc105 => ?_) (fun hc105 => ?_)
                · replace h := Go.L.ite_n hc105 h
                  refine W_seqr ?_
                  refine S_pu 1 rfl ?_
                  refine S_seqnil ?_
                  refine W_ret ?_
                  refine At_block_ret ?_
                  refine At_seq_ret ?_
                  refine At_loop_ret ?_
                  replace h := Go.L.Nxt.out h hm93
                  refine At_block_ret ?_
                  refine At_cut_ret ?_
                  obtain rfl := Option.some.inj h
                  refine At_body rfl rfl ?_
                  exact ⟨hL104.ext, rfl⟩
                · replace h := Go.L.ite_p hc105 h
                  refine W_skip ?_
                  refine At_block ?_
                  refine At_seq ?_
                  refine W_region ?_
                  refine S_pu 1 rfl ?_
                  obtain ⟨hk108, h⟩ := Go.L.chk_some h
                  refine S_v (r_ar64 rfl rfl rfl hk108) rfl ?_
                  refine S_pu 1 rfl ?_
                  refine S_nil ?_
                  have h := Go.L.Nxt.again h hm93
                  refine At_round ((s7_92 + (1 : Int)), n93) (.cons rfl (.cons rfl (.cons rfl (Sub.nil _)))) ⟨hL104, hf93_0, hf93_1, h⟩ (Nat.lt_succ_self _)
              · replace h := Go.L.ite_n hc95 h
                refine W_exit ?_
                refine At_seq_exit ?_
                refine At_loop_exit ?_
                replace h := Go.L.Nxt.out h hm93
                refine At_exit ?_
                refine At_cut () (Sub.nil _) ⟨hL93, h⟩
            · rintro _ wr74 ⟨hL74, h⟩
              refine W_seqr ?_
              refine S_pu 1 rfl ?_
              refine S_seqnil ?_
              refine W_ret ?_
              obtain rfl := Option.some.inj h
              refine At_body rfl rfl ?_
              exact ⟨hL74.ext, rfl⟩
end Go.Proofs.YtdiieblgeaehpaaDoor
