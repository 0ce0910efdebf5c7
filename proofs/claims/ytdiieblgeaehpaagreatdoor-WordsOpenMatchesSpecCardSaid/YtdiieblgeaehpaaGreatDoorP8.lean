/- Generated walks: questions to an index of words. -/
import Derived.Test.YtdiieblgeaehpaaGreatDoorP7
import Derived.KernelRfl
namespace Go.Proofs.YtdiieblgeaehpaaGreatDoor
open Go Go.E Go.RowKit
set_option maxHeartbeats 1000000
set_option maxRecDepth 10000
open _root_.Go.Proofs.Tryz
noncomputable def words_Index_Find (a0 : Int × (List ((List UInt8) × (List (Int × Int))))) (a1 : List UInt8) : Option ((List (Int × Int)) × (Int × Int)) :=
 Option.bind (words_Check a1) (fun x3 => if x3.1 = (0 : Int) ∧ x3.2 = (0 : Int) then Option.bind (words_Index_hits (a0.1, a0.2) a1) (fun x15 => Option.bind (slices_Clone_api_Hit_api_Hit x15) (fun x17 => some (x17, ((0 : Int), (0 : Int))))) else some ([], (x3.1, x3.2)))

theorem words_Index_Find_ok (w : World) (H : PH) (hH : Le H (hp w)) (hU : Utab H) {a0 : Int × (List ((List UInt8) × (List (Int × Int))))} {a1 : List UInt8} {v0_0 : Value} (h0_0 : Vec (.pair .st (.vec (.pair (.int .i64) (.int .i64)))) H v0_0 (a0.2)) {r : (List (Int × Int)) × (Int × Int)} (h : words_Index_Find a0 a1 = some r) :
  Ok Tryz.prog 13 [.agg #[.int .i64 a0.1, v0_0], .string ⟨(a1).toArray⟩] w (fun v w' => Ext w w' ∧ ∃ u0, v = .tuple #[u0, .agg #[.int .i64 r.2.1, .int .i64 r.2.2]] ∧ OwnH 64 (.pair (.int .i64) (.int .i64)) H w w' u0 (r.1)) := by
 refine Ok_enter (n := 18) [(0, .agg #[.int .i64 a0.1, v0_0]), (1, .string ⟨(a1).toArray⟩)] func13 rfl rfl rfl rfl rfl ?_
 have hL := Lcl.start w
 refine W_seqr ?_
 refine S_box (t := 25) rfl rfl rfl hL ?_
 intro w1 b1 hL1 hle1 _
 refine S_pu 1 rfl ?_
 refine S_alloc zr27 rfl rfl hL1 ?_
 intro w2 b2 hL2 hle2 _
 refine S_seqnil ?_
 refine W_seq ?_
 refine W_p 1 rfl ?_
 obtain ⟨x3, hb3, h⟩ := Go.L.bind_some h
 refine S_callL rfl rfl hL2 (words_Check_ok _ _ (gz_le hH hL2) (hU.mono (gz_left hH)) hb3) ?_
 rintro _ w4 rfl hx4 hL4 hle4
 refine S_alloc zr27 rfl rfl hL4 ?_
 intro w5 b5 hL5 hle5 _
 refine S_storeBN 0 rfl rfl rfl zr27 hL5 rfl rfl (onc rfl (onc rfl on0)) ?_
 intro w6 hL6 hle6
 refine S_seqnil ?_
 refine W_seqr ?_
 refine S_v (r_loadBN 0 rfl underlying27 rfl zr27 hL6 rfl) rfl ?_
 refine S_v (r_build rfl (fun _ => bld27_z _)) rfl ?_
 refine S_v (r_neA rfl rfl eqg27 (eq27 _ _ _ _ )) rfl ?_
 refine S_seqnil ?_
 refine W_ifn rfl (fun hc7 => ?_) (fun hc7 => ?_)
 ·replace h := Go.L.ite_n hc7 h
  refine W_seqd (.q 0 (.q 1 (.tail 2))) mixed (by kernel_rfl) (fun w9 hx9 => ?_)
  have hL10 := hL6.call hx9
  refine D_v (r_loadBN 0 rfl underlying27 rfl zr27 hL10 rfl) rfl rfl ?_
  refine D_pu 1 rfl ?_
  refine D_tail (fun w11 hx11 => ?_)
  have hL12 := hL10.call hx11
  refine S_storeBN 1 rfl rfl rfl zr27 hL12 rfl rfl (onc rfl (onc rfl on0)) ?_
  intro w13 hL13 hle13
  refine S_seqnil ?_
  refine W_ret ?_
  refine At_seq_ret ?_
  obtain rfl := Option.some.inj h
  refine At_got2 rfl (.tmp rfl) (.cell rfl underlying27 rfl zr27 (box_ptr (i := 1) hL13 rfl)) ?_
  exact ⟨hL13.ext, _, rfl, OwnH.nil⟩
 ·replace h := Go.L.ite_p hc7 h
  refine W_skip ?_
  refine At_seq ?_
  refine W_seqr ?_
  refine S_v (r_loadBN 2 rfl underlying25 rfl zr25 hL6 rfl) rfl ?_
  refine S_pu 1 rfl ?_
  obtain ⟨x15, hb15, h⟩ := Go.L.bind_some h
  refine S_callL rfl rfl hL6 (words_Index_hits_ok _ _ (gz_le hH hL6) (h0_0.mono (gz_left hH)) hb15) ?_
  rintro u16_0 w16 ⟨_, rfl, hR16_0⟩ hx16 hL16 hle16
  have hv16_0 := hR16_0.mono (gz_nw hH hL6 hx16)
  obtain ⟨x17, hb17, h⟩ := Go.L.bind_some h
  refine S_callL rfl rfl hL16 (slices_Clone_api_Hit_api_Hit_ok _ _ (gz_le hH hL16) hv16_0 hb17) ?_
  rintro u18_0 w18 ⟨_, rfl, hR18_0⟩ hx18 hL18 hle18
  obtain ⟨xs18, hL18, hle18, he18⟩ := hR18_0.take hH hL16 hx18
  replace hv16_0 := hv16_0.mono (gz_mono hH hle18)
  refine S_v (r_build rfl (fun _ => bld27_z _)) rfl ?_
  refine S_pu 1 rfl ?_
  refine S_storeBN 2 rfl rfl rfl zr27 hL18 rfl rfl (onc rfl (onc rfl on0)) ?_
  intro w19 hL19 hle19
  replace hv16_0 := hv16_0.mono (gz_mono hH hle19)
  replace he18 := he18.mono (gz_mono hH hle19)
  refine S_seqnil ?_
  refine W_ret ?_
  obtain rfl := Option.some.inj h
  refine At_got2 rfl (.tmp rfl) (.cell rfl underlying27 rfl zr27 (box_ptr (i := 2) hL19 rfl)) ?_
  exact ⟨hL19.ext, _, rfl, (hL19.ownH hH (i := 0) rfl he18)⟩

noncomputable def words_Index_Phrase_k3 (l221 : List (Int × Int)) : Option ((List (Int × Int)) × (Int × Int)) :=
 some (l221, ((0 : Int), (0 : Int)))
noncomputable def words_Index_Phrase_k5 (s45_293 : Int) (l350 : List (Int × Int)) : Option (((List (Int × Int)) × Int) ⊕ ((List (Int × Int)) × (Int × Int))) :=
 Go.L.chk (Go.L.I64 (s45_293 + (1 : Int))) (some (Sum.inl (l350, (s45_293 + (1 : Int)))))
noncomputable def words_Index_Phrase_k6 (l292 : List (Int × Int)) (s45_293 : Int) (x228 : (List (Int × Int))) : Option (((List (Int × Int)) × Int) ⊕ ((List (Int × Int)) × (Int × Int))) :=
 Go.L.chk (Go.E.Cap 16 (l292.length + ([((x228.getD s45_293.toNat default).1, (x228.getD s45_293.toNat default).2)]).length)) ((words_Index_Phrase_k5 s45_293) (l292 ++ [((x228.getD s45_293.toNat default).1, (x228.getD s45_293.toNat default).2)]))
noncomputable def words_Index_Phrase_bl7 (a0 : Int × (List ((List UInt8) × (List (Int × Int))))) (a1 : List (List UInt8)) (l292 : List (Int × Int)) (s45_293 : Int) (x228 : (List (Int × Int))) : Int → Option ((Int) ⊕ (((List (Int × Int)) × Int) ⊕ ((List (Int × Int)) × (Int × Int)))) := fun s51_424 =>
 if s51_424 < (a1.length : Int) then Go.L.chk (0 ≤ s51_424 ∧ s51_424 < (a1.length : Int)) (Go.L.chk (Go.L.I64 ((x228.getD s45_293.toNat default).2 + s51_424)) (Option.bind (words_Index_hits (a0.1, a0.2) (a1.getD s51_424.toNat default)) (fun x434 => Option.bind (slices_Contains_api_Hit_api_Hit x434 ((x228.getD s45_293.toNat default).1, ((x228.getD s45_293.toNat default).2 + s51_424))) (fun x438 => if !x438 then Option.map Sum.inr ((words_Index_Phrase_k5 s45_293) l292) else Go.L.chk (Go.L.I64 (s51_424 + (1 : Int))) (some (Sum.inl (s51_424 + (1 : Int)))))))) else Option.map Sum.inr ((words_Index_Phrase_k6 l292 s45_293 x228))
noncomputable def words_Index_Phrase_l7 (a0 : Int × (List ((List UInt8) × (List (Int × Int))))) (a1 : List (List UInt8)) (l292 : List (Int × Int)) (s45_293 : Int) (x228 : (List (Int × Int))) (s : Int) : Option (((List (Int × Int)) × Int) ⊕ ((List (Int × Int)) × (Int × Int))) := Go.L.run (words_Index_Phrase_bl7 a0 a1 l292 s45_293 x228) s
noncomputable def words_Index_Phrase_bl4 (a0 : Int × (List ((List UInt8) × (List (Int × Int))))) (a1 : List (List UInt8)) (x228 : (List (Int × Int))) : (List (Int × Int)) × Int → Option (((List (Int × Int)) × Int) ⊕ ((List (Int × Int)) × (Int × Int))) := fun ⟨l292, s45_293⟩ =>
 if s45_293 < (x228.length : Int) then Go.L.chk (0 ≤ s45_293 ∧ s45_293 < (x228.length : Int)) ((words_Index_Phrase_l7 a0 a1 l292 s45_293 x228) (0 : Int)) else Option.map Sum.inr (words_Index_Phrase_k3 l292)
noncomputable def words_Index_Phrase_l4 (a0 : Int × (List ((List UInt8) × (List (Int × Int))))) (a1 : List (List UInt8)) (x228 : (List (Int × Int))) (s : (List (Int × Int)) × Int) : Option ((List (Int × Int)) × (Int × Int)) := Go.L.run (words_Index_Phrase_bl4 a0 a1 x228) s
noncomputable def words_Index_Phrase_k1 (a0 : Int × (List ((List UInt8) × (List (Int × Int))))) (a1 : List (List UInt8)) : Option ((List (Int × Int)) × (Int × Int)) :=
 Go.L.chk (0 ≤ (0 : Int) ∧ (0 : Int) < (a1.length : Int)) (Option.bind (words_Index_hits (a0.1, a0.2) (a1.getD ((0 : Int).toNat) default)) (fun x228 => (words_Index_Phrase_l4 a0 a1 x228) (([] : List (Int × Int)), (0 : Int))))
noncomputable def words_Index_Phrase_bl2 (a0 : Int × (List ((List UInt8) × (List (Int × Int))))) (a1 : List (List UInt8)) : Int → Option ((Int) ⊕ ((List (Int × Int)) × (Int × Int))) := fun s24_70 =>
 if s24_70 < (a1.length : Int) then Go.L.chk (0 ≤ s24_70 ∧ s24_70 < (a1.length : Int)) (Option.bind (words_Check (a1.getD s24_70.toNat default)) (fun x77 => if x77.1 = (0 : Int) ∧ x77.2 = (0 : Int) then Go.L.chk (Go.L.I64 (s24_70 + (1 : Int))) (some (Sum.inl (s24_70 + (1 : Int)))) else Option.bind (words_fault x77.1 s24_70) (fun x83 => Option.map Sum.inr (some ([], (x83.1, x83.2)))))) else Option.map Sum.inr ((words_Index_Phrase_k1 a0 a1))
noncomputable def words_Index_Phrase_l2 (a0 : Int × (List ((List UInt8) × (List (Int × Int))))) (a1 : List (List UInt8)) (s : Int) : Option ((List (Int × Int)) × (Int × Int)) := Go.L.run (words_Index_Phrase_bl2 a0 a1) s
noncomputable def words_Index_Phrase (a0 : Int × (List ((List UInt8) × (List (Int × Int))))) (a1 : List (List UInt8)) : Option ((List (Int × Int)) × (Int × Int)) :=
 if (a1.length : Int) = (0 : Int) then Option.bind (words_fault (10 : Int) (-1 : Int)) (fun x5 => some ([], (x5.1, x5.2))) else (if (16 : Int) < (a1.length : Int) then Option.bind (words_fault (2 : Int) (-1 : Int)) (fun x11 => some ([], (x11.1, x11.2))) else (words_Index_Phrase_l2 a0 a1) (0 : Int))

theorem words_Index_Phrase_ok (w : World) (H : PH) (hH : Le H (hp w)) (hU : Utab H) {a0 : Int × (List ((List UInt8) × (List (Int × Int))))} {a1 : List (List UInt8)} {v0_0 : Value} {v1_0 : Value} (h0_0 : Vec (.pair .st (.vec (.pair (.int .i64) (.int .i64)))) H v0_0 (a0.2)) (h1_0 : Vec .st H v1_0 (a1)) {r : (List (Int × Int)) × (Int × Int)} (h : words_Index_Phrase a0 a1 = some r) :
  Ok Tryz.prog 25 [.agg #[.int .i64 a0.1, v0_0], v1_0] w (fun v w' => Ext w w' ∧ ∃ u0, v = .tuple #[u0, .agg #[.int .i64 r.2.1, .int .i64 r.2.2]] ∧ OwnH 64 (.pair (.int .i64) (.int .i64)) H w w' u0 (r.1)) := by
 refine Ok_enter (n := 76) [(0, .agg #[.int .i64 a0.1, v0_0]), (1, v1_0)] func25 rfl rfl rfl rfl rfl ?_
 have hL := Lcl.start w
 refine W_seqr ?_
 refine S_box (t := 25) rfl rfl rfl hL ?_
 intro w1 b1 hL1 hle1 _
 refine S_pu 1 rfl ?_
 refine S_alloc zr27 rfl rfl hL1 ?_
 intro w2 b2 hL2 hle2 _
 refine S_seqnil ?_
 refine W_scope ?_
 refine W_seq ?_
 refine W_p 1 rfl ?_
 refine S_v (r_len rfl underlying36 h1_0) rfl ?_
 refine S_pz 1 rfl ?_
 refine W_if rfl (fun hc3 => ?_) (fun hc3 => ?_)
 ·replace h := Go.L.ite_p hc3 h
  refine W_seqr ?_
  obtain ⟨x5, hb5, h⟩ := Go.L.bind_some h
  refine S_callL rfl rfl hL2 (words_fault_ok _ _ (gz_le hH hL2) hb5) ?_
  rintro _ w6 rfl hx6 hL6 hle6
  refine S_pu 1 rfl ?_
  refine S_storeBN 0 rfl rfl rfl zr27 hL6 rfl rfl (onc rfl (onc rfl on0)) ?_
  intro w7 hL7 hle7
  refine S_seqnil ?_
  refine W_ret ?_
  refine At_seq_ret ?_
  refine At_scope_ret ?_
  obtain rfl := Option.some.inj h
  refine At_got2 rfl (.tmp rfl) (.cell rfl underlying27 rfl zr27 (box_ptr (i := 0) hL7 rfl)) ?_
  exact ⟨hL7.ext, _, rfl, OwnH.nil⟩
 ·replace h := Go.L.ite_n hc3 h
  refine W_skip ?_
  refine At_seq ?_
  refine W_seq ?_
  refine W_p 1 rfl ?_
  refine S_v (r_len rfl underlying36 h1_0) rfl ?_
  refine S_pz 1 rfl ?_
  refine W_if rfl (fun hc9 => ?_) (fun hc9 => ?_)
  ·replace h := Go.L.ite_p hc9 h
   refine W_seqr ?_
   obtain ⟨x11, hb11, h⟩ := Go.L.bind_some h
   refine S_callL rfl rfl hL2 (words_fault_ok _ _ (gz_le hH hL2) hb11) ?_
   rintro _ w12 rfl hx12 hL12 hle12
   refine S_pu 1 rfl ?_
   refine S_storeBN 0 rfl rfl rfl zr27 hL12 rfl rfl (onc rfl (onc rfl on0)) ?_
   intro w13 hL13 hle13
   refine S_seqnil ?_
   refine W_ret ?_
   refine At_seq_ret ?_
   refine At_scope_ret ?_
   obtain rfl := Option.some.inj h
   refine At_got2 rfl (.tmp rfl) (.cell rfl underlying27 rfl zr27 (box_ptr (i := 0) hL13 rfl)) ?_
   exact ⟨hL13.ext, _, rfl, OwnH.nil⟩
  ·replace h := Go.L.ite_n hc9 h
   refine W_skip ?_
   refine At_seq ?_
   refine W_cut (σ := Unit) (fun (_ : Unit) => [(1, v1_0), (2, .pointer (some ⟨b1, 0, none⟩)), (5, .pointer (some ⟨b2, 0, none⟩))]) (fun (_ : Unit) wr => Lcl w [.box b2 [.int .i64 (0 : Int), .int .i64 (0 : Int)] 27, .box b1 [.int .i64 a0.1, v0_0] 25] wr ∧ (words_Index_Phrase_k1 a0 a1) = some r) ?_ ?_
   ·refine W_p 1 rfl ?_
    refine S_v (r_len rfl underlying36 h1_0) rfl ?_
    refine S_pz 1 rfl ?_
    refine W_block ?_
    obtain ⟨n71, h⟩ := Go.L.run_some h
    refine W_loop (σ := Int × Nat) (fun ⟨s24_70, n⟩ => [(1, v1_0), (2, .pointer (some ⟨b1, 0, none⟩)), (5, .pointer (some ⟨b2, 0, none⟩)), (22, v1_0), (23, .int .i64 (a1.length : Int)), (24, .int .i64 s24_70)]) (fun ⟨s24_70, n⟩ wr => Lcl w [.box b2 [.int .i64 (0 : Int), .int .i64 (0 : Int)] 27, .box b1 [.int .i64 a0.1, v0_0] 25] wr ∧ Go.L.itr (words_Index_Phrase_bl2 a0 a1) n s24_70 = some r) (fun ⟨s24_70, n⟩ => n) ((0 : Int), n71) (.cons rfl (.cons rfl (.cons rfl (.cons rfl (.cons rfl (.cons rfl (Sub.nil _))))))) ⟨hL2, h⟩ ?_
    rintro ⟨s24_70, nn71⟩ wr71 ⟨hL71, h⟩
    obtain ⟨n71, e71, rfl, h, hm71⟩ := Go.L.itr_some h
    refine W_pz 1 rfl ?_
    refine W_seq ?_
    refine W_if rfl (fun hc73 => ?_) (fun hc73 => ?_)
    ·replace h := Go.L.ite_p hc73 h
     refine W_skip ?_
     refine At_seq ?_
     refine W_seq ?_
     refine W_block ?_
     refine W_p 1 rfl ?_
     obtain ⟨hk76, h⟩ := Go.L.chk_some h
     refine S_index rfl rfl underlying36 zr9 h1_0 s24_70.toNat (Int.toNat_of_nonneg hk76.1).symm (idx_lt hk76) rfl ?_
     rintro p75 _ rfl hp75
     refine S_v (r_load1 rfl underlying9 rfl hp75 (hH.trans hL71.arg)) rfl ?_
     refine S_pz 2 rfl ?_
     refine W_p 1 rfl ?_
     obtain ⟨x77, hb77, h⟩ := Go.L.bind_some h
     refine S_callL rfl rfl hL71 (words_Check_ok _ _ (gz_le hH hL71) (hU.mono (gz_left hH)) hb77) ?_
     rintro _ w78 rfl hx78 hL78 hle78
     refine S_alloc zr27 rfl rfl hL78 ?_
     intro w79 b79 hL79 hle79 _
     refine S_storeBN 0 rfl rfl rfl zr27 hL79 rfl rfl (onc rfl (onc rfl on0)) ?_
     intro w80 hL80 hle80
     refine S_seqnil ?_
     refine W_seqr ?_
     refine S_v (r_loadBN 0 rfl underlying27 rfl zr27 hL80 rfl) rfl ?_
     refine S_v (r_build rfl (fun _ => bld27_z _)) rfl ?_
     refine S_v (r_neA rfl rfl eqg27 (eq27 _ _ _ _ )) rfl ?_
     refine S_seqnil ?_
     refine W_ifn rfl (fun hc81 => ?_) (fun hc81 => ?_)
     ·replace h := Go.L.ite_n hc81 h
      refine W_seqr ?_
      refine S_v (r_field rfl underlying27 rfl zr3 (by decide)) rfl ?_
      refine S_v (r_loadB1 0 rfl underlying3 rfl hL80 rfl rfl) rfl ?_
      refine S_pu 1 rfl ?_
      obtain ⟨x83, hb83, h⟩ := Go.L.bind_some h
      refine S_callL rfl rfl hL80 (words_fault_ok _ _ (gz_le hH hL80) hb83) ?_
      rintro _ w84 rfl hx84 hL84 hle84
      refine S_pu 1 rfl ?_
      refine S_storeBN 1 rfl rfl rfl zr27 hL84 rfl rfl (onc rfl (onc rfl on0)) ?_
      intro w85 hL85 hle85
      refine S_seqnil ?_
      refine W_ret ?_
      refine At_block_ret ?_
      refine At_seq_ret ?_
      refine At_loop_ret ?_
      replace h := Go.L.Nxt.out h hm71
      refine At_block_ret ?_
      refine At_cut_ret ?_
      refine At_scope_ret ?_
      obtain rfl := Option.some.inj h
      refine At_got2 rfl (.tmp rfl) (.cell rfl underlying27 rfl zr27 (box_ptr (i := 1) hL85 rfl)) ?_
      exact ⟨hL85.ext, _, rfl, OwnH.nil⟩
     ·replace h := Go.L.ite_p hc81 h
      refine W_skip ?_
      refine At_block ?_
      refine At_seq ?_
      refine W_region ?_
      obtain ⟨hk87, h⟩ := Go.L.chk_some h
      refine S_v (r_ar64 rfl rfl rfl hk87) rfl ?_
      refine S_pu 1 rfl ?_
      refine S_nil ?_
      have hL88 := hL80.dropAt (i := 0) rfl
      have h := Go.L.Nxt.again h hm71
      refine At_round ((s24_70 + (1 : Int)), n71) (.cons rfl (.cons rfl (.cons rfl (.cons rfl (.cons rfl (.cons rfl (Sub.nil _))))))) ⟨hL88, h⟩ (Nat.lt_succ_self _)
    ·replace h := Go.L.ite_n hc73 h
     refine W_exit ?_
     refine At_seq_exit ?_
     refine At_loop_exit ?_
     replace h := Go.L.Nxt.out h hm71
     refine At_exit ?_
     refine At_cut () (.cons rfl (.cons rfl (.cons rfl (Sub.nil _)))) ⟨hL71, h⟩
   ·rintro _ wr51 ⟨hL51, h⟩
    refine W_p 1 rfl ?_
    obtain ⟨hL91, hle91, he91⟩ := row_nilE (.pair (.int .i64) (.int .i64)) H 64 hL51
    refine S_seqnil ?_
    refine W_seq ?_
    refine W_label ?_
    refine At_seq ?_
    refine W_cut (σ := (List (Int × Int)) × Value × (List Value)) (fun ⟨l221, vl221, xsl221⟩ => [(5, .pointer (some ⟨b2, 0, none⟩)), (9, vl221)]) (fun ⟨l221, vl221, xsl221⟩ wr => InO w [.row (vl221) 64 2 (l221).length (xsl221), .box b2 [.int .i64 (0 : Int), .int .i64 (0 : Int)] 27, .box b1 [.int .i64 a0.1, v0_0] 25] wr fun Oz => Elems (.pair (.int .i64) (.int .i64)) (gz H w wr Oz) (l221) (xsl221) ∧ words_Index_Phrase_k3 l221 = some r) ?_ ?_
    ·refine W_seqd (.q 0 (.q 1 (.q 2 (.q 3 (.q 6 (.h 4 (.q 5 (.tail 7)))))))) mixed (by kernel_rfl) (fun w224 hx224 => ?_)
     have hL225 := hL91.call hx224
     have hle225 := fz_ext hL91 hx224
     replace he91 := he91.mono (gz_mono hH hle225)
     refine D_v (r_loadBN 2 rfl underlying25 rfl zr25 hL225 rfl) rfl rfl ?_
     refine D_pu 1 rfl ?_
     obtain ⟨hk227, h⟩ := Go.L.chk_some h
     refine D_index rfl rfl rfl underlying36 zr9 h1_0 ((0 : Int).toNat) (Int.toNat_of_nonneg hk227.1).symm (idx_lt hk227) rfl ?_
     rintro p226 _ rfl hp226
     refine D_v (r_load1 rfl underlying9 rfl hp226 (hH.trans hL225.arg)) rfl rfl ?_
     refine D_pu 1 rfl ?_
     obtain ⟨x228, hb228, h⟩ := Go.L.bind_some h
     refine D_hcall rfl rfl rfl (fun w230 hx230 => words_Index_hits_ok _ _ (gz_le hH (hL225.call hx230)) (h0_0.mono (gz_left hH)) hb228) ?_
     rintro w230 u229_0 w229 hx230 hx229 ⟨_, rfl, hR229_0⟩
     have hL231 := hL225.call hx230
     have hle231 := fz_ext hL225 hx230
     replace he91 := he91.mono (gz_mono hH hle231)
     have hL229 := hL231.call hx229
     have hle229 := fz_ext hL231 hx229
     have hv229_0 := hR229_0.mono (gz_nw hH hL231 hx229)
     replace he91 := he91.mono (gz_mono hH hle229)
     refine D_v (r_len rfl underlying40 hv229_0) rfl rfl ?_
     refine D_tail (fun w232 hx232 => ?_)
     have hL233 := hL229.call hx232
     have hle233 := fz_ext hL229 hx232
     replace he91 := he91.mono (gz_mono hH hle233)
     replace hv229_0 := hv229_0.mono (gz_mono hH hle233)
     refine S_seqnil ?_
     refine W_block ?_
     obtain ⟨n294, h⟩ := Go.L.run_some h
     refine W_loop (σ := (List (Int × Int)) × Int × Value × (List Value) × Nat) (fun ⟨l292, s45_293, vl292, xsl292, n⟩ => [(1, v1_0), (2, .pointer (some ⟨b1, 0, none⟩)), (5, .pointer (some ⟨b2, 0, none⟩)), (9, vl292), (43, u229_0), (44, .int .i64 (x228.length : Int)), (45, .int .i64 s45_293)]) (fun ⟨l292, s45_293, vl292, xsl292, n⟩ wr => InO w [.row (vl292) 64 2 (l292).length (xsl292), .box b2 [.int .i64 (0 : Int), .int .i64 (0 : Int)] 27, .box b1 [.int .i64 a0.1, v0_0] 25] wr fun Oz => Vec (.pair (.int .i64) (.int .i64)) (gz H w wr Oz) (u229_0) (x228) ∧ Elems (.pair (.int .i64) (.int .i64)) (gz H w wr Oz) (l292) (xsl292) ∧ Go.L.itr (words_Index_Phrase_bl4 a0 a1 x228) n (l292, s45_293) = some r) (fun ⟨l292, s45_293, vl292, xsl292, n⟩ => n) (([] : List (Int × Int)), (0 : Int), .slice none 0 0, [], n294) (.cons rfl (.cons rfl (.cons rfl (.cons rfl (.cons rfl (.cons rfl (.cons rfl (Sub.nil _)))))))) ⟨hL233, hv229_0, he91, h⟩ ?_
     rintro ⟨l292, s45_293, vl292, xsl292, nn294⟩ wr294 ⟨hL294, hf294_0, hel292, h⟩
     obtain ⟨n294, e294, rfl, h, hm294⟩ := Go.L.itr_some h
     refine W_pz 1 rfl ?_
     refine W_seq ?_
     refine W_if rfl (fun hc296 => ?_) (fun hc296 => ?_)
     ·replace h := Go.L.ite_p hc296 h
      refine W_skip ?_
      refine At_seq ?_
      refine W_cut (σ := (List (Int × Int)) × Value × (List Value)) (fun ⟨l350, vl350, xsl350⟩ => [(1, v1_0), (2, .pointer (some ⟨b1, 0, none⟩)), (5, .pointer (some ⟨b2, 0, none⟩)), (9, vl350), (43, u229_0), (44, .int .i64 (x228.length : Int)), (45, .int .i64 s45_293)]) (fun ⟨l350, vl350, xsl350⟩ wr => InO w [.row (vl350) 64 2 (l350).length (xsl350), .box b2 [.int .i64 (0 : Int), .int .i64 (0 : Int)] 27, .box b1 [.int .i64 a0.1, v0_0] 25] wr fun Oz => Vec (.pair (.int .i64) (.int .i64)) (gz H w wr Oz) (u229_0) (x228) ∧ Elems (.pair (.int .i64) (.int .i64)) (gz H w wr Oz) (l350) (xsl350) ∧ (words_Index_Phrase_k5 s45_293) l350 = some e294) ?_ ?_
      ·refine W_block ?_
       refine W_seqr ?_
       obtain ⟨hk354, h⟩ := Go.L.chk_some h
       refine S_index rfl rfl underlying40 zr64 hf294_0 s45_293.toNat (Int.toNat_of_nonneg hk354.1).symm (idx_lt hk354) rfl ?_
       rintro p353 _ ⟨_, _, rfl, rfl, rfl⟩ hp353
       refine S_v (r_loadN rfl underlying64 rfl zr64 hp353 (gz_le hH hL294)) rfl ?_
       refine S_alloc zr64 rfl rfl hL294 ?_
       intro w355 b355 hL355 hle355 _
       replace hf294_0 := hf294_0.mono (gz_mono hH hle355)
       replace hel292 := hel292.mono (gz_mono hH hle355)
       replace hp353 := hp353.mono (gz_mono hH hle355)
       refine S_storeBN 0 rfl rfl rfl zr64 hL355 rfl rfl (onc rfl (onc rfl on0)) ?_
       intro w356 hL356 hle356
       replace hf294_0 := hf294_0.mono (gz_mono hH hle356)
       replace hel292 := hel292.mono (gz_mono hH hle356)
       replace hp353 := hp353.mono (gz_mono hH hle356)
       refine S_seqnil ?_
       refine W_cut (σ := Unit) (fun (_ : Unit) => [(1, v1_0), (2, .pointer (some ⟨b1, 0, none⟩)), (5, .pointer (some ⟨b2, 0, none⟩)), (9, vl292), (11, .pointer (some ⟨b355, 0, none⟩)), (43, u229_0), (44, .int .i64 (x228.length : Int)), (45, .int .i64 s45_293)]) (fun (_ : Unit) wr => InO w [.box b355 [.int .i64 ((x228.getD s45_293.toNat default).1), .int .i64 ((x228.getD s45_293.toNat default).2)] 64, .row (vl292) 64 2 (l292).length (xsl292), .box b2 [.int .i64 (0 : Int), .int .i64 (0 : Int)] 27, .box b1 [.int .i64 a0.1, v0_0] 25] wr fun Oz => Vec (.pair (.int .i64) (.int .i64)) (gz H w wr Oz) (u229_0) (x228) ∧ Elems (.pair (.int .i64) (.int .i64)) (gz H w wr Oz) (l292) (xsl292) ∧ (words_Index_Phrase_k6 l292 s45_293 x228) = some e294) ?_ ?_
       ·refine W_p 1 rfl ?_
        refine S_v (r_len rfl underlying36 h1_0) rfl ?_
        refine S_pz 1 rfl ?_
        refine W_block ?_
        obtain ⟨n425, h⟩ := Go.L.run_some h
        refine W_loop (σ := Int × Nat) (fun ⟨s51_424, n⟩ => [(1, v1_0), (2, .pointer (some ⟨b1, 0, none⟩)), (5, .pointer (some ⟨b2, 0, none⟩)), (9, vl292), (11, .pointer (some ⟨b355, 0, none⟩)), (43, u229_0), (44, .int .i64 (x228.length : Int)), (45, .int .i64 s45_293), (49, v1_0), (50, .int .i64 (a1.length : Int)), (51, .int .i64 s51_424)]) (fun ⟨s51_424, n⟩ wr => InO w [.box b355 [.int .i64 ((x228.getD s45_293.toNat default).1), .int .i64 ((x228.getD s45_293.toNat default).2)] 64, .row (vl292) 64 2 (l292).length (xsl292), .box b2 [.int .i64 (0 : Int), .int .i64 (0 : Int)] 27, .box b1 [.int .i64 a0.1, v0_0] 25] wr fun Oz => Vec (.pair (.int .i64) (.int .i64)) (gz H w wr Oz) (u229_0) (x228) ∧ Elems (.pair (.int .i64) (.int .i64)) (gz H w wr Oz) (l292) (xsl292) ∧ Go.L.itr (words_Index_Phrase_bl7 a0 a1 l292 s45_293 x228) n s51_424 = some e294) (fun ⟨s51_424, n⟩ => n) ((0 : Int), n425) (.cons rfl (.cons rfl (.cons rfl (.cons rfl (.cons rfl (.cons rfl (.cons rfl (.cons rfl (.cons rfl (.cons rfl (.cons rfl (Sub.nil _)))))))))))) ⟨hL356, hf294_0, hel292, h⟩ ?_
        rintro ⟨s51_424, nn425⟩ wr425 ⟨hL425, hf425_0, hel292, h⟩
        obtain ⟨n425, e425, rfl, h, hm425⟩ := Go.L.itr_some h
        refine W_pz 1 rfl ?_
        refine W_seq ?_
        refine W_if rfl (fun hc427 => ?_) (fun hc427 => ?_)
        ·replace h := Go.L.ite_p hc427 h
         refine W_skip ?_
         refine At_seq ?_
         refine W_seq ?_
         refine W_block ?_
         refine W_p 1 rfl ?_
         obtain ⟨hk430, h⟩ := Go.L.chk_some h
         refine S_index rfl rfl underlying36 zr9 h1_0 s51_424.toNat (Int.toNat_of_nonneg hk430.1).symm (idx_lt hk430) rfl ?_
         rintro p429 _ rfl hp429
         refine S_v (r_load1 rfl underlying9 rfl hp429 (hH.trans hL425.arg)) rfl ?_
         refine S_pz 2 rfl ?_
         refine W_seqd (.q 0 (.q 1 (.q 3 (.q 4 (.q 5 (.q 6 (.q 7 (.q 8 (.q 9 (.h 2 (.q 10 (.q 11 (.tail 12))))))))))))) mixed (by kernel_rfl) (fun w431 hx431 => ?_)
         have hL432 := hL425.call hx431
         have hle432 := fz_ext hL425 hx431
         replace hf425_0 := hf425_0.mono (gz_mono hH hle432)
         replace hel292 := hel292.mono (gz_mono hH hle432)
         refine D_v (r_loadBN 3 rfl underlying25 rfl zr25 hL432 rfl) rfl rfl ?_
         refine D_pu 1 rfl ?_
         refine D_v (r_field rfl underlying64 rfl zr3 (by decide)) rfl rfl ?_
         refine D_v (r_loadB1 0 rfl underlying3 rfl hL432 rfl rfl) rfl rfl ?_
         refine D_v (r_field rfl underlying64 rfl zr3 (by decide)) rfl rfl ?_
         refine D_v (r_loadB1 0 rfl underlying3 rfl hL432 rfl rfl) rfl rfl ?_
         refine D_pu 1 rfl ?_
         obtain ⟨hk433, h⟩ := Go.L.chk_some h
         refine D_v (r_ar64 rfl rfl rfl hk433) rfl rfl ?_
         refine D_v (r_build rfl (fun _ => bld64_0_1 _ _ _)) rfl rfl ?_
         obtain ⟨x434, hb434, h⟩ := Go.L.bind_some h
         refine D_hcall rfl rfl rfl (fun w436 hx436 => words_Index_hits_ok _ _ (gz_le hH (hL432.call hx436)) (h0_0.mono (gz_left hH)) hb434) ?_
         rintro w436 u435_0 w435 hx436 hx435 ⟨_, rfl, hR435_0⟩
         have hL437 := hL432.call hx436
         have hle437 := fz_ext hL432 hx436
         replace hf425_0 := hf425_0.mono (gz_mono hH hle437)
         replace hel292 := hel292.mono (gz_mono hH hle437)
         have hL435 := hL437.call hx435
         have hle435 := fz_ext hL437 hx435
         have hv435_0 := hR435_0.mono (gz_nw hH hL437 hx435)
         replace hf425_0 := hf425_0.mono (gz_mono hH hle435)
         replace hel292 := hel292.mono (gz_mono hH hle435)
         obtain ⟨x438, hb438, h⟩ := Go.L.bind_some h
         have hok439 := (fun (w439 : World) (hx439 : Ext _ w439) => slices_Contains_api_Hit_api_Hit_ok w439 _ (Le.refl _) ((hv435_0.mono (gz_le hH hL435)).mono hx439.le) hb438)
         refine D_call rfl rfl rfl hok439 ?_
         refine D_pu 1 rfl ?_
         refine D_tail (fun w440 hx440 => ?_)
         have hL441 := hL435.call hx440
         have hle441 := fz_ext hL435 hx440
         replace hf425_0 := hf425_0.mono (gz_mono hH hle441)
         replace hel292 := hel292.mono (gz_mono hH hle441)
         replace hv435_0 := hv435_0.mono (gz_mono hH hle441)
         refine S_seqnil ?_
         refine W_cond rfl (fun hc442 => ?_) (fun hc442 => ?_)
         ·replace h := Go.L.ite_t hc442 h
          refine W_exit ?_
          refine At_exit_ne rfl ?_
          refine At_seq_exit ?_
          refine At_loop_exit ?_
          replace h := Go.L.Nxt.out h hm425
          refine At_exit_ne rfl ?_
          refine At_cut_exit ?_
          refine At_exit ?_
          have hL444 := hL441.dropAt (i := 0) rfl
          replace hf425_0 := hf425_0.mono (gz_mono hH (fz_dropAt (i := 0) rfl))
          replace hel292 := hel292.mono (gz_mono hH (fz_dropAt (i := 0) rfl))
          refine At_cut (l292, vl292, xsl292) (.cons rfl (.cons rfl (.cons rfl (.cons rfl (.cons rfl (.cons rfl (.cons rfl (Sub.nil _)))))))) ⟨hL444, hf425_0, hel292, h⟩
         ·replace h := Go.L.ite_f hc442 h
          refine W_skip ?_
          refine At_block ?_
          refine At_seq ?_
          refine W_region ?_
          obtain ⟨hk446, h⟩ := Go.L.chk_some h
          refine S_v (r_ar64 rfl rfl rfl hk446) rfl ?_
          refine S_pu 1 rfl ?_
          refine S_nil ?_
          have h := Go.L.Nxt.again h hm425
          refine At_round ((s51_424 + (1 : Int)), n425) (.cons rfl (.cons rfl (.cons rfl (.cons rfl (.cons rfl (.cons rfl (.cons rfl (.cons rfl (.cons rfl (.cons rfl (.cons rfl (Sub.nil _)))))))))))) ⟨hL441, hf425_0, hel292, h⟩ (Nat.lt_succ_self _)
        ·replace h := Go.L.ite_n hc427 h
         refine W_exit ?_
         refine At_seq_exit ?_
         refine At_loop_exit ?_
         replace h := Go.L.Nxt.out h hm425
         refine At_exit ?_
         refine At_cut () (.cons rfl (.cons rfl (.cons rfl (.cons rfl (.cons rfl (.cons rfl (.cons rfl (.cons rfl (Sub.nil _))))))))) ⟨hL425, hf425_0, hel292, h⟩
       ·rintro _ wr401 ⟨hL401, hf401_0, hel292, h⟩
        refine W_region ?_
        refine S_pu 1 rfl ?_
        refine S_v (r_loadBN 0 rfl underlying64 rfl zr64 hL401 rfl) rfl ?_
        refine S_litE (r := (.pair (.int .i64) (.int .i64))) (l := [((x228.getD s45_293.toNat default).1, (x228.getD s45_293.toNat default).2)]) rfl (fun _ => bsl40_1 _ _ _) rfl (show 1 ≤ 9223372036854775807 by decide) hH hL401 (.c2 ⟨_, _, rfl, rfl, rfl⟩ .nil) ?_
        intro v449 w449 hx449 hL449 hle449 hv449
        replace hf401_0 := hf401_0.mono (gz_mono hH hle449)
        replace hel292 := hel292.mono (gz_mono hH hle449)
        obtain ⟨hk451, h⟩ := Go.L.chk_some h
        refine S_appE (r := (.pair (.int .i64) (.int .i64))) (l := l292) (m := [((x228.getD s45_293.toNat default).1, (x228.getD s45_293.toNat default).2)]) 1 rfl rfl underlying40 zr64 rfl (by decide) rfl hH hL449 rfl hel292 hv449 hk451 ?_
        intro v450 w450 xs450 hL450 hle450 he450
        replace hf401_0 := hf401_0.mono (gz_mono hH hle450)
        replace hv449 := hv449.mono (gz_mono hH hle450)
        refine S_pu 1 rfl ?_
        refine S_nil ?_
        refine At_block ?_
        have hL452 := hL450.dropAt (i := 0) rfl
        replace hf401_0 := hf401_0.mono (gz_mono hH (fz_dropAt (i := 0) rfl))
        replace hv449 := hv449.mono (gz_mono hH (fz_dropAt (i := 0) rfl))
        replace he450 := he450.mono (gz_mono hH (fz_dropAt (i := 0) rfl))
        refine At_cut ((l292 ++ [((x228.getD s45_293.toNat default).1, (x228.getD s45_293.toNat default).2)]), v450, xs450) (.cons rfl (.cons rfl (.cons rfl (.cons rfl (.cons rfl (.cons rfl (.cons rfl (Sub.nil _)))))))) ⟨hL452, hf401_0, he450, h⟩
      ·rintro ⟨l350, vl350, xsl350⟩ wr351 ⟨hL351, hf351_0, hel350, h⟩
       refine W_region ?_
       obtain ⟨hk454, h⟩ := Go.L.chk_some h
       refine S_v (r_ar64 rfl rfl rfl hk454) rfl ?_
       refine S_pu 1 rfl ?_
       refine S_nil ?_
       have h := Go.L.Nxt.again h hm294
       refine At_round (l350, (s45_293 + (1 : Int)), vl350, xsl350, n294) (.cons rfl (.cons rfl (.cons rfl (.cons rfl (.cons rfl (.cons rfl (.cons rfl (Sub.nil _)))))))) ⟨hL351, hf351_0, hel350, h⟩ (Nat.lt_succ_self _)
     ·replace h := Go.L.ite_n hc296 h
      refine W_exit ?_
      refine At_seq_exit ?_
      refine At_loop_exit ?_
      replace h := Go.L.Nxt.out h hm294
      refine At_exit ?_
      refine At_cut (l292, vl292, xsl292) (.cons rfl (.cons rfl (Sub.nil _))) ⟨hL294, hel292, h⟩
    ·rintro ⟨l221, vl221, xsl221⟩ wr222 ⟨hL222, hel221, h⟩
     refine W_p 1 rfl ?_
     refine S_v (r_build rfl (fun _ => bld27_z _)) rfl ?_
     refine S_pu 1 rfl ?_
     refine S_storeBN 1 rfl rfl rfl zr27 hL222 rfl rfl (onc rfl (onc rfl on0)) ?_
     intro w457 hL457 hle457
     replace hel221 := hel221.mono (gz_mono hH hle457)
     refine S_seqnil ?_
     refine W_ret ?_
     refine At_scope_ret ?_
     obtain rfl := Option.some.inj h
     refine At_got2 rfl (.tmp rfl) (.cell rfl underlying27 rfl zr27 (box_ptr (i := 1) hL457 rfl)) ?_
     exact ⟨hL457.ext, _, rfl, (hL457.ownH hH (i := 0) rfl hel221)⟩

noncomputable def words_Index_Near_1 (a0 : Int × Int) (a1 : Int × Int) (a2 : Int) : Option (Bool × (Int × Int) × Int) :=
 Go.L.chk (Go.L.I64 (a1.2 - a0.2)) (Go.L.chk (Go.L.I64 (a0.2 - a1.2)) (if (a1.1 = a0.1) ∧ ((0 : Int) < (max (a1.2 - a0.2) (a0.2 - a1.2))) then some (decide ((max (a1.2 - a0.2) (a0.2 - a1.2)) ≤ a2), (a1.1, a1.2), a2) else some (false, (a1.1, a1.2), a2)))

theorem words_Index_Near_1_fr {w0 w : World} {H : PH} (_hH : Le H (hp w0)) {O : List Res} {a0 : Int × Int} {a1 : Int × Int} {a2 : Int} {ba1 : Nat} {ba2 : Nat} (hL : Lcl w0 (HAppend.hAppend ([.box ba1 [.int .i64 a1.1, .int .i64 a1.2] 64, .box ba2 [.int .i64 a2] 3] : List Res) O) w)  {r : Bool × (Int × Int) × Int} (h : words_Index_Near_1 a0 a1 a2 = some r) :
  Ok Tryz.prog 52 [.agg #[.int .i64 a0.1, .int .i64 a0.2], .pointer (some ⟨ba1, 0, none⟩), .pointer (some ⟨ba2, 0, none⟩)] w (fun v w' => v = .bool r.1 ∧ Lcl w0 (HAppend.hAppend ([.box ba1 [.int .i64 r.2.1.1, .int .i64 r.2.1.2] 64, .box ba2 [.int .i64 r.2.2] 3] : List Res) O) w' ∧ Le (fz w (HAppend.hAppend ([.box ba1 [.int .i64 a1.1, .int .i64 a1.2] 64, .box ba2 [.int .i64 a2] 3] : List Res) O)) (fz w' (HAppend.hAppend ([.box ba1 [.int .i64 r.2.1.1, .int .i64 r.2.1.2] 64, .box ba2 [.int .i64 r.2.2] 3] : List Res) O))) := by
 refine Ok_enter (n := 31) [(0, .agg #[.int .i64 a0.1, .int .i64 a0.2]), (1, .pointer (some ⟨ba1, 0, none⟩)), (2, .pointer (some ⟨ba2, 0, none⟩))] func52 rfl rfl rfl rfl rfl ?_
 have hT := Le.refl (fz w (HAppend.hAppend ([.box ba1 [.int .i64 a1.1, .int .i64 a1.2] 64, .box ba2 [.int .i64 a2] 3] : List Res) O))
 refine W_seqr ?_
 refine S_box (t := 64) rfl rfl rfl hL ?_
 intro w1 b1 hL1 hle1 _
 replace hT := hT.trans hle1
 refine S_pz 1 rfl ?_
 refine W_seqr ?_
 refine S_v (r_field rfl underlying64 rfl zr3 (by decide)) rfl ?_
 refine S_v (r_loadB1 1 rfl underlying3 rfl hL1 rfl rfl) rfl ?_
 refine S_v (r_field rfl underlying64 rfl zr3 (by decide)) rfl ?_
 refine S_v (r_loadB1 0 rfl underlying3 rfl hL1 rfl rfl) rfl ?_
 obtain ⟨hk2, h⟩ := Go.L.chk_some h
 refine S_v (r_ar64 rfl rfl rfl hk2) rfl ?_
 refine S_v (r_field rfl underlying64 rfl zr3 (by decide)) rfl ?_
 refine S_v (r_loadB1 0 rfl underlying3 rfl hL1 rfl rfl) rfl ?_
 refine S_v (r_field rfl underlying64 rfl zr3 (by decide)) rfl ?_
 refine S_v (r_loadB1 1 rfl underlying3 rfl hL1 rfl rfl) rfl ?_
 obtain ⟨hk3, h⟩ := Go.L.chk_some h
 refine S_v (r_ar64 rfl rfl rfl hk3) rfl ?_
 refine S_v (r_max rfl rfl) rfl ?_
 refine S_pz 1 rfl ?_
 refine W_seqr ?_
 refine S_v (r_field rfl underlying64 rfl zr3 (by decide)) rfl ?_
 refine S_v (r_loadB1 1 rfl underlying3 rfl hL1 rfl rfl) rfl ?_
 refine S_v (r_field rfl underlying64 rfl zr3 (by decide)) rfl ?_
 refine S_v (r_loadB1 0 rfl underlying3 rfl hL1 rfl rfl) rfl ?_
 refine S_pu 2 rfl ?_
 refine S_and 2 5 rfl rfl rfl rfl rfl rfl ?_
 refine S_pu 1 rfl ?_
 refine S_split (s := 26) rfl (fun hg4 => ?_) (fun hg4 => ?_)
 ·replace h := Go.L.ite_p (of_decide_eq_true hg4) h
  refine S_guarded rfl rfl hg4 ?_
  refine S_v (RunsAt_pu rfl) rfl ?_
  refine S_guarded rfl rfl hg4 ?_
  refine S_v (r_loadB1 2 rfl underlying3 rfl hL1 rfl rfl) rfl ?_
  refine S_guarded rfl rfl hg4 ?_
  refine S_v (RunsAt_pu rfl) rfl ?_
  refine S_v (r_pickT rfl hg4 rfl) rfl ?_
  refine S_pz 1 rfl ?_
  refine W_ret ?_
  obtain rfl := Option.some.inj h
  refine At_body rfl rfl ?_
  have hL6 := hL1.dropAt (i := 0) rfl
  replace hT := hT.trans (fz_dropAt (i := 0) rfl)
  exact ⟨rfl, hL6, hT⟩
 ·replace h := Go.L.ite_n (of_decide_eq_false hg4) h
  iterate 3 refine S_unwanted rfl rfl hg4 rfl ?_
  refine S_v (r_pickF rfl hg4 rfl) rfl ?_
  refine S_pz 1 rfl ?_
  refine W_ret ?_
  obtain rfl := Option.some.inj h
  refine At_body rfl rfl ?_
  have hL8 := hL1.dropAt (i := 0) rfl
  replace hT := hT.trans (fz_dropAt (i := 0) rfl)
  exact ⟨rfl, hL8, hT⟩

noncomputable def slices_IndexFunc_api_Hit_api_Hit_k1 (c30 : Int) (c31 : Int) (c32 : Int) : Option (Int × (Int × Int) × Int) :=
 some ((-1 : Int), (c30, c31), c32)
noncomputable def slices_IndexFunc_api_Hit_api_Hit_bl2 (a0 : List (Int × Int)) : Int × Int × Int × Int → Option ((Int × Int × Int × Int) ⊕ (Int × (Int × Int) × Int)) := fun ⟨c47, c48, c49, s8_50⟩ =>
 if s8_50 < (a0.length : Int) then Go.L.chk (0 ≤ s8_50 ∧ s8_50 < (a0.length : Int)) (Option.bind (words_Index_Near_1 ((a0.getD s8_50.toNat default).1, (a0.getD s8_50.toNat default).2) (c47, c48) c49) (fun x57 => if x57.1 then Option.map Sum.inr (some (s8_50, (x57.2.1.1, x57.2.1.2), x57.2.2)) else Go.L.chk (Go.L.I64 (s8_50 + (1 : Int))) (some (Sum.inl (x57.2.1.1, x57.2.1.2, x57.2.2, (s8_50 + (1 : Int))))))) else Option.map Sum.inr (slices_IndexFunc_api_Hit_api_Hit_k1 c47 c48 c49)
noncomputable def slices_IndexFunc_api_Hit_api_Hit_l2 (a0 : List (Int × Int)) (s : Int × Int × Int × Int) : Option (Int × (Int × Int) × Int) := Go.L.run (slices_IndexFunc_api_Hit_api_Hit_bl2 a0) s
noncomputable def slices_IndexFunc_api_Hit_api_Hit (a0 : List (Int × Int)) (a1_c0 : Int × Int) (a1_c1 : Int) : Option (Int × (Int × Int) × Int) :=
 (slices_IndexFunc_api_Hit_api_Hit_l2 a0) (a1_c0.1, a1_c0.2, a1_c1, (0 : Int))

theorem slices_IndexFunc_api_Hit_api_Hit_fr {w0 w : World} {H : PH} (hH : Le H (hp w0)) {O : List Res} {a0 : List (Int × Int)} {a1_c0 : Int × Int} {a1_c1 : Int} {va0 : Value} {ba1_c0 : Nat} {ba1_c1 : Nat} (hL : Lcl w0 (HAppend.hAppend ([.box ba1_c0 [.int .i64 a1_c0.1, .int .i64 a1_c0.2] 64, .box ba1_c1 [.int .i64 a1_c1] 3] : List Res) O) w) (ha0 : Vec (.pair (.int .i64) (.int .i64)) (gz H w0 w (HAppend.hAppend ([.box ba1_c0 [.int .i64 a1_c0.1, .int .i64 a1_c0.2] 64, .box ba1_c1 [.int .i64 a1_c1] 3] : List Res) O)) va0 (a0)) {r : Int × (Int × Int) × Int} (h : slices_IndexFunc_api_Hit_api_Hit a0 a1_c0 a1_c1 = some r) :
  Ok Tryz.prog 75 [va0, .func (.func 52) #[] #[.pointer (some ⟨ba1_c0, 0, none⟩), .pointer (some ⟨ba1_c1, 0, none⟩)]] w (fun v w' => v = .int .i64 r.1 ∧ Lcl w0 (HAppend.hAppend ([.box ba1_c0 [.int .i64 r.2.1.1, .int .i64 r.2.1.2] 64, .box ba1_c1 [.int .i64 r.2.2] 3] : List Res) O) w' ∧ Le (fz w (HAppend.hAppend ([.box ba1_c0 [.int .i64 a1_c0.1, .int .i64 a1_c0.2] 64, .box ba1_c1 [.int .i64 a1_c1] 3] : List Res) O)) (fz w' (HAppend.hAppend ([.box ba1_c0 [.int .i64 r.2.1.1, .int .i64 r.2.1.2] 64, .box ba1_c1 [.int .i64 r.2.2] 3] : List Res) O))) := by
 refine Ok_enter (n := 19) [(0, va0), (1, .func (.func 52) #[] #[.pointer (some ⟨ba1_c0, 0, none⟩), .pointer (some ⟨ba1_c1, 0, none⟩)])] func75 rfl rfl rfl rfl rfl ?_
 have hT := Le.refl (fz w (HAppend.hAppend ([.box ba1_c0 [.int .i64 a1_c0.1, .int .i64 a1_c0.2] 64, .box ba1_c1 [.int .i64 a1_c1] 3] : List Res) O))
 refine W_pz 1 rfl ?_
 refine W_cut (σ := Int × Int × Int) (fun ⟨c30, c31, c32⟩ => []) (fun ⟨c30, c31, c32⟩ wr => InO w0 (HAppend.hAppend ([.box ba1_c0 [.int .i64 c30, .int .i64 c31] 64, .box ba1_c1 [.int .i64 c32] 3] : List Res) O) wr fun Oz => Le (fz w (HAppend.hAppend ([.box ba1_c0 [.int .i64 a1_c0.1, .int .i64 a1_c0.2] 64, .box ba1_c1 [.int .i64 a1_c1] 3] : List Res) O)) (fz wr Oz) ∧ slices_IndexFunc_api_Hit_api_Hit_k1 c30 c31 c32 = some r) ?_ ?_
 ·refine W_p 1 rfl ?_
  refine S_v (r_len rfl underlying40 ha0) rfl ?_
  refine S_pz 1 rfl ?_
  refine W_block ?_
  obtain ⟨n51, h⟩ := Go.L.run_some h
  refine W_loop (σ := Int × Int × Int × Int × Nat) (fun ⟨c47, c48, c49, s8_50, n⟩ => [(0, va0), (1, .func (.func 52) #[] #[.pointer (some ⟨ba1_c0, 0, none⟩), .pointer (some ⟨ba1_c1, 0, none⟩)]), (7, .int .i64 (a0.length : Int)), (8, .int .i64 s8_50)]) (fun ⟨c47, c48, c49, s8_50, n⟩ wr => InO w0 (HAppend.hAppend ([.box ba1_c0 [.int .i64 c47, .int .i64 c48] 64, .box ba1_c1 [.int .i64 c49] 3] : List Res) O) wr fun Oz => Vec (.pair (.int .i64) (.int .i64)) (gz H w0 wr Oz) (va0) (a0) ∧ Le (fz w (HAppend.hAppend ([.box ba1_c0 [.int .i64 a1_c0.1, .int .i64 a1_c0.2] 64, .box ba1_c1 [.int .i64 a1_c1] 3] : List Res) O)) (fz wr Oz) ∧ Go.L.itr (slices_IndexFunc_api_Hit_api_Hit_bl2 a0) n (c47, c48, c49, s8_50) = some r) (fun ⟨c47, c48, c49, s8_50, n⟩ => n) (a1_c0.1, a1_c0.2, a1_c1, (0 : Int), n51) (.cons rfl (.cons rfl (.cons rfl (.cons rfl (Sub.nil _))))) ⟨hL, ha0, hT, h⟩ ?_
  rintro ⟨c47, c48, c49, s8_50, nn51⟩ wr51 ⟨hL51, hf51_0, hT, h⟩
  obtain ⟨n51, e51, rfl, h, hm51⟩ := Go.L.itr_some h
  refine W_pz 1 rfl ?_
  refine W_seq ?_
  refine W_if rfl (fun hc53 => ?_) (fun hc53 => ?_)
  ·replace h := Go.L.ite_p hc53 h
   refine W_skip ?_
   refine At_seq ?_
   refine W_seq ?_
   refine W_block ?_
   refine W_pz 2 rfl ?_
   refine W_p 3 rfl ?_
   obtain ⟨hk56, h⟩ := Go.L.chk_some h
   refine S_index rfl rfl underlying40 zr64 hf51_0 s8_50.toNat (Int.toNat_of_nonneg hk56.1).symm (idx_lt hk56) rfl ?_
   rintro p55 _ ⟨_, _, rfl, rfl, rfl⟩ hp55
   refine S_v (r_loadN rfl underlying64 rfl zr64 hp55 (gz_le hH hL51)) rfl ?_
   obtain ⟨x57, hb57, h⟩ := Go.L.bind_some h
   refine S_callv rfl rfl rfl (words_Index_Near_1_fr (a0 := ((a0.getD s8_50.toNat default).1, (a0.getD s8_50.toNat default).2)) (a1 := (c47, c48)) (a2 := c49) (O := (HAppend.hAppend ([] : List Res) O)) hH hL51  hb57) ?_
   rintro _ w58 ⟨rfl, hL58, hle58⟩
   replace hf51_0 := hf51_0.mono (gz_mono hH hle58)
   replace hp55 := hp55.mono (gz_mono hH hle58)
   replace hT := hT.trans hle58
   refine S_seqnil ?_
   refine W_cond rfl (fun hc59 => ?_) (fun hc59 => ?_)
   ·replace h := Go.L.ite_t hc59 h
    refine W_pz 2 rfl ?_
    refine W_ret ?_
    refine At_block_ret ?_
    refine At_seq_ret ?_
    refine At_loop_ret ?_
    replace h := Go.L.Nxt.out h hm51
    refine At_block_ret ?_
    refine At_cut_ret ?_
    obtain rfl := Option.some.inj h
    refine At_body rfl rfl ?_
    exact ⟨rfl, hL58, hT⟩
   ·replace h := Go.L.ite_f hc59 h
    refine W_skip ?_
    refine At_block ?_
    refine At_seq ?_
    refine W_region ?_
    obtain ⟨hk62, h⟩ := Go.L.chk_some h
    refine S_v (r_ar64 rfl rfl rfl hk62) rfl ?_
    refine S_pu 1 rfl ?_
    refine S_nil ?_
    have h := Go.L.Nxt.again h hm51
    refine At_round (x57.2.1.1, x57.2.1.2, x57.2.2, (s8_50 + (1 : Int)), n51) (.cons rfl (.cons rfl (.cons rfl (.cons rfl (Sub.nil _))))) ⟨hL58, hf51_0, hT, h⟩ (Nat.lt_succ_self _)
  ·replace h := Go.L.ite_n hc53 h
   refine W_exit ?_
   refine At_seq_exit ?_
   refine At_loop_exit ?_
   replace h := Go.L.Nxt.out h hm51
   refine At_exit ?_
   refine At_cut (c47, c48, c49) (Sub.nil _) ⟨hL51, hT, h⟩
 ·rintro ⟨c30, c31, c32⟩ wr33 ⟨hL33, hT, h⟩
  refine W_pz 1 rfl ?_
  refine W_ret ?_
  obtain rfl := Option.some.inj h
  refine At_body rfl rfl ?_
  exact ⟨rfl, hL33, hT⟩

noncomputable def slices_ContainsFunc_api_Hit_api_Hit (a0 : List (Int × Int)) (a1_c0 : Int × Int) (a1_c1 : Int) : Option (Bool × (Int × Int) × Int) :=
 Option.bind (slices_IndexFunc_api_Hit_api_Hit a0 (a1_c0.1, a1_c0.2) a1_c1) (fun x1 => some (decide ((0 : Int) ≤ x1.1), (x1.2.1.1, x1.2.1.2), x1.2.2))

theorem slices_ContainsFunc_api_Hit_api_Hit_fr {w0 w : World} {H : PH} (hH : Le H (hp w0)) {O : List Res} {a0 : List (Int × Int)} {a1_c0 : Int × Int} {a1_c1 : Int} {va0 : Value} {ba1_c0 : Nat} {ba1_c1 : Nat} (hL : Lcl w0 (HAppend.hAppend ([.box ba1_c0 [.int .i64 a1_c0.1, .int .i64 a1_c0.2] 64, .box ba1_c1 [.int .i64 a1_c1] 3] : List Res) O) w) (ha0 : Vec (.pair (.int .i64) (.int .i64)) (gz H w0 w (HAppend.hAppend ([.box ba1_c0 [.int .i64 a1_c0.1, .int .i64 a1_c0.2] 64, .box ba1_c1 [.int .i64 a1_c1] 3] : List Res) O)) va0 (a0)) {r : Bool × (Int × Int) × Int} (h : slices_ContainsFunc_api_Hit_api_Hit a0 a1_c0 a1_c1 = some r) :
  Ok Tryz.prog 51 [va0, .func (.func 52) #[] #[.pointer (some ⟨ba1_c0, 0, none⟩), .pointer (some ⟨ba1_c1, 0, none⟩)]] w (fun v w' => v = .bool r.1 ∧ Lcl w0 (HAppend.hAppend ([.box ba1_c0 [.int .i64 r.2.1.1, .int .i64 r.2.1.2] 64, .box ba1_c1 [.int .i64 r.2.2] 3] : List Res) O) w' ∧ Le (fz w (HAppend.hAppend ([.box ba1_c0 [.int .i64 a1_c0.1, .int .i64 a1_c0.2] 64, .box ba1_c1 [.int .i64 a1_c1] 3] : List Res) O)) (fz w' (HAppend.hAppend ([.box ba1_c0 [.int .i64 r.2.1.1, .int .i64 r.2.1.2] 64, .box ba1_c1 [.int .i64 r.2.2] 3] : List Res) O))) := by
 refine Ok_enter (n := 9) [(0, va0), (1, .func (.func 52) #[] #[.pointer (some ⟨ba1_c0, 0, none⟩), .pointer (some ⟨ba1_c1, 0, none⟩)])] func51 rfl rfl rfl rfl rfl ?_
 have hT := Le.refl (fz w (HAppend.hAppend ([.box ba1_c0 [.int .i64 a1_c0.1, .int .i64 a1_c0.2] 64, .box ba1_c1 [.int .i64 a1_c1] 3] : List Res) O))
 refine W_pz 1 rfl ?_
 refine W_p 2 rfl ?_
 obtain ⟨x1, hb1, h⟩ := Go.L.bind_some h
 refine S_call rfl rfl (slices_IndexFunc_api_Hit_api_Hit_fr (a0 := a0) (a1_c0 := (a1_c0.1, a1_c0.2)) (a1_c1 := a1_c1) (O := (HAppend.hAppend ([] : List Res) O)) hH hL ha0 hb1) ?_
 rintro _ w2 ⟨rfl, hL2, hle2⟩
 replace ha0 := ha0.mono (gz_mono hH hle2)
 replace hT := hT.trans hle2
 refine S_pz 2 rfl ?_
 refine W_ret ?_
 obtain rfl := Option.some.inj h
 refine At_body rfl rfl ?_
 exact ⟨rfl, hL2, hT⟩

noncomputable def words_Index_Near_k1 (l99 : List Int) (_c100 : Int) : Option ((List Int) × (Int × Int)) :=
 some (l99, ((0 : Int), (0 : Int)))
noncomputable def words_Index_Near_bl2 (a0 : Int × (List ((List UInt8) × (List (Int × Int))))) (a2 : List UInt8) (x103 : (List (Int × Int))) : (List Int) × Int × Int → Option (((List Int) × Int × Int) ⊕ ((List Int) × (Int × Int))) := fun ⟨l132, c133, s41_134⟩ =>
 if s41_134 < (x103.length : Int) then Go.L.chk (0 ≤ s41_134 ∧ s41_134 < (x103.length : Int)) (Option.bind (words_Index_hits (a0.1, a0.2) a2) (fun x143 => Option.bind (slices_ContainsFunc_api_Hit_api_Hit x143 ((x103.getD s41_134.toNat default).1, (x103.getD s41_134.toNat default).2) c133) (fun x146 => if x146.1 then Option.bind (slices_Contains_int_int l132 x146.2.1.1) (fun x150 => if !x150 then Go.L.chk (Go.E.Cap 8 (l132.length + ([x146.2.1.1]).length)) (Go.L.chk (Go.L.I64 (s41_134 + (1 : Int))) (some (Sum.inl ((l132 ++ [x146.2.1.1]), x146.2.2, (s41_134 + (1 : Int)))))) else Go.L.chk (Go.L.I64 (s41_134 + (1 : Int))) (some (Sum.inl (l132, x146.2.2, (s41_134 + (1 : Int)))))) else Go.L.chk (Go.L.I64 (s41_134 + (1 : Int))) (some (Sum.inl (l132, x146.2.2, (s41_134 + (1 : Int)))))))) else Option.map Sum.inr (words_Index_Near_k1 l132 c133)
noncomputable def words_Index_Near_l2 (a0 : Int × (List ((List UInt8) × (List (Int × Int))))) (a2 : List UInt8) (x103 : (List (Int × Int))) (s : (List Int) × Int × Int) : Option ((List Int) × (Int × Int)) := Go.L.run (words_Index_Near_bl2 a0 a2 x103) s
noncomputable def words_Index_Near (a0 : Int × (List ((List UInt8) × (List (Int × Int))))) (a1 : List UInt8) (a2 : List UInt8) (a3 : Int) : Option ((List Int) × (Int × Int)) :=
 Option.bind (words_Check a1) (fun x4 => if x4.1 = (0 : Int) ∧ x4.2 = (0 : Int) then Option.bind (words_Check a2) (fun x16 => if x16.1 = (0 : Int) ∧ x16.2 = (0 : Int) then (if a3 < (1 : Int) then Option.bind (words_fault (4 : Int) (-3 : Int)) (fun x28 => some ([], (x28.1, x28.2))) else if (2048 : Int) < a3 then Option.bind (words_fault (4 : Int) (-3 : Int)) (fun x34 => some ([], (x34.1, x34.2))) else Option.bind (words_Index_hits (a0.1, a0.2) a1) (fun x103 => (words_Index_Near_l2 a0 a2 x103) (([] : List Int), a3, (0 : Int)))) else Option.bind (words_fault x16.1 (-2 : Int)) (fun x22 => some ([], (x22.1, x22.2)))) else some ([], (x4.1, x4.2)))

theorem words_Index_Near_ok (w : World) (H : PH) (hH : Le H (hp w)) (hU : Utab H) {a0 : Int × (List ((List UInt8) × (List (Int × Int))))} {a1 : List UInt8} {a2 : List UInt8} {a3 : Int} {v0_0 : Value} (h0_0 : Vec (.pair .st (.vec (.pair (.int .i64) (.int .i64)))) H v0_0 (a0.2)) {r : (List Int) × (Int × Int)} (h : words_Index_Near a0 a1 a2 a3 = some r) :
  Ok Tryz.prog 26 [.agg #[.int .i64 a0.1, v0_0], .string ⟨(a1).toArray⟩, .string ⟨(a2).toArray⟩, .int .i64 a3] w (fun v w' => Ext w w' ∧ ∃ u0, v = .tuple #[u0, .agg #[.int .i64 r.2.1, .int .i64 r.2.2]] ∧ OwnH 3 (.int .i64) H w w' u0 (r.1)) := by
 refine Ok_enter (n := 66) [(0, .agg #[.int .i64 a0.1, v0_0]), (1, .string ⟨(a1).toArray⟩), (2, .string ⟨(a2).toArray⟩), (3, .int .i64 a3)] func26 rfl rfl rfl rfl rfl ?_
 have hL := Lcl.start w
 refine W_seqr ?_
 refine S_box (t := 25) rfl rfl rfl hL ?_
 intro w1 b1 hL1 hle1 _
 refine S_box1 (t := 3) rfl rfl rfl hL1 ?_
 intro w2 b2 hL2 hle2 _
 refine S_pu 1 rfl ?_
 refine S_alloc zr27 rfl rfl hL2 ?_
 intro w3 b3 hL3 hle3 _
 refine S_seqnil ?_
 refine W_seq ?_
 refine W_p 1 rfl ?_
 obtain ⟨x4, hb4, h⟩ := Go.L.bind_some h
 refine S_callL rfl rfl hL3 (words_Check_ok _ _ (gz_le hH hL3) (hU.mono (gz_left hH)) hb4) ?_
 rintro _ w5 rfl hx5 hL5 hle5
 refine S_alloc zr27 rfl rfl hL5 ?_
 intro w6 b6 hL6 hle6 _
 refine S_storeBN 0 rfl rfl rfl zr27 hL6 rfl rfl (onc rfl (onc rfl on0)) ?_
 intro w7 hL7 hle7
 refine S_seqnil ?_
 refine W_seqr ?_
 refine S_v (r_loadBN 0 rfl underlying27 rfl zr27 hL7 rfl) rfl ?_
 refine S_v (r_build rfl (fun _ => bld27_z _)) rfl ?_
 refine S_v (r_neA rfl rfl eqg27 (eq27 _ _ _ _ )) rfl ?_
 refine S_seqnil ?_
 refine W_ifn rfl (fun hc8 => ?_) (fun hc8 => ?_)
 ·replace h := Go.L.ite_n hc8 h
  refine W_seqd (.q 0 (.q 1 (.tail 2))) mixed (by kernel_rfl) (fun w10 hx10 => ?_)
  have hL11 := hL7.call hx10
  refine D_v (r_loadBN 0 rfl underlying27 rfl zr27 hL11 rfl) rfl rfl ?_
  refine D_pu 1 rfl ?_
  refine D_tail (fun w12 hx12 => ?_)
  have hL13 := hL11.call hx12
  refine S_storeBN 1 rfl rfl rfl zr27 hL13 rfl rfl (onc rfl (onc rfl on0)) ?_
  intro w14 hL14 hle14
  refine S_seqnil ?_
  refine W_ret ?_
  refine At_seq_ret ?_
  obtain rfl := Option.some.inj h
  refine At_got2 rfl (.tmp rfl) (.cell rfl underlying27 rfl zr27 (box_ptr (i := 1) hL14 rfl)) ?_
  exact ⟨hL14.ext, _, rfl, OwnH.nil⟩
 ·replace h := Go.L.ite_p hc8 h
  refine W_skip ?_
  refine At_seq ?_
  refine W_seq ?_
  refine W_p 1 rfl ?_
  obtain ⟨x16, hb16, h⟩ := Go.L.bind_some h
  refine S_callL rfl rfl hL7 (words_Check_ok _ _ (gz_le hH hL7) (hU.mono (gz_left hH)) hb16) ?_
  rintro _ w17 rfl hx17 hL17 hle17
  refine S_alloc zr27 rfl rfl hL17 ?_
  intro w18 b18 hL18 hle18 _
  refine S_storeBN 0 rfl rfl rfl zr27 hL18 rfl rfl (onc rfl (onc rfl on0)) ?_
  intro w19 hL19 hle19
  refine S_seqnil ?_
  refine W_seqr ?_
  refine S_v (r_loadBN 0 rfl underlying27 rfl zr27 hL19 rfl) rfl ?_
  refine S_v (r_build rfl (fun _ => bld27_z _)) rfl ?_
  refine S_v (r_neA rfl rfl eqg27 (eq27 _ _ _ _ )) rfl ?_
  refine S_seqnil ?_
  refine W_ifn rfl (fun hc20 => ?_) (fun hc20 => ?_)
  ·replace h := Go.L.ite_n hc20 h
   refine W_seqr ?_
   refine S_v (r_field rfl underlying27 rfl zr3 (by decide)) rfl ?_
   refine S_v (r_loadB1 0 rfl underlying3 rfl hL19 rfl rfl) rfl ?_
   obtain ⟨x22, hb22, h⟩ := Go.L.bind_some h
   refine S_callL rfl rfl hL19 (words_fault_ok _ _ (gz_le hH hL19) hb22) ?_
   rintro _ w23 rfl hx23 hL23 hle23
   refine S_pu 1 rfl ?_
   refine S_storeBN 2 rfl rfl rfl zr27 hL23 rfl rfl (onc rfl (onc rfl on0)) ?_
   intro w24 hL24 hle24
   refine S_seqnil ?_
   refine W_ret ?_
   refine At_seq_ret ?_
   obtain rfl := Option.some.inj h
   refine At_got2 rfl (.tmp rfl) (.cell rfl underlying27 rfl zr27 (box_ptr (i := 2) hL24 rfl)) ?_
   exact ⟨hL24.ext, _, rfl, OwnH.nil⟩
  ·replace h := Go.L.ite_p hc20 h
   refine W_skip ?_
   refine At_seq ?_
   refine W_seq ?_
   refine W_seqr ?_
   refine S_v (r_loadB1 3 rfl underlying3 rfl hL19 rfl rfl) rfl ?_
   refine S_pu 2 rfl ?_
   refine S_split (s := 32) rfl (fun hg26 => ?_) (fun hg26 => ?_)
   ·replace h := Go.L.ite_p (of_decide_eq_true hg26) h
    iterate 2 refine S_unwanted rfl rfl hg26 rfl ?_
    refine S_v (r_pickT rfl hg26 rfl) rfl ?_
    refine S_seqnil ?_
    refine W_true rfl ?_
    refine W_seqr ?_
    obtain ⟨x28, hb28, h⟩ := Go.L.bind_some h
    refine S_callL rfl rfl hL19 (words_fault_ok _ _ (gz_le hH hL19) hb28) ?_
    rintro _ w29 rfl hx29 hL29 hle29
    refine S_pu 1 rfl ?_
    refine S_storeBN 2 rfl rfl rfl zr27 hL29 rfl rfl (onc rfl (onc rfl on0)) ?_
    intro w30 hL30 hle30
    refine S_seqnil ?_
    refine W_ret ?_
    refine At_seq_ret ?_
    obtain rfl := Option.some.inj h
    refine At_got2 rfl (.tmp rfl) (.cell rfl underlying27 rfl zr27 (box_ptr (i := 2) hL30 rfl)) ?_
    exact ⟨hL30.ext, _, rfl, OwnH.nil⟩
   ·replace h := Go.L.ite_n (of_decide_eq_false hg26) h
    refine S_guarded rfl rfl hg26 ?_
    refine S_v (r_loadB1 3 rfl underlying3 rfl hL19 rfl rfl) rfl ?_
    refine S_guarded rfl rfl hg26 ?_
    refine S_v (RunsAt_pu rfl) rfl ?_
    refine S_v (r_pickF rfl hg26 rfl) rfl ?_
    refine S_seqnil ?_
    refine W_if rfl (fun hc32 => ?_) (fun hc32 => ?_)
    ·replace h := Go.L.ite_p hc32 h
     refine W_seqr ?_
     obtain ⟨x34, hb34, h⟩ := Go.L.bind_some h
     refine S_callL rfl rfl hL19 (words_fault_ok _ _ (gz_le hH hL19) hb34) ?_
     rintro _ w35 rfl hx35 hL35 hle35
     refine S_pu 1 rfl ?_
     refine S_storeBN 2 rfl rfl rfl zr27 hL35 rfl rfl (onc rfl (onc rfl on0)) ?_
     intro w36 hL36 hle36
     refine S_seqnil ?_
     refine W_ret ?_
     refine At_seq_ret ?_
     obtain rfl := Option.some.inj h
     refine At_got2 rfl (.tmp rfl) (.cell rfl underlying27 rfl zr27 (box_ptr (i := 2) hL36 rfl)) ?_
     exact ⟨hL36.ext, _, rfl, OwnH.nil⟩
    ·replace h := Go.L.ite_n hc32 h
     refine W_skip ?_
     refine At_seq ?_
     refine W_p 1 rfl ?_
     obtain ⟨hL38, hle38, he38⟩ := row_nilE (.int .i64) H 3 hL19
     refine S_seqnil ?_
     refine W_cut (σ := (List Int) × Int × Value × (List Value)) (fun ⟨l99, c100, vl99, xsl99⟩ => [(9, .pointer (some ⟨b3, 0, none⟩)), (12, vl99)]) (fun ⟨l99, c100, vl99, xsl99⟩ wr => InO w [.row (vl99) 3 1 (l99).length (xsl99), .box b18 [.int .i64 x16.1, .int .i64 x16.2] 27, .box b6 [.int .i64 x4.1, .int .i64 x4.2] 27, .box b3 [.int .i64 (0 : Int), .int .i64 (0 : Int)] 27, .box b2 [.int .i64 c100] 3, .box b1 [.int .i64 a0.1, v0_0] 25] wr fun Oz => Elems (.int .i64) (gz H w wr Oz) (l99) (xsl99) ∧ words_Index_Near_k1 l99 c100 = some r) ?_ ?_
     ·refine W_seqr ?_
      refine S_v (r_loadBN 5 rfl underlying25 rfl zr25 hL38 rfl) rfl ?_
      refine S_pu 1 rfl ?_
      obtain ⟨x103, hb103, h⟩ := Go.L.bind_some h
      refine S_callL rfl rfl hL38 (words_Index_hits_ok _ _ (gz_le hH hL38) (h0_0.mono (gz_left hH)) hb103) ?_
      rintro u104_0 w104 ⟨_, rfl, hR104_0⟩ hx104 hL104 hle104
      have hv104_0 := hR104_0.mono (gz_nw hH hL38 hx104)
      replace he38 := he38.mono (gz_mono hH hle104)
      refine S_v (r_len rfl underlying40 hv104_0) rfl ?_
      refine S_pz 1 rfl ?_
      refine W_block ?_
      obtain ⟨n135, h⟩ := Go.L.run_some h
      refine W_loop (σ := (List Int) × Int × Int × Value × (List Value) × Nat) (fun ⟨l132, c133, s41_134, vl132, xsl132, n⟩ => [(2, .string ⟨(a2).toArray⟩), (4, .pointer (some ⟨b1, 0, none⟩)), (7, .pointer (some ⟨b2, 0, none⟩)), (9, .pointer (some ⟨b3, 0, none⟩)), (12, vl132), (39, u104_0), (40, .int .i64 (x103.length : Int)), (41, .int .i64 s41_134)]) (fun ⟨l132, c133, s41_134, vl132, xsl132, n⟩ wr => InO w [.row (vl132) 3 1 (l132).length (xsl132), .box b18 [.int .i64 x16.1, .int .i64 x16.2] 27, .box b6 [.int .i64 x4.1, .int .i64 x4.2] 27, .box b3 [.int .i64 (0 : Int), .int .i64 (0 : Int)] 27, .box b2 [.int .i64 c133] 3, .box b1 [.int .i64 a0.1, v0_0] 25] wr fun Oz => Vec (.pair (.int .i64) (.int .i64)) (gz H w wr Oz) (u104_0) (x103) ∧ Elems (.int .i64) (gz H w wr Oz) (l132) (xsl132) ∧ Go.L.itr (words_Index_Near_bl2 a0 a2 x103) n (l132, c133, s41_134) = some r) (fun ⟨l132, c133, s41_134, vl132, xsl132, n⟩ => n) (([] : List Int), a3, (0 : Int), .slice none 0 0, [], n135) (.cons rfl (.cons rfl (.cons rfl (.cons rfl (.cons rfl (.cons rfl (.cons rfl (.cons rfl (Sub.nil _))))))))) ⟨hL104, hv104_0, he38, h⟩ ?_
      rintro ⟨l132, c133, s41_134, vl132, xsl132, nn135⟩ wr135 ⟨hL135, hf135_0, hel132, h⟩
      obtain ⟨n135, e135, rfl, h, hm135⟩ := Go.L.itr_some h
      refine W_pz 1 rfl ?_
      refine W_seq ?_
      refine W_if rfl (fun hc137 => ?_) (fun hc137 => ?_)
      ·replace h := Go.L.ite_p hc137 h
       refine W_skip ?_
       refine At_seq ?_
       refine W_seq ?_
       refine W_block ?_
       refine W_seqr ?_
       obtain ⟨hk140, h⟩ := Go.L.chk_some h
       refine S_index rfl rfl underlying40 zr64 hf135_0 s41_134.toNat (Int.toNat_of_nonneg hk140.1).symm (idx_lt hk140) rfl ?_
       rintro p139 _ ⟨_, _, rfl, rfl, rfl⟩ hp139
       refine S_v (r_loadN rfl underlying64 rfl zr64 hp139 (gz_le hH hL135)) rfl ?_
       refine S_alloc zr64 rfl rfl hL135 ?_
       intro w141 b141 hL141 hle141 _
       replace hf135_0 := hf135_0.mono (gz_mono hH hle141)
       replace hel132 := hel132.mono (gz_mono hH hle141)
       replace hp139 := hp139.mono (gz_mono hH hle141)
       refine S_storeBN 0 rfl rfl rfl zr64 hL141 rfl rfl (onc rfl (onc rfl on0)) ?_
       intro w142 hL142 hle142
       replace hf135_0 := hf135_0.mono (gz_mono hH hle142)
       replace hel132 := hel132.mono (gz_mono hH hle142)
       replace hp139 := hp139.mono (gz_mono hH hle142)
       refine S_seqnil ?_
       refine W_seqr ?_
       refine S_v (r_loadBN 6 rfl underlying25 rfl zr25 hL142 rfl) rfl ?_
       refine S_pu 1 rfl ?_
       obtain ⟨x143, hb143, h⟩ := Go.L.bind_some h
       refine S_callL rfl rfl hL142 (words_Index_hits_ok _ _ (gz_le hH hL142) (h0_0.mono (gz_left hH)) hb143) ?_
       rintro u144_0 w144 ⟨_, rfl, hR144_0⟩ hx144 hL144 hle144
       have hv144_0 := hR144_0.mono (gz_nw hH hL142 hx144)
       replace hf135_0 := hf135_0.mono (gz_mono hH hle144)
       replace hel132 := hel132.mono (gz_mono hH hle144)
       refine S_pu 1 rfl ?_
       have hL145 : Lcl w [.box b141 [.int .i64 ((x103.getD s41_134.toNat default).1), .int .i64 ((x103.getD s41_134.toNat default).2)] 64, .box b2 [.int .i64 c133] 3, .row (vl132) 3 1 (l132).length (xsl132), .box b18 [.int .i64 x16.1, .int .i64 x16.2] 27, .box b6 [.int .i64 x4.1, .int .i64 x4.2] 27, .box b3 [.int .i64 (0 : Int), .int .i64 (0 : Int)] 27, .box b1 [.int .i64 a0.1, v0_0] 25] w144 := hL144.picks [5, 1] rfl
       have hle145 := fz_picks [5, 1] hL144 hL145 rfl
       replace hf135_0 := hf135_0.mono (gz_mono hH hle145)
       replace hel132 := hel132.mono (gz_mono hH hle145)
       replace hv144_0 := hv144_0.mono (gz_mono hH hle145)
       obtain ⟨x146, hb146, h⟩ := Go.L.bind_some h
       refine S_call rfl rfl (slices_ContainsFunc_api_Hit_api_Hit_fr (a0 := x143) (a1_c0 := ((x103.getD s41_134.toNat default).1, (x103.getD s41_134.toNat default).2)) (a1_c1 := c133) (O := [.row (vl132) 3 1 (l132).length (xsl132), .box b18 [.int .i64 x16.1, .int .i64 x16.2] 27, .box b6 [.int .i64 x4.1, .int .i64 x4.2] 27, .box b3 [.int .i64 (0 : Int), .int .i64 (0 : Int)] 27, .box b1 [.int .i64 a0.1, v0_0] 25]) hH hL145 hv144_0 hb146) ?_
       rintro _ w147 ⟨rfl, hL147, hle147⟩
       replace hf135_0 := hf135_0.mono (gz_mono hH hle147)
       replace hel132 := hel132.mono (gz_mono hH hle147)
       replace hv144_0 := hv144_0.mono (gz_mono hH hle147)
       refine S_pz 1 rfl ?_
       refine W_p 2 rfl ?_
       refine S_split (s := 51) rfl (fun hg148 => ?_) (fun hg148 => ?_)
       ·replace h := Go.L.ite_t hg148 h
        refine S_guarded rfl rfl hg148 ?_
        refine S_v (RunsAt_pu rfl) rfl ?_
        refine S_guarded rfl rfl hg148 ?_
        refine S_v (r_field rfl underlying64 rfl zr3 (by decide)) rfl ?_
        refine S_guarded rfl rfl hg148 ?_
        refine S_v (r_loadB1 0 rfl underlying3 rfl hL147 rfl rfl) rfl ?_
        refine S_guarded rfl rfl hg148 ?_
        obtain ⟨x150, hb150, h⟩ := Go.L.bind_some h
        refine S_callL rfl rfl hL147 (slices_Contains_int_int_ok _ _ (Le.refl _) (hL147.vecN hH (i := 2) rfl hel132) hb150) ?_
        rintro _ w151 rfl hx151 hL151 hle151
        replace hf135_0 := hf135_0.mono (gz_mono hH hle151)
        replace hel132 := hel132.mono (gz_mono hH hle151)
        refine S_guarded rfl rfl hg148 ?_
        refine S_v (RunsAt_pu rfl) rfl ?_
        refine S_v (r_pickT rfl hg148 rfl) rfl ?_
        refine S_seqnil ?_
        refine W_cond rfl (fun hc152 => ?_) (fun hc152 => ?_)
        ·replace h := Go.L.ite_t hc152 h
         refine W_region ?_
         refine S_pu 1 rfl ?_
         refine S_v (r_field rfl underlying64 rfl zr3 (by decide)) rfl ?_
         refine S_v (r_loadB1 0 rfl underlying3 rfl hL151 rfl rfl) rfl ?_
         refine S_litE (r := (.int .i64)) (l := [x146.2.1.1]) rfl (fun _ => bsl71_1 _ _) rfl (show 1 ≤ 9223372036854775807 by decide) hH hL151 (.c1 rfl .nil) ?_
         intro v154 w154 hx154 hL154 hle154 hv154
         replace hf135_0 := hf135_0.mono (gz_mono hH hle154)
         replace hel132 := hel132.mono (gz_mono hH hle154)
         obtain ⟨hk156, h⟩ := Go.L.chk_some h
         refine S_appE (r := (.int .i64)) (l := l132) (m := [x146.2.1.1]) 2 rfl rfl underlying71 zr3 rfl (by decide) rfl hH hL154 rfl hel132 hv154 hk156 ?_
         intro v155 w155 xs155 hL155 hle155 he155
         replace hf135_0 := hf135_0.mono (gz_mono hH hle155)
         replace hv154 := hv154.mono (gz_mono hH hle155)
         refine S_pu 1 rfl ?_
         refine S_nil ?_
         refine At_block ?_
         refine At_seq ?_
         refine W_region ?_
         obtain ⟨hk157, h⟩ := Go.L.chk_some h
         refine S_v (r_ar64 rfl rfl rfl hk157) rfl ?_
         refine S_pu 1 rfl ?_
         refine S_nil ?_
         have hL158 := hL155.dropAt (i := 0) rfl
         replace hf135_0 := hf135_0.mono (gz_mono hH (fz_dropAt (i := 0) rfl))
         replace he155 := he155.mono (gz_mono hH (fz_dropAt (i := 0) rfl))
         have hL159 : Lcl w [.box b6 [.int .i64 x4.1, .int .i64 x4.2] 27, .box b3 [.int .i64 (0 : Int), .int .i64 (0 : Int)] 27, .box b2 [.int .i64 x146.2.2] 3, .row (v155) 3 1 ((l132 ++ [x146.2.1.1])).length (xs155), .box b18 [.int .i64 x16.1, .int .i64 x16.2] 27, .box b1 [.int .i64 a0.1, v0_0] 25] w155 := hL158.picks [4, 4] rfl
         have hle159 := fz_picks [4, 4] hL158 hL159 rfl
         replace hf135_0 := hf135_0.mono (gz_mono hH hle159)
         replace he155 := he155.mono (gz_mono hH hle159)
         have hL160 : Lcl w [.row (v155) 3 1 ((l132 ++ [x146.2.1.1])).length (xs155), .box b18 [.int .i64 x16.1, .int .i64 x16.2] 27, .box b6 [.int .i64 x4.1, .int .i64 x4.2] 27, .box b3 [.int .i64 (0 : Int), .int .i64 (0 : Int)] 27, .box b2 [.int .i64 x146.2.2] 3, .box b1 [.int .i64 a0.1, v0_0] 25] w155 := hL159.picks [4, 4] rfl
         have hle160 := fz_picks [4, 4] hL159 hL160 rfl
         replace hf135_0 := hf135_0.mono (gz_mono hH hle160)
         replace he155 := he155.mono (gz_mono hH hle160)
         have h := Go.L.Nxt.again h hm135
         refine At_round ((l132 ++ [x146.2.1.1]), x146.2.2, (s41_134 + (1 : Int)), v155, xs155, n135) (.cons rfl (.cons rfl (.cons rfl (.cons rfl (.cons rfl (.cons rfl (.cons rfl (.cons rfl (Sub.nil _))))))))) ⟨hL160, hf135_0, he155, h⟩ (Nat.lt_succ_self _)
        ·replace h := Go.L.ite_f hc152 h
         refine W_skip ?_
         refine At_block ?_
         refine At_seq ?_
         refine W_region ?_
         obtain ⟨hk162, h⟩ := Go.L.chk_some h
         refine S_v (r_ar64 rfl rfl rfl hk162) rfl ?_
         refine S_pu 1 rfl ?_
         refine S_nil ?_
         have hL163 := hL151.dropAt (i := 0) rfl
         replace hf135_0 := hf135_0.mono (gz_mono hH (fz_dropAt (i := 0) rfl))
         replace hel132 := hel132.mono (gz_mono hH (fz_dropAt (i := 0) rfl))
         have hL164 : Lcl w [.box b6 [.int .i64 x4.1, .int .i64 x4.2] 27, .box b3 [.int .i64 (0 : Int), .int .i64 (0 : Int)] 27, .box b2 [.int .i64 x146.2.2] 3, .row (vl132) 3 1 (l132).length (xsl132), .box b18 [.int .i64 x16.1, .int .i64 x16.2] 27, .box b1 [.int .i64 a0.1, v0_0] 25] w151 := hL163.picks [4, 4] rfl
         have hle164 := fz_picks [4, 4] hL163 hL164 rfl
         replace hf135_0 := hf135_0.mono (gz_mono hH hle164)
         replace hel132 := hel132.mono (gz_mono hH hle164)
         have hL165 : Lcl w [.row (vl132) 3 1 (l132).length (xsl132), .box b18 [.int .i64 x16.1, .int .i64 x16.2] 27, .box b6 [.int .i64 x4.1, .int .i64 x4.2] 27, .box b3 [.int .i64 (0 : Int), .int .i64 (0 : Int)] 27, .box b2 [.int .i64 x146.2.2] 3, .box b1 [.int .i64 a0.1, v0_0] 25] w151 := hL164.picks [4, 4] rfl
         have hle165 := fz_picks [4, 4] hL164 hL165 rfl
         replace hf135_0 := hf135_0.mono (gz_mono hH hle165)
         replace hel132 := hel132.mono (gz_mono hH hle165)
         have h := Go.L.Nxt.again h hm135
         refine At_round (l132, x146.2.2, (s41_134 + (1 : Int)), vl132, xsl132, n135) (.cons rfl (.cons rfl (.cons rfl (.cons rfl (.cons rfl (.cons rfl (.cons rfl (.cons rfl (Sub.nil _))))))))) ⟨hL165, hf135_0, hel132, h⟩ (Nat.lt_succ_self _)
       ·replace h := Go.L.ite_f hg148 h
        iterate 5 refine S_unwanted rfl rfl hg148 rfl ?_
        refine S_v (r_pickF rfl hg148 rfl) rfl ?_
        refine S_seqnil ?_
        refine W_false rfl ?_
        refine W_skip ?_
        refine At_block ?_
        refine At_seq ?_
        refine W_region ?_
        obtain ⟨hk167, h⟩ := Go.L.chk_some h
        refine S_v (r_ar64 rfl rfl rfl hk167) rfl ?_
        refine S_pu 1 rfl ?_
        refine S_nil ?_
        have hL168 := hL147.dropAt (i := 0) rfl
        replace hf135_0 := hf135_0.mono (gz_mono hH (fz_dropAt (i := 0) rfl))
        replace hel132 := hel132.mono (gz_mono hH (fz_dropAt (i := 0) rfl))
        have hL169 : Lcl w [.box b6 [.int .i64 x4.1, .int .i64 x4.2] 27, .box b3 [.int .i64 (0 : Int), .int .i64 (0 : Int)] 27, .box b2 [.int .i64 x146.2.2] 3, .row (vl132) 3 1 (l132).length (xsl132), .box b18 [.int .i64 x16.1, .int .i64 x16.2] 27, .box b1 [.int .i64 a0.1, v0_0] 25] w147 := hL168.picks [4, 4] rfl
        have hle169 := fz_picks [4, 4] hL168 hL169 rfl
        replace hf135_0 := hf135_0.mono (gz_mono hH hle169)
        replace hel132 := hel132.mono (gz_mono hH hle169)
        have hL170 : Lcl w [.row (vl132) 3 1 (l132).length (xsl132), .box b18 [.int .i64 x16.1, .int .i64 x16.2] 27, .box b6 [.int .i64 x4.1, .int .i64 x4.2] 27, .box b3 [.int .i64 (0 : Int), .int .i64 (0 : Int)] 27, .box b2 [.int .i64 x146.2.2] 3, .box b1 [.int .i64 a0.1, v0_0] 25] w147 := hL169.picks [4, 4] rfl
        have hle170 := fz_picks [4, 4] hL169 hL170 rfl
        replace hf135_0 := hf135_0.mono (gz_mono hH hle170)
        replace hel132 := hel132.mono (gz_mono hH hle170)
        have h := Go.L.Nxt.again h hm135
        refine At_round (l132, x146.2.2, (s41_134 + (1 : Int)), vl132, xsl132, n135) (.cons rfl (.cons rfl (.cons rfl (.cons rfl (.cons rfl (.cons rfl (.cons rfl (.cons rfl (Sub.nil _))))))))) ⟨hL170, hf135_0, hel132, h⟩ (Nat.lt_succ_self _)
      ·replace h := Go.L.ite_n hc137 h
       refine W_exit ?_
       refine At_seq_exit ?_
       refine At_loop_exit ?_
       replace h := Go.L.Nxt.out h hm135
       refine At_exit ?_
       refine At_cut (l132, c133, vl132, xsl132) (.cons rfl (.cons rfl (Sub.nil _))) ⟨hL135, hel132, h⟩
     ·rintro ⟨l99, c100, vl99, xsl99⟩ wr101 ⟨hL101, hel99, h⟩
      refine W_p 1 rfl ?_
      refine S_v (r_build rfl (fun _ => bld27_z _)) rfl ?_
      refine S_pu 1 rfl ?_
      refine S_storeBN 3 rfl rfl rfl zr27 hL101 rfl rfl (onc rfl (onc rfl on0)) ?_
      intro w173 hL173 hle173
      replace hel99 := hel99.mono (gz_mono hH hle173)
      refine S_seqnil ?_
      refine W_ret ?_
      obtain rfl := Option.some.inj h
      refine At_got2 rfl (.tmp rfl) (.cell rfl underlying27 rfl zr27 (box_ptr (i := 3) hL173 rfl)) ?_
      exact ⟨hL173.ext, _, rfl, (hL173.ownH hH (i := 0) rfl hel99)⟩

noncomputable def law4_speaks : Option (Bool) :=
 Go.L.chk ([(84 : UInt8), (104 : UInt8), (101 : UInt8), (32 : UInt8), (50 : UInt8), (110 : UInt8), (100 : UInt8), (45 : UInt8), (100 : UInt8), (97 : UInt8), (121 : UInt8)] ≠ []) (Option.bind (words_Split ([(84 : UInt8), (104 : UInt8), (101 : UInt8), (32 : UInt8), (50 : UInt8), (110 : UInt8), (100 : UInt8), (45 : UInt8), (100 : UInt8), (97 : UInt8), (121 : UInt8)])) (fun x4 => Go.L.chk ([(97 : UInt8), (32 : UInt8), (98 : UInt8), (32 : UInt8), (65 : UInt8), (32 : UInt8), (98 : UInt8)] ≠ []) (Go.L.chk ([(98 : UInt8), (32 : UInt8), (97 : UInt8)] ≠ []) (Option.bind (words_Build ([[(97 : UInt8), (32 : UInt8), (98 : UInt8), (32 : UInt8), (65 : UInt8), (32 : UInt8), (98 : UInt8)], [(98 : UInt8), (32 : UInt8), (97 : UInt8)]])) (fun x15 => Option.bind (words_Index_Phrase (x15.1.1, x15.1.2) ([([97] : List UInt8), ([98] : List UInt8)])) (fun x22 => Option.bind (words_Index_Near (x15.1.1, x15.1.2) ([98] : List UInt8) ([98] : List UInt8) (2 : Int)) (fun x27 => Option.bind (words_Index_Near (x15.1.1, x15.1.2) ([98] : List UInt8) ([98] : List UInt8) (1 : Int)) (fun x31 => Option.bind (words_Open ([(192 : UInt8)])) (fun x36 => if x4.2.1 = (0 : Int) then if x15.2.1 = (0 : Int) then if x22.2.1 = (0 : Int) then if x27.2.1 = (0 : Int) then if x31.2.1 = (0 : Int) then if x36.2.1 = (0 : Int) then if (x4.1.length : Int) = (3 : Int) then Go.L.chk (0 ≤ (1 : Int) ∧ (1 : Int) < (x4.1.length : Int)) (if (x4.1.getD ((1 : Int).toNat) default).1 = ([50, 110, 100] : List UInt8) ∧ (x4.1.getD ((1 : Int).toNat) default).2.1 = (4 : Int) ∧ (x4.1.getD ((1 : Int).toNat) default).2.2 = (7 : Int) then Option.bind (ref4_SameHits x22.1 ([((0 : Int), (0 : Int)), ((0 : Int), (2 : Int))])) (fun x69 => if x69 then Option.bind (ref3_Ints x27.1 ([(0 : Int)])) (fun x74 => if x74 then if (x31.1.length : Int) = (0 : Int) then Option.bind (words_Index_Words (x15.1.1, x15.1.2)) (fun x80 => Option.bind (ref4_Texts x80 ([([97] : List UInt8), ([98] : List UInt8)])) (fun x83 => if x83 then Option.bind (words_Index_Items (x36.1.1, x36.1.2)) (fun x87 => if x87 = (0 : Int) then Option.bind (words_Check ([65] : List UInt8)) (fun x91 => Option.bind (ref3_At (6 : Int) (-1 : Int)) (fun x93 => some (decide (x91.1 = x93.1 ∧ x91.2 = x93.2)))) else some (false)) else some (false))) else some (false) else some (false)) else some (false)) else some (false)) else some (false) else some (false) else some (false) else some (false) else some (false) else some (false) else some (false))))))))))

theorem law4_speaks_ok (w : World) (H : PH) (hH : Le H (hp w)) (hU : Utab H)    {r : Bool} (h : law4_speaks = some r) :
  Ok Tryz.prog 6 [] w (fun v w' => Ext w w' ∧ v = .bool r) := by
 refine Ok_enter (n := 120) [] func6 rfl rfl rfl rfl rfl ?_
 have hL := Lcl.start w
 refine W_pz 1 rfl ?_
 refine W_seqr ?_
 refine S_litO (r := .byte) (l := [(84 : UInt8), (104 : UInt8), (101 : UInt8), (32 : UInt8), (50 : UInt8), (110 : UInt8), (100 : UInt8), (45 : UInt8), (100 : UInt8), (97 : UInt8), (121 : UInt8)]) rfl (fun _ => bsl22_11 _ _ _ _ _ _ _ _ _ _ _ _) rfl (show 11 ≤ 9223372036854775807 by decide) hH hL (.c1 rfl (.c1 rfl (.c1 rfl (.c1 rfl (.c1 rfl (.c1 rfl (.c1 rfl (.c1 rfl (.c1 rfl (.c1 rfl (.c1 rfl .nil))))))))))) ?_
 intro v1 w1 xs1 hL1 hle1 he1
 obtain ⟨hk3, h⟩ := Go.L.chk_some h
 refine S_cvB 0 rfl underlying22 underlying5 rfl hH hL1 rfl he1 hk3 ?_
 intro w2 hL2 hle2 hv2
 obtain ⟨x4, hb4, h⟩ := Go.L.bind_some h
 refine S_callL rfl rfl hL2 (words_Split_ok _ _ (gz_le hH hL2) (hU.mono (gz_left hH)) hv2 hb4) ?_
 rintro _ w5 ⟨u5_0, rfl, hR5_0⟩ hx5 hL5 hle5
 have hv5_0 := hR5_0.vecG hH hL2 hx5
 replace hv2 := hv2.mono (gz_mono hH hle5)
 refine S_pu 3 rfl ?_
 refine S_alloc zr27 rfl rfl hL5 ?_
 intro w6 b6 hL6 hle6 _
 replace hv2 := hv2.mono (gz_mono hH hle6)
 replace hv5_0 := hv5_0.mono (gz_mono hH hle6)
 refine S_pu 1 rfl ?_
 refine S_storeBN 0 rfl rfl rfl zr27 hL6 rfl rfl (onc rfl (onc rfl on0)) ?_
 intro w7 hL7 hle7
 replace hv2 := hv2.mono (gz_mono hH hle7)
 replace hv5_0 := hv5_0.mono (gz_mono hH hle7)
 refine S_seqnil ?_
 refine W_seqr ?_
 refine S_litO (r := .byte) (l := [(97 : UInt8), (32 : UInt8), (98 : UInt8), (32 : UInt8), (65 : UInt8), (32 : UInt8), (98 : UInt8)]) rfl (fun _ => bsl22_7 _ _ _ _ _ _ _ _) rfl (show 7 ≤ 9223372036854775807 by decide) hH hL7 (.c1 rfl (.c1 rfl (.c1 rfl (.c1 rfl (.c1 rfl (.c1 rfl (.c1 rfl .nil))))))) ?_
 intro v8 w8 xs8 hL8 hle8 he8
 replace hv5_0 := hv5_0.mono (gz_mono hH hle8)
 obtain ⟨hk10, h⟩ := Go.L.chk_some h
 refine S_cvB 0 rfl underlying22 underlying5 rfl hH hL8 rfl he8 hk10 ?_
 intro w9 hL9 hle9 hv9
 replace hv5_0 := hv5_0.mono (gz_mono hH hle9)
 refine S_litO (r := .byte) (l := [(98 : UInt8), (32 : UInt8), (97 : UInt8)]) rfl (fun _ => bsl22_3 _ _ _ _) rfl (show 3 ≤ 9223372036854775807 by decide) hH hL9 (.c1 rfl (.c1 rfl (.c1 rfl .nil))) ?_
 intro v11 w11 xs11 hL11 hle11 he11
 replace hv5_0 := hv5_0.mono (gz_mono hH hle11)
 replace hv9 := hv9.mono (gz_mono hH hle11)
 obtain ⟨hk13, h⟩ := Go.L.chk_some h
 refine S_cvB 0 rfl underlying22 underlying5 rfl hH hL11 rfl he11 hk13 ?_
 intro w12 hL12 hle12 hv12
 replace hv5_0 := hv5_0.mono (gz_mono hH hle12)
 replace hv9 := hv9.mono (gz_mono hH hle12)
 refine S_litE (r := (.vec .byte)) (l := [[(97 : UInt8), (32 : UInt8), (98 : UInt8), (32 : UInt8), (65 : UInt8), (32 : UInt8), (98 : UInt8)], [(98 : UInt8), (32 : UInt8), (97 : UInt8)]]) rfl (fun _ => bsl47_2 _ hv9.one _ hv12.one _) rfl (show 2 ≤ 9223372036854775807 by decide) hH hL12 (.c1 ⟨_, rfl, hv9⟩ (.c1 ⟨_, rfl, hv12⟩ .nil)) ?_
 intro v14 w14 hx14 hL14 hle14 hv14
 replace hv5_0 := hv5_0.mono (gz_mono hH hle14)
 replace hv9 := hv9.mono (gz_mono hH hle14)
 replace hv12 := hv12.mono (gz_mono hH hle14)
 obtain ⟨x15, hb15, h⟩ := Go.L.bind_some h
 refine S_callL rfl rfl hL14 (words_Build_ok _ _ (gz_le hH hL14) (hU.mono (gz_left hH)) hv14 hb15) ?_
 rintro _ w16 ⟨u16_0, rfl, hR16_0⟩ hx16 hL16 hle16
 have hv16_0 := hR16_0.mono (gz_nw hH hL14 hx16)
 replace hv5_0 := hv5_0.mono (gz_mono hH hle16)
 replace hv9 := hv9.mono (gz_mono hH hle16)
 replace hv12 := hv12.mono (gz_mono hH hle16)
 replace hv14 := hv14.mono (gz_mono hH hle16)
 refine S_pu 3 rfl ?_
 refine S_alloc zr25 rfl rfl hL16 ?_
 intro w17 b17 hL17 hle17 _
 replace hv5_0 := hv5_0.mono (gz_mono hH hle17)
 replace hv9 := hv9.mono (gz_mono hH hle17)
 replace hv12 := hv12.mono (gz_mono hH hle17)
 replace hv14 := hv14.mono (gz_mono hH hle17)
 replace hv16_0 := hv16_0.mono (gz_mono hH hle17)
 refine S_alloc zr27 rfl rfl hL17 ?_
 intro w18 b18 hL18 hle18 _
 replace hv5_0 := hv5_0.mono (gz_mono hH hle18)
 replace hv9 := hv9.mono (gz_mono hH hle18)
 replace hv12 := hv12.mono (gz_mono hH hle18)
 replace hv14 := hv14.mono (gz_mono hH hle18)
 replace hv16_0 := hv16_0.mono (gz_mono hH hle18)
 refine S_storeBN 1 rfl rfl rfl zr25 hL18 rfl rfl (onc rfl (onc hv16_0.one on0)) ?_
 intro w19 hL19 hle19
 replace hv5_0 := hv5_0.mono (gz_mono hH hle19)
 replace hv9 := hv9.mono (gz_mono hH hle19)
 replace hv12 := hv12.mono (gz_mono hH hle19)
 replace hv14 := hv14.mono (gz_mono hH hle19)
 replace hv16_0 := hv16_0.mono (gz_mono hH hle19)
 refine S_storeBN 0 rfl rfl rfl zr27 hL19 rfl rfl (onc rfl (onc rfl on0)) ?_
 intro w20 hL20 hle20
 replace hv5_0 := hv5_0.mono (gz_mono hH hle20)
 replace hv9 := hv9.mono (gz_mono hH hle20)
 replace hv12 := hv12.mono (gz_mono hH hle20)
 replace hv14 := hv14.mono (gz_mono hH hle20)
 replace hv16_0 := hv16_0.mono (gz_mono hH hle20)
 refine S_seqnil ?_
 refine W_seqr ?_
 refine S_v (r_loadBN 1 rfl underlying25 rfl zr25 hL20 rfl) rfl ?_
 refine S_litE (r := .st) (l := [([97] : List UInt8), ([98] : List UInt8)]) rfl (fun _ => bsl36_2 _ rfl _ rfl _) rfl (show 2 ≤ 9223372036854775807 by decide) hH hL20 (.c1 rfl (.c1 rfl .nil)) ?_
 intro v21 w21 hx21 hL21 hle21 hv21
 replace hv5_0 := hv5_0.mono (gz_mono hH hle21)
 replace hv16_0 := hv16_0.mono (gz_mono hH hle21)
 obtain ⟨x22, hb22, h⟩ := Go.L.bind_some h
 refine S_callL rfl rfl hL21 (words_Index_Phrase_ok _ _ (gz_le hH hL21) (hU.mono (gz_left hH)) hv16_0 hv21 hb22) ?_
 rintro _ w23 ⟨u23_0, rfl, hR23_0⟩ hx23 hL23 hle23
 have hv23_0 := hR23_0.vecG hH hL21 hx23
 replace hv5_0 := hv5_0.mono (gz_mono hH hle23)
 replace hv16_0 := hv16_0.mono (gz_mono hH hle23)
 replace hv21 := hv21.mono (gz_mono hH hle23)
 refine S_pu 3 rfl ?_
 refine S_alloc zr27 rfl rfl hL23 ?_
 intro w24 b24 hL24 hle24 _
 replace hv5_0 := hv5_0.mono (gz_mono hH hle24)
 replace hv16_0 := hv16_0.mono (gz_mono hH hle24)
 replace hv21 := hv21.mono (gz_mono hH hle24)
 replace hv23_0 := hv23_0.mono (gz_mono hH hle24)
 refine S_pu 1 rfl ?_
 refine S_storeBN 0 rfl rfl rfl zr27 hL24 rfl rfl (onc rfl (onc rfl on0)) ?_
 intro w25 hL25 hle25
 replace hv5_0 := hv5_0.mono (gz_mono hH hle25)
 replace hv16_0 := hv16_0.mono (gz_mono hH hle25)
 replace hv21 := hv21.mono (gz_mono hH hle25)
 replace hv23_0 := hv23_0.mono (gz_mono hH hle25)
 refine S_seqnil ?_
 have hG26 := hL25.rG H
 refine W_seqr ?_
 refine S_v (r_loadBN 2 rfl underlying25 rfl zr25 hL25 rfl) rfl ?_
 obtain ⟨x27, hb27, h⟩ := Go.L.bind_some h
 refine S_callL rfl rfl hL25 (words_Index_Near_ok _ _ (gz_le hH hL25) (hU.mono (gz_left hH)) (hv16_0.mono hG26) hb27) ?_
 rintro _ w28 ⟨u28_0, rfl, hR28_0⟩ hx28 hL28 hle28
 have hv28_0 := hR28_0.vecG hH hL25 hx28
 replace hG26 := hG26.trans (gz_mono hH hle28)
 refine S_pu 3 rfl ?_
 refine S_alloc zr27 rfl rfl hL28 ?_
 intro w29 b29 hL29 hle29 _
 replace hv28_0 := hv28_0.mono (gz_mono hH hle29)
 replace hG26 := hG26.trans (gz_mono hH hle29)
 refine S_pu 1 rfl ?_
 refine S_storeBN 0 rfl rfl rfl zr27 hL29 rfl rfl (onc rfl (onc rfl on0)) ?_
 intro w30 hL30 hle30
 replace hv28_0 := hv28_0.mono (gz_mono hH hle30)
 replace hG26 := hG26.trans (gz_mono hH hle30)
 refine S_seqnil ?_
 refine W_seqr ?_
 refine S_v (r_loadBN 3 rfl underlying25 rfl zr25 hL30 rfl) rfl ?_
 obtain ⟨x31, hb31, h⟩ := Go.L.bind_some h
 refine S_callL rfl rfl hL30 (words_Index_Near_ok _ _ (gz_le hH hL30) (hU.mono (gz_left hH)) (hv16_0.mono hG26) hb31) ?_
 rintro _ w32 ⟨u32_0, rfl, hR32_0⟩ hx32 hL32 hle32
 have hv32_0 := hR32_0.vecG hH hL30 hx32
 replace hv28_0 := hv28_0.mono (gz_mono hH hle32)
 replace hG26 := hG26.trans (gz_mono hH hle32)
 refine S_pu 3 rfl ?_
 refine S_alloc zr27 rfl rfl hL32 ?_
 intro w33 b33 hL33 hle33 _
 replace hv28_0 := hv28_0.mono (gz_mono hH hle33)
 replace hv32_0 := hv32_0.mono (gz_mono hH hle33)
 replace hG26 := hG26.trans (gz_mono hH hle33)
 refine S_pu 1 rfl ?_
 refine S_storeBN 0 rfl rfl rfl zr27 hL33 rfl rfl (onc rfl (onc rfl on0)) ?_
 intro w34 hL34 hle34
 replace hv28_0 := hv28_0.mono (gz_mono hH hle34)
 replace hv32_0 := hv32_0.mono (gz_mono hH hle34)
 replace hG26 := hG26.trans (gz_mono hH hle34)
 refine S_seqnil ?_
 refine W_seqr ?_
 refine S_litE (r := .byte) (l := [(192 : UInt8)]) rfl (fun _ => bsl22_1 _ _) rfl (show 1 ≤ 9223372036854775807 by decide) hH hL34 (.c1 rfl .nil) ?_
 intro v35 w35 hx35 hL35 hle35 hv35
 replace hv28_0 := hv28_0.mono (gz_mono hH hle35)
 replace hv32_0 := hv32_0.mono (gz_mono hH hle35)
 replace hG26 := hG26.trans (gz_mono hH hle35)
 obtain ⟨x36, hb36, h⟩ := Go.L.bind_some h
 refine S_callL rfl rfl hL35 (words_Open_ok _ _ (gz_le hH hL35) (hU.mono (gz_left hH)) hv35 hb36) ?_
 rintro _ w37 ⟨u37_0, rfl, hR37_0⟩ hx37 hL37 hle37
 have hv37_0 := hR37_0.mono (gz_nw hH hL35 hx37)
 replace hv28_0 := hv28_0.mono (gz_mono hH hle37)
 replace hv32_0 := hv32_0.mono (gz_mono hH hle37)
 replace hv35 := hv35.mono (gz_mono hH hle37)
 replace hG26 := hG26.trans (gz_mono hH hle37)
 refine S_pu 3 rfl ?_
 refine S_alloc zr25 rfl rfl hL37 ?_
 intro w38 b38 hL38 hle38 _
 replace hv28_0 := hv28_0.mono (gz_mono hH hle38)
 replace hv32_0 := hv32_0.mono (gz_mono hH hle38)
 replace hv35 := hv35.mono (gz_mono hH hle38)
 replace hv37_0 := hv37_0.mono (gz_mono hH hle38)
 replace hG26 := hG26.trans (gz_mono hH hle38)
 refine S_alloc zr27 rfl rfl hL38 ?_
 intro w39 b39 hL39 hle39 _
 replace hv28_0 := hv28_0.mono (gz_mono hH hle39)
 replace hv32_0 := hv32_0.mono (gz_mono hH hle39)
 replace hv35 := hv35.mono (gz_mono hH hle39)
 replace hv37_0 := hv37_0.mono (gz_mono hH hle39)
 replace hG26 := hG26.trans (gz_mono hH hle39)
 refine S_storeBN 1 rfl rfl rfl zr25 hL39 rfl rfl (onc rfl (onc hv37_0.one on0)) ?_
 intro w40 hL40 hle40
 replace hv28_0 := hv28_0.mono (gz_mono hH hle40)
 replace hv32_0 := hv32_0.mono (gz_mono hH hle40)
 replace hv35 := hv35.mono (gz_mono hH hle40)
 replace hv37_0 := hv37_0.mono (gz_mono hH hle40)
 replace hG26 := hG26.trans (gz_mono hH hle40)
 refine S_storeBN 0 rfl rfl rfl zr27 hL40 rfl rfl (onc rfl (onc rfl on0)) ?_
 intro w41 hL41 hle41
 replace hv28_0 := hv28_0.mono (gz_mono hH hle41)
 replace hv32_0 := hv32_0.mono (gz_mono hH hle41)
 replace hv35 := hv35.mono (gz_mono hH hle41)
 replace hv37_0 := hv37_0.mono (gz_mono hH hle41)
 replace hG26 := hG26.trans (gz_mono hH hle41)
 refine S_seqnil ?_
 refine W_seq ?_
 have hG42 := hL41.rG H
 refine W_seqr ?_
 refine S_v (r_field rfl underlying27 rfl zr3 (by decide)) rfl ?_
 refine S_v (r_loadB1 7 rfl underlying3 rfl hL41 rfl rfl) rfl ?_
 refine S_pu 2 rfl ?_
 refine S_split (s := 52) rfl (fun hg43 => ?_) (fun hg43 => ?_)
 ·replace h := Go.L.ite_n (not_dec_t hg43) h
  iterate 3 refine S_unwanted rfl rfl hg43 rfl ?_
  refine S_v (r_pickT rfl hg43 rfl) rfl ?_
  refine S_pu 1 rfl ?_
  iterate 3 refine S_unwanted rfl rfl rfl rfl ?_
  refine S_v (r_pickT rfl rfl rfl) rfl ?_
  refine S_pu 1 rfl ?_
  iterate 3 refine S_unwanted rfl rfl rfl rfl ?_
  refine S_v (r_pickT rfl rfl rfl) rfl ?_
  refine S_pu 1 rfl ?_
  iterate 3 refine S_unwanted rfl rfl rfl rfl ?_
  refine S_v (r_pickT rfl rfl rfl) rfl ?_
  refine S_pu 1 rfl ?_
  iterate 3 refine S_unwanted rfl rfl rfl rfl ?_
  refine S_v (r_pickT rfl rfl rfl) rfl ?_
  refine S_pu 1 rfl ?_
  iterate 3 refine S_unwanted rfl rfl rfl rfl ?_
  refine S_v (r_pickT rfl rfl rfl) rfl ?_
  refine S_seqnil ?_
  refine W_true rfl ?_
  refine W_pz 1 rfl ?_
  refine W_ret ?_
  refine At_seq_ret ?_
  obtain rfl := Option.some.inj h
  refine At_body rfl rfl ?_
  exact ⟨hL41.ext, rfl⟩
 ·replace h := Go.L.ite_p (not_dec_f hg43) h
  refine S_guarded rfl rfl hg43 ?_
  refine S_v (r_field rfl underlying27 rfl zr3 (by decide)) rfl ?_
  refine S_guarded rfl rfl hg43 ?_
  refine S_v (r_loadB1 5 rfl underlying3 rfl hL41 rfl rfl) rfl ?_
  refine S_guarded rfl rfl hg43 ?_
  refine S_v (RunsAt_pu rfl) rfl ?_
  refine S_v (r_pickF rfl hg43 rfl) rfl ?_
  refine S_pu 1 rfl ?_
  refine S_split (s := 57) rfl (fun hg46 => ?_) (fun hg46 => ?_)
  ·replace h := Go.L.ite_n (not_dec_t hg46) h
   iterate 3 refine S_unwanted rfl rfl hg46 rfl ?_
   refine S_v (r_pickT rfl hg46 rfl) rfl ?_
   refine S_pu 1 rfl ?_
   iterate 3 refine S_unwanted rfl rfl rfl rfl ?_
   refine S_v (r_pickT rfl rfl rfl) rfl ?_
   refine S_pu 1 rfl ?_
   iterate 3 refine S_unwanted rfl rfl rfl rfl ?_
   refine S_v (r_pickT rfl rfl rfl) rfl ?_
   refine S_pu 1 rfl ?_
   iterate 3 refine S_unwanted rfl rfl rfl rfl ?_
   refine S_v (r_pickT rfl rfl rfl) rfl ?_
   refine S_pu 1 rfl ?_
   iterate 3 refine S_unwanted rfl rfl rfl rfl ?_
   refine S_v (r_pickT rfl rfl rfl) rfl ?_
   refine S_seqnil ?_
   refine W_true rfl ?_
   refine W_pz 1 rfl ?_
   refine W_ret ?_
   refine At_seq_ret ?_
   obtain rfl := Option.some.inj h
   refine At_body rfl rfl ?_
   exact ⟨hL41.ext, rfl⟩
  ·replace h := Go.L.ite_p (not_dec_f hg46) h
   refine S_guarded rfl rfl hg46 ?_
   refine S_v (r_field rfl underlying27 rfl zr3 (by decide)) rfl ?_
   refine S_guarded rfl rfl hg46 ?_
   refine S_v (r_loadB1 4 rfl underlying3 rfl hL41 rfl rfl) rfl ?_
   refine S_guarded rfl rfl hg46 ?_
   refine S_v (RunsAt_pu rfl) rfl ?_
   refine S_v (r_pickF rfl hg46 rfl) rfl ?_
   refine S_pu 1 rfl ?_
   refine S_split (s := 62) rfl (fun hg49 => ?_) (fun hg49 => ?_)
   ·replace h := Go.L.ite_n (not_dec_t hg49) h
    iterate 3 refine S_unwanted rfl rfl hg49 rfl ?_
    refine S_v (r_pickT rfl hg49 rfl) rfl ?_
    refine S_pu 1 rfl ?_
    iterate 3 refine S_unwanted rfl rfl rfl rfl ?_
    refine S_v (r_pickT rfl rfl rfl) rfl ?_
    refine S_pu 1 rfl ?_
    iterate 3 refine S_unwanted rfl rfl rfl rfl ?_
    refine S_v (r_pickT rfl rfl rfl) rfl ?_
    refine S_pu 1 rfl ?_
    iterate 3 refine S_unwanted rfl rfl rfl rfl ?_
    refine S_v (r_pickT rfl rfl rfl) rfl ?_
    refine S_seqnil ?_
    refine W_true rfl ?_
    refine W_pz 1 rfl ?_
    refine W_ret ?_
    refine At_seq_ret ?_
    obtain rfl := Option.some.inj h
    refine At_body rfl rfl ?_
    exact ⟨hL41.ext, rfl⟩
   ·replace h := Go.L.ite_p (not_dec_f hg49) h
    refine S_guarded rfl rfl hg49 ?_
    refine S_v (r_field rfl underlying27 rfl zr3 (by decide)) rfl ?_
    refine S_guarded rfl rfl hg49 ?_
    refine S_v (r_loadB1 3 rfl underlying3 rfl hL41 rfl rfl) rfl ?_
    refine S_guarded rfl rfl hg49 ?_
    refine S_v (RunsAt_pu rfl) rfl ?_
    refine S_v (r_pickF rfl hg49 rfl) rfl ?_
    refine S_pu 1 rfl ?_
    refine S_split (s := 67) rfl (fun hg52 => ?_) (fun hg52 => ?_)
    ·replace h := Go.L.ite_n (not_dec_t hg52) h
     iterate 3 refine S_unwanted rfl rfl hg52 rfl ?_
     refine S_v (r_pickT rfl hg52 rfl) rfl ?_
     refine S_pu 1 rfl ?_
     iterate 3 refine S_unwanted rfl rfl rfl rfl ?_
     refine S_v (r_pickT rfl rfl rfl) rfl ?_
     refine S_pu 1 rfl ?_
     iterate 3 refine S_unwanted rfl rfl rfl rfl ?_
     refine S_v (r_pickT rfl rfl rfl) rfl ?_
     refine S_seqnil ?_
     refine W_true rfl ?_
     refine W_pz 1 rfl ?_
     refine W_ret ?_
     refine At_seq_ret ?_
     obtain rfl := Option.some.inj h
     refine At_body rfl rfl ?_
     exact ⟨hL41.ext, rfl⟩
    ·replace h := Go.L.ite_p (not_dec_f hg52) h
     refine S_guarded rfl rfl hg52 ?_
     refine S_v (r_field rfl underlying27 rfl zr3 (by decide)) rfl ?_
     refine S_guarded rfl rfl hg52 ?_
     refine S_v (r_loadB1 2 rfl underlying3 rfl hL41 rfl rfl) rfl ?_
     refine S_guarded rfl rfl hg52 ?_
     refine S_v (RunsAt_pu rfl) rfl ?_
     refine S_v (r_pickF rfl hg52 rfl) rfl ?_
     refine S_pu 1 rfl ?_
     refine S_split (s := 72) rfl (fun hg55 => ?_) (fun hg55 => ?_)
     ·replace h := Go.L.ite_n (not_dec_t hg55) h
      iterate 3 refine S_unwanted rfl rfl hg55 rfl ?_
      refine S_v (r_pickT rfl hg55 rfl) rfl ?_
      refine S_pu 1 rfl ?_
      iterate 3 refine S_unwanted rfl rfl rfl rfl ?_
      refine S_v (r_pickT rfl rfl rfl) rfl ?_
      refine S_seqnil ?_
      refine W_true rfl ?_
      refine W_pz 1 rfl ?_
      refine W_ret ?_
      refine At_seq_ret ?_
      obtain rfl := Option.some.inj h
      refine At_body rfl rfl ?_
      exact ⟨hL41.ext, rfl⟩
     ·replace h := Go.L.ite_p (not_dec_f hg55) h
      refine S_guarded rfl rfl hg55 ?_
      refine S_v (r_field rfl underlying27 rfl zr3 (by decide)) rfl ?_
      refine S_guarded rfl rfl hg55 ?_
      refine S_v (r_loadB1 0 rfl underlying3 rfl hL41 rfl rfl) rfl ?_
      refine S_guarded rfl rfl hg55 ?_
      refine S_v (RunsAt_pu rfl) rfl ?_
      refine S_v (r_pickF rfl hg55 rfl) rfl ?_
      refine S_pu 1 rfl ?_
      refine S_split (s := 77) rfl (fun hg58 => ?_) (fun hg58 => ?_)
      ·replace h := Go.L.ite_n (not_dec_t hg58) h
       iterate 3 refine S_unwanted rfl rfl hg58 rfl ?_
       refine S_v (r_pickT rfl hg58 rfl) rfl ?_
       refine S_seqnil ?_
       refine W_true rfl ?_
       refine W_pz 1 rfl ?_
       refine W_ret ?_
       refine At_seq_ret ?_
       obtain rfl := Option.some.inj h
       refine At_body rfl rfl ?_
       exact ⟨hL41.ext, rfl⟩
      ·replace h := Go.L.ite_p (not_dec_f hg58) h
       refine S_guarded rfl rfl hg58 ?_
       refine S_v (RunsAt_pu rfl) rfl ?_
       refine S_guarded rfl rfl hg58 ?_
       refine S_v (r_len rfl underlying67 ((hv5_0.mono hG26).mono hG42)) rfl ?_
       refine S_guarded rfl rfl hg58 ?_
       refine S_v (RunsAt_pu rfl) rfl ?_
       refine S_v (r_pickF rfl hg58 rfl) rfl ?_
       refine S_seqnil ?_
       refine W_ifn rfl (fun hc61 => ?_) (fun hc61 => ?_)
       ·replace h := Go.L.ite_n hc61 h
        refine W_pz 1 rfl ?_
        refine W_ret ?_
        refine At_seq_ret ?_
        obtain rfl := Option.some.inj h
        refine At_body rfl rfl ?_
        exact ⟨hL41.ext, rfl⟩
       ·replace h := Go.L.ite_p hc61 h
        refine W_skip ?_
        refine At_seq ?_
        refine W_p 1 rfl ?_
        obtain ⟨hk65, h⟩ := Go.L.chk_some h
        refine S_index rfl rfl underlying67 zr75 ((hv5_0.mono hG26).mono hG42) ((1 : Int).toNat) (Int.toNat_of_nonneg hk65.1).symm (idx_lt hk65) rfl ?_
        rintro p64 _ ⟨_, _, rfl, rfl, ⟨_, _, rfl, rfl, rfl⟩⟩ hp64
        refine S_v (r_loadN rfl underlying75 rfl zr75 hp64 (gz_le hH hL41)) rfl ?_
        refine S_v (r_build rfl (fun _ => bld75_0_1_2 _ rfl _ _ _)) rfl ?_
        refine S_v (r_eqA rfl rfl eqg75 (eq75 _ _ _ _ _ _ )) rfl ?_
        refine S_pu 1 rfl ?_
        refine S_split (s := 87) rfl (fun hg66 => ?_) (fun hg66 => ?_)
        ·replace h := Go.L.ite_p (of_decide_eq_true hg66) h
         refine S_guarded rfl rfl hg66 ?_
         refine S_v (RunsAt_pu rfl) rfl ?_
         refine S_guarded rfl rfl hg66 ?_
         refine S_v (r_build rfl (fun _ => bld64_z _)) rfl ?_
         refine S_guarded rfl rfl hg66 ?_
         refine S_v (r_build rfl (fun _ => bld64_1 _ _)) rfl ?_
         refine S_guarded rfl rfl hg66 ?_
         refine S_litE (r := (.pair (.int .i64) (.int .i64))) (l := [((0 : Int), (0 : Int)), ((0 : Int), (2 : Int))]) rfl (fun _ => bsl40_2 _ _ _ _ _) rfl (show 2 ≤ 9223372036854775807 by decide) hH hL41 (.c2 ⟨_, _, rfl, rfl, rfl⟩ (.c2 ⟨_, _, rfl, rfl, rfl⟩ .nil)) ?_
         intro v68 w68 hx68 hL68 hle68 hv68
         replace hp64 := hp64.mono (gz_mono hH hle68)
         replace hG42 := hG42.trans (gz_mono hH hle68)
         refine S_guarded rfl rfl hg66 ?_
         obtain ⟨x69, hb69, h⟩ := Go.L.bind_some h
         refine S_callL rfl rfl hL68 (ref4_SameHits_ok _ _ (gz_le hH hL68) ((hv23_0.mono hG26).mono hG42) hv68 hb69) ?_
         rintro _ w70 rfl hx70 hL70 hle70
         replace hp64 := hp64.mono (gz_mono hH hle70)
         replace hv68 := hv68.mono (gz_mono hH hle70)
         replace hG42 := hG42.trans (gz_mono hH hle70)
         refine S_v (r_pickT rfl hg66 rfl) rfl ?_
         refine S_pu 1 rfl ?_
         refine S_split (s := 94) rfl (fun hg71 => ?_) (fun hg71 => ?_)
         ·replace h := Go.L.ite_t hg71 h
          refine S_guarded rfl rfl hg71 ?_
          refine S_v (RunsAt_pu rfl) rfl ?_
          refine S_guarded rfl rfl hg71 ?_
          refine S_litE (r := (.int .i64)) (l := [(0 : Int)]) rfl (fun _ => bsl71_1 _ _) rfl (show 1 ≤ 9223372036854775807 by decide) hH hL70 (.c1 rfl .nil) ?_
          intro v73 w73 hx73 hL73 hle73 hv73
          replace hp64 := hp64.mono (gz_mono hH hle73)
          replace hv68 := hv68.mono (gz_mono hH hle73)
          replace hG42 := hG42.trans (gz_mono hH hle73)
          refine S_guarded rfl rfl hg71 ?_
          obtain ⟨x74, hb74, h⟩ := Go.L.bind_some h
          refine S_callL rfl rfl hL73 (ref3_Ints_ok _ _ (gz_le hH hL73) (hv28_0.mono hG42) hv73 hb74) ?_
          rintro _ w75 rfl hx75 hL75 hle75
          replace hp64 := hp64.mono (gz_mono hH hle75)
          replace hv68 := hv68.mono (gz_mono hH hle75)
          replace hv73 := hv73.mono (gz_mono hH hle75)
          replace hG42 := hG42.trans (gz_mono hH hle75)
          refine S_v (r_pickT rfl hg71 rfl) rfl ?_
          refine S_pu 1 rfl ?_
          refine S_split (s := 99) rfl (fun hg76 => ?_) (fun hg76 => ?_)
          ·replace h := Go.L.ite_t hg76 h
           refine S_guarded rfl rfl hg76 ?_
           refine S_v (RunsAt_pu rfl) rfl ?_
           refine S_guarded rfl rfl hg76 ?_
           refine S_v (r_len rfl underlying71 (hv32_0.mono hG42)) rfl ?_
           refine S_guarded rfl rfl hg76 ?_
           refine S_v (RunsAt_pu rfl) rfl ?_
           refine S_v (r_pickT rfl hg76 rfl) rfl ?_
           refine S_pu 1 rfl ?_
           refine S_split (s := 104) rfl (fun hg78 => ?_) (fun hg78 => ?_)
           ·replace h := Go.L.ite_p (of_decide_eq_true hg78) h
            refine S_guarded rfl rfl hg78 ?_
            refine S_v (r_loadBN 6 rfl underlying25 rfl zr25 hL75 rfl) rfl ?_
            refine S_guarded rfl rfl hg78 ?_
            obtain ⟨x80, hb80, h⟩ := Go.L.bind_some h
            refine S_callL rfl rfl hL75 (words_Index_Words_ok _ _ (gz_le hH hL75) ((hv16_0.mono hG26).mono hG42) hb80) ?_
            rintro u81_0 w81 ⟨_, rfl, hR81_0⟩ hx81 hL81 hle81
            have hv81_0 := hR81_0.vecG hH hL75 hx81
            replace hp64 := hp64.mono (gz_mono hH hle81)
            replace hv68 := hv68.mono (gz_mono hH hle81)
            replace hv73 := hv73.mono (gz_mono hH hle81)
            replace hG42 := hG42.trans (gz_mono hH hle81)
            refine S_guarded rfl rfl hg78 ?_
            refine S_litE (r := .st) (l := [([97] : List UInt8), ([98] : List UInt8)]) rfl (fun _ => bsl36_2 _ rfl _ rfl _) rfl (show 2 ≤ 9223372036854775807 by decide) hH hL81 (.c1 rfl (.c1 rfl .nil)) ?_
            intro v82 w82 hx82 hL82 hle82 hv82
            replace hp64 := hp64.mono (gz_mono hH hle82)
            replace hv68 := hv68.mono (gz_mono hH hle82)
            replace hv73 := hv73.mono (gz_mono hH hle82)
            replace hv81_0 := hv81_0.mono (gz_mono hH hle82)
            replace hG42 := hG42.trans (gz_mono hH hle82)
            refine S_guarded rfl rfl hg78 ?_
            obtain ⟨x83, hb83, h⟩ := Go.L.bind_some h
            refine S_callL rfl rfl hL82 (ref4_Texts_ok _ _ (gz_le hH hL82) hv81_0 hv82 hb83) ?_
            rintro _ w84 rfl hx84 hL84 hle84
            replace hp64 := hp64.mono (gz_mono hH hle84)
            replace hv68 := hv68.mono (gz_mono hH hle84)
            replace hv73 := hv73.mono (gz_mono hH hle84)
            replace hv81_0 := hv81_0.mono (gz_mono hH hle84)
            replace hv82 := hv82.mono (gz_mono hH hle84)
            replace hG42 := hG42.trans (gz_mono hH hle84)
            refine S_v (r_pickT rfl hg78 rfl) rfl ?_
            refine S_pu 1 rfl ?_
            refine S_split (s := 110) rfl (fun hg85 => ?_) (fun hg85 => ?_)
            ·replace h := Go.L.ite_t hg85 h
             refine S_guarded rfl rfl hg85 ?_
             refine S_v (r_loadBN 1 rfl underlying25 rfl zr25 hL84 rfl) rfl ?_
             refine S_guarded rfl rfl hg85 ?_
             obtain ⟨x87, hb87, h⟩ := Go.L.bind_some h
             refine S_callL rfl rfl hL84 (words_Index_Items_ok _ _ (gz_le hH hL84) (hv37_0.mono hG42) hb87) ?_
             rintro _ w88 rfl hx88 hL88 hle88
             replace hp64 := hp64.mono (gz_mono hH hle88)
             replace hv68 := hv68.mono (gz_mono hH hle88)
             replace hv73 := hv73.mono (gz_mono hH hle88)
             replace hv81_0 := hv81_0.mono (gz_mono hH hle88)
             replace hv82 := hv82.mono (gz_mono hH hle88)
             replace hG42 := hG42.trans (gz_mono hH hle88)
             refine S_guarded rfl rfl hg85 ?_
             refine S_v (RunsAt_pu rfl) rfl ?_
             refine S_v (r_pickT rfl hg85 rfl) rfl ?_
             refine S_pu 1 rfl ?_
             refine S_split (s := 115) rfl (fun hg89 => ?_) (fun hg89 => ?_)
             ·replace h := Go.L.ite_p (of_decide_eq_true hg89) h
              refine S_guarded rfl rfl hg89 ?_
              obtain ⟨x91, hb91, h⟩ := Go.L.bind_some h
              refine S_callL rfl rfl hL88 (words_Check_ok _ _ (gz_le hH hL88) (hU.mono (gz_left hH)) hb91) ?_
              rintro _ w92 rfl hx92 hL92 hle92
              replace hp64 := hp64.mono (gz_mono hH hle92)
              replace hv68 := hv68.mono (gz_mono hH hle92)
              replace hv73 := hv73.mono (gz_mono hH hle92)
              replace hv81_0 := hv81_0.mono (gz_mono hH hle92)
              replace hv82 := hv82.mono (gz_mono hH hle92)
              replace hG42 := hG42.trans (gz_mono hH hle92)
              refine S_guarded rfl rfl hg89 ?_
              obtain ⟨x93, hb93, h⟩ := Go.L.bind_some h
              refine S_callL rfl rfl hL92 (ref3_At_ok _ _ (gz_le hH hL92) hb93) ?_
              rintro _ w94 rfl hx94 hL94 hle94
              replace hp64 := hp64.mono (gz_mono hH hle94)
              replace hv68 := hv68.mono (gz_mono hH hle94)
              replace hv73 := hv73.mono (gz_mono hH hle94)
              replace hv81_0 := hv81_0.mono (gz_mono hH hle94)
              replace hv82 := hv82.mono (gz_mono hH hle94)
              replace hG42 := hG42.trans (gz_mono hH hle94)
              refine S_guarded rfl rfl hg89 ?_
              refine S_v (r_eqA rfl rfl eqg27 (eq27 _ _ _ _ )) rfl ?_
              refine S_v (r_pickT rfl hg89 rfl) rfl ?_
              refine S_pz 1 rfl ?_
              refine W_ret ?_
              obtain rfl := Option.some.inj h
              refine At_body rfl rfl ?_
              exact ⟨hL94.ext, rfl⟩
             ·replace h := Go.L.ite_n (of_decide_eq_false hg89) h
              iterate 3 refine S_unwanted rfl rfl hg89 rfl ?_
              refine S_v (r_pickF rfl hg89 rfl) rfl ?_
              refine S_pz 1 rfl ?_
              refine W_ret ?_
              obtain rfl := Option.some.inj h
              refine At_body rfl rfl ?_
              exact ⟨hL88.ext, rfl⟩
            ·replace h := Go.L.ite_f hg85 h
             iterate 3 refine S_unwanted rfl rfl hg85 rfl ?_
             refine S_v (r_pickF rfl hg85 rfl) rfl ?_
             refine S_pu 1 rfl ?_
             iterate 3 refine S_unwanted rfl rfl rfl rfl ?_
             refine S_v (r_pickF rfl rfl rfl) rfl ?_
             refine S_pz 1 rfl ?_
             refine W_ret ?_
             obtain rfl := Option.some.inj h
             refine At_body rfl rfl ?_
             exact ⟨hL84.ext, rfl⟩
           ·replace h := Go.L.ite_n (of_decide_eq_false hg78) h
            iterate 4 refine S_unwanted rfl rfl hg78 rfl ?_
            refine S_v (r_pickF rfl hg78 rfl) rfl ?_
            refine S_pu 1 rfl ?_
            iterate 3 refine S_unwanted rfl rfl rfl rfl ?_
            refine S_v (r_pickF rfl rfl rfl) rfl ?_
            refine S_pu 1 rfl ?_
            iterate 3 refine S_unwanted rfl rfl rfl rfl ?_
            refine S_v (r_pickF rfl rfl rfl) rfl ?_
            refine S_pz 1 rfl ?_
            refine W_ret ?_
            obtain rfl := Option.some.inj h
            refine At_body rfl rfl ?_
            exact ⟨hL75.ext, rfl⟩
          ·replace h := Go.L.ite_f hg76 h
           iterate 3 refine S_unwanted rfl rfl hg76 rfl ?_
           refine S_v (r_pickF rfl hg76 rfl) rfl ?_
           refine S_pu 1 rfl ?_
           iterate 4 refine S_unwanted rfl rfl rfl rfl ?_
           refine S_v (r_pickF rfl rfl rfl) rfl ?_
           refine S_pu 1 rfl ?_
           iterate 3 refine S_unwanted rfl rfl rfl rfl ?_
           refine S_v (r_pickF rfl rfl rfl) rfl ?_
           refine S_pu 1 rfl ?_
           iterate 3 refine S_unwanted rfl rfl rfl rfl ?_
           refine S_v (r_pickF rfl rfl rfl) rfl ?_
           refine S_pz 1 rfl ?_
           refine W_ret ?_
           obtain rfl := Option.some.inj h
           refine At_body rfl rfl ?_
           exact ⟨hL75.ext, rfl⟩
         ·replace h := Go.L.ite_f hg71 h
          iterate 3 refine S_unwanted rfl rfl hg71 rfl ?_
          refine S_v (r_pickF rfl hg71 rfl) rfl ?_
          refine S_pu 1 rfl ?_
          iterate 3 refine S_unwanted rfl rfl rfl rfl ?_
          refine S_v (r_pickF rfl rfl rfl) rfl ?_
          refine S_pu 1 rfl ?_
          iterate 4 refine S_unwanted rfl rfl rfl rfl ?_
          refine S_v (r_pickF rfl rfl rfl) rfl ?_
          refine S_pu 1 rfl ?_
          iterate 3 refine S_unwanted rfl rfl rfl rfl ?_
          refine S_v (r_pickF rfl rfl rfl) rfl ?_
          refine S_pu 1 rfl ?_
          iterate 3 refine S_unwanted rfl rfl rfl rfl ?_
          refine S_v (r_pickF rfl rfl rfl) rfl ?_
          refine S_pz 1 rfl ?_
          refine W_ret ?_
          obtain rfl := Option.some.inj h
          refine At_body rfl rfl ?_
          exact ⟨hL70.ext, rfl⟩
        ·replace h := Go.L.ite_n (of_decide_eq_false hg66) h
         iterate 5 refine S_unwanted rfl rfl hg66 rfl ?_
         refine S_v (r_pickF rfl hg66 rfl) rfl ?_
         refine S_pu 1 rfl ?_
         iterate 3 refine S_unwanted rfl rfl rfl rfl ?_
         refine S_v (r_pickF rfl rfl rfl) rfl ?_
         refine S_pu 1 rfl ?_
         iterate 3 refine S_unwanted rfl rfl rfl rfl ?_
         refine S_v (r_pickF rfl rfl rfl) rfl ?_
         refine S_pu 1 rfl ?_
         iterate 4 refine S_unwanted rfl rfl rfl rfl ?_
         refine S_v (r_pickF rfl rfl rfl) rfl ?_
         refine S_pu 1 rfl ?_
         iterate 3 refine S_unwanted rfl rfl rfl rfl ?_
         refine S_v (r_pickF rfl rfl rfl) rfl ?_
         refine S_pu 1 rfl ?_
         iterate 3 refine S_unwanted rfl rfl rfl rfl ?_
         refine S_v (r_pickF rfl rfl rfl) rfl ?_
         refine S_pz 1 rfl ?_
         refine W_ret ?_
         obtain rfl := Option.some.inj h
         refine At_body rfl rfl ?_
         exact ⟨hL41.ext, rfl⟩
end Go.Proofs.YtdiieblgeaehpaaGreatDoor
