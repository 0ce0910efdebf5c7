/- Generated walks: merged indexes. -/
import Derived.Test.YtdiieblgeaehpaaGreatDoorP8Y
import Derived.KernelRfl
namespace Go.Proofs.YtdiieblgeaehpaaGreatDoor
open Go Go.E Go.RowKit
set_option maxHeartbeats 1000000
set_option maxRecDepth 10000
open _root_.Go.Proofs.Tryz
noncomputable def words_Merge_k5 (s34_577 : Int) (l631 : List ((List UInt8) × (List (Int × Int)))) : Option (((List ((List UInt8) × (List (Int × Int)))) × Int) ⊕ (((List ((List UInt8) × (List (Int × Int)))) × Int) ⊕ ((Int × (List ((List UInt8) × (List (Int × Int))))) × (Int × Int)))) :=
 Go.L.chk (Go.L.I64 (s34_577 + (1 : Int))) (some (Sum.inl (l631, (s34_577 + (1 : Int)))))
noncomputable def words_Merge_bl6 (a0 : Int × (List ((List UInt8) × (List (Int × Int))))) (a1 : Int × (List ((List UInt8) × (List (Int × Int))))) (s26_392 : Int) (s34_577 : Int) : (List ((List UInt8) × (List (Int × Int)))) × Int → Option (((List ((List UInt8) × (List (Int × Int)))) × Int) ⊕ (((List ((List UInt8) × (List (Int × Int)))) × Int) ⊕ (((List ((List UInt8) × (List (Int × Int)))) × Int) ⊕ ((Int × (List ((List UInt8) × (List (Int × Int))))) × (Int × Int))))) := fun ⟨l659, s41_660⟩ =>
 if s41_660 < (((((([(a0.1, a0.2), (a1.1, a1.2)]).getD s26_392.toNat default).2).getD s34_577.toNat default).2).length : Int) then Go.L.chk (0 ≤ s41_660 ∧ s41_660 < (((((([(a0.1, a0.2), (a1.1, a1.2)]).getD s26_392.toNat default).2).getD s34_577.toNat default).2).length : Int)) (Go.L.chk (Go.L.I64 (s26_392 * a0.1)) (Go.L.chk (Go.L.I64 ((((((([(a0.1, a0.2), (a1.1, a1.2)]).getD s26_392.toNat default).2).getD s34_577.toNat default).2).getD s41_660.toNat default).1 + (s26_392 * a0.1))) (Go.L.chk (Go.E.Cap 16 ((Go.L.mget [] ((((([(a0.1, a0.2), (a1.1, a1.2)]).getD s26_392.toNat default).2).getD s34_577.toNat default).1) l659).length + 1)) (Go.L.chk (Go.L.I64 (s41_660 + (1 : Int))) (some (Sum.inl ((Go.L.mput ((((([(a0.1, a0.2), (a1.1, a1.2)]).getD s26_392.toNat default).2).getD s34_577.toNat default).1) ((Go.L.mget [] ((((([(a0.1, a0.2), (a1.1, a1.2)]).getD s26_392.toNat default).2).getD s34_577.toNat default).1) l659) ++ [(((((((([(a0.1, a0.2), (a1.1, a1.2)]).getD s26_392.toNat default).2).getD s34_577.toNat default).2).getD s41_660.toNat default).1 + (s26_392 * a0.1)), (((((([(a0.1, a0.2), (a1.1, a1.2)]).getD s26_392.toNat default).2).getD s34_577.toNat default).2).getD s41_660.toNat default).2)]) l659), (s41_660 + (1 : Int))))))))) else Option.map Sum.inr ((words_Merge_k5 s34_577) l659)
noncomputable def words_Merge_l6 (a0 : Int × (List ((List UInt8) × (List (Int × Int))))) (a1 : Int × (List ((List UInt8) × (List (Int × Int))))) (s26_392 : Int) (s34_577 : Int) (s : (List ((List UInt8) × (List (Int × Int)))) × Int) : Option (((List ((List UInt8) × (List (Int × Int)))) × Int) ⊕ (((List ((List UInt8) × (List (Int × Int)))) × Int) ⊕ ((Int × (List ((List UInt8) × (List (Int × Int))))) × (Int × Int)))) := Go.L.run (words_Merge_bl6 a0 a1 s26_392 s34_577) s
noncomputable def words_Merge_k3 (s26_392 : Int) (l514 : List ((List UInt8) × (List (Int × Int)))) : Option (((List ((List UInt8) × (List (Int × Int)))) × Int) ⊕ ((Int × (List ((List UInt8) × (List (Int × Int))))) × (Int × Int))) :=
 Go.L.chk (Go.L.I64 (s26_392 + (1 : Int))) (some (Sum.inl (l514, (s26_392 + (1 : Int)))))
noncomputable def words_Merge_bl4 (a0 : Int × (List ((List UInt8) × (List (Int × Int))))) (a1 : Int × (List ((List UInt8) × (List (Int × Int))))) (s26_392 : Int) : (List ((List UInt8) × (List (Int × Int)))) × Int → Option (((List ((List UInt8) × (List (Int × Int)))) × Int) ⊕ (((List ((List UInt8) × (List (Int × Int)))) × Int) ⊕ ((Int × (List ((List UInt8) × (List (Int × Int))))) × (Int × Int)))) := fun ⟨l576, s34_577⟩ =>
 if s34_577 < (((([(a0.1, a0.2), (a1.1, a1.2)]).getD s26_392.toNat default).2).length : Int) then Go.L.chk (0 ≤ s34_577 ∧ s34_577 < (((([(a0.1, a0.2), (a1.1, a1.2)]).getD s26_392.toNat default).2).length : Int)) ((words_Merge_l6 a0 a1 s26_392 s34_577) (l576, (0 : Int))) else Option.map Sum.inr ((words_Merge_k3 s26_392) l576)
noncomputable def words_Merge_l4 (a0 : Int × (List ((List UInt8) × (List (Int × Int))))) (a1 : Int × (List ((List UInt8) × (List (Int × Int))))) (s26_392 : Int) (s : (List ((List UInt8) × (List (Int × Int)))) × Int) : Option (((List ((List UInt8) × (List (Int × Int)))) × Int) ⊕ ((Int × (List ((List UInt8) × (List (Int × Int))))) × (Int × Int))) := Go.L.run (words_Merge_bl4 a0 a1 s26_392) s
noncomputable def words_Merge_k1 (a0 : Int × (List ((List UInt8) × (List (Int × Int))))) (a1 : Int × (List ((List UInt8) × (List (Int × Int))))) (l264 : List ((List UInt8) × (List (Int × Int)))) : Option ((Int × (List ((List UInt8) × (List (Int × Int))))) × (Int × Int)) :=
 Go.L.chk (Go.L.I64 (a0.1 + a1.1)) (Option.bind (words_build (a0.1 + a1.1) l264) (fun x695 => some ((x695.1.1, x695.1.2), (x695.2.1, x695.2.2))))
noncomputable def words_Merge_bl2 (a0 : Int × (List ((List UInt8) × (List (Int × Int))))) (a1 : Int × (List ((List UInt8) × (List (Int × Int))))) : (List ((List UInt8) × (List (Int × Int)))) × Int → Option (((List ((List UInt8) × (List (Int × Int)))) × Int) ⊕ ((Int × (List ((List UInt8) × (List (Int × Int))))) × (Int × Int))) := fun ⟨l391, s26_392⟩ =>
 if s26_392 < (([(a0.1, a0.2), (a1.1, a1.2)]).length : Int) then Go.L.chk (0 ≤ s26_392 ∧ s26_392 < (([(a0.1, a0.2), (a1.1, a1.2)]).length : Int)) ((words_Merge_l4 a0 a1 s26_392) (l391, (0 : Int))) else Option.map Sum.inr ((words_Merge_k1 a0 a1) l391)
noncomputable def words_Merge_l2 (a0 : Int × (List ((List UInt8) × (List (Int × Int))))) (a1 : Int × (List ((List UInt8) × (List (Int × Int))))) (s : (List ((List UInt8) × (List (Int × Int)))) × Int) : Option ((Int × (List ((List UInt8) × (List (Int × Int))))) × (Int × Int)) := Go.L.run (words_Merge_bl2 a0 a1) s
noncomputable def words_Merge (a0 : Int × (List ((List UInt8) × (List (Int × Int))))) (a1 : Int × (List ((List UInt8) × (List (Int × Int))))) : Option ((Int × (List ((List UInt8) × (List (Int × Int))))) × (Int × Int)) :=
 Go.L.chk (Go.L.I64 (a0.1 + a1.1)) (if (64 : Int) < (a0.1 + a1.1) then Option.bind (words_fault (2 : Int) (-1 : Int)) (fun x8 => some (((0 : Int), []), (x8.1, x8.2))) else (words_Merge_l2 a0 a1) (([] : List ((List UInt8) × (List (Int × Int)))), (0 : Int)))

theorem words_Merge_ok (w : World) (H : PH) (hH : Le H (hp w)) {a0 : Int × (List ((List UInt8) × (List (Int × Int))))} {a1 : Int × (List ((List UInt8) × (List (Int × Int))))} {v0_0 : Value} {v1_0 : Value} (h0_0 : Vec (.pair .st (.vec (.pair (.int .i64) (.int .i64)))) H v0_0 (a0.2)) (h1_0 : Vec (.pair .st (.vec (.pair (.int .i64) (.int .i64)))) H v1_0 (a1.2)) {r : (Int × (List ((List UInt8) × (List (Int × Int))))) × (Int × Int)} (h : words_Merge a0 a1 = some r) :
  Ok Tryz.prog 16 [.agg #[.int .i64 a0.1, v0_0], .agg #[.int .i64 a1.1, v1_0]] w (fun v w' => Ext w w' ∧ ∃ u0, v = .tuple #[.agg #[.int .i64 r.1.1, u0], .agg #[.int .i64 r.2.1, .int .i64 r.2.2]] ∧ Vec (.pair .st (.vec (.pair (.int .i64) (.int .i64)))) (un H (nw w w')) u0 (r.1.2)) := by
 refine Ok_enter (n := 76) [(0, .agg #[.int .i64 a0.1, v0_0]), (1, .agg #[.int .i64 a1.1, v1_0])] func16 rfl rfl rfl rfl rfl ?_
 have hL := Lcl.start w
 refine W_seqr ?_
 refine S_box (t := 25) rfl rfl rfl hL ?_
 intro w1 b1 hL1 hle1 _
 refine S_box (t := 25) rfl rfl rfl hL1 ?_
 intro w2 b2 hL2 hle2 _
 refine S_alloc zr25 rfl rfl hL2 ?_
 intro w3 b3 hL3 hle3 _
 refine S_alloc zr27 rfl rfl hL3 ?_
 intro w4 b4 hL4 hle4 _
 refine S_seqnil ?_
 refine W_seq ?_
 refine W_seqr ?_
 refine S_v (r_field rfl underlying25 rfl zr3 (by decide)) rfl ?_
 refine S_v (r_loadB1 3 rfl underlying3 rfl hL4 rfl rfl) rfl ?_
 refine S_v (r_field rfl underlying25 rfl zr3 (by decide)) rfl ?_
 refine S_v (r_loadB1 2 rfl underlying3 rfl hL4 rfl rfl) rfl ?_
 obtain ⟨hk5, h⟩ := Go.L.chk_some h
 refine S_v (r_ar64 rfl rfl rfl hk5) rfl ?_
 refine S_pz 1 rfl ?_
 refine W_if rfl (fun hc6 => ?_) (fun hc6 => ?_)
 ·replace h := Go.L.ite_p hc6 h
  refine W_seqr ?_
  refine S_v (r_build rfl (fun _ => bld25_z _)) rfl ?_
  obtain ⟨x8, hb8, h⟩ := Go.L.bind_some h
  refine S_callL rfl rfl hL4 (words_fault_ok _ _ (gz_le hH hL4) hb8) ?_
  rintro _ w9 rfl hx9 hL9 hle9
  refine S_storeBN 1 rfl rfl rfl zr25 hL9 rfl rfl (onc rfl (onc rfl on0)) ?_
  intro w10 hL10 hle10
  refine S_storeBN 0 rfl rfl rfl zr27 hL10 rfl rfl (onc rfl (onc rfl on0)) ?_
  intro w11 hL11 hle11
  refine S_seqnil ?_
  refine W_ret ?_
  refine At_seq_ret ?_
  obtain rfl := Option.some.inj h
  refine At_got2 rfl (.cell rfl underlying25 rfl zr25 (box_ptr (i := 1) hL11 rfl)) (.cell rfl underlying27 rfl zr27 (box_ptr (i := 0) hL11 rfl)) ?_
  exact ⟨hL11.ext, _, rfl, (Vec.nil _ _)⟩
 ·replace h := Go.L.ite_n hc6 h
  refine W_skip ?_
  refine At_seq ?_
  refine W_seqr ?_
  refine S_makeMap encS (List (Int × Int)) rfl hL4 ?_
  intro w13 b13 hL13 hle13
  refine S_pz 1 rfl ?_
  refine W_cut (σ := (List ((List UInt8) × (List (Int × Int)))) × (List Value)) (fun ⟨l264, vsl264⟩ => [(2, .pointer (some ⟨b1, 0, none⟩)), (3, .pointer (some ⟨b2, 0, none⟩)), (4, .pointer (some ⟨b3, 0, none⟩)), (5, .pointer (some ⟨b4, 0, none⟩)), (6, .map (some b13))]) (fun ⟨l264, vsl264⟩ wr => InO w (HAppend.hAppend ([mpR encS b13 (l264) (vsl264), .box b4 [.int .i64 (0 : Int), .int .i64 (0 : Int)] 27, .box b3 [.int .i64 (0 : Int), .slice none 0 0] 25, .box b2 [.int .i64 a1.1, v1_0] 25, .box b1 [.int .i64 a0.1, v0_0] 25] : List Res) (mT cwII 64 2 (l264) (vsl264))) wr fun Oz => (l264).length = (vsl264).length ∧ (words_Merge_k1 a0 a1) l264 = some r) ?_ ?_
  ·refine W_seqr ?_
   refine S_v (r_loadBN 4 rfl underlying25 rfl zr25 hL13 rfl) rfl ?_
   refine S_v (r_loadBN 3 rfl underlying25 rfl zr25 hL13 rfl) rfl ?_
   refine S_litE (r := (.pair (.int .i64) (.vec (.pair .st (.vec (.pair (.int .i64) (.int .i64))))))) (l := [(a0.1, a0.2), (a1.1, a1.2)]) rfl (fun _ => bsl100_2 _ _ _ _ _) rfl (show 2 ≤ 9223372036854775807 by decide) hH hL13 (.c2 ⟨_, _, rfl, rfl, ⟨_, rfl, (h0_0.mono (gz_left hH))⟩⟩ (.c2 ⟨_, _, rfl, rfl, ⟨_, rfl, (h1_0.mono (gz_left hH))⟩⟩ .nil)) ?_
   intro v267 w267 hx267 hL267 hle267 hv267
   refine S_v (r_len rfl underlying100 hv267) rfl ?_
   refine S_pz 1 rfl ?_
   refine W_block ?_
   obtain ⟨n393, h⟩ := Go.L.run_some h
   refine W_loop (σ := (List ((List UInt8) × (List (Int × Int)))) × Int × (List Value) × Nat) (fun ⟨l391, s26_392, vsl391, n⟩ => [(2, .pointer (some ⟨b1, 0, none⟩)), (3, .pointer (some ⟨b2, 0, none⟩)), (4, .pointer (some ⟨b3, 0, none⟩)), (5, .pointer (some ⟨b4, 0, none⟩)), (6, .map (some b13)), (24, v267), (25, .int .i64 (([(a0.1, a0.2), (a1.1, a1.2)]).length : Int)), (26, .int .i64 s26_392)]) (fun ⟨l391, s26_392, vsl391, n⟩ wr => InO w (HAppend.hAppend ([mpR encS b13 (l391) (vsl391), .box b4 [.int .i64 (0 : Int), .int .i64 (0 : Int)] 27, .box b3 [.int .i64 (0 : Int), .slice none 0 0] 25, .box b2 [.int .i64 a1.1, v1_0] 25, .box b1 [.int .i64 a0.1, v0_0] 25] : List Res) (mT cwII 64 2 (l391) (vsl391))) wr fun Oz => Vec (.pair (.int .i64) (.vec (.pair .st (.vec (.pair (.int .i64) (.int .i64)))))) (gz H w wr Oz) (v267) ([(a0.1, a0.2), (a1.1, a1.2)]) ∧ (l391).length = (vsl391).length ∧ Go.L.itr (words_Merge_bl2 a0 a1) n (l391, s26_392) = some r) (fun ⟨l391, s26_392, vsl391, n⟩ => n) (([] : List ((List UInt8) × (List (Int × Int)))), (0 : Int), ([] : List Value), n393) (.cons rfl (.cons rfl (.cons rfl (.cons rfl (.cons rfl (.cons rfl (.cons rfl (.cons rfl (Sub.nil _))))))))) ⟨hL267, hv267, rfl, h⟩ ?_
   rintro ⟨l391, s26_392, vsl391, nn393⟩ wr393 ⟨hL393, hf393_0, hnl391, h⟩
   obtain ⟨n393, e393, rfl, h, hm393⟩ := Go.L.itr_some h
   refine W_pz 1 rfl ?_
   refine W_seq ?_
   refine W_if rfl (fun hc395 => ?_) (fun hc395 => ?_)
   ·replace h := Go.L.ite_p hc395 h
    refine W_skip ?_
    refine At_seq ?_
    refine W_cut (σ := (List ((List UInt8) × (List (Int × Int)))) × (List Value)) (fun ⟨l514, vsl514⟩ => [(2, .pointer (some ⟨b1, 0, none⟩)), (3, .pointer (some ⟨b2, 0, none⟩)), (4, .pointer (some ⟨b3, 0, none⟩)), (5, .pointer (some ⟨b4, 0, none⟩)), (6, .map (some b13)), (24, v267), (25, .int .i64 (([(a0.1, a0.2), (a1.1, a1.2)]).length : Int)), (26, .int .i64 s26_392)]) (fun ⟨l514, vsl514⟩ wr => InO w (HAppend.hAppend ([mpR encS b13 (l514) (vsl514), .box b4 [.int .i64 (0 : Int), .int .i64 (0 : Int)] 27, .box b3 [.int .i64 (0 : Int), .slice none 0 0] 25, .box b2 [.int .i64 a1.1, v1_0] 25, .box b1 [.int .i64 a0.1, v0_0] 25] : List Res) (mT cwII 64 2 (l514) (vsl514))) wr fun Oz => Vec (.pair (.int .i64) (.vec (.pair .st (.vec (.pair (.int .i64) (.int .i64)))))) (gz H w wr Oz) (v267) ([(a0.1, a0.2), (a1.1, a1.2)]) ∧ (l514).length = (vsl514).length ∧ (words_Merge_k3 s26_392) l514 = some e393) ?_ ?_
    ·refine W_block ?_
     refine W_p 1 rfl ?_
     obtain ⟨hk518, h⟩ := Go.L.chk_some h
     refine S_index rfl rfl underlying100 zr25 hf393_0 s26_392.toNat (Int.toNat_of_nonneg hk518.1).symm (idx_lt hk518) rfl ?_
     rintro p517 _ ⟨_, _, rfl, rfl, ⟨e517v1, rfl, e517h1⟩⟩ hp517
     refine S_v (r_loadN rfl underlying25 rfl zr25 hp517 (gz_le hH hL393)) rfl ?_
     refine S_alloc zr25 rfl rfl hL393 ?_
     intro w519 b519 hL519 hle519 _
     replace hf393_0 := hf393_0.mono (gz_mono hH hle519)
     replace hp517 := hp517.mono (gz_mono hH hle519)
     replace e517h1 := e517h1.mono (gz_mono hH hle519)
     refine S_pu 1 rfl ?_
     refine S_storeBN 0 rfl rfl rfl zr25 hL519 rfl rfl (onc rfl (onc e517h1.one on0)) ?_
     intro w520 hL520 hle520
     replace hf393_0 := hf393_0.mono (gz_mono hH hle520)
     replace hp517 := hp517.mono (gz_mono hH hle520)
     replace e517h1 := e517h1.mono (gz_mono hH hle520)
     refine S_seqnil ?_
     refine W_seqr ?_
     refine S_v (r_field rfl underlying25 rfl zr23 (by decide)) rfl ?_
     refine S_v (r_loadB1 0 rfl underlying23 rfl hL520 rfl rfl) rfl ?_
     refine S_v (r_len rfl underlying23 e517h1) rfl ?_
     refine S_pz 1 rfl ?_
     refine W_block ?_
     obtain ⟨n578, h⟩ := Go.L.run_some h
     refine W_loop (σ := (List ((List UInt8) × (List (Int × Int)))) × Int × (List Value) × Nat) (fun ⟨l576, s34_577, vsl576, n⟩ => [(2, .pointer (some ⟨b1, 0, none⟩)), (3, .pointer (some ⟨b2, 0, none⟩)), (4, .pointer (some ⟨b3, 0, none⟩)), (5, .pointer (some ⟨b4, 0, none⟩)), (6, .map (some b13)), (7, .int .i64 s26_392), (24, v267), (25, .int .i64 (([(a0.1, a0.2), (a1.1, a1.2)]).length : Int)), (26, .int .i64 s26_392), (32, e517v1), (33, .int .i64 (((([(a0.1, a0.2), (a1.1, a1.2)]).getD s26_392.toNat default).2).length : Int)), (34, .int .i64 s34_577)]) (fun ⟨l576, s34_577, vsl576, n⟩ wr => InO w (HAppend.hAppend ([.box b519 [.int .i64 ((([(a0.1, a0.2), (a1.1, a1.2)]).getD s26_392.toNat default).1), e517v1] 25, mpR encS b13 (l576) (vsl576), .box b4 [.int .i64 (0 : Int), .int .i64 (0 : Int)] 27, .box b3 [.int .i64 (0 : Int), .slice none 0 0] 25, .box b2 [.int .i64 a1.1, v1_0] 25, .box b1 [.int .i64 a0.1, v0_0] 25] : List Res) (mT cwII 64 2 (l576) (vsl576))) wr fun Oz => Vec (.pair (.int .i64) (.vec (.pair .st (.vec (.pair (.int .i64) (.int .i64)))))) (gz H w wr Oz) (v267) ([(a0.1, a0.2), (a1.1, a1.2)]) ∧ Vec (.pair .st (.vec (.pair (.int .i64) (.int .i64)))) (gz H w wr Oz) (e517v1) ((([(a0.1, a0.2), (a1.1, a1.2)]).getD s26_392.toNat default).2) ∧ (l576).length = (vsl576).length ∧ Go.L.itr (words_Merge_bl4 a0 a1 s26_392) n (l576, s34_577) = some e393) (fun ⟨l576, s34_577, vsl576, n⟩ => n) (l391, (0 : Int), vsl391, n578) (.cons rfl (.cons rfl (.cons rfl (.cons rfl (.cons rfl (.cons rfl (.cons rfl (.cons rfl (.cons rfl (.cons rfl (.cons rfl (.cons rfl (Sub.nil _))))))))))))) ⟨hL520, hf393_0, e517h1, hnl391, h⟩ ?_
     rintro ⟨l576, s34_577, vsl576, nn578⟩ wr578 ⟨hL578, hf578_0, hf578_1, hnl576, h⟩
     obtain ⟨n578, e578, rfl, h, hm578⟩ := Go.L.itr_some h
     refine W_pz 1 rfl ?_
     refine W_seq ?_
     refine W_if rfl (fun hc580 => ?_) (fun hc580 => ?_)
     ·replace h := Go.L.ite_p hc580 h
      refine W_skip ?_
      refine At_seq ?_
      refine W_cut (σ := (List ((List UInt8) × (List (Int × Int)))) × (List Value)) (fun ⟨l631, vsl631⟩ => [(2, .pointer (some ⟨b1, 0, none⟩)), (3, .pointer (some ⟨b2, 0, none⟩)), (4, .pointer (some ⟨b3, 0, none⟩)), (5, .pointer (some ⟨b4, 0, none⟩)), (6, .map (some b13)), (7, .int .i64 s26_392), (24, v267), (25, .int .i64 (([(a0.1, a0.2), (a1.1, a1.2)]).length : Int)), (26, .int .i64 s26_392), (32, e517v1), (33, .int .i64 (((([(a0.1, a0.2), (a1.1, a1.2)]).getD s26_392.toNat default).2).length : Int)), (34, .int .i64 s34_577)]) (fun ⟨l631, vsl631⟩ wr => InO w (HAppend.hAppend ([.box b519 [.int .i64 ((([(a0.1, a0.2), (a1.1, a1.2)]).getD s26_392.toNat default).1), e517v1] 25, mpR encS b13 (l631) (vsl631), .box b4 [.int .i64 (0 : Int), .int .i64 (0 : Int)] 27, .box b3 [.int .i64 (0 : Int), .slice none 0 0] 25, .box b2 [.int .i64 a1.1, v1_0] 25, .box b1 [.int .i64 a0.1, v0_0] 25] : List Res) (mT cwII 64 2 (l631) (vsl631))) wr fun Oz => Vec (.pair (.int .i64) (.vec (.pair .st (.vec (.pair (.int .i64) (.int .i64)))))) (gz H w wr Oz) (v267) ([(a0.1, a0.2), (a1.1, a1.2)]) ∧ Vec (.pair .st (.vec (.pair (.int .i64) (.int .i64)))) (gz H w wr Oz) (e517v1) ((([(a0.1, a0.2), (a1.1, a1.2)]).getD s26_392.toNat default).2) ∧ (l631).length = (vsl631).length ∧ (words_Merge_k5 s34_577) l631 = some e578) ?_ ?_
      ·refine W_block ?_
       refine W_seqr ?_
       obtain ⟨hk635, h⟩ := Go.L.chk_some h
       refine S_index rfl rfl underlying23 zr62 hf578_1 s34_577.toNat (Int.toNat_of_nonneg hk635.1).symm (idx_lt hk635) rfl ?_
       rintro p634 _ ⟨_, _, rfl, rfl, ⟨e634v1, rfl, e634h1⟩⟩ hp634
       refine S_v (r_loadN rfl underlying62 rfl zr62 hp634 (gz_le hH hL578)) rfl ?_
       refine S_alloc zr62 rfl rfl hL578 ?_
       intro w636 b636 hL636 hle636 _
       replace hf578_0 := hf578_0.mono (gz_mono hH hle636)
       replace hf578_1 := hf578_1.mono (gz_mono hH hle636)
       replace hp634 := hp634.mono (gz_mono hH hle636)
       replace e634h1 := e634h1.mono (gz_mono hH hle636)
       refine S_storeBN 0 rfl rfl rfl zr62 hL636 rfl rfl (onc rfl (onc e634h1.one on0)) ?_
       intro w637 hL637 hle637
       replace hf578_0 := hf578_0.mono (gz_mono hH hle637)
       replace hf578_1 := hf578_1.mono (gz_mono hH hle637)
       replace hp634 := hp634.mono (gz_mono hH hle637)
       replace e634h1 := e634h1.mono (gz_mono hH hle637)
       refine S_seqnil ?_
       have hG638 := hL637.rG H
       refine W_seqr ?_
       refine S_v (r_field rfl underlying62 rfl zr40 (by decide)) rfl ?_
       refine S_v (r_loadB1 0 rfl underlying40 rfl hL637 rfl rfl) rfl ?_
       refine S_v (r_len rfl underlying40 (e634h1.mono hG638)) rfl ?_
       refine S_pz 1 rfl ?_
       refine W_block ?_
       obtain ⟨n661, h⟩ := Go.L.run_some h
       refine W_loop (σ := (List ((List UInt8) × (List (Int × Int)))) × Int × (List Value) × Nat) (fun ⟨l659, s41_660, vsl659, n⟩ => [(2, .pointer (some ⟨b1, 0, none⟩)), (3, .pointer (some ⟨b2, 0, none⟩)), (4, .pointer (some ⟨b3, 0, none⟩)), (5, .pointer (some ⟨b4, 0, none⟩)), (6, .map (some b13)), (7, .int .i64 s26_392), (10, .pointer (some ⟨b636, 0, none⟩)), (24, v267), (25, .int .i64 (([(a0.1, a0.2), (a1.1, a1.2)]).length : Int)), (26, .int .i64 s26_392), (32, e517v1), (33, .int .i64 (((([(a0.1, a0.2), (a1.1, a1.2)]).getD s26_392.toNat default).2).length : Int)), (34, .int .i64 s34_577), (39, e634v1), (40, .int .i64 (((((([(a0.1, a0.2), (a1.1, a1.2)]).getD s26_392.toNat default).2).getD s34_577.toNat default).2).length : Int)), (41, .int .i64 s41_660)]) (fun ⟨l659, s41_660, vsl659, n⟩ wr => InO w (HAppend.hAppend ([.box b636 [.string ⟨((((([(a0.1, a0.2), (a1.1, a1.2)]).getD s26_392.toNat default).2).getD s34_577.toNat default).1).toArray⟩, e634v1] 62, .box b519 [.int .i64 ((([(a0.1, a0.2), (a1.1, a1.2)]).getD s26_392.toNat default).1), e517v1] 25, mpR encS b13 (l659) (vsl659), .box b4 [.int .i64 (0 : Int), .int .i64 (0 : Int)] 27, .box b3 [.int .i64 (0 : Int), .slice none 0 0] 25, .box b2 [.int .i64 a1.1, v1_0] 25, .box b1 [.int .i64 a0.1, v0_0] 25] : List Res) (mT cwII 64 2 (l659) (vsl659))) wr fun Oz => Vec (.pair (.int .i64) (.vec (.pair .st (.vec (.pair (.int .i64) (.int .i64)))))) (gz H w wr Oz) (v267) ([(a0.1, a0.2), (a1.1, a1.2)]) ∧ Vec (.pair .st (.vec (.pair (.int .i64) (.int .i64)))) (gz H w wr Oz) (e517v1) ((([(a0.1, a0.2), (a1.1, a1.2)]).getD s26_392.toNat default).2) ∧ Vec (.pair (.int .i64) (.int .i64)) (gz H w wr Oz) (e634v1) ((((([(a0.1, a0.2), (a1.1, a1.2)]).getD s26_392.toNat default).2).getD s34_577.toNat default).2) ∧ (l659).length = (vsl659).length ∧ Go.L.itr (words_Merge_bl6 a0 a1 s26_392 s34_577) n (l659, s41_660) = some e578) (fun ⟨l659, s41_660, vsl659, n⟩ => n) (l576, (0 : Int), vsl576, n661) (.cons rfl (.cons rfl (.cons rfl (.cons rfl (.cons rfl (.cons rfl (.cons rfl (.cons rfl (.cons rfl (.cons rfl (.cons rfl (.cons rfl (.cons rfl (.cons rfl (.cons rfl (.cons rfl (Sub.nil _))))))))))))))))) ⟨hL637, (hf578_0.mono hG638), (hf578_1.mono hG638), (e634h1.mono hG638), hnl576, h⟩ ?_
       rintro ⟨l659, s41_660, vsl659, nn661⟩ wr661 ⟨hL661, hf661_0, hf661_1, hf661_2, hnl659, h⟩
       obtain ⟨n661, e661, rfl, h, hm661⟩ := Go.L.itr_some h
       have hG663 := hL661.rG H
       refine W_pz 1 rfl ?_
       refine W_seq ?_
       refine W_if rfl (fun hc664 => ?_) (fun hc664 => ?_)
       ·replace h := Go.L.ite_p hc664 h
        refine W_skip ?_
        refine At_seq ?_
        refine W_seq ?_
        refine W_block ?_
        refine W_seqr ?_
        obtain ⟨hk667, h⟩ := Go.L.chk_some h
        refine S_index rfl rfl underlying40 zr64 (hf661_2.mono hG663) s41_660.toNat (Int.toNat_of_nonneg hk667.1).symm (idx_lt hk667) rfl ?_
        rintro p666 _ ⟨_, _, rfl, rfl, rfl⟩ hp666
        refine S_v (r_loadN rfl underlying64 rfl zr64 hp666 (gz_le hH hL661)) rfl ?_
        refine S_alloc zr64 rfl rfl hL661 ?_
        intro w668 b668 hL668 hle668 _
        replace hp666 := hp666.mono (gz_mono hH hle668)
        replace hG663 := hG663.trans (gz_mono hH hle668)
        refine S_storeBN 0 rfl rfl rfl zr64 hL668 rfl rfl (onc rfl (onc rfl on0)) ?_
        intro w669 hL669 hle669
        replace hp666 := hp666.mono (gz_mono hH hle669)
        replace hG663 := hG663.trans (gz_mono hH hle669)
        refine S_seqnil ?_
        refine W_naiveI (fun z0 z => Le (gz H w z0 (HAppend.hAppend ([.box b668 [.int .i64 ((((((([(a0.1, a0.2), (a1.1, a1.2)]).getD s26_392.toNat default).2).getD s34_577.toNat default).2).getD s41_660.toNat default).1), .int .i64 ((((((([(a0.1, a0.2), (a1.1, a1.2)]).getD s26_392.toNat default).2).getD s34_577.toNat default).2).getD s41_660.toNat default).2)] 64, .box b636 [.string ⟨((((([(a0.1, a0.2), (a1.1, a1.2)]).getD s26_392.toNat default).2).getD s34_577.toNat default).1).toArray⟩, e634v1] 62, .box b519 [.int .i64 ((([(a0.1, a0.2), (a1.1, a1.2)]).getD s26_392.toNat default).1), e517v1] 25, mpR encS b13 (l659) (vsl659), .box b4 [.int .i64 (0 : Int), .int .i64 (0 : Int)] 27, .box b3 [.int .i64 (0 : Int), .slice none 0 0] 25, .box b2 [.int .i64 a1.1, v1_0] 25, .box b1 [.int .i64 a0.1, v0_0] 25] : List Res) (mT cwII 64 2 (l659) (vsl659)))) (hp z) ∧ z.heap[b668]? = some (.cells [.int .i64 ((((((([(a0.1, a0.2), (a1.1, a1.2)]).getD s26_392.toNat default).2).getD s34_577.toNat default).2).getD s41_660.toNat default).1), .int .i64 ((((((([(a0.1, a0.2), (a1.1, a1.2)]).getD s26_392.toNat default).2).getD s34_577.toNat default).2).getD s41_660.toNat default).2)].toArray 64 (0, 0)) ∧ z.heap[b636]? = some (.cells [.string ⟨((((([(a0.1, a0.2), (a1.1, a1.2)]).getD s26_392.toNat default).2).getD s34_577.toNat default).1).toArray⟩, e634v1].toArray 62 (0, 0)) ∧ z.heap[b519]? = some (.cells [.int .i64 ((([(a0.1, a0.2), (a1.1, a1.2)]).getD s26_392.toNat default).1), e517v1].toArray 25 (0, 0)) ∧ z.heap[b4]? = some (.cells [.int .i64 (0 : Int), .int .i64 (0 : Int)].toArray 27 (0, 0)) ∧ z.heap[b3]? = some (.cells [.int .i64 (0 : Int), .slice none 0 0].toArray 25 (0, 0)) ∧ z.heap[b2]? = some (.cells [.int .i64 a1.1, v1_0].toArray 25 (0, 0)) ∧ z.heap[b1]? = some (.cells [.int .i64 a0.1, v0_0].toArray 25 (0, 0)) ∧ z.heap[b13]? = some (.map (mE encS 0 ((l659).map Prod.fst) (vsl659)).toArray (l659).length)) mixed rfl (fun w670 hx670 => ?_)
        have hL671 := hL669.call hx670
        have hle671 := fz_ext hL669 hx670
        replace hG663 := hG663.trans (gz_mono hH hle671)
        have hG672 := hL671.rG H
        refine NI_hoist 0 (np_block (np_seq (np_loop (np_block (np_block (np_cut (np_loop (np_block (np_block (np_cut (np_loop (np_block (np_cut np_body))))))))))))) ⟨hG672.trans (gz_le hH hL671), hL671.at (i := 0) rfl, hL671.at (i := 1) rfl, hL671.at (i := 2) rfl, hL671.at (i := 4) rfl, hL671.at (i := 5) rfl, hL671.at (i := 6) rfl, hL671.at (i := 7) rfl, hL671.at (i := 3) rfl⟩ (by kernel_rfl) rfl (fun _ _ => RunsAt_pu rfl) rfl ?_
        refine NI_hoist 1 (np_block (np_seq (np_loop (np_block (np_block (np_cut (np_loop (np_block (np_block (np_cut (np_loop (np_block (np_cut np_body))))))))))))) ⟨hG672.trans (gz_le hH hL671), hL671.at (i := 0) rfl, hL671.at (i := 1) rfl, hL671.at (i := 2) rfl, hL671.at (i := 4) rfl, hL671.at (i := 5) rfl, hL671.at (i := 6) rfl, hL671.at (i := 7) rfl, hL671.at (i := 3) rfl⟩ (by kernel_rfl) rfl (fun _ _ => r_field rfl underlying62 rfl zr9 (by decide)) rfl ?_
        refine NI_hoist 2 (np_block (np_seq (np_loop (np_block (np_block (np_cut (np_loop (np_block (np_block (np_cut (np_loop (np_block (np_cut np_body))))))))))))) ⟨hG672.trans (gz_le hH hL671), hL671.at (i := 0) rfl, hL671.at (i := 1) rfl, hL671.at (i := 2) rfl, hL671.at (i := 4) rfl, hL671.at (i := 5) rfl, hL671.at (i := 6) rfl, hL671.at (i := 7) rfl, hL671.at (i := 3) rfl⟩ (by kernel_rfl) rfl (fun _ hI => r_loadH1 rfl underlying9 rfl hI.2.2.1 rfl) rfl ?_
        refine NI_hoist 3 (np_block (np_seq (np_loop (np_block (np_block (np_cut (np_loop (np_block (np_block (np_cut (np_loop (np_block (np_cut np_body))))))))))))) ⟨hG672.trans (gz_le hH hL671), hL671.at (i := 0) rfl, hL671.at (i := 1) rfl, hL671.at (i := 2) rfl, hL671.at (i := 4) rfl, hL671.at (i := 5) rfl, hL671.at (i := 6) rfl, hL671.at (i := 7) rfl, hL671.at (i := 3) rfl⟩ (by kernel_rfl) rfl (fun _ _ => RunsAt_pu rfl) rfl ?_
        refine NI_hoist 4 (np_block (np_seq (np_loop (np_block (np_block (np_cut (np_loop (np_block (np_block (np_cut (np_loop (np_block (np_cut np_body))))))))))))) ⟨hG672.trans (gz_le hH hL671), hL671.at (i := 0) rfl, hL671.at (i := 1) rfl, hL671.at (i := 2) rfl, hL671.at (i := 4) rfl, hL671.at (i := 5) rfl, hL671.at (i := 6) rfl, hL671.at (i := 7) rfl, hL671.at (i := 3) rfl⟩ (by kernel_rfl) rfl (fun _ _ => r_field rfl underlying62 rfl zr9 (by decide)) rfl ?_
        refine NI_hoist 5 (np_block (np_seq (np_loop (np_block (np_block (np_cut (np_loop (np_block (np_block (np_cut (np_loop (np_block (np_cut np_body))))))))))))) ⟨hG672.trans (gz_le hH hL671), hL671.at (i := 0) rfl, hL671.at (i := 1) rfl, hL671.at (i := 2) rfl, hL671.at (i := 4) rfl, hL671.at (i := 5) rfl, hL671.at (i := 6) rfl, hL671.at (i := 7) rfl, hL671.at (i := 3) rfl⟩ (by kernel_rfl) rfl (fun _ hI => r_loadH1 rfl underlying9 rfl hI.2.2.1 rfl) rfl ?_
        refine NI_hoist 6 (np_block (np_seq (np_loop (np_block (np_block (np_cut (np_loop (np_block (np_block (np_cut (np_loop (np_block (np_cut np_body))))))))))))) ⟨hG672.trans (gz_le hH hL671), hL671.at (i := 0) rfl, hL671.at (i := 1) rfl, hL671.at (i := 2) rfl, hL671.at (i := 4) rfl, hL671.at (i := 5) rfl, hL671.at (i := 6) rfl, hL671.at (i := 7) rfl, hL671.at (i := 3) rfl⟩ (by kernel_rfl) rfl (fun _ hI => r_lookH (k := (((([(a0.1, a0.2), (a1.1, a1.2)]).getD s26_392.toNat default).2).getD s34_577.toNat default).1) (enc := encS) rfl rfl underlying98 key9 zeroValue40 hI.2.2.2.2.2.2.2.2 (by rw [List.length_map]; exact hnl659)) rfl ?_
        refine NI_hoist 7 (np_block (np_seq (np_loop (np_block (np_block (np_cut (np_loop (np_block (np_block (np_cut (np_loop (np_block (np_cut np_body))))))))))))) ⟨hG672.trans (gz_le hH hL671), hL671.at (i := 0) rfl, hL671.at (i := 1) rfl, hL671.at (i := 2) rfl, hL671.at (i := 4) rfl, hL671.at (i := 5) rfl, hL671.at (i := 6) rfl, hL671.at (i := 7) rfl, hL671.at (i := 3) rfl⟩ (by kernel_rfl) rfl (fun _ _ => r_field rfl underlying64 rfl zr3 (by decide)) rfl ?_
        refine NI_hoist 8 (np_block (np_seq (np_loop (np_block (np_block (np_cut (np_loop (np_block (np_block (np_cut (np_loop (np_block (np_cut np_body))))))))))))) ⟨hG672.trans (gz_le hH hL671), hL671.at (i := 0) rfl, hL671.at (i := 1) rfl, hL671.at (i := 2) rfl, hL671.at (i := 4) rfl, hL671.at (i := 5) rfl, hL671.at (i := 6) rfl, hL671.at (i := 7) rfl, hL671.at (i := 3) rfl⟩ (by kernel_rfl) rfl (fun _ hI => r_loadH1 rfl underlying3 rfl hI.2.1 rfl) rfl ?_
        refine NI_hoist 9 (np_block (np_seq (np_loop (np_block (np_block (np_cut (np_loop (np_block (np_block (np_cut (np_loop (np_block (np_cut np_body))))))))))))) ⟨hG672.trans (gz_le hH hL671), hL671.at (i := 0) rfl, hL671.at (i := 1) rfl, hL671.at (i := 2) rfl, hL671.at (i := 4) rfl, hL671.at (i := 5) rfl, hL671.at (i := 6) rfl, hL671.at (i := 7) rfl, hL671.at (i := 3) rfl⟩ (by kernel_rfl) rfl (fun _ _ => RunsAt_pu rfl) rfl ?_
        refine NI_hoist 10 (np_block (np_seq (np_loop (np_block (np_block (np_cut (np_loop (np_block (np_block (np_cut (np_loop (np_block (np_cut np_body))))))))))))) ⟨hG672.trans (gz_le hH hL671), hL671.at (i := 0) rfl, hL671.at (i := 1) rfl, hL671.at (i := 2) rfl, hL671.at (i := 4) rfl, hL671.at (i := 5) rfl, hL671.at (i := 6) rfl, hL671.at (i := 7) rfl, hL671.at (i := 3) rfl⟩ (by kernel_rfl) rfl (fun _ _ => r_field rfl underlying25 rfl zr3 (by decide)) rfl ?_
        refine NI_hoist 11 (np_block (np_seq (np_loop (np_block (np_block (np_cut (np_loop (np_block (np_block (np_cut (np_loop (np_block (np_cut np_body))))))))))))) ⟨hG672.trans (gz_le hH hL671), hL671.at (i := 0) rfl, hL671.at (i := 1) rfl, hL671.at (i := 2) rfl, hL671.at (i := 4) rfl, hL671.at (i := 5) rfl, hL671.at (i := 6) rfl, hL671.at (i := 7) rfl, hL671.at (i := 3) rfl⟩ (by kernel_rfl) rfl (fun _ hI => r_loadH1 rfl underlying3 rfl hI.2.2.2.2.2.2.2.1 rfl) rfl ?_
        obtain ⟨hk673, h⟩ := Go.L.chk_some h
        refine NI_hoist 12 (np_block (np_seq (np_loop (np_block (np_block (np_cut (np_loop (np_block (np_block (np_cut (np_loop (np_block (np_cut np_body))))))))))))) ⟨hG672.trans (gz_le hH hL671), hL671.at (i := 0) rfl, hL671.at (i := 1) rfl, hL671.at (i := 2) rfl, hL671.at (i := 4) rfl, hL671.at (i := 5) rfl, hL671.at (i := 6) rfl, hL671.at (i := 7) rfl, hL671.at (i := 3) rfl⟩ (by kernel_rfl) rfl (fun _ _ => r_ar64 rfl rfl rfl hk673) rfl ?_
        obtain ⟨hk674, h⟩ := Go.L.chk_some h
        refine NI_hoist 13 (np_block (np_seq (np_loop (np_block (np_block (np_cut (np_loop (np_block (np_block (np_cut (np_loop (np_block (np_cut np_body))))))))))))) ⟨hG672.trans (gz_le hH hL671), hL671.at (i := 0) rfl, hL671.at (i := 1) rfl, hL671.at (i := 2) rfl, hL671.at (i := 4) rfl, hL671.at (i := 5) rfl, hL671.at (i := 6) rfl, hL671.at (i := 7) rfl, hL671.at (i := 3) rfl⟩ (by kernel_rfl) rfl (fun _ _ => r_ar64 rfl rfl rfl hk674) rfl ?_
        refine NI_hoist 14 (np_block (np_seq (np_loop (np_block (np_block (np_cut (np_loop (np_block (np_block (np_cut (np_loop (np_block (np_cut np_body))))))))))))) ⟨hG672.trans (gz_le hH hL671), hL671.at (i := 0) rfl, hL671.at (i := 1) rfl, hL671.at (i := 2) rfl, hL671.at (i := 4) rfl, hL671.at (i := 5) rfl, hL671.at (i := 6) rfl, hL671.at (i := 7) rfl, hL671.at (i := 3) rfl⟩ (by kernel_rfl) rfl (fun _ _ => r_field rfl underlying64 rfl zr3 (by decide)) rfl ?_
        refine NI_hoist 15 (np_block (np_seq (np_loop (np_block (np_block (np_cut (np_loop (np_block (np_block (np_cut (np_loop (np_block (np_cut np_body))))))))))))) ⟨hG672.trans (gz_le hH hL671), hL671.at (i := 0) rfl, hL671.at (i := 1) rfl, hL671.at (i := 2) rfl, hL671.at (i := 4) rfl, hL671.at (i := 5) rfl, hL671.at (i := 6) rfl, hL671.at (i := 7) rfl, hL671.at (i := 3) rfl⟩ (by kernel_rfl) rfl (fun _ hI => r_loadH1 rfl underlying3 rfl hI.2.1 rfl) rfl ?_
        refine NI_hoist 16 (np_block (np_seq (np_loop (np_block (np_block (np_cut (np_loop (np_block (np_block (np_cut (np_loop (np_block (np_cut np_body))))))))))))) ⟨hG672.trans (gz_le hH hL671), hL671.at (i := 0) rfl, hL671.at (i := 1) rfl, hL671.at (i := 2) rfl, hL671.at (i := 4) rfl, hL671.at (i := 5) rfl, hL671.at (i := 6) rfl, hL671.at (i := 7) rfl, hL671.at (i := 3) rfl⟩ (by kernel_rfl) rfl (fun _ _ => r_build rfl (fun _ => bld64_0_1 _ _ _)) rfl ?_
        refine NI1 (i := 17) (by kernel_rfl) rfl ?_
        refine S_litE (r := (.pair (.int .i64) (.int .i64))) (l := [(((((((([(a0.1, a0.2), (a1.1, a1.2)]).getD s26_392.toNat default).2).getD s34_577.toNat default).2).getD s41_660.toNat default).1 + (s26_392 * a0.1)), (((((([(a0.1, a0.2), (a1.1, a1.2)]).getD s26_392.toNat default).2).getD s34_577.toNat default).2).getD s41_660.toNat default).2)]) rfl (fun _ => bsl40_1 _ _ _) rfl (show 1 ≤ 9223372036854775807 by decide) hH hL671 (.c2 ⟨_, _, rfl, rfl, rfl⟩ .nil) ?_
        intro v675 w675 hx675 hL675 hle675 hv675
        replace hG672 := hG672.trans (gz_mono hH hle675)
        refine NI_nil ⟨hG672.trans (gz_le hH hL675), hL675.at (i := 0) rfl, hL675.at (i := 1) rfl, hL675.at (i := 2) rfl, hL675.at (i := 4) rfl, hL675.at (i := 5) rfl, hL675.at (i := 6) rfl, hL675.at (i := 7) rfl, hL675.at (i := 3) rfl⟩ ?_
        refine NI1 (i := 18) (by kernel_rfl) rfl ?_
        obtain ⟨hk678, h⟩ := Go.L.chk_some h
        refine S_appM (A := [.box b668 [.int .i64 ((((((([(a0.1, a0.2), (a1.1, a1.2)]).getD s26_392.toNat default).2).getD s34_577.toNat default).2).getD s41_660.toNat default).1), .int .i64 ((((((([(a0.1, a0.2), (a1.1, a1.2)]).getD s26_392.toNat default).2).getD s34_577.toNat default).2).getD s41_660.toNat default).2)] 64, .box b636 [.string ⟨((((([(a0.1, a0.2), (a1.1, a1.2)]).getD s26_392.toNat default).2).getD s34_577.toNat default).1).toArray⟩, e634v1] 62, .box b519 [.int .i64 ((([(a0.1, a0.2), (a1.1, a1.2)]).getD s26_392.toNat default).1), e517v1] 25, mpR encS b13 (l659) (vsl659), .box b4 [.int .i64 (0 : Int), .int .i64 (0 : Int)] 27, .box b3 [.int .i64 (0 : Int), .slice none 0 0] 25, .box b2 [.int .i64 a1.1, v1_0] 25, .box b1 [.int .i64 a0.1, v0_0] 25]) (l := l659) (vs := vsl659) (k := (((([(a0.1, a0.2), (a1.1, a1.2)]).getD s26_392.toNat default).2).getD s34_577.toNat default).1) (z := (((((((([(a0.1, a0.2), (a1.1, a1.2)]).getD s26_392.toNat default).2).getD s34_577.toNat default).2).getD s41_660.toNat default).1 + (s26_392 * a0.1)), (((((([(a0.1, a0.2), (a1.1, a1.2)]).getD s26_392.toNat default).2).getD s34_577.toNat default).2).getD s41_660.toNat default).2)) (r := (.pair (.int .i64) (.int .i64))) (H := H) rel_II rfl rfl rfl underlying40 zr64 rfl (by decide) rfl hH hL675 hnl659 hv675 hk678 ?_
        intro v677 w677 T677 hpd677 hL677 hle677
        replace hv675 := hv675.mono (gz_mono hH hle677)
        replace hG672 := hG672.trans (gz_mono hH hle677)
        refine NI_nil ⟨hG672.trans (gz_le hH hL677), hL677.at (i := 0) rfl, hL677.at (i := 1) rfl, hL677.at (i := 2) rfl, hL677.at (i := 4) rfl, hL677.at (i := 5) rfl, hL677.at (i := 6) rfl, hL677.at (i := 7) rfl, hL677.at (i := 3) rfl⟩ ?_
        refine NI1 (i := 19) (by kernel_rfl) rfl ?_
        refine S_updM (A := [.box b668 [.int .i64 ((((((([(a0.1, a0.2), (a1.1, a1.2)]).getD s26_392.toNat default).2).getD s34_577.toNat default).2).getD s41_660.toNat default).1), .int .i64 ((((((([(a0.1, a0.2), (a1.1, a1.2)]).getD s26_392.toNat default).2).getD s34_577.toNat default).2).getD s41_660.toNat default).2)] 64, .box b636 [.string ⟨((((([(a0.1, a0.2), (a1.1, a1.2)]).getD s26_392.toNat default).2).getD s34_577.toNat default).1).toArray⟩, e634v1] 62, .box b519 [.int .i64 ((([(a0.1, a0.2), (a1.1, a1.2)]).getD s26_392.toNat default).1), e517v1] 25, mpR encS b13 (l659) (vsl659), .box b4 [.int .i64 (0 : Int), .int .i64 (0 : Int)] 27, .box b3 [.int .i64 (0 : Int), .slice none 0 0] 25, .box b2 [.int .i64 a1.1, v1_0] 25, .box b1 [.int .i64 a0.1, v0_0] 25]) (T := T677) 3 hpd677 rfl rfl rfl underlying98 key9 hL677 rfl ?_
        intro vs680 w680 hn680 hL680 hle680
        replace hv675 := hv675.mono (gz_mono hH hle680)
        replace hG672 := hG672.trans (gz_mono hH hle680)
        refine NI_last (by kernel_rfl) ?_
        refine NI_end (by kernel_rfl) ?_
        refine At_block ?_
        refine At_seq ?_
        refine W_region ?_
        obtain ⟨hk681, h⟩ := Go.L.chk_some h
        refine S_v (r_ar64 rfl rfl rfl hk681) rfl ?_
        refine S_pu 1 rfl ?_
        refine S_nil ?_
        have hL682 := hL680.dropAt (i := 0) rfl
        replace hG672 := hG672.trans (gz_mono hH (fz_dropAt (i := 0) rfl))
        have h := Go.L.Nxt.again h hm661
        refine At_round ((Go.L.mput ((((([(a0.1, a0.2), (a1.1, a1.2)]).getD s26_392.toNat default).2).getD s34_577.toNat default).1) ((Go.L.mget [] ((((([(a0.1, a0.2), (a1.1, a1.2)]).getD s26_392.toNat default).2).getD s34_577.toNat default).1) l659) ++ [(((((((([(a0.1, a0.2), (a1.1, a1.2)]).getD s26_392.toNat default).2).getD s34_577.toNat default).2).getD s41_660.toNat default).1 + (s26_392 * a0.1)), (((((([(a0.1, a0.2), (a1.1, a1.2)]).getD s26_392.toNat default).2).getD s34_577.toNat default).2).getD s41_660.toNat default).2)]) l659), (s41_660 + (1 : Int)), vs680, n661) (.cons rfl (.cons rfl (.cons rfl (.cons rfl (.cons rfl (.cons rfl (.cons rfl (.cons rfl (.cons rfl (.cons rfl (.cons rfl (.cons rfl (.cons rfl (.cons rfl (.cons rfl (.cons rfl (Sub.nil _))))))))))))))))) ⟨hL682, ((hf661_0.mono hG663).mono hG672), ((hf661_1.mono hG663).mono hG672), ((hf661_2.mono hG663).mono hG672), hn680, h⟩ (Nat.lt_succ_self _)
       ·replace h := Go.L.ite_n hc664 h
        refine W_exit ?_
        refine At_seq_exit ?_
        refine At_loop_exit ?_
        replace h := Go.L.Nxt.out h hm661
        refine At_exit ?_
        refine At_block ?_
        have hL684 := hL661.dropAt (i := 0) rfl
        replace hG663 := hG663.trans (gz_mono hH (fz_dropAt (i := 0) rfl))
        refine At_cut (l659, vsl659) (.cons rfl (.cons rfl (.cons rfl (.cons rfl (.cons rfl (.cons rfl (.cons rfl (.cons rfl (.cons rfl (.cons rfl (.cons rfl (.cons rfl (Sub.nil _))))))))))))) ⟨hL684, (hf661_0.mono hG663), (hf661_1.mono hG663), hnl659, h⟩
      ·rintro ⟨l631, vsl631⟩ wr632 ⟨hL632, hf632_0, hf632_1, hnl631, h⟩
       refine W_region ?_
       obtain ⟨hk686, h⟩ := Go.L.chk_some h
       refine S_v (r_ar64 rfl rfl rfl hk686) rfl ?_
       refine S_pu 1 rfl ?_
       refine S_nil ?_
       have h := Go.L.Nxt.again h hm578
       refine At_round (l631, (s34_577 + (1 : Int)), vsl631, n578) (.cons rfl (.cons rfl (.cons rfl (.cons rfl (.cons rfl (.cons rfl (.cons rfl (.cons rfl (.cons rfl (.cons rfl (.cons rfl (.cons rfl (Sub.nil _))))))))))))) ⟨hL632, hf632_0, hf632_1, hnl631, h⟩ (Nat.lt_succ_self _)
     ·replace h := Go.L.ite_n hc580 h
      refine W_exit ?_
      refine At_seq_exit ?_
      refine At_loop_exit ?_
      replace h := Go.L.Nxt.out h hm578
      refine At_exit ?_
      refine At_block ?_
      have hL688 := hL578.dropAt (i := 0) rfl
      replace hf578_0 := hf578_0.mono (gz_mono hH (fz_dropAt (i := 0) rfl))
      replace hf578_1 := hf578_1.mono (gz_mono hH (fz_dropAt (i := 0) rfl))
      refine At_cut (l576, vsl576) (.cons rfl (.cons rfl (.cons rfl (.cons rfl (.cons rfl (.cons rfl (.cons rfl (.cons rfl (Sub.nil _))))))))) ⟨hL688, hf578_0, hnl576, h⟩
    ·rintro ⟨l514, vsl514⟩ wr515 ⟨hL515, hf515_0, hnl514, h⟩
     refine W_region ?_
     obtain ⟨hk690, h⟩ := Go.L.chk_some h
     refine S_v (r_ar64 rfl rfl rfl hk690) rfl ?_
     refine S_pu 1 rfl ?_
     refine S_nil ?_
     have h := Go.L.Nxt.again h hm393
     refine At_round (l514, (s26_392 + (1 : Int)), vsl514, n393) (.cons rfl (.cons rfl (.cons rfl (.cons rfl (.cons rfl (.cons rfl (.cons rfl (.cons rfl (Sub.nil _))))))))) ⟨hL515, hf515_0, hnl514, h⟩ (Nat.lt_succ_self _)
   ·replace h := Go.L.ite_n hc395 h
    refine W_exit ?_
    refine At_seq_exit ?_
    refine At_loop_exit ?_
    replace h := Go.L.Nxt.out h hm393
    refine At_exit ?_
    refine At_cut (l391, vsl391) (.cons rfl (.cons rfl (.cons rfl (.cons rfl (.cons rfl (Sub.nil _)))))) ⟨hL393, hnl391, h⟩
  ·rintro ⟨l264, vsl264⟩ wr265 ⟨hL265, hnl264, h⟩
   refine W_seqr ?_
   refine S_v (r_field rfl underlying25 rfl zr3 (by decide)) rfl ?_
   refine S_v (r_loadB1 4 rfl underlying3 rfl hL265 rfl rfl) rfl ?_
   refine S_v (r_field rfl underlying25 rfl zr3 (by decide)) rfl ?_
   refine S_v (r_loadB1 3 rfl underlying3 rfl hL265 rfl rfl) rfl ?_
   obtain ⟨hk693, h⟩ := Go.L.chk_some h
   refine S_v (r_ar64 rfl rfl rfl hk693) rfl ?_
   refine S_pu 1 rfl ?_
   obtain ⟨hL694, hle694, hv694⟩ := map_pub (A := [mpR encS b13 (l264) (vsl264), .box b4 [.int .i64 (0 : Int), .int .i64 (0 : Int)] 27, .box b3 [.int .i64 (0 : Int), .slice none 0 0] 25, .box b2 [.int .i64 a1.1, v1_0] 25, .box b1 [.int .i64 a0.1, v0_0] 25]) (l := l264) (vs := vsl264) (e := 64) (r := (.pair (.int .i64) (.int .i64))) 0 rfl rel_II hH hnl264 hL265 rfl
   obtain ⟨x695, hb695, h⟩ := Go.L.bind_some h
   refine S_callL rfl rfl hL694 (words_build_ok _ _ (gz_le hH hL694) hv694 hb695) ?_
   rintro _ w696 ⟨u696_0, rfl, hR696_0⟩ hx696 hL696 hle696
   have hv696_0 := hR696_0.mono (gz_nw hH hL694 hx696)
   replace hv694 := hv694.mono (gz_mono hH hle696)
   refine S_pu 2 rfl ?_
   refine S_storeBN 1 rfl rfl rfl zr25 hL696 rfl rfl (onc rfl (onc hv696_0.one on0)) ?_
   intro w697 hL697 hle697
   replace hv694 := hv694.mono (gz_mono hH hle697)
   replace hv696_0 := hv696_0.mono (gz_mono hH hle697)
   refine S_storeBN 0 rfl rfl rfl zr27 hL697 rfl rfl (onc rfl (onc rfl on0)) ?_
   intro w698 hL698 hle698
   replace hv694 := hv694.mono (gz_mono hH hle698)
   replace hv696_0 := hv696_0.mono (gz_mono hH hle698)
   refine S_seqnil ?_
   refine W_ret ?_
   obtain rfl := Option.some.inj h
   refine At_got2 rfl (.cell rfl underlying25 rfl zr25 (box_ptr (i := 1) hL698 rfl)) (.cell rfl underlying27 rfl zr27 (box_ptr (i := 0) hL698 rfl)) ?_
   exact ⟨hL698.ext, _, rfl, (hv696_0.mono (gz_res hH))⟩

noncomputable def ref4_WordsForm_k1 (l32 : List Int) : Option ((List UInt8)) :=
 Option.bind (ref4_gammas l32) (fun x88 => some (x88))
noncomputable def ref4_WordsForm_bl2 (a0 : List (List UInt8)) (x1 : (List (List UInt8))) : (List Int) × Int → Option (((List Int) × Int) ⊕ ((List UInt8))) := fun ⟨l59, s5_60⟩ =>
 if s5_60 < (x1.length : Int) then Go.L.chk (0 ≤ s5_60 ∧ s5_60 < (x1.length : Int)) (Go.L.chk (Go.L.I64 (s5_60 + (1 : Int))) (Go.L.chk (0 ≤ s5_60 ∧ s5_60 ≤ (s5_60 + (1 : Int)) ∧ (s5_60 + (1 : Int)) ≤ (x1.length : Int)) (Option.bind (ref4_Hits a0 ((x1.drop s5_60.toNat).take ((s5_60 + (1 : Int)).toNat - s5_60.toNat))) (fun x72 => Option.bind (ref4_entryForm (x1.getD s5_60.toNat default) x72) (fun x76 => Go.L.chk (Go.E.Cap 8 (l59.length + x76.length)) (Go.L.chk (Go.L.I64 (s5_60 + (1 : Int))) (some (Sum.inl ((l59 ++ x76), (s5_60 + (1 : Int))))))))))) else Option.map Sum.inr (ref4_WordsForm_k1 l59)
noncomputable def ref4_WordsForm_l2 (a0 : List (List UInt8)) (x1 : (List (List UInt8))) (s : (List Int) × Int) : Option ((List UInt8)) := Go.L.run (ref4_WordsForm_bl2 a0 x1) s
noncomputable def ref4_WordsForm (a0 : List (List UInt8)) : Option ((List UInt8)) :=
 Option.bind (ref4_Vocabulary a0) (fun x1 => Go.L.chk (Go.L.I64 ((a0.length : Int) + (1 : Int))) (Go.L.chk (Go.L.I64 ((x1.length : Int) + (1 : Int))) ((ref4_WordsForm_l2 a0 x1) ([((a0.length : Int) + (1 : Int)), ((x1.length : Int) + (1 : Int))], (0 : Int)))))

theorem ref4_WordsForm_ok (w : World) (H : PH) (hH : Le H (hp w)) {a0 : List (List UInt8)} {v0_0 : Value} (h0_0 : Vec (.vec .byte) H v0_0 (a0)) {r : (List UInt8)} (h : ref4_WordsForm a0 = some r) :
  Ok Tryz.prog 18 [v0_0] w (fun v w' => Ext w w' ∧ ∃ u0, v = u0 ∧ Vec .byte (un H (nw w w')) u0 (r)) := by
 refine Ok_enter (n := 37) [(0, v0_0)] func18 rfl rfl rfl rfl rfl ?_
 have hL := Lcl.start w
 refine W_pz 1 rfl ?_
 refine W_p 1 rfl ?_
 obtain ⟨x1, hb1, h⟩ := Go.L.bind_some h
 refine S_callL rfl rfl hL (ref4_Vocabulary_ok _ _ (gz_le hH hL) (h0_0.mono (gz_left hH)) hb1) ?_
 rintro u2_0 w2 ⟨_, rfl, hR2_0⟩ hx2 hL2 hle2
 have hv2_0 := hR2_0.vecG hH hL hx2
 refine S_pz 1 rfl ?_
 refine W_p 1 rfl ?_
 refine S_v (r_len rfl underlying47 h0_0) rfl ?_
 obtain ⟨hk3, h⟩ := Go.L.chk_some h
 refine S_v (r_ar64 rfl rfl rfl hk3) rfl ?_
 refine S_pu 1 rfl ?_
 refine S_v (r_len rfl underlying36 hv2_0) rfl ?_
 obtain ⟨hk4, h⟩ := Go.L.chk_some h
 refine S_v (r_ar64 rfl rfl rfl hk4) rfl ?_
 refine S_litO (r := (.int .i64)) (l := [((a0.length : Int) + (1 : Int)), ((x1.length : Int) + (1 : Int))]) rfl (fun _ => bsl71_2 _ _ _) rfl (show 2 ≤ 9223372036854775807 by decide) hH hL2 (.c1 rfl (.c1 rfl .nil)) ?_
 intro v5 w5 xs5 hL5 hle5 he5
 replace hv2_0 := hv2_0.mono (gz_mono hH hle5)
 refine S_pz 1 rfl ?_
 refine W_cut (σ := (List Int) × Value × (List Value)) (fun ⟨l32, vl32, xsl32⟩ => [(4, vl32)]) (fun ⟨l32, vl32, xsl32⟩ wr => InO w [.row (vl32) 3 1 (l32).length (xsl32)] wr fun Oz => Elems (.int .i64) (gz H w wr Oz) (l32) (xsl32) ∧ ref4_WordsForm_k1 l32 = some r) ?_ ?_
 ·refine W_pz 1 rfl ?_
  refine W_block ?_
  obtain ⟨n61, h⟩ := Go.L.run_some h
  refine W_loop (σ := (List Int) × Int × Value × (List Value) × Nat) (fun ⟨l59, s5_60, vl59, xsl59, n⟩ => [(0, v0_0), (3, u2_0), (4, vl59), (5, .int .i64 s5_60)]) (fun ⟨l59, s5_60, vl59, xsl59, n⟩ wr => InO w [.row (vl59) 3 1 (l59).length (xsl59)] wr fun Oz => Vec .st (gz H w wr Oz) (u2_0) (x1) ∧ Elems (.int .i64) (gz H w wr Oz) (l59) (xsl59) ∧ Go.L.itr (ref4_WordsForm_bl2 a0 x1) n (l59, s5_60) = some r) (fun ⟨l59, s5_60, vl59, xsl59, n⟩ => n) ([((a0.length : Int) + (1 : Int)), ((x1.length : Int) + (1 : Int))], (0 : Int), v5, xs5, n61) (.cons rfl (.cons rfl (.cons rfl (.cons rfl (Sub.nil _))))) ⟨hL5, hv2_0, he5, h⟩ ?_
  rintro ⟨l59, s5_60, vl59, xsl59, nn61⟩ wr61 ⟨hL61, hf61_0, hel59, h⟩
  obtain ⟨n61, e61, rfl, h, hm61⟩ := Go.L.itr_some h
  refine W_seq ?_
  refine W_p 2 rfl ?_
  refine S_v (r_len rfl underlying36 hf61_0) rfl ?_
  refine S_pz 1 rfl ?_
  refine W_if rfl (fun hc63 => ?_) (fun hc63 => ?_)
  ·replace h := Go.L.ite_p hc63 h
   refine W_skip ?_
   refine At_seq ?_
   refine W_seq ?_
   refine W_block ?_
   refine W_regd (.q 0 (.q 1 (.q 2 (.q 3 (.q 4 (.q 5 (.q 6 (.q 7 (.q 8 (.q 9 (.q 10 (.h 11 (.h 12 (.tail 13)))))))))))))) mixed (by kernel_rfl) (fun w65 hx65 => ?_)
   have hL66 := hL61.call hx65
   have hle66 := fz_ext hL61 hx65
   replace hf61_0 := hf61_0.mono (gz_mono hH hle66)
   replace hel59 := hel59.mono (gz_mono hH hle66)
   refine D_pu 3 rfl ?_
   obtain ⟨hk68, h⟩ := Go.L.chk_some h
   refine D_index rfl rfl rfl underlying36 zr9 hf61_0 s5_60.toNat (Int.toNat_of_nonneg hk68.1).symm (idx_lt hk68) rfl ?_
   rintro p67 _ rfl hp67
   refine D_v (r_load1 rfl underlying9 rfl hp67 (gz_le hH hL66)) rfl rfl ?_
   refine D_pu 4 rfl ?_
   obtain ⟨hk69, h⟩ := Go.L.chk_some h
   refine D_v (r_ar64 rfl rfl rfl hk69) rfl rfl ?_
   obtain ⟨hk71, h⟩ := Go.L.chk_some h
   refine D_sliceB rfl rfl rfl rfl underlying36 zr9 hf61_0 hk71 rfl ?_
   intro v70 hv70
   obtain ⟨x72, hb72, h⟩ := Go.L.bind_some h
   refine D_hcall rfl rfl rfl (fun w74 hx74 => ref4_Hits_ok _ _ (gz_le hH (hL66.call hx74)) (h0_0.mono (gz_left hH)) (hv70.mono (gz_mono hH (fz_ext hL66 hx74))) hb72) ?_
   rintro w74 u73_0 w73 hx74 hx73 ⟨_, rfl, hR73_0⟩
   have hL75 := hL66.call hx74
   have hle75 := fz_ext hL66 hx74
   replace hf61_0 := hf61_0.mono (gz_mono hH hle75)
   replace hel59 := hel59.mono (gz_mono hH hle75)
   replace hp67 := hp67.mono (gz_mono hH hle75)
   replace hv70 := hv70.mono (gz_mono hH hle75)
   have hL73 := hL75.call hx73
   have hle73 := fz_ext hL75 hx73
   have hv73_0 := hR73_0.vecG hH hL75 hx73
   replace hf61_0 := hf61_0.mono (gz_mono hH hle73)
   replace hel59 := hel59.mono (gz_mono hH hle73)
   replace hp67 := hp67.mono (gz_mono hH hle73)
   replace hv70 := hv70.mono (gz_mono hH hle73)
   obtain ⟨x76, hb76, h⟩ := Go.L.bind_some h
   refine D_hcall rfl rfl rfl (fun w78 hx78 => ref4_entryForm_ok _ _ (gz_le hH (hL73.call hx78)) (hv73_0.mono (gz_mono hH (fz_ext hL73 hx78))) hb76) ?_
   rintro w78 u77_0 w77 hx78 hx77 ⟨_, rfl, hR77_0⟩
   have hL79 := hL73.call hx78
   have hle79 := fz_ext hL73 hx78
   replace hf61_0 := hf61_0.mono (gz_mono hH hle79)
   replace hel59 := hel59.mono (gz_mono hH hle79)
   replace hp67 := hp67.mono (gz_mono hH hle79)
   replace hv70 := hv70.mono (gz_mono hH hle79)
   replace hv73_0 := hv73_0.mono (gz_mono hH hle79)
   have hL77 := hL79.call hx77
   have hle77 := fz_ext hL79 hx77
   have hv77_0 := hR77_0.vecG hH hL79 hx77
   replace hf61_0 := hf61_0.mono (gz_mono hH hle77)
   replace hel59 := hel59.mono (gz_mono hH hle77)
   replace hp67 := hp67.mono (gz_mono hH hle77)
   replace hv70 := hv70.mono (gz_mono hH hle77)
   replace hv73_0 := hv73_0.mono (gz_mono hH hle77)
   refine D_tail (fun w80 hx80 => ?_)
   have hL81 := hL77.call hx80
   have hle81 := fz_ext hL77 hx80
   replace hf61_0 := hf61_0.mono (gz_mono hH hle81)
   replace hel59 := hel59.mono (gz_mono hH hle81)
   replace hp67 := hp67.mono (gz_mono hH hle81)
   replace hv70 := hv70.mono (gz_mono hH hle81)
   replace hv73_0 := hv73_0.mono (gz_mono hH hle81)
   replace hv77_0 := hv77_0.mono (gz_mono hH hle81)
   obtain ⟨hk83, h⟩ := Go.L.chk_some h
   refine S_appE (r := (.int .i64)) (l := l59) (m := x76) 0 rfl rfl underlying71 zr3 rfl (by decide) rfl hH hL81 rfl hel59 hv77_0 hk83 ?_
   intro v82 w82 xs82 hL82 hle82 he82
   replace hf61_0 := hf61_0.mono (gz_mono hH hle82)
   replace hp67 := hp67.mono (gz_mono hH hle82)
   replace hv70 := hv70.mono (gz_mono hH hle82)
   replace hv73_0 := hv73_0.mono (gz_mono hH hle82)
   replace hv77_0 := hv77_0.mono (gz_mono hH hle82)
   refine S_pu 1 rfl ?_
   refine S_nil ?_
   refine At_block ?_
   refine At_seq ?_
   refine W_region ?_
   refine S_pu 1 rfl ?_
   obtain ⟨hk84, h⟩ := Go.L.chk_some h
   refine S_v (r_ar64 rfl rfl rfl hk84) rfl ?_
   refine S_pu 1 rfl ?_
   refine S_nil ?_
   have h := Go.L.Nxt.again h hm61
   refine At_round ((l59 ++ x76), (s5_60 + (1 : Int)), v82, xs82, n61) (.cons rfl (.cons rfl (.cons rfl (.cons rfl (Sub.nil _))))) ⟨hL82, hf61_0, he82, h⟩ (Nat.lt_succ_self _)
  ·replace h := Go.L.ite_n hc63 h
   refine W_exit ?_
   refine At_seq_exit ?_
   refine At_loop_exit ?_
   replace h := Go.L.Nxt.out h hm61
   refine At_exit ?_
   refine At_cut (l59, vl59, xsl59) (.cons rfl (Sub.nil _)) ⟨hL61, hel59, h⟩
 ·rintro ⟨l32, vl32, xsl32⟩ wr33 ⟨hL33, hel32, h⟩
  refine W_p 1 rfl ?_
  have hv87 := hL33.vecG hH (i := 0) rfl hel32
  have hL87 := hL33.dropAt (i := 0) rfl
  obtain ⟨x88, hb88, h⟩ := Go.L.bind_some h
  refine S_callL rfl rfl hL87 (ref4_gammas_ok _ _ (gz_le hH hL87) hv87 hb88) ?_
  rintro u89_0 w89 ⟨_, rfl, hR89_0⟩ hx89 hL89 hle89
  have hv89_0 := hR89_0.mono (gz_nw hH hL87 hx89)
  replace hv87 := hv87.mono (gz_mono hH hle89)
  refine S_pz 1 rfl ?_
  refine W_ret ?_
  obtain rfl := Option.some.inj h
  refine At_body rfl rfl ?_
  exact ⟨hL89.ext, _, rfl, (hv89_0.mono (gz_res hH))⟩
end Go.Proofs.YtdiieblgeaehpaaGreatDoor
