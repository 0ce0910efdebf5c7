/- Generated walks: lists and bits. -/
import Derived.Test.YtdiieblgeaehpaaGreatDoorP1
import Derived.KernelRfl
namespace Go.Proofs.YtdiieblgeaehpaaGreatDoor
open Go Go.E Go.RowKit
set_option maxHeartbeats 1000000
set_option maxRecDepth 10000
open _root_.Go.Proofs.Tryz
noncomputable def ref4_Insert_k1 (l49 : List (List UInt8)) : Option ((List (List UInt8))) :=
 some (l49)
noncomputable def ref4_Insert_bl2 : (List (List UInt8)) × Int → Option (((List (List UInt8)) × Int) ⊕ ((List (List UInt8)))) := fun ⟨l90, s6_91⟩ =>
 if (0 : Int) < s6_91 then Go.L.chk (0 ≤ s6_91 ∧ s6_91 < (l90.length : Int)) (Go.L.chk (Go.L.I64 (s6_91 - (1 : Int))) (Go.L.chk (0 ≤ (s6_91 - (1 : Int)) ∧ (s6_91 - (1 : Int)) < (l90.length : Int)) (if Op.bytesLess (l90.getD s6_91.toNat default) (l90.getD ((s6_91 - (1 : Int)).toNat) default) then Go.L.chk (Go.L.I64 (s6_91 - (1 : Int))) (Go.L.chk (Go.L.I64 (s6_91 - (1 : Int))) (Go.L.chk (0 ≤ (s6_91 - (1 : Int)) ∧ (s6_91 - (1 : Int)) < (l90.length : Int)) (Go.L.chk (0 ≤ s6_91 ∧ s6_91 < (l90.length : Int)) (Go.L.chk (0 ≤ s6_91 ∧ s6_91 < (l90.length : Int)) (Go.L.chk (0 ≤ (s6_91 - (1 : Int)) ∧ (s6_91 - (1 : Int)) < ((l90.set s6_91.toNat (l90.getD ((s6_91 - (1 : Int)).toNat) default)).length : Int)) (Go.L.chk (Go.L.I64 (s6_91 - (1 : Int))) (some (Sum.inl (((l90.set s6_91.toNat (l90.getD ((s6_91 - (1 : Int)).toNat) default)).set ((s6_91 - (1 : Int)).toNat) (l90.getD s6_91.toNat default)), (s6_91 - (1 : Int))))))))))) else Option.map Sum.inr (ref4_Insert_k1 l90)))) else Option.map Sum.inr (ref4_Insert_k1 l90)
noncomputable def ref4_Insert_l2 (s : (List (List UInt8)) × Int) : Option ((List (List UInt8))) := Go.L.run (ref4_Insert_bl2) s
noncomputable def ref4_Insert (a0 : List (List UInt8)) (a1 : List UInt8) : Option ((List (List UInt8))) :=
 Option.bind (ref4_HasText a0 a1) (fun x1 => if x1 then some (a0) else Go.L.chk (Go.E.Cap 16 (a0.length + ([a1]).length)) (Go.L.chk (Go.L.I64 (((a0 ++ [a1]).length : Int) - (1 : Int))) (ref4_Insert_l2 ((a0 ++ [a1]), (((a0 ++ [a1]).length : Int) - (1 : Int))))))

theorem ref4_Insert_fr {w0 w : World} {H : PH} (hH : Le H (hp w0)) {O : List Res} {a0 : List (List UInt8)} {a1 : List UInt8} {va0 : Value} {xsa0 : List Value} (hL : Lcl w0 (HAppend.hAppend ([.row (va0) 9 1 (a0).length (xsa0)] : List Res) O) w) (hea0 : Elems .st (gz H w0 w (HAppend.hAppend ([.row (va0) 9 1 (a0).length (xsa0)] : List Res) O)) (a0) xsa0) {r : (List (List UInt8))} (h : ref4_Insert a0 a1 = some r) :
  Ok Tryz.prog 69 [va0, .string ⟨(a1).toArray⟩] w (fun v w' => ∃ (u0 : Value) (y0 : List Value), v = u0 ∧ Lcl w0 (HAppend.hAppend ([.row u0 9 1 (r).length y0] : List Res) O) w' ∧ Le (fz w (HAppend.hAppend ([.row (va0) 9 1 (a0).length (xsa0)] : List Res) O)) (fz w' (HAppend.hAppend ([.row u0 9 1 (r).length y0] : List Res) O)) ∧ Elems .st (gz H w0 w' (HAppend.hAppend ([.row u0 9 1 (r).length y0] : List Res) O)) (r) y0) := by
 refine Ok_enter (n := 51) [(0, va0), (1, .string ⟨(a1).toArray⟩)] func69 rfl rfl rfl rfl rfl ?_
 have hT := Le.refl (fz w (HAppend.hAppend ([.row (va0) 9 1 (a0).length (xsa0)] : List Res) O))
 refine W_pz 1 rfl ?_
 refine W_seq ?_
 refine W_p 2 rfl ?_
 obtain ⟨x1, hb1, h⟩ := Go.L.bind_some h
 refine S_callL rfl rfl hL (ref4_HasText_ok _ _ (Le.refl _) (hL.vecN hH (i := 0) rfl hea0) hb1) ?_
 rintro _ w2 rfl hx2 hL2 hle2
 replace hea0 := hea0.mono (gz_mono hH hle2)
 replace hT := hT.trans hle2
 refine S_seqnil ?_
 refine W_cond rfl (fun hc3 => ?_) (fun hc3 => ?_)
 ·replace h := Go.L.ite_t hc3 h
  refine W_pz 2 rfl ?_
  refine W_ret ?_
  refine At_seq_ret ?_
  obtain rfl := Option.some.inj h
  refine At_body rfl rfl ?_
  exact ⟨va0, xsa0, rfl, hL2, hT, hea0⟩
 ·replace h := Go.L.ite_f hc3 h
  refine W_skip ?_
  refine At_seq ?_
  refine W_p 2 rfl ?_
  refine S_litE (r := .st) (l := [a1]) rfl (fun _ => bsl36_1 _ rfl _) rfl (show 1 ≤ 9223372036854775807 by decide) hH hL2 (.c1 rfl .nil) ?_
  intro v6 w6 hx6 hL6 hle6 hv6
  replace hea0 := hea0.mono (gz_mono hH hle6)
  replace hT := hT.trans hle6
  obtain ⟨hk8, h⟩ := Go.L.chk_some h
  refine S_appE (r := .st) (l := a0) (m := [a1]) 0 rfl rfl underlying36 zr9 rfl (by decide) rfl hH hL6 rfl hea0 hv6 hk8 ?_
  intro v7 w7 xs7 hL7 hle7 he7
  replace hv6 := hv6.mono (gz_mono hH hle7)
  replace hT := hT.trans hle7
  refine S_pz 1 rfl ?_
  refine W_cut (σ := (List (List UInt8)) × (List Value)) (fun ⟨l49, xsl49⟩ => [(5, v7)]) (fun ⟨l49, xsl49⟩ wr => InO w0 (HAppend.hAppend ([.row (v7) 9 1 (l49).length (xsl49)] : List Res) O) wr fun Oz => Elems .st (gz H w0 wr Oz) (l49) (xsl49) ∧ Le (fz w (HAppend.hAppend ([.row (va0) 9 1 (a0).length (xsa0)] : List Res) O)) (fz wr Oz) ∧ ref4_Insert_k1 l49 = some r) ?_ ?_
  ·refine W_p 1 rfl ?_
   refine S_v (r_lenR (i := 0) rfl underlying36 hL7 rfl) rfl ?_
   obtain ⟨hk52, h⟩ := Go.L.chk_some h
   refine S_v (r_ar64 rfl rfl rfl hk52) rfl ?_
   refine S_pz 1 rfl ?_
   refine W_block ?_
   obtain ⟨n92, h⟩ := Go.L.run_some h
   refine W_loop (σ := (List (List UInt8)) × Int × (List Value) × Nat) (fun ⟨l90, s6_91, xsl90, n⟩ => [(5, v7), (6, .int .i64 s6_91)]) (fun ⟨l90, s6_91, xsl90, n⟩ wr => InO w0 (HAppend.hAppend ([.row (v7) 9 1 (l90).length (xsl90)] : List Res) O) wr fun Oz => Elems .st (gz H w0 wr Oz) (l90) (xsl90) ∧ Le (fz w (HAppend.hAppend ([.row (va0) 9 1 (a0).length (xsa0)] : List Res) O)) (fz wr Oz) ∧ Go.L.itr ref4_Insert_bl2 n (l90, s6_91) = some r) (fun ⟨l90, s6_91, xsl90, n⟩ => n) ((a0 ++ [a1]), (((a0 ++ [a1]).length : Int) - (1 : Int)), xs7, n92) (.cons rfl (.cons rfl (Sub.nil _))) ⟨hL7, he7, hT, h⟩ ?_
   rintro ⟨l90, s6_91, xsl90, nn92⟩ wr92 ⟨hL92, hel90, hT, h⟩
   obtain ⟨n92, e92, rfl, h, hm92⟩ := Go.L.itr_some h
   refine W_seq ?_
   refine W_seqd (.q 0 (.q 1 (.q 2 (.q 3 (.q 4 (.q 5 (.q 6 (.q 7 (.q 8 (.q 9 (.q 10 (.q 11 (.q 12 (.q 13 (.tail 14))))))))))))))) mixed (by kernel_rfl) (fun w94 hx94 => ?_)
   have hL95 := hL92.call hx94
   have hle95 := fz_ext hL92 hx94
   replace hel90 := hel90.mono (gz_mono hH hle95)
   replace hT := hT.trans hle95
   refine D_pu 3 rfl ?_
   refine D_split (s := 20) rfl (fun hg96 => ?_) (fun hg96 => ?_)
   ·replace h := Go.L.ite_p (of_decide_eq_true hg96) h
    iterate 2 refine D_vg (RunsAt_pu rfl) rfl rfl rfl rfl hg96 rfl ?_
    obtain ⟨hk99, h⟩ := Go.L.chk_some h
    refine D_indexg rfl rfl rfl rfl hg96 rfl rfl underlying36 zr9 (hL95.vecN hH (i := 0) rfl hel90) s6_91.toNat (Int.toNat_of_nonneg hk99.1).symm (idx_lt hk99) rfl ?_
    rintro p98 _ rfl hp98
    refine D_vg (r_load1 rfl underlying9 rfl hp98 (Le.refl _)) rfl rfl rfl rfl hg96 rfl ?_
    iterate 2 refine D_vg (RunsAt_pu rfl) rfl rfl rfl rfl hg96 rfl ?_
    obtain ⟨hk100, h⟩ := Go.L.chk_some h
    refine D_vg (r_ar64 rfl rfl rfl hk100) rfl rfl rfl rfl hg96 rfl ?_
    obtain ⟨hk102, h⟩ := Go.L.chk_some h
    refine D_indexg rfl rfl rfl rfl hg96 rfl rfl underlying36 zr9 (hL95.vecN hH (i := 0) rfl hel90) ((s6_91 - (1 : Int)).toNat) (Int.toNat_of_nonneg hk102.1).symm (idx_lt hk102) rfl ?_
    rintro p101 _ rfl hp101
    refine D_vg (r_load1 rfl underlying9 rfl hp101 (Le.refl _)) rfl rfl rfl rfl hg96 rfl ?_
    refine D_vg (r_slt rfl rfl) rfl rfl rfl rfl hg96 rfl ?_
    refine D_v (r_pickT rfl hg96 rfl) rfl rfl ?_
    refine D_tail (fun w103 hx103 => ?_)
    have hL104 := hL95.call hx103
    have hle104 := fz_ext hL95 hx103
    replace hel90 := hel90.mono (gz_mono hH hle104)
    replace hT := hT.trans hle104
    refine S_seqnil ?_
    refine W_cond rfl (fun hc105 => ?_) (fun hc105 => ?_)
    ·replace h := Go.L.ite_t hc105 h
     refine W_skip ?_
     refine At_seq ?_
     refine W_seq ?_
     refine W_block ?_
     refine W_naive mixed rfl (fun w107 hx107 => ?_)
     have hL108 := hL104.call hx107
     have hle108 := fz_ext hL104 hx107
     replace hel90 := hel90.mono (gz_mono hH hle108)
     replace hT := hT.trans hle108
     refine N_hoist 0 (np_block (np_seq (np_loop (np_block (np_cut np_body))))) (by kernel_rfl) rfl (fun _ => RunsAt_pu rfl) rfl ?_
     refine N_hoist 1 (np_block (np_seq (np_loop (np_block (np_cut np_body))))) (by kernel_rfl) rfl (fun _ => RunsAt_pu rfl) rfl ?_
     refine N_hoist 2 (np_block (np_seq (np_loop (np_block (np_cut np_body))))) (by kernel_rfl) rfl (fun _ => RunsAt_pu rfl) rfl ?_
     refine N_hoist 3 (np_block (np_seq (np_loop (np_block (np_cut np_body))))) (by kernel_rfl) rfl (fun _ => RunsAt_pu rfl) rfl ?_
     obtain ⟨hk109, h⟩ := Go.L.chk_some h
     refine N_hoist 4 (np_block (np_seq (np_loop (np_block (np_cut np_body))))) (by kernel_rfl) rfl (fun _ => r_ar64 rfl rfl rfl hk109) rfl ?_
     refine N_hoist 5 (np_block (np_seq (np_loop (np_block (np_cut np_body))))) (by kernel_rfl) rfl (fun _ => RunsAt_pu rfl) rfl ?_
     refine N_hoist 6 (np_block (np_seq (np_loop (np_block (np_cut np_body))))) (by kernel_rfl) rfl (fun _ => RunsAt_pu rfl) rfl ?_
     obtain ⟨hk110, h⟩ := Go.L.chk_some h
     refine N_hoist 7 (np_block (np_seq (np_loop (np_block (np_cut np_body))))) (by kernel_rfl) rfl (fun _ => r_ar64 rfl rfl rfl hk110) rfl ?_
     obtain ⟨hk112, h⟩ := Go.L.chk_some h
     refine N_index 8 (np_block (np_seq (np_loop (np_block (np_cut np_body))))) (by kernel_rfl) rfl rfl rfl underlying36 zr9 (hL108.vecN hH (i := 0) rfl hel90) ((s6_91 - (1 : Int)).toNat) (Int.toNat_of_nonneg hk112.1).symm (idx_lt hk112) rfl ?_
     rintro p111 _ rfl hp111
     refine N_hoist 10 (np_block (np_seq (np_loop (np_block (np_cut np_body))))) (by kernel_rfl) rfl (fun _ => RunsAt_pu rfl) rfl ?_
     refine N_hoist 11 (np_block (np_seq (np_loop (np_block (np_cut np_body))))) (by kernel_rfl) rfl (fun _ => RunsAt_pu rfl) rfl ?_
     obtain ⟨hk114, h⟩ := Go.L.chk_some h
     refine N_index 12 (np_block (np_seq (np_loop (np_block (np_cut np_body))))) (by kernel_rfl) rfl rfl rfl underlying36 zr9 (hL108.vecN hH (i := 0) rfl hel90) s6_91.toNat (Int.toNat_of_nonneg hk114.1).symm (idx_lt hk114) rfl ?_
     rintro p113 _ rfl hp113
     refine N2 (i := 9) (j := 13) (by kernel_rfl) rfl rfl ?_ ?_
     ·refine S_v (r_load1 rfl underlying9 rfl hp111 (Le.refl _)) rfl ?_
      refine N_nil ?_
      refine N1 (i := 13) (by kernel_rfl) rfl ?_
      refine S_v (r_load1 rfl underlying9 rfl hp113 (Le.refl _)) rfl ?_
      refine N_nil ?_
      obtain ⟨hk116, h⟩ := Go.L.chk_some h
      refine N_indexR 14 0 (np_block (np_seq (np_loop (np_block (np_cut np_body))))) (by kernel_rfl) rfl rfl rfl underlying36 zr9 hL108 rfl s6_91.toNat (Int.toNat_of_nonneg hk116.1).symm (idx_lt hk116) rfl ?_
      intro p115 hp115
      refine N1 (i := 15) (by kernel_rfl) rfl ?_
      refine S_storeE (z := l90.getD ((s6_91 - (1 : Int)).toNat) default) (j := s6_91.toNat) 0 rfl rfl rfl zr9 hH hL108 rfl hel90 hp115 rfl (idx_lt hk116) rfl ?_
      intro w117 xs117 hL117 hle117 he117
      replace hT := hT.trans hle117
      refine N_nil ?_
      obtain ⟨hk119, h⟩ := Go.L.chk_some h
      refine N_indexR 16 0 (np_block (np_seq (np_loop (np_block (np_cut np_body))))) (by kernel_rfl) rfl rfl rfl underlying36 zr9 hL117 rfl ((s6_91 - (1 : Int)).toNat) (Int.toNat_of_nonneg hk119.1).symm (idx_lt hk119) rfl ?_
      intro p118 hp118
      refine N1 (i := 17) (by kernel_rfl) rfl ?_
      refine S_storeE (z := l90.getD s6_91.toNat default) (j := (s6_91 - (1 : Int)).toNat) 0 rfl rfl rfl zr9 hH hL117 rfl he117 hp118 rfl (idx_lt hk119) rfl ?_
      intro w120 xs120 hL120 hle120 he120
      replace hT := hT.trans hle120
      refine N_nil ?_
      refine N_end (by kernel_rfl) ?_
      refine At_block ?_
      refine At_seq ?_
      refine W_region ?_
      refine S_pu 1 rfl ?_
      obtain ⟨hk121, h⟩ := Go.L.chk_some h
      refine S_v (r_ar64 rfl rfl rfl hk121) rfl ?_
      refine S_pu 1 rfl ?_
      refine S_nil ?_
      have h := Go.L.Nxt.again h hm92
      refine At_round (((l90.set s6_91.toNat (l90.getD ((s6_91 - (1 : Int)).toNat) default)).set ((s6_91 - (1 : Int)).toNat) (l90.getD s6_91.toNat default)), (s6_91 - (1 : Int)), xs120, n92) (.cons rfl (.cons rfl (Sub.nil _))) ⟨hL120, he120, hT, h⟩ (Nat.lt_succ_self _)
     ·obtain ⟨hk116, h⟩ := Go.L.chk_some h
      obtain ⟨hk119, h⟩ := Go.L.chk_some h
      obtain ⟨hk121, h⟩ := Go.L.chk_some h
      refine S_v (r_load1 rfl underlying9 rfl hp113 (Le.refl _)) rfl ?_
      refine N_nil ?_
      refine N1 (i := 9) (by kernel_rfl) rfl ?_
      refine S_v (r_load1 rfl underlying9 rfl hp111 (Le.refl _)) rfl ?_
      refine N_nil ?_
      refine N_indexR 14 0 (np_block (np_seq (np_loop (np_block (np_cut np_body))))) (by kernel_rfl) rfl rfl rfl underlying36 zr9 hL108 rfl s6_91.toNat (Int.toNat_of_nonneg hk116.1).symm (idx_lt hk116) rfl ?_
      intro p122 hp122
      refine N1 (i := 15) (by kernel_rfl) rfl ?_
      refine S_storeE (z := l90.getD ((s6_91 - (1 : Int)).toNat) default) (j := s6_91.toNat) 0 rfl rfl rfl zr9 hH hL108 rfl hel90 hp122 rfl (idx_lt hk116) rfl ?_
      intro w123 xs123 hL123 hle123 he123
      replace hT := hT.trans hle123
      refine N_nil ?_
      refine N_indexR 16 0 (np_block (np_seq (np_loop (np_block (np_cut np_body))))) (by kernel_rfl) rfl rfl rfl underlying36 zr9 hL123 rfl ((s6_91 - (1 : Int)).toNat) (Int.toNat_of_nonneg hk119.1).symm (idx_lt hk119) rfl ?_
      intro p124 hp124
      refine N1 (i := 17) (by kernel_rfl) rfl ?_
      refine S_storeE (z := l90.getD s6_91.toNat default) (j := (s6_91 - (1 : Int)).toNat) 0 rfl rfl rfl zr9 hH hL123 rfl he123 hp124 rfl (idx_lt hk119) rfl ?_
      intro w125 xs125 hL125 hle125 he125
      replace hT := hT.trans hle125
      refine N_nil ?_
      refine N_end (by kernel_rfl) ?_
      refine At_block ?_
      refine At_seq ?_
      refine W_region ?_
      refine S_pu 1 rfl ?_
      refine S_v (r_ar64 rfl rfl rfl hk121) rfl ?_
      refine S_pu 1 rfl ?_
      refine S_nil ?_
      have h := Go.L.Nxt.again h hm92
      refine At_round (((l90.set s6_91.toNat (l90.getD ((s6_91 - (1 : Int)).toNat) default)).set ((s6_91 - (1 : Int)).toNat) (l90.getD s6_91.toNat default)), (s6_91 - (1 : Int)), xs125, n92) (.cons rfl (.cons rfl (Sub.nil _))) ⟨hL125, he125, hT, h⟩ (Nat.lt_succ_self _)
    ·replace h := Go.L.ite_f hc105 h
     refine W_exit ?_
     refine At_seq_exit ?_
     refine At_loop_exit ?_
     replace h := Go.L.Nxt.out h hm92
     refine At_exit ?_
     refine At_cut (l90, xsl90) (.cons rfl (Sub.nil _)) ⟨hL104, hel90, hT, h⟩
   ·replace h := Go.L.ite_n (of_decide_eq_false hg96) h
    iterate 10 refine D_no rfl rfl rfl rfl hg96 rfl ?_
    refine D_v (r_pickF rfl hg96 rfl) rfl rfl ?_
    refine D_tail (fun w128 hx128 => ?_)
    have hL129 := hL95.call hx128
    have hle129 := fz_ext hL95 hx128
    replace hel90 := hel90.mono (gz_mono hH hle129)
    replace hT := hT.trans hle129
    refine S_seqnil ?_
    refine W_false rfl ?_
    refine W_exit ?_
    refine At_seq_exit ?_
    refine At_loop_exit ?_
    replace h := Go.L.Nxt.out h hm92
    refine At_exit ?_
    refine At_cut (l90, xsl90) (.cons rfl (Sub.nil _)) ⟨hL129, hel90, hT, h⟩
  ·rintro ⟨l49, xsl49⟩ wr50 ⟨hL50, hel49, hT, h⟩
   refine W_pz 2 rfl ?_
   refine W_ret ?_
   obtain rfl := Option.some.inj h
   refine At_body rfl rfl ?_
   exact ⟨v7, xsl49, rfl, hL50, hT, hel49⟩

noncomputable def ref4_Vocabulary_k3 (s4_52 : Int) (l73 : List (List UInt8)) : Option (((List (List UInt8)) × Int) ⊕ ((List (List UInt8)))) :=
 Go.L.chk (Go.L.I64 (s4_52 + (1 : Int))) (some (Sum.inl (l73, (s4_52 + (1 : Int)))))
noncomputable def ref4_Vocabulary_bl4 (s4_52 : Int) (x78 : (List ((List UInt8) × Int × Int))) : (List (List UInt8)) × Int → Option (((List (List UInt8)) × Int) ⊕ (((List (List UInt8)) × Int) ⊕ ((List (List UInt8))))) := fun ⟨l90, s6_91⟩ =>
 if s6_91 < (x78.length : Int) then Go.L.chk (0 ≤ s6_91 ∧ s6_91 < (x78.length : Int)) (Option.bind (ref4_Insert l90 ((x78.getD s6_91.toNat default).1)) (fun x99 => Go.L.chk (Go.L.I64 (s6_91 + (1 : Int))) (some (Sum.inl (x99, (s6_91 + (1 : Int))))))) else Option.map Sum.inr ((ref4_Vocabulary_k3 s4_52) l90)
noncomputable def ref4_Vocabulary_l4 (s4_52 : Int) (x78 : (List ((List UInt8) × Int × Int))) (s : (List (List UInt8)) × Int) : Option (((List (List UInt8)) × Int) ⊕ ((List (List UInt8)))) := Go.L.run (ref4_Vocabulary_bl4 s4_52 x78) s
noncomputable def ref4_Vocabulary_k1 (l26 : List (List UInt8)) : Option ((List (List UInt8))) :=
 some (l26)
noncomputable def ref4_Vocabulary_bl2 (a0 : List (List UInt8)) : (List (List UInt8)) × Int → Option (((List (List UInt8)) × Int) ⊕ ((List (List UInt8)))) := fun ⟨l51, s4_52⟩ =>
 if s4_52 < (a0.length : Int) then Go.L.chk (0 ≤ s4_52 ∧ s4_52 < (a0.length : Int)) (Option.bind (ref4_Words (a0.getD s4_52.toNat default)) (fun x78 => (ref4_Vocabulary_l4 s4_52 x78) (l51, (0 : Int)))) else Option.map Sum.inr (ref4_Vocabulary_k1 l51)
noncomputable def ref4_Vocabulary_l2 (a0 : List (List UInt8)) (s : (List (List UInt8)) × Int) : Option ((List (List UInt8))) := Go.L.run (ref4_Vocabulary_bl2 a0) s
noncomputable def ref4_Vocabulary (a0 : List (List UInt8)) : Option ((List (List UInt8))) :=
 (ref4_Vocabulary_l2 a0) (([] : List (List UInt8)), (0 : Int))

theorem ref4_Vocabulary_ok (w : World) (H : PH) (hH : Le H (hp w)) {a0 : List (List UInt8)} {v0_0 : Value} (h0_0 : Vec (.vec .byte) H v0_0 (a0)) {r : (List (List UInt8))} (h : ref4_Vocabulary a0 = some r) :
  Ok Tryz.prog 44 [v0_0] w (fun v w' => Ext w w' ∧ ∃ u0, v = u0 ∧ OwnH 9 .st H w w' u0 (r)) := by
 refine Ok_enter (n := 32) [(0, v0_0)] func44 rfl rfl rfl rfl rfl ?_
 have hL := Lcl.start w
 refine W_pz 1 rfl ?_
 refine W_p 1 rfl ?_
 obtain ⟨hL1, hle1, he1⟩ := row_nilE .st H 9 hL
 refine S_seqnil ?_
 refine W_cut (σ := (List (List UInt8)) × Value × (List Value)) (fun ⟨l26, vl26, xsl26⟩ => [(3, vl26)]) (fun ⟨l26, vl26, xsl26⟩ wr => InO w [.row (vl26) 9 1 (l26).length (xsl26)] wr fun Oz => Elems .st (gz H w wr Oz) (l26) (xsl26) ∧ ref4_Vocabulary_k1 l26 = some r) ?_ ?_
 ·refine W_pz 1 rfl ?_
  refine W_block ?_
  obtain ⟨n53, h⟩ := Go.L.run_some h
  refine W_loop (σ := (List (List UInt8)) × Int × Value × (List Value) × Nat) (fun ⟨l51, s4_52, vl51, xsl51, n⟩ => [(0, v0_0), (3, vl51), (4, .int .i64 s4_52)]) (fun ⟨l51, s4_52, vl51, xsl51, n⟩ wr => InO w [.row (vl51) 9 1 (l51).length (xsl51)] wr fun Oz => Elems .st (gz H w wr Oz) (l51) (xsl51) ∧ Go.L.itr (ref4_Vocabulary_bl2 a0) n (l51, s4_52) = some r) (fun ⟨l51, s4_52, vl51, xsl51, n⟩ => n) (([] : List (List UInt8)), (0 : Int), .slice none 0 0, [], n53) (.cons rfl (.cons rfl (.cons rfl (Sub.nil _)))) ⟨hL1, he1, h⟩ ?_
  rintro ⟨l51, s4_52, vl51, xsl51, nn53⟩ wr53 ⟨hL53, hel51, h⟩
  obtain ⟨n53, e53, rfl, h, hm53⟩ := Go.L.itr_some h
  refine W_seq ?_
  refine W_p 2 rfl ?_
  refine S_v (r_len rfl underlying47 h0_0) rfl ?_
  refine S_pz 1 rfl ?_
  refine W_if rfl (fun hc55 => ?_) (fun hc55 => ?_)
  ·replace h := Go.L.ite_p hc55 h
   refine W_skip ?_
   refine At_seq ?_
   refine W_cut (σ := (List (List UInt8)) × Value × (List Value)) (fun ⟨l73, vl73, xsl73⟩ => [(0, v0_0), (3, vl73), (4, .int .i64 s4_52)]) (fun ⟨l73, vl73, xsl73⟩ wr => InO w [.row (vl73) 9 1 (l73).length (xsl73)] wr fun Oz => Elems .st (gz H w wr Oz) (l73) (xsl73) ∧ (ref4_Vocabulary_k3 s4_52) l73 = some e53) ?_ ?_
   ·refine W_block ?_
    refine W_p 2 rfl ?_
    obtain ⟨hk77, h⟩ := Go.L.chk_some h
    refine S_index rfl rfl underlying47 zr22 h0_0 s4_52.toNat (Int.toNat_of_nonneg hk77.1).symm (idx_lt hk77) rfl ?_
    rintro p76 _ ⟨e76v0, rfl, e76h0⟩ hp76
    refine S_v (r_load1 rfl underlying22 rfl hp76 (hH.trans hL53.arg)) rfl ?_
    obtain ⟨x78, hb78, h⟩ := Go.L.bind_some h
    refine S_callL rfl rfl hL53 (ref4_Words_ok _ _ (gz_le hH hL53) (e76h0.mono (gz_left hH)) hb78) ?_
    rintro u79_0 w79 ⟨_, rfl, hR79_0⟩ hx79 hL79 hle79
    have hv79_0 := hR79_0.vecG hH hL53 hx79
    replace hel51 := hel51.mono (gz_mono hH hle79)
    refine S_pz 1 rfl ?_
    refine W_pz 1 rfl ?_
    refine W_block ?_
    obtain ⟨n92, h⟩ := Go.L.run_some h
    refine W_loop (σ := (List (List UInt8)) × Int × Value × (List Value) × Nat) (fun ⟨l90, s6_91, vl90, xsl90, n⟩ => [(0, v0_0), (3, vl90), (4, .int .i64 s4_52), (5, u79_0), (6, .int .i64 s6_91)]) (fun ⟨l90, s6_91, vl90, xsl90, n⟩ wr => InO w [.row (vl90) 9 1 (l90).length (xsl90)] wr fun Oz => Vec (.pair .st (.pair (.int .i64) (.int .i64))) (gz H w wr Oz) (u79_0) (x78) ∧ Elems .st (gz H w wr Oz) (l90) (xsl90) ∧ Go.L.itr (ref4_Vocabulary_bl4 s4_52 x78) n (l90, s6_91) = some e53) (fun ⟨l90, s6_91, vl90, xsl90, n⟩ => n) (l51, (0 : Int), vl51, xsl51, n92) (.cons rfl (.cons rfl (.cons rfl (.cons rfl (.cons rfl (Sub.nil _)))))) ⟨hL79, hv79_0, hel51, h⟩ ?_
    rintro ⟨l90, s6_91, vl90, xsl90, nn92⟩ wr92 ⟨hL92, hf92_0, hel90, h⟩
    obtain ⟨n92, e92, rfl, h, hm92⟩ := Go.L.itr_some h
    refine W_seq ?_
    refine W_p 2 rfl ?_
    refine S_v (r_len rfl underlying67 hf92_0) rfl ?_
    refine S_pz 1 rfl ?_
    refine W_if rfl (fun hc94 => ?_) (fun hc94 => ?_)
    ·replace h := Go.L.ite_p hc94 h
     refine W_skip ?_
     refine At_seq ?_
     refine W_seq ?_
     refine W_block ?_
     refine W_region ?_
     refine S_pu 3 rfl ?_
     obtain ⟨hk97, h⟩ := Go.L.chk_some h
     refine S_index rfl rfl underlying67 zr75 hf92_0 s6_91.toNat (Int.toNat_of_nonneg hk97.1).symm (idx_lt hk97) rfl ?_
     rintro p96 _ ⟨_, _, rfl, rfl, ⟨_, _, rfl, rfl, rfl⟩⟩ hp96
     refine S_v (r_field rfl underlying75 rfl zr9 (by decide)) rfl ?_
     have hp98 := hp96.add 0
     refine S_v (r_load1 rfl underlying9 rfl hp98 (gz_le hH hL92)) rfl ?_
     obtain ⟨x99, hb99, h⟩ := Go.L.bind_some h
     refine S_call rfl rfl (ref4_Insert_fr (a0 := l90) (a1 := ((x78.getD s6_91.toNat default).1)) (O := []) hH hL92 hel90 hb99) ?_
     rintro u100_0 w100 ⟨_, y100_0, rfl, hL100, hle100, hf100_0⟩
     replace hf92_0 := hf92_0.mono (gz_mono hH hle100)
     replace hp96 := hp96.mono (gz_mono hH hle100)
     replace hp98 := hp98.mono (gz_mono hH hle100)
     refine S_pu 1 rfl ?_
     refine S_nil ?_
     refine At_block ?_
     refine At_seq ?_
     refine W_region ?_
     refine S_pu 1 rfl ?_
     obtain ⟨hk101, h⟩ := Go.L.chk_some h
     refine S_v (r_ar64 rfl rfl rfl hk101) rfl ?_
     refine S_pu 1 rfl ?_
     refine S_nil ?_
     have h := Go.L.Nxt.again h hm92
     refine At_round (x99, (s6_91 + (1 : Int)), u100_0, y100_0, n92) (.cons rfl (.cons rfl (.cons rfl (.cons rfl (.cons rfl (Sub.nil _)))))) ⟨hL100, hf92_0, hf100_0, h⟩ (Nat.lt_succ_self _)
    ·replace h := Go.L.ite_n hc94 h
     refine W_exit ?_
     refine At_seq_exit ?_
     refine At_loop_exit ?_
     replace h := Go.L.Nxt.out h hm92
     refine At_exit ?_
     refine At_block ?_
     refine At_cut (l90, vl90, xsl90) (.cons rfl (.cons rfl (.cons rfl (Sub.nil _)))) ⟨hL92, hel90, h⟩
   ·rintro ⟨l73, vl73, xsl73⟩ wr74 ⟨hL74, hel73, h⟩
    refine W_region ?_
    refine S_pu 1 rfl ?_
    obtain ⟨hk104, h⟩ := Go.L.chk_some h
    refine S_v (r_ar64 rfl rfl rfl hk104) rfl ?_
    refine S_pu 1 rfl ?_
    refine S_nil ?_
    have h := Go.L.Nxt.again h hm53
    refine At_round (l73, (s4_52 + (1 : Int)), vl73, xsl73, n53) (.cons rfl (.cons rfl (.cons rfl (Sub.nil _)))) ⟨hL74, hel73, h⟩ (Nat.lt_succ_self _)
  ·replace h := Go.L.ite_n hc55 h
   refine W_exit ?_
   refine At_seq_exit ?_
   refine At_loop_exit ?_
   replace h := Go.L.Nxt.out h hm53
   refine At_exit ?_
   refine At_cut (l51, vl51, xsl51) (.cons rfl (Sub.nil _)) ⟨hL53, hel51, h⟩
 ·rintro ⟨l26, vl26, xsl26⟩ wr27 ⟨hL27, hel26, h⟩
  refine W_pz 2 rfl ?_
  refine W_ret ?_
  obtain rfl := Option.some.inj h
  refine At_body rfl rfl ?_
  exact ⟨hL27.ext, _, rfl, (hL27.ownH hH (i := 0) rfl hel26)⟩

noncomputable def ref3_Total_k1 (a1 : Int) (s5_18 : Int) : Option (Int) :=
 if a1 < s5_18 then Go.L.chk (Go.L.I64 (a1 + (1 : Int))) (some ((a1 + (1 : Int)))) else some (s5_18)
noncomputable def ref3_Total_bl2 (a0 : List (List UInt8)) (a1 : Int) : Int × Int → Option ((Int × Int) ⊕ (Int)) := fun ⟨s5_35, s6_36⟩ =>
 if (s6_36 < (a0.length : Int)) ∧ (s5_35 ≤ a1) then Go.L.chk (0 ≤ s6_36 ∧ s6_36 < (a0.length : Int)) (if a1 < ((a0.getD s6_36.toNat default).length : Int) then Go.L.chk (Go.L.I64 (a1 + (1 : Int))) (Option.map Sum.inr (some ((a1 + (1 : Int))))) else Go.L.chk (0 ≤ s6_36 ∧ s6_36 < (a0.length : Int)) (Go.L.chk (Go.L.I64 (s5_35 + ((a0.getD s6_36.toNat default).length : Int))) (Go.L.chk (Go.L.I64 (s6_36 + (1 : Int))) (some (Sum.inl ((s5_35 + ((a0.getD s6_36.toNat default).length : Int)), (s6_36 + (1 : Int)))))))) else Option.map Sum.inr ((ref3_Total_k1 a1) s5_35)
noncomputable def ref3_Total_l2 (a0 : List (List UInt8)) (a1 : Int) (s : Int × Int) : Option (Int) := Go.L.run (ref3_Total_bl2 a0 a1) s
noncomputable def ref3_Total (a0 : List (List UInt8)) (a1 : Int) : Option (Int) :=
 (ref3_Total_l2 a0 a1) ((0 : Int), (0 : Int))

theorem ref3_Total_ok (w : World) (H : PH) (hH : Le H (hp w)) {a0 : List (List UInt8)} {a1 : Int} {v0_0 : Value} (h0_0 : Vec (.vec .byte) H v0_0 (a0)) {r : Int} (h : ref3_Total a0 a1 = some r) :
  Ok Tryz.prog 17 [v0_0, .int .i64 a1] w (fun v w' => Ext w w' ∧ v = .int .i64 r) := by
 refine Ok_enter (n := 40) [(0, v0_0), (1, .int .i64 a1)] func17 rfl rfl rfl rfl rfl ?_
 have hL := Lcl.start w
 refine W_pz 1 rfl ?_
 refine W_pz 1 rfl ?_
 refine W_cut (σ := Int) (fun s5_18 => [(1, .int .i64 a1), (5, .int .i64 s5_18)]) (fun s5_18 wr => Lcl w [] wr ∧ (ref3_Total_k1 a1) s5_18 = some r) ?_ ?_
 ·refine W_pz 1 rfl ?_
  refine W_block ?_
  obtain ⟨n37, h⟩ := Go.L.run_some h
  refine W_loop (σ := Int × Int × Nat) (fun ⟨s5_35, s6_36, n⟩ => [(0, v0_0), (1, .int .i64 a1), (5, .int .i64 s5_35), (6, .int .i64 s6_36)]) (fun ⟨s5_35, s6_36, n⟩ wr => Lcl w [] wr ∧ Go.L.itr (ref3_Total_bl2 a0 a1) n (s5_35, s6_36) = some r) (fun ⟨s5_35, s6_36, n⟩ => n) ((0 : Int), (0 : Int), n37) (.cons rfl (.cons rfl (.cons rfl (.cons rfl (Sub.nil _))))) ⟨hL, h⟩ ?_
  rintro ⟨s5_35, s6_36, nn37⟩ wr37 ⟨hL37, h⟩
  obtain ⟨n37, e37, rfl, h, hm37⟩ := Go.L.itr_some h
  refine W_seq ?_
  refine W_p 2 rfl ?_
  refine S_v (r_len rfl underlying47 h0_0) rfl ?_
  refine S_pu 2 rfl ?_
  refine S_and 3 4 rfl rfl rfl rfl rfl rfl ?_
  refine S_seqnil ?_
  refine W_if rfl (fun hc39 => ?_) (fun hc39 => ?_)
  ·replace h := Go.L.ite_p hc39 h
   refine W_skip ?_
   refine At_seq ?_
   refine W_seq ?_
   refine W_block ?_
   refine W_seq ?_
   refine W_p 2 rfl ?_
   obtain ⟨hk42, h⟩ := Go.L.chk_some h
   refine S_index rfl rfl underlying47 zr22 h0_0 s6_36.toNat (Int.toNat_of_nonneg hk42.1).symm (idx_lt hk42) rfl ?_
   rintro p41 _ ⟨e41v0, rfl, e41h0⟩ hp41
   refine S_v (r_load1 rfl underlying22 rfl hp41 (hH.trans hL37.arg)) rfl ?_
   refine S_v (r_len rfl underlying22 e41h0) rfl ?_
   refine S_pz 2 rfl ?_
   refine W_if rfl (fun hc43 => ?_) (fun hc43 => ?_)
   ·replace h := Go.L.ite_p hc43 h
    refine W_p 1 rfl ?_
    obtain ⟨hk45, h⟩ := Go.L.chk_some h
    refine S_v (r_ar64 rfl rfl rfl hk45) rfl ?_
    refine S_pz 1 rfl ?_
    refine W_ret ?_
    refine At_seq_ret ?_
    refine At_block_ret ?_
    refine At_seq_ret ?_
    refine At_loop_ret ?_
    replace h := Go.L.Nxt.out h hm37
    refine At_block_ret ?_
    refine At_cut_ret ?_
    obtain rfl := Option.some.inj h
    refine At_body rfl rfl ?_
    exact ⟨hL37.ext, rfl⟩
   ·replace h := Go.L.ite_n hc43 h
    refine W_skip ?_
    refine At_seq ?_
    refine W_region ?_
    refine S_pu 3 rfl ?_
    obtain ⟨hk48, h⟩ := Go.L.chk_some h
    refine S_index rfl rfl underlying47 zr22 h0_0 s6_36.toNat (Int.toNat_of_nonneg hk48.1).symm (idx_lt hk48) rfl ?_
    rintro p47 _ ⟨e47v0, rfl, e47h0⟩ hp47
    refine S_v (r_load1 rfl underlying22 rfl hp47 (hH.trans hL37.arg)) rfl ?_
    refine S_v (r_len rfl underlying22 e47h0) rfl ?_
    obtain ⟨hk49, h⟩ := Go.L.chk_some h
    refine S_v (r_ar64 rfl rfl rfl hk49) rfl ?_
    refine S_pu 1 rfl ?_
    refine S_nil ?_
    refine At_block ?_
    refine At_seq ?_
    refine W_region ?_
    refine S_pu 1 rfl ?_
    obtain ⟨hk50, h⟩ := Go.L.chk_some h
    refine S_v (r_ar64 rfl rfl rfl hk50) rfl ?_
    refine S_pu 1 rfl ?_
    refine S_nil ?_
    have h := Go.L.Nxt.again h hm37
    refine At_round ((s5_35 + ((a0.getD s6_36.toNat default).length : Int)), (s6_36 + (1 : Int)), n37) (.cons rfl (.cons rfl (.cons rfl (.cons rfl (Sub.nil _))))) ⟨hL37, h⟩ (Nat.lt_succ_self _)
  ·replace h := Go.L.ite_n hc39 h
   refine W_exit ?_
   refine At_seq_exit ?_
   refine At_loop_exit ?_
   replace h := Go.L.Nxt.out h hm37
   refine At_exit ?_
   refine At_cut s5_35 (.cons rfl (.cons rfl (Sub.nil _))) ⟨hL37, h⟩
 ·rintro s5_18 wr19 ⟨hL19, h⟩
  refine W_seq ?_
  refine W_pz 3 rfl ?_
  refine W_if rfl (fun hc53 => ?_) (fun hc53 => ?_)
  ·replace h := Go.L.ite_p hc53 h
   refine W_region ?_
   refine S_pu 1 rfl ?_
   obtain ⟨hk55, h⟩ := Go.L.chk_some h
   refine S_v (r_ar64 rfl rfl rfl hk55) rfl ?_
   refine S_pu 1 rfl ?_
   refine S_nil ?_
   refine At_seq ?_
   refine W_pz 2 rfl ?_
   refine W_ret ?_
   obtain rfl := Option.some.inj h
   refine At_body rfl rfl ?_
   exact ⟨hL19.ext, rfl⟩
  ·replace h := Go.L.ite_n hc53 h
   refine W_skip ?_
   refine At_seq ?_
   refine W_pz 2 rfl ?_
   refine W_ret ?_
   obtain rfl := Option.some.inj h
   refine At_body rfl rfl ?_
   exact ⟨hL19.ext, rfl⟩

noncomputable def words_Index_Items (a0 : Int × (List ((List UInt8) × (List (Int × Int))))) : Option (Int) :=
 some (a0.1)

theorem words_Index_Items_ok (w : World) (H : PH) (_hH : Le H (hp w)) {a0 : Int × (List ((List UInt8) × (List (Int × Int))))} {v0_0 : Value} (_h0_0 : Vec (.pair .st (.vec (.pair (.int .i64) (.int .i64)))) H v0_0 (a0.2)) {r : Int} (h : words_Index_Items a0 = some r) :
  Ok Tryz.prog 8 [.agg #[.int .i64 a0.1, v0_0]] w (fun v w' => Ext w w' ∧ v = .int .i64 r) := by
 refine Ok_enter (n := 5) [(0, .agg #[.int .i64 a0.1, v0_0])] func8 rfl rfl rfl rfl rfl ?_
 have hL := Lcl.start w
 refine W_seqr ?_
 refine S_box (t := 25) rfl rfl rfl hL ?_
 intro w1 b1 hL1 hle1 _
 refine S_pz 1 rfl ?_
 refine W_seqr ?_
 refine S_v (r_field rfl underlying25 rfl zr3 (by decide)) rfl ?_
 refine S_v (r_loadB1 0 rfl underlying3 rfl hL1 rfl rfl) rfl ?_
 refine S_pz 1 rfl ?_
 refine W_ret ?_
 obtain rfl := Option.some.inj h
 refine At_body rfl rfl ?_
 exact ⟨hL1.ext, rfl⟩

noncomputable def words_Index_Words_k1 (l30 : List (List UInt8)) : Option ((List (List UInt8))) :=
 some (l30)
noncomputable def words_Index_Words_bl2 (a0 : Int × (List ((List UInt8) × (List (Int × Int))))) : (List (List UInt8)) × Int → Option (((List (List UInt8)) × Int) ⊕ ((List (List UInt8)))) := fun ⟨l45, s9_46⟩ =>
 if s9_46 < (a0.2.length : Int) then Go.L.chk (0 ≤ s9_46 ∧ s9_46 < (a0.2.length : Int)) (Go.L.chk (Go.E.Cap 16 (l45.length + ([(a0.2.getD s9_46.toNat default).1]).length)) (Go.L.chk (Go.L.I64 (s9_46 + (1 : Int))) (some (Sum.inl ((l45 ++ [(a0.2.getD s9_46.toNat default).1]), (s9_46 + (1 : Int))))))) else Option.map Sum.inr (words_Index_Words_k1 l45)
noncomputable def words_Index_Words_l2 (a0 : Int × (List ((List UInt8) × (List (Int × Int))))) (s : (List (List UInt8)) × Int) : Option ((List (List UInt8))) := Go.L.run (words_Index_Words_bl2 a0) s
noncomputable def words_Index_Words (a0 : Int × (List ((List UInt8) × (List (Int × Int))))) : Option ((List (List UInt8))) :=
 (words_Index_Words_l2 a0) (([] : List (List UInt8)), (0 : Int))

theorem words_Index_Words_ok (w : World) (H : PH) (hH : Le H (hp w)) {a0 : Int × (List ((List UInt8) × (List (Int × Int))))} {v0_0 : Value} (h0_0 : Vec (.pair .st (.vec (.pair (.int .i64) (.int .i64)))) H v0_0 (a0.2)) {r : (List (List UInt8))} (h : words_Index_Words a0 = some r) :
  Ok Tryz.prog 10 [.agg #[.int .i64 a0.1, v0_0]] w (fun v w' => Ext w w' ∧ ∃ u0, v = u0 ∧ OwnH 9 .st H w w' u0 (r)) := by
 refine Ok_enter (n := 20) [(0, .agg #[.int .i64 a0.1, v0_0])] func10 rfl rfl rfl rfl rfl ?_
 have hL := Lcl.start w
 refine W_seqr ?_
 refine S_box (t := 25) rfl rfl rfl hL ?_
 intro w1 b1 hL1 hle1 _
 refine S_pz 1 rfl ?_
 refine W_p 1 rfl ?_
 obtain ⟨hL2, hle2, he2⟩ := row_nilE .st H 9 hL1
 refine S_seqnil ?_
 refine W_cut (σ := (List (List UInt8)) × Value × (List Value)) (fun ⟨l30, vl30, xsl30⟩ => [(3, vl30)]) (fun ⟨l30, vl30, xsl30⟩ wr => InO w [.row (vl30) 9 1 (l30).length (xsl30), .box b1 [.int .i64 a0.1, v0_0] 25] wr fun Oz => Elems .st (gz H w wr Oz) (l30) (xsl30) ∧ words_Index_Words_k1 l30 = some r) ?_ ?_
 ·refine W_seqr ?_
  refine S_v (r_field rfl underlying25 rfl zr23 (by decide)) rfl ?_
  refine S_v (r_loadB1 1 rfl underlying23 rfl hL2 rfl rfl) rfl ?_
  refine S_v (r_len rfl underlying23 h0_0) rfl ?_
  refine S_pz 1 rfl ?_
  refine W_block ?_
  obtain ⟨n47, h⟩ := Go.L.run_some h
  refine W_loop (σ := (List (List UInt8)) × Int × Value × (List Value) × Nat) (fun ⟨l45, s9_46, vl45, xsl45, n⟩ => [(3, vl45), (7, v0_0), (8, .int .i64 (a0.2.length : Int)), (9, .int .i64 s9_46)]) (fun ⟨l45, s9_46, vl45, xsl45, n⟩ wr => InO w [.row (vl45) 9 1 (l45).length (xsl45), .box b1 [.int .i64 a0.1, v0_0] 25] wr fun Oz => Elems .st (gz H w wr Oz) (l45) (xsl45) ∧ Go.L.itr (words_Index_Words_bl2 a0) n (l45, s9_46) = some r) (fun ⟨l45, s9_46, vl45, xsl45, n⟩ => n) (([] : List (List UInt8)), (0 : Int), .slice none 0 0, [], n47) (.cons rfl (.cons rfl (.cons rfl (.cons rfl (Sub.nil _))))) ⟨hL2, he2, h⟩ ?_
  rintro ⟨l45, s9_46, vl45, xsl45, nn47⟩ wr47 ⟨hL47, hel45, h⟩
  obtain ⟨n47, e47, rfl, h, hm47⟩ := Go.L.itr_some h
  refine W_pz 1 rfl ?_
  refine W_seq ?_
  refine W_if rfl (fun hc49 => ?_) (fun hc49 => ?_)
  ·replace h := Go.L.ite_p hc49 h
   refine W_skip ?_
   refine At_seq ?_
   refine W_seq ?_
   refine W_block ?_
   refine W_seqr ?_
   obtain ⟨hk52, h⟩ := Go.L.chk_some h
   refine S_index rfl rfl underlying23 zr62 h0_0 s9_46.toNat (Int.toNat_of_nonneg hk52.1).symm (idx_lt hk52) rfl ?_
   rintro p51 _ ⟨_, _, rfl, rfl, ⟨e51v1, rfl, e51h1⟩⟩ hp51
   refine S_v (r_loadN rfl underlying62 rfl zr62 hp51 (hH.trans hL47.arg)) rfl ?_
   refine S_alloc zr62 rfl rfl hL47 ?_
   intro w53 b53 hL53 hle53 _
   replace hel45 := hel45.mono (gz_mono hH hle53)
   refine S_storeBN 0 rfl rfl rfl zr62 hL53 rfl rfl (onc rfl (onc e51h1.one on0)) ?_
   intro w54 hL54 hle54
   replace hel45 := hel45.mono (gz_mono hH hle54)
   refine S_seqnil ?_
   refine W_region ?_
   refine S_pu 1 rfl ?_
   refine S_v (r_field rfl underlying62 rfl zr9 (by decide)) rfl ?_
   refine S_v (r_loadB1 0 rfl underlying9 rfl hL54 rfl rfl) rfl ?_
   refine S_litE (r := .st) (l := [(a0.2.getD s9_46.toNat default).1]) rfl (fun _ => bsl36_1 _ rfl _) rfl (show 1 ≤ 9223372036854775807 by decide) hH hL54 (.c1 rfl .nil) ?_
   intro v55 w55 hx55 hL55 hle55 hv55
   replace hel45 := hel45.mono (gz_mono hH hle55)
   obtain ⟨hk57, h⟩ := Go.L.chk_some h
   refine S_appE (r := .st) (l := l45) (m := [(a0.2.getD s9_46.toNat default).1]) 1 rfl rfl underlying36 zr9 rfl (by decide) rfl hH hL55 rfl hel45 hv55 hk57 ?_
   intro v56 w56 xs56 hL56 hle56 he56
   replace hv55 := hv55.mono (gz_mono hH hle56)
   refine S_pu 1 rfl ?_
   refine S_nil ?_
   refine At_block ?_
   refine At_seq ?_
   refine W_region ?_
   obtain ⟨hk58, h⟩ := Go.L.chk_some h
   refine S_v (r_ar64 rfl rfl rfl hk58) rfl ?_
   refine S_pu 1 rfl ?_
   refine S_nil ?_
   have hL59 := hL56.dropAt (i := 0) rfl
   replace he56 := he56.mono (gz_mono hH (fz_dropAt (i := 0) rfl))
   have h := Go.L.Nxt.again h hm47
   refine At_round ((l45 ++ [(a0.2.getD s9_46.toNat default).1]), (s9_46 + (1 : Int)), v56, xs56, n47) (.cons rfl (.cons rfl (.cons rfl (.cons rfl (Sub.nil _))))) ⟨hL59, he56, h⟩ (Nat.lt_succ_self _)
  ·replace h := Go.L.ite_n hc49 h
   refine W_exit ?_
   refine At_seq_exit ?_
   refine At_loop_exit ?_
   replace h := Go.L.Nxt.out h hm47
   refine At_exit ?_
   refine At_cut (l45, vl45, xsl45) (.cons rfl (Sub.nil _)) ⟨hL47, hel45, h⟩
 ·rintro ⟨l30, vl30, xsl30⟩ wr31 ⟨hL31, hel30, h⟩
  refine W_pz 2 rfl ?_
  refine W_ret ?_
  obtain rfl := Option.some.inj h
  refine At_body rfl rfl ?_
  exact ⟨hL31.ext, _, rfl, (hL31.ownH hH (i := 0) rfl hel30)⟩

noncomputable def slices_Index_int_int_k1 : Option (Int) :=
 some ((-1 : Int))
noncomputable def slices_Index_int_int_bl2 (a0 : List Int) (a1 : Int) : Int → Option ((Int) ⊕ (Int)) := fun s8_25 =>
 if s8_25 < (a0.length : Int) then Go.L.chk (0 ≤ s8_25 ∧ s8_25 < (a0.length : Int)) (if a1 = a0.getD s8_25.toNat default then Option.map Sum.inr (some (s8_25)) else Go.L.chk (Go.L.I64 (s8_25 + (1 : Int))) (some (Sum.inl (s8_25 + (1 : Int))))) else Option.map Sum.inr (slices_Index_int_int_k1)
noncomputable def slices_Index_int_int_l2 (a0 : List Int) (a1 : Int) (s : Int) : Option (Int) := Go.L.run (slices_Index_int_int_bl2 a0 a1) s
noncomputable def slices_Index_int_int (a0 : List Int) (a1 : Int) : Option (Int) :=
 (slices_Index_int_int_l2 a0 a1) (0 : Int)

theorem slices_Index_int_int_ok (w : World) (H : PH) (hH : Le H (hp w)) {a0 : List Int} {a1 : Int} {v0_0 : Value} (h0_0 : Vec (.int .i64) H v0_0 (a0)) {r : Int} (h : slices_Index_int_int a0 a1 = some r) :
  Ok Tryz.prog 76 [v0_0, .int .i64 a1] w (fun v w' => Ext w w' ∧ v = .int .i64 r) := by
 refine Ok_enter (n := 19) [(0, v0_0), (1, .int .i64 a1)] func76 rfl rfl rfl rfl rfl ?_
 have hL := Lcl.start w
 refine W_pz 1 rfl ?_
 refine W_cut (σ := Unit) (fun (_ : Unit) => []) (fun (_ : Unit) wr => Lcl w [] wr ∧ slices_Index_int_int_k1 = some r) ?_ ?_
 ·refine W_p 1 rfl ?_
  refine S_v (r_len rfl underlying71 h0_0) rfl ?_
  refine S_pz 1 rfl ?_
  refine W_block ?_
  obtain ⟨n26, h⟩ := Go.L.run_some h
  refine W_loop (σ := Int × Nat) (fun ⟨s8_25, n⟩ => [(0, v0_0), (1, .int .i64 a1), (7, .int .i64 (a0.length : Int)), (8, .int .i64 s8_25)]) (fun ⟨s8_25, n⟩ wr => Lcl w [] wr ∧ Go.L.itr (slices_Index_int_int_bl2 a0 a1) n s8_25 = some r) (fun ⟨s8_25, n⟩ => n) ((0 : Int), n26) (.cons rfl (.cons rfl (.cons rfl (.cons rfl (Sub.nil _))))) ⟨hL, h⟩ ?_
  rintro ⟨s8_25, nn26⟩ wr26 ⟨hL26, h⟩
  obtain ⟨n26, e26, rfl, h, hm26⟩ := Go.L.itr_some h
  refine W_pz 1 rfl ?_
  refine W_seq ?_
  refine W_if rfl (fun hc28 => ?_) (fun hc28 => ?_)
  ·replace h := Go.L.ite_p hc28 h
   refine W_skip ?_
   refine At_seq ?_
   refine W_seq ?_
   refine W_block ?_
   refine W_pz 2 rfl ?_
   refine W_p 3 rfl ?_
   obtain ⟨hk31, h⟩ := Go.L.chk_some h
   refine S_index rfl rfl underlying71 zr3 h0_0 s8_25.toNat (Int.toNat_of_nonneg hk31.1).symm (idx_lt hk31) rfl ?_
   rintro p30 _ rfl hp30
   refine S_v (r_load1 rfl underlying3 rfl hp30 (hH.trans hL26.arg)) rfl ?_
   refine S_pz 1 rfl ?_
   refine W_if rfl (fun hc32 => ?_) (fun hc32 => ?_)
   ·replace h := Go.L.ite_p hc32 h
    refine W_pz 2 rfl ?_
    refine W_ret ?_
    refine At_block_ret ?_
    refine At_seq_ret ?_
    refine At_loop_ret ?_
    replace h := Go.L.Nxt.out h hm26
    refine At_block_ret ?_
    refine At_cut_ret ?_
    obtain rfl := Option.some.inj h
    refine At_body rfl rfl ?_
    exact ⟨hL26.ext, rfl⟩
   ·replace h := Go.L.ite_n hc32 h
    refine W_skip ?_
    refine At_block ?_
    refine At_seq ?_
    refine W_region ?_
    obtain ⟨hk35, h⟩ := Go.L.chk_some h
    refine S_v (r_ar64 rfl rfl rfl hk35) rfl ?_
    refine S_pu 1 rfl ?_
    refine S_nil ?_
    have h := Go.L.Nxt.again h hm26
    refine At_round ((s8_25 + (1 : Int)), n26) (.cons rfl (.cons rfl (.cons rfl (.cons rfl (Sub.nil _))))) ⟨hL26, h⟩ (Nat.lt_succ_self _)
  ·replace h := Go.L.ite_n hc28 h
   refine W_exit ?_
   refine At_seq_exit ?_
   refine At_loop_exit ?_
   replace h := Go.L.Nxt.out h hm26
   refine At_exit ?_
   refine At_cut () (Sub.nil _) ⟨hL26, h⟩
 ·rintro _ wr13 ⟨hL13, h⟩
  refine W_pz 1 rfl ?_
  refine W_ret ?_
  obtain rfl := Option.some.inj h
  refine At_body rfl rfl ?_
  exact ⟨hL13.ext, rfl⟩

noncomputable def slices_Contains_int_int (a0 : List Int) (a1 : Int) : Option (Bool) :=
 Option.bind (slices_Index_int_int a0 a1) (fun x1 => some (decide ((0 : Int) ≤ x1)))

theorem slices_Contains_int_int_ok (w : World) (H : PH) (hH : Le H (hp w)) {a0 : List Int} {a1 : Int} {v0_0 : Value} (h0_0 : Vec (.int .i64) H v0_0 (a0)) {r : Bool} (h : slices_Contains_int_int a0 a1 = some r) :
  Ok Tryz.prog 53 [v0_0, .int .i64 a1] w (fun v w' => Ext w w' ∧ v = .bool r) := by
 refine Ok_enter (n := 9) [(0, v0_0), (1, .int .i64 a1)] func53 rfl rfl rfl rfl rfl ?_
 have hL := Lcl.start w
 refine W_pz 1 rfl ?_
 refine W_p 2 rfl ?_
 obtain ⟨x1, hb1, h⟩ := Go.L.bind_some h
 refine S_callL rfl rfl hL (slices_Index_int_int_ok _ _ (gz_le hH hL) (h0_0.mono (gz_left hH)) hb1) ?_
 rintro _ w2 rfl hx2 hL2 hle2
 refine S_pz 2 rfl ?_
 refine W_ret ?_
 obtain rfl := Option.some.inj h
 refine At_body rfl rfl ?_
 exact ⟨hL2.ext, rfl⟩

noncomputable def slices_Index_api_Hit_api_Hit_k1 : Option (Int) :=
 some ((-1 : Int))
noncomputable def slices_Index_api_Hit_api_Hit_bl2 (a0 : List (Int × Int)) (a1 : Int × Int) : Int → Option ((Int) ⊕ (Int)) := fun s8_48 =>
 if s8_48 < (a0.length : Int) then Go.L.chk (0 ≤ s8_48 ∧ s8_48 < (a0.length : Int)) (if a1.1 = (a0.getD s8_48.toNat default).1 ∧ a1.2 = (a0.getD s8_48.toNat default).2 then Option.map Sum.inr (some (s8_48)) else Go.L.chk (Go.L.I64 (s8_48 + (1 : Int))) (some (Sum.inl (s8_48 + (1 : Int))))) else Option.map Sum.inr (slices_Index_api_Hit_api_Hit_k1)
noncomputable def slices_Index_api_Hit_api_Hit_l2 (a0 : List (Int × Int)) (a1 : Int × Int) (s : Int) : Option (Int) := Go.L.run (slices_Index_api_Hit_api_Hit_bl2 a0 a1) s
noncomputable def slices_Index_api_Hit_api_Hit (a0 : List (Int × Int)) (a1 : Int × Int) : Option (Int) :=
 (slices_Index_api_Hit_api_Hit_l2 a0 a1) (0 : Int)

theorem slices_Index_api_Hit_api_Hit_ok (w : World) (H : PH) (hH : Le H (hp w)) {a0 : List (Int × Int)} {a1 : Int × Int} {v0_0 : Value} (h0_0 : Vec (.pair (.int .i64) (.int .i64)) H v0_0 (a0)) {r : Int} (h : slices_Index_api_Hit_api_Hit a0 a1 = some r) :
  Ok Tryz.prog 74 [v0_0, .agg #[.int .i64 a1.1, .int .i64 a1.2]] w (fun v w' => Ext w w' ∧ v = .int .i64 r) := by
 refine Ok_enter (n := 19) [(0, v0_0), (1, .agg #[.int .i64 a1.1, .int .i64 a1.2])] func74 rfl rfl rfl rfl rfl ?_
 have hL := Lcl.start w
 refine W_seqr ?_
 refine S_box (t := 64) rfl rfl rfl hL ?_
 intro w1 b1 hL1 hle1 _
 refine S_pz 1 rfl ?_
 refine W_cut (σ := Unit) (fun (_ : Unit) => []) (fun (_ : Unit) wr => Lcl w [.box b1 [.int .i64 a1.1, .int .i64 a1.2] 64] wr ∧ slices_Index_api_Hit_api_Hit_k1 = some r) ?_ ?_
 ·refine W_p 1 rfl ?_
  refine S_v (r_len rfl underlying40 h0_0) rfl ?_
  refine S_pz 1 rfl ?_
  refine W_block ?_
  obtain ⟨n49, h⟩ := Go.L.run_some h
  refine W_loop (σ := Int × Nat) (fun ⟨s8_48, n⟩ => [(0, v0_0), (3, .pointer (some ⟨b1, 0, none⟩)), (7, .int .i64 (a0.length : Int)), (8, .int .i64 s8_48)]) (fun ⟨s8_48, n⟩ wr => Lcl w [.box b1 [.int .i64 a1.1, .int .i64 a1.2] 64] wr ∧ Go.L.itr (slices_Index_api_Hit_api_Hit_bl2 a0 a1) n s8_48 = some r) (fun ⟨s8_48, n⟩ => n) ((0 : Int), n49) (.cons rfl (.cons rfl (.cons rfl (.cons rfl (Sub.nil _))))) ⟨hL1, h⟩ ?_
  rintro ⟨s8_48, nn49⟩ wr49 ⟨hL49, h⟩
  obtain ⟨n49, e49, rfl, h, hm49⟩ := Go.L.itr_some h
  refine W_pz 1 rfl ?_
  refine W_seq ?_
  refine W_if rfl (fun hc51 => ?_) (fun hc51 => ?_)
  ·replace h := Go.L.ite_p hc51 h
   refine W_skip ?_
   refine At_seq ?_
   refine W_seq ?_
   refine W_block ?_
   refine W_pz 2 rfl ?_
   refine W_seqd (.q 0 (.q 1 (.q 2 (.q 3 (.q 4 (.q 5 (.tail 6))))))) mixed (by kernel_rfl) (fun w53 hx53 => ?_)
   have hL54 := hL49.call hx53
   refine D_v (r_loadBN 0 rfl underlying64 rfl zr64 hL54 rfl) rfl rfl ?_
   refine D_pu 2 rfl ?_
   obtain ⟨hk56, h⟩ := Go.L.chk_some h
   refine D_index rfl rfl rfl underlying40 zr64 h0_0 s8_48.toNat (Int.toNat_of_nonneg hk56.1).symm (idx_lt hk56) rfl ?_
   rintro p55 _ ⟨_, _, rfl, rfl, rfl⟩ hp55
   refine D_v (r_loadN rfl underlying64 rfl zr64 hp55 (hH.trans hL54.arg)) rfl rfl ?_
   refine D_v (r_eqA rfl rfl eqg64 (eq64 _ _ _ _ )) rfl rfl ?_
   refine D_tail (fun w57 hx57 => ?_)
   have hL58 := hL54.call hx57
   refine S_seqnil ?_
   refine W_if rfl (fun hc59 => ?_) (fun hc59 => ?_)
   ·replace h := Go.L.ite_p hc59 h
    refine W_pz 2 rfl ?_
    refine W_ret ?_
    refine At_block_ret ?_
    refine At_seq_ret ?_
    refine At_loop_ret ?_
    replace h := Go.L.Nxt.out h hm49
    refine At_block_ret ?_
    refine At_cut_ret ?_
    obtain rfl := Option.some.inj h
    refine At_body rfl rfl ?_
    exact ⟨hL58.ext, rfl⟩
   ·replace h := Go.L.ite_n hc59 h
    refine W_skip ?_
    refine At_block ?_
    refine At_seq ?_
    refine W_region ?_
    obtain ⟨hk62, h⟩ := Go.L.chk_some h
    refine S_v (r_ar64 rfl rfl rfl hk62) rfl ?_
    refine S_pu 1 rfl ?_
    refine S_nil ?_
    have h := Go.L.Nxt.again h hm49
    refine At_round ((s8_48 + (1 : Int)), n49) (.cons rfl (.cons rfl (.cons rfl (.cons rfl (Sub.nil _))))) ⟨hL58, h⟩ (Nat.lt_succ_self _)
  ·replace h := Go.L.ite_n hc51 h
   refine W_exit ?_
   refine At_seq_exit ?_
   refine At_loop_exit ?_
   replace h := Go.L.Nxt.out h hm49
   refine At_exit ?_
   refine At_cut () (Sub.nil _) ⟨hL49, h⟩
 ·rintro _ wr32 ⟨hL32, h⟩
  refine W_pz 1 rfl ?_
  refine W_ret ?_
  obtain rfl := Option.some.inj h
  refine At_body rfl rfl ?_
  exact ⟨hL32.ext, rfl⟩

noncomputable def slices_Contains_api_Hit_api_Hit (a0 : List (Int × Int)) (a1 : Int × Int) : Option (Bool) :=
 Option.bind (slices_Index_api_Hit_api_Hit a0 (a1.1, a1.2)) (fun x2 => some (decide ((0 : Int) ≤ x2)))

theorem slices_Contains_api_Hit_api_Hit_ok (w : World) (H : PH) (hH : Le H (hp w)) {a0 : List (Int × Int)} {a1 : Int × Int} {v0_0 : Value} (h0_0 : Vec (.pair (.int .i64) (.int .i64)) H v0_0 (a0)) {r : Bool} (h : slices_Contains_api_Hit_api_Hit a0 a1 = some r) :
  Ok Tryz.prog 50 [v0_0, .agg #[.int .i64 a1.1, .int .i64 a1.2]] w (fun v w' => Ext w w' ∧ v = .bool r) := by
 refine Ok_enter (n := 9) [(0, v0_0), (1, .agg #[.int .i64 a1.1, .int .i64 a1.2])] func50 rfl rfl rfl rfl rfl ?_
 have hL := Lcl.start w
 refine W_seqr ?_
 refine S_box (t := 64) rfl rfl rfl hL ?_
 intro w1 b1 hL1 hle1 _
 refine S_pz 1 rfl ?_
 refine W_p 1 rfl ?_
 refine S_v (r_loadBN 0 rfl underlying64 rfl zr64 hL1 rfl) rfl ?_
 obtain ⟨x2, hb2, h⟩ := Go.L.bind_some h
 refine S_callL rfl rfl hL1 (slices_Index_api_Hit_api_Hit_ok _ _ (gz_le hH hL1) (h0_0.mono (gz_left hH)) hb2) ?_
 rintro _ w3 rfl hx3 hL3 hle3
 refine S_pz 2 rfl ?_
 refine W_ret ?_
 obtain rfl := Option.some.inj h
 refine At_body rfl rfl ?_
 exact ⟨hL3.ext, rfl⟩

noncomputable def slices_Clone_byte_byte (a0 : List UInt8) : Option ((List UInt8)) :=
 Go.L.chk (Go.E.Cap 1 (([] : List UInt8).length + a0.length)) (some ((([] : List UInt8) ++ a0)))

theorem slices_Clone_byte_byte_ok (w : World) (H : PH) (hH : Le H (hp w)) {a0 : List UInt8} {v0_0 : Value} (h0_0 : Vec .byte H v0_0 (a0)) {r : (List UInt8)} (h : slices_Clone_byte_byte a0 = some r) :
  Ok Tryz.prog 21 [v0_0] w (fun v w' => Ext w w' ∧ ∃ u0, v = u0 ∧ OwnH 5 .byte H w w' u0 (r)) := by
 refine Ok_enter (n := 8) [(0, v0_0)] func21 rfl rfl rfl rfl rfl ?_
 have hL := Lcl.start w
 refine W_pz 1 rfl ?_
 refine W_seq ?_
 refine W_p 1 rfl ?_
 rcases nil_or h0_0 with ⟨rfl, rfl⟩ | hnn
 ·refine S_v (r_nilT rfl rfl underlying22) rfl ?_
  refine S_seqnil ?_
  refine W_true rfl ?_
  refine W_pz 1 rfl ?_
  refine W_ret ?_
  obtain ⟨_, h⟩ := Go.L.chk_some h
  obtain rfl := Option.some.inj h
  refine At_seq_ret ?_
  refine At_body rfl rfl ?_
  exact ⟨hL.ext, _, rfl, ownNil _ hL hH⟩
 refine S_v (r_nilF rfl rfl underlying22 hnn) rfl ?_
 refine S_seqnil ?_
 refine W_false rfl ?_
 refine W_skip ?_
 refine At_seq ?_
 refine W_seqr ?_
 refine S_litO (r := .byte) (l := ([] : List UInt8)) rfl (fun _ => bsl22_0 _) rfl (show 0 ≤ 9223372036854775807 by decide) hH hL .nil ?_
 intro v1 w1 xs1 hL1 hle1 he1
 refine S_pu 1 rfl ?_
 obtain ⟨hk3, h⟩ := Go.L.chk_some h
 refine S_appE (r := .byte) (l := ([] : List UInt8)) (m := a0) 0 rfl rfl underlying22 zr5 rfl (by decide) rfl hH hL1 rfl he1 (h0_0.mono (gz_left hH)) hk3 ?_
 intro v2 w2 xs2 hL2 hle2 he2
 refine S_pz 1 rfl ?_
 refine W_ret ?_
 obtain rfl := Option.some.inj h
 refine At_body rfl rfl ?_
 exact ⟨hL2.ext, _, rfl, (hL2.ownH hH (i := 0) rfl he2)⟩

noncomputable def slices_Clone_api_Hit_api_Hit (a0 : List (Int × Int)) : Option ((List (Int × Int))) :=
 Go.L.chk (Go.E.Cap 16 (([] : List (Int × Int)).length + a0.length)) (some ((([] : List (Int × Int)) ++ a0)))

theorem slices_Clone_api_Hit_api_Hit_ok (w : World) (H : PH) (hH : Le H (hp w)) {a0 : List (Int × Int)} {v0_0 : Value} (h0_0 : Vec (.pair (.int .i64) (.int .i64)) H v0_0 (a0)) {r : (List (Int × Int))} (h : slices_Clone_api_Hit_api_Hit a0 = some r) :
  Ok Tryz.prog 41 [v0_0] w (fun v w' => Ext w w' ∧ ∃ u0, v = u0 ∧ OwnH 64 (.pair (.int .i64) (.int .i64)) H w w' u0 (r)) := by
 refine Ok_enter (n := 8) [(0, v0_0)] func41 rfl rfl rfl rfl rfl ?_
 have hL := Lcl.start w
 refine W_pz 1 rfl ?_
 refine W_seq ?_
 refine W_p 1 rfl ?_
 rcases nil_or h0_0 with ⟨rfl, rfl⟩ | hnn
 ·refine S_v (r_nilT rfl rfl underlying40) rfl ?_
  refine S_seqnil ?_
  refine W_true rfl ?_
  refine W_pz 1 rfl ?_
  refine W_ret ?_
  obtain ⟨_, h⟩ := Go.L.chk_some h
  obtain rfl := Option.some.inj h
  refine At_seq_ret ?_
  refine At_body rfl rfl ?_
  exact ⟨hL.ext, _, rfl, ownNil _ hL hH⟩
 refine S_v (r_nilF rfl rfl underlying40 hnn) rfl ?_
 refine S_seqnil ?_
 refine W_false rfl ?_
 refine W_skip ?_
 refine At_seq ?_
 refine W_seqr ?_
 refine S_litO (r := (.pair (.int .i64) (.int .i64))) (l := ([] : List (Int × Int))) rfl (fun _ => bsl40_0 _) rfl (show 0 ≤ 9223372036854775807 by decide) hH hL .nil ?_
 intro v1 w1 xs1 hL1 hle1 he1
 refine S_pu 1 rfl ?_
 obtain ⟨hk3, h⟩ := Go.L.chk_some h
 refine S_appE (r := (.pair (.int .i64) (.int .i64))) (l := ([] : List (Int × Int))) (m := a0) 0 rfl rfl underlying40 zr64 rfl (by decide) rfl hH hL1 rfl he1 (h0_0.mono (gz_left hH)) hk3 ?_
 intro v2 w2 xs2 hL2 hle2 he2
 refine S_pz 1 rfl ?_
 refine W_ret ?_
 obtain rfl := Option.some.inj h
 refine At_body rfl rfl ?_
 exact ⟨hL2.ext, _, rfl, (hL2.ownH hH (i := 0) rfl he2)⟩

noncomputable def math_bits_Len64_k3 (s0_32 : Int) (s2_33 : Int) : Option (Int) :=
 Go.L.chk (0 ≤ ((Go.L.u8 s0_32).toNat : Int) ∧ ((Go.L.u8 s0_32).toNat : Int) < (([0, 1, 2, 2, 3, 3, 3, 3, 4, 4, 4, 4, 4, 4, 4, 4, 5, 5, 5, 5, 5, 5, 5, 5, 5, 5, 5, 5, 5, 5, 5, 5, 6, 6, 6, 6, 6, 6, 6, 6, 6, 6, 6, 6, 6, 6, 6, 6, 6, 6, 6, 6, 6, 6, 6, 6, 6, 6, 6, 6, 6, 6, 6, 6, 7, 7, 7, 7, 7, 7, 7, 7, 7, 7, 7, 7, 7, 7, 7, 7, 7, 7, 7, 7, 7, 7, 7, 7, 7, 7, 7, 7, 7, 7, 7, 7, 7, 7, 7, 7, 7, 7, 7, 7, 7, 7, 7, 7, 7, 7, 7, 7, 7, 7, 7, 7, 7, 7, 7, 7, 7, 7, 7, 7, 7, 7, 7, 7, 8, 8, 8, 8, 8, 8, 8, 8, 8, 8, 8, 8, 8, 8, 8, 8, 8, 8, 8, 8, 8, 8, 8, 8, 8, 8, 8, 8, 8, 8, 8, 8, 8, 8, 8, 8, 8, 8, 8, 8, 8, 8, 8, 8, 8, 8, 8, 8, 8, 8, 8, 8, 8, 8, 8, 8, 8, 8, 8, 8, 8, 8, 8, 8, 8, 8, 8, 8, 8, 8, 8, 8, 8, 8, 8, 8, 8, 8, 8, 8, 8, 8, 8, 8, 8, 8, 8, 8, 8, 8, 8, 8, 8, 8, 8, 8, 8, 8, 8, 8, 8, 8, 8, 8, 8, 8, 8, 8, 8, 8, 8, 8, 8, 8, 8, 8, 8, 8, 8, 8, 8, 8, 8, 8, 8, 8, 8, 8] : List UInt8).length : Int)) (Go.L.chk (Go.L.I64 (s2_33 + ((([0, 1, 2, 2, 3, 3, 3, 3, 4, 4, 4, 4, 4, 4, 4, 4, 5, 5, 5, 5, 5, 5, 5, 5, 5, 5, 5, 5, 5, 5, 5, 5, 6, 6, 6, 6, 6, 6, 6, 6, 6, 6, 6, 6, 6, 6, 6, 6, 6, 6, 6, 6, 6, 6, 6, 6, 6, 6, 6, 6, 6, 6, 6, 6, 7, 7, 7, 7, 7, 7, 7, 7, 7, 7, 7, 7, 7, 7, 7, 7, 7, 7, 7, 7, 7, 7, 7, 7, 7, 7, 7, 7, 7, 7, 7, 7, 7, 7, 7, 7, 7, 7, 7, 7, 7, 7, 7, 7, 7, 7, 7, 7, 7, 7, 7, 7, 7, 7, 7, 7, 7, 7, 7, 7, 7, 7, 7, 7, 8, 8, 8, 8, 8, 8, 8, 8, 8, 8, 8, 8, 8, 8, 8, 8, 8, 8, 8, 8, 8, 8, 8, 8, 8, 8, 8, 8, 8, 8, 8, 8, 8, 8, 8, 8, 8, 8, 8, 8, 8, 8, 8, 8, 8, 8, 8, 8, 8, 8, 8, 8, 8, 8, 8, 8, 8, 8, 8, 8, 8, 8, 8, 8, 8, 8, 8, 8, 8, 8, 8, 8, 8, 8, 8, 8, 8, 8, 8, 8, 8, 8, 8, 8, 8, 8, 8, 8, 8, 8, 8, 8, 8, 8, 8, 8, 8, 8, 8, 8, 8, 8, 8, 8, 8, 8, 8, 8, 8, 8, 8, 8, 8, 8, 8, 8, 8, 8, 8, 8, 8, 8, 8, 8, 8, 8, 8, 8] : List UInt8).getD ((Go.L.u8 s0_32).toNat : Int).toNat default).toNat : Int))) (some ((s2_33 + ((([0, 1, 2, 2, 3, 3, 3, 3, 4, 4, 4, 4, 4, 4, 4, 4, 5, 5, 5, 5, 5, 5, 5, 5, 5, 5, 5, 5, 5, 5, 5, 5, 6, 6, 6, 6, 6, 6, 6, 6, 6, 6, 6, 6, 6, 6, 6, 6, 6, 6, 6, 6, 6, 6, 6, 6, 6, 6, 6, 6, 6, 6, 6, 6, 7, 7, 7, 7, 7, 7, 7, 7, 7, 7, 7, 7, 7, 7, 7, 7, 7, 7, 7, 7, 7, 7, 7, 7, 7, 7, 7, 7, 7, 7, 7, 7, 7, 7, 7, 7, 7, 7, 7, 7, 7, 7, 7, 7, 7, 7, 7, 7, 7, 7, 7, 7, 7, 7, 7, 7, 7, 7, 7, 7, 7, 7, 7, 7, 8, 8, 8, 8, 8, 8, 8, 8, 8, 8, 8, 8, 8, 8, 8, 8, 8, 8, 8, 8, 8, 8, 8, 8, 8, 8, 8, 8, 8, 8, 8, 8, 8, 8, 8, 8, 8, 8, 8, 8, 8, 8, 8, 8, 8, 8, 8, 8, 8, 8, 8, 8, 8, 8, 8, 8, 8, 8, 8, 8, 8, 8, 8, 8, 8, 8, 8, 8, 8, 8, 8, 8, 8, 8, 8, 8, 8, 8, 8, 8, 8, 8, 8, 8, 8, 8, 8, 8, 8, 8, 8, 8, 8, 8, 8, 8, 8, 8, 8, 8, 8, 8, 8, 8, 8, 8, 8, 8, 8, 8, 8, 8, 8, 8, 8, 8, 8, 8, 8, 8, 8, 8, 8, 8, 8, 8, 8, 8] : List UInt8).getD ((Go.L.u8 s0_32).toNat : Int).toNat default).toNat : Int)))))
noncomputable def math_bits_Len64_k2 (s0_18 : Int) (s2_19 : Int) : Option (Int) :=
 if (256 : Int) ≤ s0_18 then Go.L.chk (Go.L.I64 (s2_19 + (8 : Int))) (math_bits_Len64_k3 (s0_18 / 256) (s2_19 + (8 : Int))) else math_bits_Len64_k3 s0_18 s2_19
noncomputable def math_bits_Len64_k1 (s0_5 : Int) (s2_6 : Int) : Option (Int) :=
 if (65536 : Int) ≤ s0_5 then Go.L.chk (Go.L.I64 (s2_6 + (16 : Int))) (math_bits_Len64_k2 (s0_5 / 65536) (s2_6 + (16 : Int))) else math_bits_Len64_k2 s0_5 s2_6
noncomputable def math_bits_Len64 (a0 : Int) : Option (Int) :=
 if (4294967296 : Int) ≤ a0 then math_bits_Len64_k1 (a0 / 4294967296) (32 : Int) else math_bits_Len64_k1 a0 (0 : Int)

theorem math_bits_Len64_ok (w : World) (H : PH) (_hH : Le H (hp w)) {a0 : Int}   {r : Int} (h : math_bits_Len64 a0 = some r) :
  Ok Tryz.prog 83 [.int .u64 a0] w (fun v w' => Ext w w' ∧ v = .int .i64 r) := by
 refine Ok_enter (n := 25) [(0, .int .u64 a0)] func83 rfl rfl rfl rfl rfl ?_
 have hL := Lcl.start w
 refine W_pz 1 rfl ?_
 refine W_cut (σ := Int × Int) (fun ⟨s0_5, s2_6⟩ => [(0, .int .u64 s0_5), (2, .int .i64 s2_6)]) (fun ⟨s0_5, s2_6⟩ wr => Lcl w [] wr ∧ math_bits_Len64_k1 s0_5 s2_6 = some r) ?_ ?_
 ·refine W_pz 2 rfl ?_
  refine W_if rfl (fun hc9 => ?_) (fun hc9 => ?_)
  ·replace h := Go.L.ite_p hc9 h
   refine W_p 1 rfl ?_
   refine S_v (r_shr (c := 32) (m := 4294967296) rfl rfl rfl (by decide)) rfl ?_
   refine S_pz 1 rfl ?_
   refine W_region ?_
   refine S_pu 1 rfl ?_
   refine S_nil ?_
   refine At_cut ((a0 / 4294967296), (32 : Int)) (.cons rfl (.cons rfl (Sub.nil _))) ⟨hL, h⟩
  ·replace h := Go.L.ite_n hc9 h
   refine W_skip ?_
   refine At_cut (a0, (0 : Int)) (.cons rfl (.cons rfl (Sub.nil _))) ⟨hL, h⟩
 ·rintro ⟨s0_5, s2_6⟩ wr7 ⟨hL7, h⟩
  refine W_cut (σ := Int × Int) (fun ⟨s0_18, s2_19⟩ => [(0, .int .u64 s0_18), (2, .int .i64 s2_19)]) (fun ⟨s0_18, s2_19⟩ wr => Lcl w [] wr ∧ math_bits_Len64_k2 s0_18 s2_19 = some r) ?_ ?_
  ·refine W_pz 2 rfl ?_
   refine W_if rfl (fun hc22 => ?_) (fun hc22 => ?_)
   ·replace h := Go.L.ite_p hc22 h
    refine W_p 1 rfl ?_
    refine S_v (r_shr (c := 16) (m := 65536) rfl rfl rfl (by decide)) rfl ?_
    refine S_pz 1 rfl ?_
    refine W_region ?_
    refine S_pu 1 rfl ?_
    obtain ⟨hk24, h⟩ := Go.L.chk_some h
    refine S_v (r_ar64 rfl rfl rfl hk24) rfl ?_
    refine S_pu 1 rfl ?_
    refine S_nil ?_
    refine At_cut ((s0_5 / 65536), (s2_6 + (16 : Int))) (.cons rfl (.cons rfl (Sub.nil _))) ⟨hL7, h⟩
   ·replace h := Go.L.ite_n hc22 h
    refine W_skip ?_
    refine At_cut (s0_5, s2_6) (.cons rfl (.cons rfl (Sub.nil _))) ⟨hL7, h⟩
  ·rintro ⟨s0_18, s2_19⟩ wr20 ⟨hL20, h⟩
   refine W_cut (σ := Int × Int) (fun ⟨s0_32, s2_33⟩ => [(0, .int .u64 s0_32), (2, .int .i64 s2_33)]) (fun ⟨s0_32, s2_33⟩ wr => Lcl w [] wr ∧ math_bits_Len64_k3 s0_32 s2_33 = some r) ?_ ?_
   ·refine W_pz 2 rfl ?_
    refine W_if rfl (fun hc36 => ?_) (fun hc36 => ?_)
    ·replace h := Go.L.ite_p hc36 h
     refine W_p 1 rfl ?_
     refine S_v (r_shr (c := 8) (m := 256) rfl rfl rfl (by decide)) rfl ?_
     refine S_pz 1 rfl ?_
     refine W_region ?_
     refine S_pu 1 rfl ?_
     obtain ⟨hk38, h⟩ := Go.L.chk_some h
     refine S_v (r_ar64 rfl rfl rfl hk38) rfl ?_
     refine S_pu 1 rfl ?_
     refine S_nil ?_
     refine At_cut ((s0_18 / 256), (s2_19 + (8 : Int))) (.cons rfl (.cons rfl (Sub.nil _))) ⟨hL20, h⟩
    ·replace h := Go.L.ite_n hc36 h
     refine W_skip ?_
     refine At_cut (s0_18, s2_19) (.cons rfl (.cons rfl (Sub.nil _))) ⟨hL20, h⟩
   ·rintro ⟨s0_32, s2_33⟩ wr34 ⟨hL34, h⟩
    refine W_p 2 rfl ?_
    refine S_v (r_conv underlying145 underlying5 rfl (conv_64_u8 _)) rfl ?_
    obtain ⟨hk41, h⟩ := Go.L.chk_some h
    refine S_v (r_sidx rfl rfl underlying9 hk41) rfl ?_
    refine S_v (r_conv underlying5 underlying3 rfl (conv_8_64 _)) rfl ?_
    obtain ⟨hk42, h⟩ := Go.L.chk_some h
    refine S_v (r_ar64 rfl rfl rfl hk42) rfl ?_
    refine S_pz 1 rfl ?_
    refine W_ret ?_
    obtain rfl := Option.some.inj h
    refine At_body rfl rfl ?_
    exact ⟨hL34.ext, rfl⟩

noncomputable def math_bits_Len32_k2 (s0_18 : Int) (s2_19 : Int) : Option (Int) :=
 Go.L.chk (0 ≤ ((Go.L.u8 s0_18).toNat : Int) ∧ ((Go.L.u8 s0_18).toNat : Int) < (([0, 1, 2, 2, 3, 3, 3, 3, 4, 4, 4, 4, 4, 4, 4, 4, 5, 5, 5, 5, 5, 5, 5, 5, 5, 5, 5, 5, 5, 5, 5, 5, 6, 6, 6, 6, 6, 6, 6, 6, 6, 6, 6, 6, 6, 6, 6, 6, 6, 6, 6, 6, 6, 6, 6, 6, 6, 6, 6, 6, 6, 6, 6, 6, 7, 7, 7, 7, 7, 7, 7, 7, 7, 7, 7, 7, 7, 7, 7, 7, 7, 7, 7, 7, 7, 7, 7, 7, 7, 7, 7, 7, 7, 7, 7, 7, 7, 7, 7, 7, 7, 7, 7, 7, 7, 7, 7, 7, 7, 7, 7, 7, 7, 7, 7, 7, 7, 7, 7, 7, 7, 7, 7, 7, 7, 7, 7, 7, 8, 8, 8, 8, 8, 8, 8, 8, 8, 8, 8, 8, 8, 8, 8, 8, 8, 8, 8, 8, 8, 8, 8, 8, 8, 8, 8, 8, 8, 8, 8, 8, 8, 8, 8, 8, 8, 8, 8, 8, 8, 8, 8, 8, 8, 8, 8, 8, 8, 8, 8, 8, 8, 8, 8, 8, 8, 8, 8, 8, 8, 8, 8, 8, 8, 8, 8, 8, 8, 8, 8, 8, 8, 8, 8, 8, 8, 8, 8, 8, 8, 8, 8, 8, 8, 8, 8, 8, 8, 8, 8, 8, 8, 8, 8, 8, 8, 8, 8, 8, 8, 8, 8, 8, 8, 8, 8, 8, 8, 8, 8, 8, 8, 8, 8, 8, 8, 8, 8, 8, 8, 8, 8, 8, 8, 8, 8, 8] : List UInt8).length : Int)) (Go.L.chk (Go.L.I64 (s2_19 + ((([0, 1, 2, 2, 3, 3, 3, 3, 4, 4, 4, 4, 4, 4, 4, 4, 5, 5, 5, 5, 5, 5, 5, 5, 5, 5, 5, 5, 5, 5, 5, 5, 6, 6, 6, 6, 6, 6, 6, 6, 6, 6, 6, 6, 6, 6, 6, 6, 6, 6, 6, 6, 6, 6, 6, 6, 6, 6, 6, 6, 6, 6, 6, 6, 7, 7, 7, 7, 7, 7, 7, 7, 7, 7, 7, 7, 7, 7, 7, 7, 7, 7, 7, 7, 7, 7, 7, 7, 7, 7, 7, 7, 7, 7, 7, 7, 7, 7, 7, 7, 7, 7, 7, 7, 7, 7, 7, 7, 7, 7, 7, 7, 7, 7, 7, 7, 7, 7, 7, 7, 7, 7, 7, 7, 7, 7, 7, 7, 8, 8, 8, 8, 8, 8, 8, 8, 8, 8, 8, 8, 8, 8, 8, 8, 8, 8, 8, 8, 8, 8, 8, 8, 8, 8, 8, 8, 8, 8, 8, 8, 8, 8, 8, 8, 8, 8, 8, 8, 8, 8, 8, 8, 8, 8, 8, 8, 8, 8, 8, 8, 8, 8, 8, 8, 8, 8, 8, 8, 8, 8, 8, 8, 8, 8, 8, 8, 8, 8, 8, 8, 8, 8, 8, 8, 8, 8, 8, 8, 8, 8, 8, 8, 8, 8, 8, 8, 8, 8, 8, 8, 8, 8, 8, 8, 8, 8, 8, 8, 8, 8, 8, 8, 8, 8, 8, 8, 8, 8, 8, 8, 8, 8, 8, 8, 8, 8, 8, 8, 8, 8, 8, 8, 8, 8, 8, 8] : List UInt8).getD ((Go.L.u8 s0_18).toNat : Int).toNat default).toNat : Int))) (some ((s2_19 + ((([0, 1, 2, 2, 3, 3, 3, 3, 4, 4, 4, 4, 4, 4, 4, 4, 5, 5, 5, 5, 5, 5, 5, 5, 5, 5, 5, 5, 5, 5, 5, 5, 6, 6, 6, 6, 6, 6, 6, 6, 6, 6, 6, 6, 6, 6, 6, 6, 6, 6, 6, 6, 6, 6, 6, 6, 6, 6, 6, 6, 6, 6, 6, 6, 7, 7, 7, 7, 7, 7, 7, 7, 7, 7, 7, 7, 7, 7, 7, 7, 7, 7, 7, 7, 7, 7, 7, 7, 7, 7, 7, 7, 7, 7, 7, 7, 7, 7, 7, 7, 7, 7, 7, 7, 7, 7, 7, 7, 7, 7, 7, 7, 7, 7, 7, 7, 7, 7, 7, 7, 7, 7, 7, 7, 7, 7, 7, 7, 8, 8, 8, 8, 8, 8, 8, 8, 8, 8, 8, 8, 8, 8, 8, 8, 8, 8, 8, 8, 8, 8, 8, 8, 8, 8, 8, 8, 8, 8, 8, 8, 8, 8, 8, 8, 8, 8, 8, 8, 8, 8, 8, 8, 8, 8, 8, 8, 8, 8, 8, 8, 8, 8, 8, 8, 8, 8, 8, 8, 8, 8, 8, 8, 8, 8, 8, 8, 8, 8, 8, 8, 8, 8, 8, 8, 8, 8, 8, 8, 8, 8, 8, 8, 8, 8, 8, 8, 8, 8, 8, 8, 8, 8, 8, 8, 8, 8, 8, 8, 8, 8, 8, 8, 8, 8, 8, 8, 8, 8, 8, 8, 8, 8, 8, 8, 8, 8, 8, 8, 8, 8, 8, 8, 8, 8, 8, 8] : List UInt8).getD ((Go.L.u8 s0_18).toNat : Int).toNat default).toNat : Int)))))
noncomputable def math_bits_Len32_k1 (s0_5 : Int) (s2_6 : Int) : Option (Int) :=
 if (256 : Int) ≤ s0_5 then Go.L.chk (Go.L.I64 (s2_6 + (8 : Int))) (math_bits_Len32_k2 (s0_5 / 256) (s2_6 + (8 : Int))) else math_bits_Len32_k2 s0_5 s2_6
noncomputable def math_bits_Len32 (a0 : Int) : Option (Int) :=
 if (65536 : Int) ≤ a0 then math_bits_Len32_k1 (a0 / 65536) (16 : Int) else math_bits_Len32_k1 a0 (0 : Int)

theorem math_bits_Len32_ok (w : World) (H : PH) (_hH : Le H (hp w)) {a0 : Int}   {r : Int} (h : math_bits_Len32 a0 = some r) :
  Ok Tryz.prog 82 [.int .u32 a0] w (fun v w' => Ext w w' ∧ v = .int .i64 r) := by
 refine Ok_enter (n := 19) [(0, .int .u32 a0)] func82 rfl rfl rfl rfl rfl ?_
 have hL := Lcl.start w
 refine W_pz 1 rfl ?_
 refine W_cut (σ := Int × Int) (fun ⟨s0_5, s2_6⟩ => [(0, .int .u32 s0_5), (2, .int .i64 s2_6)]) (fun ⟨s0_5, s2_6⟩ wr => Lcl w [] wr ∧ math_bits_Len32_k1 s0_5 s2_6 = some r) ?_ ?_
 ·refine W_pz 2 rfl ?_
  refine W_if rfl (fun hc9 => ?_) (fun hc9 => ?_)
  ·replace h := Go.L.ite_p hc9 h
   refine W_p 1 rfl ?_
   refine S_v (r_shr (c := 16) (m := 65536) rfl rfl rfl (by decide)) rfl ?_
   refine S_pz 1 rfl ?_
   refine W_region ?_
   refine S_pu 1 rfl ?_
   refine S_nil ?_
   refine At_cut ((a0 / 65536), (16 : Int)) (.cons rfl (.cons rfl (Sub.nil _))) ⟨hL, h⟩
  ·replace h := Go.L.ite_n hc9 h
   refine W_skip ?_
   refine At_cut (a0, (0 : Int)) (.cons rfl (.cons rfl (Sub.nil _))) ⟨hL, h⟩
 ·rintro ⟨s0_5, s2_6⟩ wr7 ⟨hL7, h⟩
  refine W_cut (σ := Int × Int) (fun ⟨s0_18, s2_19⟩ => [(0, .int .u32 s0_18), (2, .int .i64 s2_19)]) (fun ⟨s0_18, s2_19⟩ wr => Lcl w [] wr ∧ math_bits_Len32_k2 s0_18 s2_19 = some r) ?_ ?_
  ·refine W_pz 2 rfl ?_
   refine W_if rfl (fun hc22 => ?_) (fun hc22 => ?_)
   ·replace h := Go.L.ite_p hc22 h
    refine W_p 1 rfl ?_
    refine S_v (r_shr (c := 8) (m := 256) rfl rfl rfl (by decide)) rfl ?_
    refine S_pz 1 rfl ?_
    refine W_region ?_
    refine S_pu 1 rfl ?_
    obtain ⟨hk24, h⟩ := Go.L.chk_some h
    refine S_v (r_ar64 rfl rfl rfl hk24) rfl ?_
    refine S_pu 1 rfl ?_
    refine S_nil ?_
    refine At_cut ((s0_5 / 256), (s2_6 + (8 : Int))) (.cons rfl (.cons rfl (Sub.nil _))) ⟨hL7, h⟩
   ·replace h := Go.L.ite_n hc22 h
    refine W_skip ?_
    refine At_cut (s0_5, s2_6) (.cons rfl (.cons rfl (Sub.nil _))) ⟨hL7, h⟩
  ·rintro ⟨s0_18, s2_19⟩ wr20 ⟨hL20, h⟩
   refine W_p 2 rfl ?_
   refine S_v (r_conv underlying143 underlying5 rfl (conv_64_u8 _)) rfl ?_
   obtain ⟨hk27, h⟩ := Go.L.chk_some h
   refine S_v (r_sidx rfl rfl underlying9 hk27) rfl ?_
   refine S_v (r_conv underlying5 underlying3 rfl (conv_8_64 _)) rfl ?_
   obtain ⟨hk28, h⟩ := Go.L.chk_some h
   refine S_v (r_ar64 rfl rfl rfl hk28) rfl ?_
   refine S_pz 1 rfl ?_
   refine W_ret ?_
   obtain rfl := Option.some.inj h
   refine At_body rfl rfl ?_
   exact ⟨hL20.ext, rfl⟩

noncomputable def math_bits_Len (a0 : Int) : Option (Int) :=
 Option.bind (math_bits_Len64 a0) (fun x1 => some (x1))

theorem math_bits_Len_ok (w : World) (H : PH) (hH : Le H (hp w)) {a0 : Int}   {r : Int} (h : math_bits_Len a0 = some r) :
  Ok Tryz.prog 59 [.int .u64 a0] w (fun v w' => Ext w w' ∧ v = .int .i64 r) := by
 refine Ok_enter (n := 8) [(0, .int .u64 a0)] func59 rfl rfl rfl rfl rfl ?_
 have hL := Lcl.start w
 refine W_pz 1 rfl ?_
 refine W_seq ?_
 refine W_false rfl ?_
 refine W_skip ?_
 refine At_seq ?_
 refine W_p 1 rfl ?_
 obtain ⟨x1, hb1, h⟩ := Go.L.bind_some h
 refine S_callL rfl rfl hL (math_bits_Len64_ok _ _ (gz_le hH hL) hb1) ?_
 rintro _ w2 rfl hx2 hL2 hle2
 refine S_pz 1 rfl ?_
 refine W_ret ?_
 obtain rfl := Option.some.inj h
 refine At_body rfl rfl ?_
 exact ⟨hL2.ext, rfl⟩

noncomputable def bits_GammaSize (a0 : Int) : Option (Int) :=
 if a0 < (1 : Int) then some ((0 : Int)) else Option.bind (math_bits_Len (IntKind.u64.wrap a0)) (fun x4 => Go.L.chk (Go.L.I64 ((2 : Int) * x4)) (Go.L.chk (Go.L.I64 (((2 : Int) * x4) - (1 : Int))) (some ((((2 : Int) * x4) - (1 : Int))))))

theorem bits_GammaSize_ok (w : World) (H : PH) (hH : Le H (hp w)) {a0 : Int}   {r : Int} (h : bits_GammaSize a0 = some r) :
  Ok Tryz.prog 37 [.int .i64 a0] w (fun v w' => Ext w w' ∧ v = .int .i64 r) := by
 refine Ok_enter (n := 10) [(0, .int .i64 a0)] func37 rfl rfl rfl rfl rfl ?_
 have hL := Lcl.start w
 refine W_pz 1 rfl ?_
 refine W_seq ?_
 refine W_pz 2 rfl ?_
 refine W_if rfl (fun hc1 => ?_) (fun hc1 => ?_)
 ·replace h := Go.L.ite_p hc1 h
  refine W_pz 1 rfl ?_
  refine W_ret ?_
  refine At_seq_ret ?_
  obtain rfl := Option.some.inj h
  refine At_body rfl rfl ?_
  exact ⟨hL.ext, rfl⟩
 ·replace h := Go.L.ite_n hc1 h
  refine W_skip ?_
  refine At_seq ?_
  refine W_p 1 rfl ?_
  refine S_v (r_conv underlying3 underlying117 rfl rfl) rfl ?_
  obtain ⟨x4, hb4, h⟩ := Go.L.bind_some h
  refine S_callL rfl rfl hL (math_bits_Len_ok _ _ (gz_le hH hL) hb4) ?_
  rintro _ w5 rfl hx5 hL5 hle5
  obtain ⟨hk6, h⟩ := Go.L.chk_some h
  refine S_v (r_ar64 rfl rfl rfl hk6) rfl ?_
  obtain ⟨hk7, h⟩ := Go.L.chk_some h
  refine S_v (r_ar64 rfl rfl rfl hk7) rfl ?_
  refine S_pz 1 rfl ?_
  refine W_ret ?_
  obtain rfl := Option.some.inj h
  refine At_body rfl rfl ?_
  exact ⟨hL5.ext, rfl⟩

noncomputable def bits_Valid (a0 : (List UInt8) × Int) : Option (Bool) :=
 if a0.2 < (0 : Int) then some (false) else if (131072 : Int) < a0.2 then some (false) else Go.L.chk (Go.L.I64 (a0.2 + (7 : Int))) (Go.L.chk (0 ≤ (a0.2 + (7 : Int)) ∧ (a0.2 + (7 : Int)) ≤ 9223372036854775807 ∧ 0 < (8 : Int)) (if (a0.1.length : Int) = ((a0.2 + (7 : Int)) / (8 : Int)) then Go.L.chk (0 ≤ a0.2 ∧ a0.2 ≤ 9223372036854775807 ∧ 0 < (8 : Int)) (if (a0.2 % (8 : Int)) = (0 : Int) then some (true) else Go.L.chk (Go.L.I64 ((a0.1.length : Int) - (1 : Int))) (Go.L.chk (0 ≤ ((a0.1.length : Int) - (1 : Int)) ∧ ((a0.1.length : Int) - (1 : Int)) < (a0.1.length : Int)) (Go.L.chk (0 ≤ (a0.2 % (8 : Int)) ∧ (a0.2 % (8 : Int)) < 8) (some (decide (((a0.1.getD (((a0.1.length : Int) - (1 : Int)).toNat) default <<< (UInt8.ofNat (a0.2 % (8 : Int)).toNat)).toNat : Int) = 0)))))) else some (false)))

theorem bits_Valid_ok (w : World) (H : PH) (hH : Le H (hp w)) {a0 : (List UInt8) × Int} {v0_0 : Value} (h0_0 : Vec .byte H v0_0 (a0.1)) {r : Bool} (h : bits_Valid a0 = some r) :
  Ok Tryz.prog 90 [.agg #[v0_0, .int .i64 a0.2]] w (fun v w' => Ext w w' ∧ v = .bool r) := by
 refine Ok_enter (n := 40) [(0, .agg #[v0_0, .int .i64 a0.2])] func90 rfl rfl rfl rfl rfl ?_
 have hL := Lcl.start w
 refine W_seqr ?_
 refine S_box (t := 56) rfl rfl rfl hL ?_
 intro w1 b1 hL1 hle1 _
 refine S_pz 1 rfl ?_
 refine W_seq ?_
 refine W_seqr ?_
 refine S_v (r_field rfl underlying56 rfl zr3 (by decide)) rfl ?_
 refine S_v (r_loadB1 0 rfl underlying3 rfl hL1 rfl rfl) rfl ?_
 refine S_pu 2 rfl ?_
 refine S_split (s := 7) rfl (fun hg2 => ?_) (fun hg2 => ?_)
 ·replace h := Go.L.ite_p (of_decide_eq_true hg2) h
  iterate 3 refine S_unwanted rfl rfl hg2 rfl ?_
  refine S_v (r_pickT rfl hg2 rfl) rfl ?_
  refine S_pu 1 rfl ?_
  iterate 8 refine S_unwanted rfl rfl rfl rfl ?_
  refine S_v (r_pickT rfl rfl rfl) rfl ?_
  refine S_seqnil ?_
  refine W_true rfl ?_
  refine W_pz 1 rfl ?_
  refine W_ret ?_
  refine At_seq_ret ?_
  obtain rfl := Option.some.inj h
  refine At_body rfl rfl ?_
  exact ⟨hL1.ext, rfl⟩
 ·replace h := Go.L.ite_n (of_decide_eq_false hg2) h
  refine S_guarded rfl rfl hg2 ?_
  refine S_v (r_field rfl underlying56 rfl zr3 (by decide)) rfl ?_
  refine S_guarded rfl rfl hg2 ?_
  refine S_v (r_loadB1 0 rfl underlying3 rfl hL1 rfl rfl) rfl ?_
  refine S_guarded rfl rfl hg2 ?_
  refine S_v (RunsAt_pu rfl) rfl ?_
  refine S_v (r_pickF rfl hg2 rfl) rfl ?_
  refine S_pu 1 rfl ?_
  refine S_split (s := 12) rfl (fun hg5 => ?_) (fun hg5 => ?_)
  ·replace h := Go.L.ite_p (of_decide_eq_true hg5) h
   iterate 8 refine S_unwanted rfl rfl hg5 rfl ?_
   refine S_v (r_pickT rfl hg5 rfl) rfl ?_
   refine S_seqnil ?_
   refine W_true rfl ?_
   refine W_pz 1 rfl ?_
   refine W_ret ?_
   refine At_seq_ret ?_
   obtain rfl := Option.some.inj h
   refine At_body rfl rfl ?_
   exact ⟨hL1.ext, rfl⟩
  ·replace h := Go.L.ite_n (of_decide_eq_false hg5) h
   refine S_guarded rfl rfl hg5 ?_
   refine S_v (r_field rfl underlying56 rfl zr22 (by decide)) rfl ?_
   refine S_guarded rfl rfl hg5 ?_
   refine S_v (r_loadB1 0 rfl underlying22 rfl hL1 rfl rfl) rfl ?_
   refine S_guarded rfl rfl hg5 ?_
   refine S_v (r_len rfl underlying22 h0_0) rfl ?_
   refine S_guarded rfl rfl hg5 ?_
   refine S_v (r_field rfl underlying56 rfl zr3 (by decide)) rfl ?_
   refine S_guarded rfl rfl hg5 ?_
   refine S_v (r_loadB1 0 rfl underlying3 rfl hL1 rfl rfl) rfl ?_
   refine S_guarded rfl rfl hg5 ?_
   obtain ⟨hk8, h⟩ := Go.L.chk_some h
   refine S_v (r_ar64 rfl rfl rfl hk8) rfl ?_
   refine S_guarded rfl rfl hg5 ?_
   obtain ⟨hk9, h⟩ := Go.L.chk_some h
   refine S_v (r_quo rfl rfl hk9) rfl ?_
   refine S_guarded rfl rfl hg5 ?_
   refine S_v (RunsAt_pu rfl) rfl ?_
   refine S_v (r_pickF rfl hg5 rfl) rfl ?_
   refine S_seqnil ?_
   refine W_ifn rfl (fun hc10 => ?_) (fun hc10 => ?_)
   ·replace h := Go.L.ite_n hc10 h
    refine W_pz 1 rfl ?_
    refine W_ret ?_
    refine At_seq_ret ?_
    obtain rfl := Option.some.inj h
    refine At_body rfl rfl ?_
    exact ⟨hL1.ext, rfl⟩
   ·replace h := Go.L.ite_p hc10 h
    refine W_skip ?_
    refine At_seq ?_
    refine W_seqr ?_
    refine S_v (r_field rfl underlying56 rfl zr3 (by decide)) rfl ?_
    refine S_v (r_loadB1 0 rfl underlying3 rfl hL1 rfl rfl) rfl ?_
    obtain ⟨hk13, h⟩ := Go.L.chk_some h
    refine S_v (r_rem rfl rfl ⟨hk13.1, hk13.2.2⟩) rfl ?_
    refine S_pz 1 rfl ?_
    refine W_p 3 rfl ?_
    refine S_split (s := 27) rfl (fun hg14 => ?_) (fun hg14 => ?_)
    ·replace h := Go.L.ite_p (of_decide_eq_true hg14) h
     iterate 11 refine S_unwanted rfl rfl hg14 rfl ?_
     refine S_v (r_pickT rfl hg14 rfl) rfl ?_
     refine S_pz 1 rfl ?_
     refine W_ret ?_
     obtain rfl := Option.some.inj h
     refine At_body rfl rfl ?_
     exact ⟨hL1.ext, rfl⟩
    ·replace h := Go.L.ite_n (of_decide_eq_false hg14) h
     refine S_guarded rfl rfl hg14 ?_
     refine S_v (r_field rfl underlying56 rfl zr22 (by decide)) rfl ?_
     refine S_guarded rfl rfl hg14 ?_
     refine S_v (r_loadB1 0 rfl underlying22 rfl hL1 rfl rfl) rfl ?_
     refine S_guarded rfl rfl hg14 ?_
     refine S_v (r_field rfl underlying56 rfl zr22 (by decide)) rfl ?_
     refine S_guarded rfl rfl hg14 ?_
     refine S_v (r_loadB1 0 rfl underlying22 rfl hL1 rfl rfl) rfl ?_
     refine S_guarded rfl rfl hg14 ?_
     refine S_v (r_len rfl underlying22 h0_0) rfl ?_
     refine S_guarded rfl rfl hg14 ?_
     obtain ⟨hk17, h⟩ := Go.L.chk_some h
     refine S_v (r_ar64 rfl rfl rfl hk17) rfl ?_
     refine S_guarded rfl rfl hg14 ?_
     obtain ⟨hk19, h⟩ := Go.L.chk_some h
     refine S_index rfl rfl underlying22 zr5 h0_0 (((a0.1.length : Int) - (1 : Int)).toNat) (Int.toNat_of_nonneg hk19.1).symm (idx_lt hk19) rfl ?_
     rintro p18 _ rfl hp18
     refine S_guarded rfl rfl hg14 ?_
     refine S_v (r_load1 rfl underlying5 rfl hp18 (hH.trans hL1.arg)) rfl ?_
     refine S_guarded rfl rfl hg14 ?_
     refine S_v (RunsAt_pu rfl) rfl ?_
     refine S_guarded rfl rfl hg14 ?_
     obtain ⟨hk20, h⟩ := Go.L.chk_some h
     refine S_v (r_shlV8 rfl rfl hk20) rfl ?_
     refine S_guarded rfl rfl hg14 ?_
     refine S_v (RunsAt_pu rfl) rfl ?_
     refine S_v (r_pickF rfl hg14 rfl) rfl ?_
     refine S_pz 1 rfl ?_
     refine W_ret ?_
     obtain rfl := Option.some.inj h
     refine At_body rfl rfl ?_
     exact ⟨hL1.ext, rfl⟩

noncomputable def bits_at (a0 : (List UInt8) × Int) (a1 : Int) : Option (Int) :=
 Go.L.chk (0 ≤ a1 ∧ a1 ≤ 9223372036854775807 ∧ 0 < (8 : Int)) (Go.L.chk (0 ≤ (a1 / (8 : Int)) ∧ (a1 / (8 : Int)) < (a0.1.length : Int)) (Go.L.chk (0 ≤ a1 ∧ a1 ≤ 9223372036854775807 ∧ 0 < (8 : Int)) (Go.L.chk (Go.L.I64 ((7 : Int) - (a1 % (8 : Int)))) (Go.L.chk (0 ≤ ((7 : Int) - (a1 % (8 : Int))) ∧ ((7 : Int) - (a1 % (8 : Int))) < 8) (some ((((a0.1.getD ((a1 / (8 : Int)).toNat) default >>> (UInt8.ofNat ((7 : Int) - (a1 % (8 : Int))).toNat)) &&& (1 : UInt8)).toNat : Int)))))))

theorem bits_at_ok (w : World) (H : PH) (hH : Le H (hp w)) {a0 : (List UInt8) × Int} {a1 : Int} {v0_0 : Value} (h0_0 : Vec .byte H v0_0 (a0.1)) {r : Int} (h : bits_at a0 a1 = some r) :
  Ok Tryz.prog 91 [.agg #[v0_0, .int .i64 a0.2], .int .i64 a1] w (fun v w' => Ext w w' ∧ v = .int .i64 r) := by
 refine Ok_enter (n := 17) [(0, .agg #[v0_0, .int .i64 a0.2]), (1, .int .i64 a1)] func91 rfl rfl rfl rfl rfl ?_
 have hL := Lcl.start w
 refine W_seqr ?_
 refine S_box (t := 56) rfl rfl rfl hL ?_
 intro w1 b1 hL1 hle1 _
 refine S_pz 1 rfl ?_
 refine W_seqr ?_
 refine S_v (r_field rfl underlying56 rfl zr22 (by decide)) rfl ?_
 refine S_v (r_loadB1 0 rfl underlying22 rfl hL1 rfl rfl) rfl ?_
 refine S_pu 1 rfl ?_
 obtain ⟨hk2, h⟩ := Go.L.chk_some h
 refine S_v (r_quo rfl rfl hk2) rfl ?_
 obtain ⟨hk4, h⟩ := Go.L.chk_some h
 refine S_index rfl rfl underlying22 zr5 h0_0 ((a1 / (8 : Int)).toNat) (Int.toNat_of_nonneg hk4.1).symm (idx_lt hk4) rfl ?_
 rintro p3 _ rfl hp3
 refine S_v (r_load1 rfl underlying5 rfl hp3 (hH.trans hL1.arg)) rfl ?_
 refine S_pu 1 rfl ?_
 obtain ⟨hk5, h⟩ := Go.L.chk_some h
 refine S_v (r_rem rfl rfl ⟨hk5.1, hk5.2.2⟩) rfl ?_
 obtain ⟨hk6, h⟩ := Go.L.chk_some h
 refine S_v (r_ar64 rfl rfl rfl hk6) rfl ?_
 obtain ⟨hk7, h⟩ := Go.L.chk_some h
 refine S_v (r_shrV8 rfl rfl hk7) rfl ?_
 refine S_v (r_bit8 (b := 1) rfl rfl rfl) rfl ?_
 refine S_v (r_conv underlying5 underlying3 rfl (conv_8_64 _)) rfl ?_
 refine S_pz 1 rfl ?_
 refine W_ret ?_
 obtain rfl := Option.some.inj h
 refine At_body rfl rfl ?_
 exact ⟨hL1.ext, rfl⟩

noncomputable def bits_number_k1 (s7_25 : Int) : Option (Int) :=
 some (s7_25)
noncomputable def bits_number_bl2 (a0 : (List UInt8) × Int) (a1 : Int) (a2 : Int) : Int × Int → Option ((Int × Int) ⊕ (Int)) := fun ⟨s7_38, s10_39⟩ =>
 if s10_39 < a2 then Go.L.chk (Go.L.I64 (s7_38 * 2)) (Go.L.chk (Go.L.I64 (a1 + s10_39)) (Option.bind (bits_at (a0.1, a0.2) (a1 + s10_39)) (fun x46 => Go.L.chk ((0 ≤ (s7_38 * 2) ∧ (s7_38 * 2) < 2 ^ 63) ∧ (0 ≤ x46 ∧ x46 < 2 ^ 63)) (Go.L.chk (Go.L.I64 (s10_39 + (1 : Int))) (some (Sum.inl ((((s7_38 * 2).toNat ||| x46.toNat : Nat) : Int), (s10_39 + (1 : Int))))))))) else Option.map Sum.inr (bits_number_k1 s7_38)
noncomputable def bits_number_l2 (a0 : (List UInt8) × Int) (a1 : Int) (a2 : Int) (s : Int × Int) : Option (Int) := Go.L.run (bits_number_bl2 a0 a1 a2) s
noncomputable def bits_number (a0 : (List UInt8) × Int) (a1 : Int) (a2 : Int) : Option (Int) :=
 (bits_number_l2 a0 a1 a2) ((0 : Int), (0 : Int))

theorem bits_number_ok (w : World) (H : PH) (hH : Le H (hp w)) {a0 : (List UInt8) × Int} {a1 : Int} {a2 : Int} {v0_0 : Value} (h0_0 : Vec .byte H v0_0 (a0.1)) {r : Int} (h : bits_number a0 a1 a2 = some r) :
  Ok Tryz.prog 92 [.agg #[v0_0, .int .i64 a0.2], .int .i64 a1, .int .i64 a2] w (fun v w' => Ext w w' ∧ v = .int .i64 r) := by
 refine Ok_enter (n := 23) [(0, .agg #[v0_0, .int .i64 a0.2]), (1, .int .i64 a1), (2, .int .i64 a2)] func92 rfl rfl rfl rfl rfl ?_
 have hL := Lcl.start w
 refine W_seqr ?_
 refine S_box (t := 56) rfl rfl rfl hL ?_
 intro w1 b1 hL1 hle1 _
 refine S_pz 1 rfl ?_
 refine W_pz 1 rfl ?_
 refine W_cut (σ := Int) (fun s7_25 => [(7, .int .i64 s7_25)]) (fun s7_25 wr => Lcl w [.box b1 [v0_0, .int .i64 a0.2] 56] wr ∧ bits_number_k1 s7_25 = some r) ?_ ?_
 ·refine W_pz 2 rfl ?_
  refine W_block ?_
  obtain ⟨n40, h⟩ := Go.L.run_some h
  refine W_loop (σ := Int × Int × Nat) (fun ⟨s7_38, s10_39, n⟩ => [(1, .int .i64 a1), (3, .pointer (some ⟨b1, 0, none⟩)), (7, .int .i64 s7_38), (9, .int .i64 a2), (10, .int .i64 s10_39)]) (fun ⟨s7_38, s10_39, n⟩ wr => Lcl w [.box b1 [v0_0, .int .i64 a0.2] 56] wr ∧ Go.L.itr (bits_number_bl2 a0 a1 a2) n (s7_38, s10_39) = some r) (fun ⟨s7_38, s10_39, n⟩ => n) ((0 : Int), (0 : Int), n40) (.cons rfl (.cons rfl (.cons rfl (.cons rfl (.cons rfl (Sub.nil _)))))) ⟨hL1, h⟩ ?_
  rintro ⟨s7_38, s10_39, nn40⟩ wr40 ⟨hL40, h⟩
  obtain ⟨n40, e40, rfl, h, hm40⟩ := Go.L.itr_some h
  refine W_pz 1 rfl ?_
  refine W_seq ?_
  refine W_if rfl (fun hc42 => ?_) (fun hc42 => ?_)
  ·replace h := Go.L.ite_p hc42 h
   refine W_skip ?_
   refine At_seq ?_
   refine W_seq ?_
   refine W_block ?_
   refine W_pz 2 rfl ?_
   refine W_region ?_
   refine S_pu 1 rfl ?_
   obtain ⟨hk44, h⟩ := Go.L.chk_some h
   refine S_v (r_shl (c := 1) (m := 2) rfl rfl rfl (by decide) (wrap64 hk44.1 hk44.2)) rfl ?_
   refine S_v (r_loadBN 0 rfl underlying56 rfl zr56 hL40 rfl) rfl ?_
   refine S_pu 2 rfl ?_
   obtain ⟨hk45, h⟩ := Go.L.chk_some h
   refine S_v (r_ar64 rfl rfl rfl hk45) rfl ?_
   obtain ⟨x46, hb46, h⟩ := Go.L.bind_some h
   refine S_callL rfl rfl hL40 (bits_at_ok _ _ (gz_le hH hL40) (h0_0.mono (gz_left hH)) hb46) ?_
   rintro _ w47 rfl hx47 hL47 hle47
   obtain ⟨hk48, h⟩ := Go.L.chk_some h
   refine S_v (r_bitI rfl rfl rfl hk48) rfl ?_
   refine S_pu 1 rfl ?_
   refine S_nil ?_
   refine At_block ?_
   refine At_seq ?_
   refine W_region ?_
   obtain ⟨hk49, h⟩ := Go.L.chk_some h
   refine S_v (r_ar64 rfl rfl rfl hk49) rfl ?_
   refine S_pu 1 rfl ?_
   refine S_nil ?_
   have h := Go.L.Nxt.again h hm40
   refine At_round ((((s7_38 * 2).toNat ||| x46.toNat : Nat) : Int), (s10_39 + (1 : Int)), n40) (.cons rfl (.cons rfl (.cons rfl (.cons rfl (.cons rfl (Sub.nil _)))))) ⟨hL47, h⟩ (Nat.lt_succ_self _)
  ·replace h := Go.L.ite_n hc42 h
   refine W_exit ?_
   refine At_seq_exit ?_
   refine At_loop_exit ?_
   replace h := Go.L.Nxt.out h hm40
   refine At_exit ?_
   refine At_cut s7_38 (.cons rfl (Sub.nil _)) ⟨hL40, h⟩
 ·rintro s7_25 wr26 ⟨hL26, h⟩
  refine W_pz 2 rfl ?_
  refine W_ret ?_
  obtain rfl := Option.some.inj h
  refine At_body rfl rfl ?_
  exact ⟨hL26.ext, rfl⟩

noncomputable def bits_ReadGamma_k1 (a0 : (List UInt8) × Int) (a1 : Int) (s7_61 : Int) : Option (Int × Int × (Int × Int)) :=
 Go.L.chk (Go.L.I64 ((2 : Int) * s7_61)) (Go.L.chk (Go.L.I64 (a1 + ((2 : Int) * s7_61))) (Go.L.chk (Go.L.I64 ((a1 + ((2 : Int) * s7_61)) + (1 : Int))) (if a0.2 < ((a1 + ((2 : Int) * s7_61)) + (1 : Int)) then Option.bind (bits_fault (15 : Int) (-2 : Int)) (fun x108 => some ((0 : Int), (0 : Int), (x108.1, x108.2))) else Go.L.chk (Go.L.I64 (a1 + s7_61)) (Go.L.chk (Go.L.I64 (s7_61 + (1 : Int))) (Option.bind (bits_number (a0.1, a0.2) (a1 + s7_61) (s7_61 + (1 : Int))) (fun x114 => Go.L.chk (Go.L.I64 ((2 : Int) * s7_61)) (Go.L.chk (Go.L.I64 (a1 + ((2 : Int) * s7_61))) (Go.L.chk (Go.L.I64 ((a1 + ((2 : Int) * s7_61)) + (1 : Int))) (some (x114, ((a1 + ((2 : Int) * s7_61)) + (1 : Int)), ((0 : Int), (0 : Int))))))))))))
noncomputable def bits_ReadGamma_bl2 (a0 : (List UInt8) × Int) (a1 : Int) : Int → Option ((Int) ⊕ (Int × Int × (Int × Int))) := fun s7_82 =>
 Go.L.chk (Go.L.I64 (a1 + s7_82)) (if (a1 + s7_82) < a0.2 then Go.L.chk (Go.L.I64 (a1 + s7_82)) (Option.bind (bits_at (a0.1, a0.2) (a1 + s7_82)) (fun x89 => if x89 = (0 : Int) then Go.L.chk (Go.L.I64 (s7_82 + (1 : Int))) (if (30 : Int) < (s7_82 + (1 : Int)) then Option.bind (bits_fault (16 : Int) (-2 : Int)) (fun x96 => Option.map Sum.inr (some ((0 : Int), (0 : Int), (x96.1, x96.2)))) else some (Sum.inl (s7_82 + (1 : Int)))) else Option.map Sum.inr ((bits_ReadGamma_k1 a0 a1) s7_82))) else Option.map Sum.inr ((bits_ReadGamma_k1 a0 a1) s7_82))
noncomputable def bits_ReadGamma_l2 (a0 : (List UInt8) × Int) (a1 : Int) (s : Int) : Option (Int × Int × (Int × Int)) := Go.L.run (bits_ReadGamma_bl2 a0 a1) s
noncomputable def bits_ReadGamma (a0 : (List UInt8) × Int) (a1 : Int) : Option (Int × Int × (Int × Int)) :=
 Option.bind (bits_Valid (a0.1, a0.2)) (fun x3 => if !x3 then Option.bind (bits_fault (6 : Int) (-1 : Int)) (fun x7 => some ((0 : Int), (0 : Int), (x7.1, x7.2))) else (if a1 < (0 : Int) then Option.bind (bits_fault (4 : Int) (-2 : Int)) (fun x13 => some ((0 : Int), (0 : Int), (x13.1, x13.2))) else if a0.2 < a1 then Option.bind (bits_fault (4 : Int) (-2 : Int)) (fun x19 => some ((0 : Int), (0 : Int), (x19.1, x19.2))) else (bits_ReadGamma_l2 a0 a1) (0 : Int)))

theorem bits_ReadGamma_ok (w : World) (H : PH) (hH : Le H (hp w)) {a0 : (List UInt8) × Int} {a1 : Int} {v0_0 : Value} (h0_0 : Vec .byte H v0_0 (a0.1)) {r : Int × Int × (Int × Int)} (h : bits_ReadGamma a0 a1 = some r) :
  Ok Tryz.prog 70 [.agg #[v0_0, .int .i64 a0.2], .int .i64 a1] w (fun v w' => Ext w w' ∧ v = .tuple #[.int .i64 r.1, .int .i64 r.2.1, .agg #[.int .i64 r.2.2.1, .int .i64 r.2.2.2]]) := by
 refine Ok_enter (n := 62) [(0, .agg #[v0_0, .int .i64 a0.2]), (1, .int .i64 a1)] func70 rfl rfl rfl rfl rfl ?_
 have hL := Lcl.start w
 refine W_seqr ?_
 refine S_box (t := 56) rfl rfl rfl hL ?_
 intro w1 b1 hL1 hle1 _
 refine S_pu 2 rfl ?_
 refine S_alloc zr27 rfl rfl hL1 ?_
 intro w2 b2 hL2 hle2 _
 refine S_seqnil ?_
 refine W_seq ?_
 refine W_seqr ?_
 refine S_v (r_loadBN 1 rfl underlying56 rfl zr56 hL2 rfl) rfl ?_
 obtain ⟨x3, hb3, h⟩ := Go.L.bind_some h
 refine S_callL rfl rfl hL2 (bits_Valid_ok _ _ (gz_le hH hL2) (h0_0.mono (gz_left hH)) hb3) ?_
 rintro _ w4 rfl hx4 hL4 hle4
 refine S_pz 1 rfl ?_
 refine W_cond rfl (fun hc5 => ?_) (fun hc5 => ?_)
 ·replace h := Go.L.ite_t hc5 h
  refine W_seqr ?_
  obtain ⟨x7, hb7, h⟩ := Go.L.bind_some h
  refine S_callL rfl rfl hL4 (bits_fault_ok _ _ (gz_le hH hL4) hb7) ?_
  rintro _ w8 rfl hx8 hL8 hle8
  refine S_pu 2 rfl ?_
  refine S_storeBN 0 rfl rfl rfl zr27 hL8 rfl rfl (onc rfl (onc rfl on0)) ?_
  intro w9 hL9 hle9
  refine S_seqnil ?_
  refine W_ret ?_
  refine At_seq_ret ?_
  obtain rfl := Option.some.inj h
  refine At_got3 rfl (.tmp rfl) (.tmp rfl) (.cell rfl underlying27 rfl zr27 (box_ptr (i := 0) hL9 rfl)) ?_
  exact ⟨hL9.ext, rfl⟩
 ·replace h := Go.L.ite_f hc5 h
  refine W_skip ?_
  refine At_seq ?_
  refine W_seq ?_
  refine W_p 3 rfl ?_
  refine S_split (s := 14) rfl (fun hg11 => ?_) (fun hg11 => ?_)
  ·replace h := Go.L.ite_p (of_decide_eq_true hg11) h
   iterate 4 refine S_unwanted rfl rfl hg11 rfl ?_
   refine S_v (r_pickT rfl hg11 rfl) rfl ?_
   refine S_seqnil ?_
   refine W_true rfl ?_
   refine W_seqr ?_
   obtain ⟨x13, hb13, h⟩ := Go.L.bind_some h
   refine S_callL rfl rfl hL4 (bits_fault_ok _ _ (gz_le hH hL4) hb13) ?_
   rintro _ w14 rfl hx14 hL14 hle14
   refine S_pu 2 rfl ?_
   refine S_storeBN 0 rfl rfl rfl zr27 hL14 rfl rfl (onc rfl (onc rfl on0)) ?_
   intro w15 hL15 hle15
   refine S_seqnil ?_
   refine W_ret ?_
   refine At_seq_ret ?_
   obtain rfl := Option.some.inj h
   refine At_got3 rfl (.tmp rfl) (.tmp rfl) (.cell rfl underlying27 rfl zr27 (box_ptr (i := 0) hL15 rfl)) ?_
   exact ⟨hL15.ext, rfl⟩
  ·replace h := Go.L.ite_n (of_decide_eq_false hg11) h
   refine S_guarded rfl rfl hg11 ?_
   refine S_v (RunsAt_pu rfl) rfl ?_
   refine S_guarded rfl rfl hg11 ?_
   refine S_v (r_field rfl underlying56 rfl zr3 (by decide)) rfl ?_
   refine S_guarded rfl rfl hg11 ?_
   refine S_v (r_loadB1 1 rfl underlying3 rfl hL4 rfl rfl) rfl ?_
   refine S_guarded rfl rfl hg11 ?_
   refine S_v (RunsAt_pu rfl) rfl ?_
   refine S_v (r_pickF rfl hg11 rfl) rfl ?_
   refine S_seqnil ?_
   refine W_if rfl (fun hc17 => ?_) (fun hc17 => ?_)
   ·replace h := Go.L.ite_p hc17 h
    refine W_seqr ?_
    obtain ⟨x19, hb19, h⟩ := Go.L.bind_some h
    refine S_callL rfl rfl hL4 (bits_fault_ok _ _ (gz_le hH hL4) hb19) ?_
    rintro _ w20 rfl hx20 hL20 hle20
    refine S_pu 2 rfl ?_
    refine S_storeBN 0 rfl rfl rfl zr27 hL20 rfl rfl (onc rfl (onc rfl on0)) ?_
    intro w21 hL21 hle21
    refine S_seqnil ?_
    refine W_ret ?_
    refine At_seq_ret ?_
    obtain rfl := Option.some.inj h
    refine At_got3 rfl (.tmp rfl) (.tmp rfl) (.cell rfl underlying27 rfl zr27 (box_ptr (i := 0) hL21 rfl)) ?_
    exact ⟨hL21.ext, rfl⟩
   ·replace h := Go.L.ite_n hc17 h
    refine W_skip ?_
    refine At_seq ?_
    refine W_pz 1 rfl ?_
    refine W_cut (σ := Int) (fun s7_61 => [(1, .int .i64 a1), (2, .pointer (some ⟨b1, 0, none⟩)), (6, .pointer (some ⟨b2, 0, none⟩)), (7, .int .i64 s7_61)]) (fun s7_61 wr => Lcl w [.box b2 [.int .i64 (0 : Int), .int .i64 (0 : Int)] 27, .box b1 [v0_0, .int .i64 a0.2] 56] wr ∧ (bits_ReadGamma_k1 a0 a1) s7_61 = some r) ?_ ?_
    ·refine W_block ?_
     obtain ⟨n83, h⟩ := Go.L.run_some h
     refine W_loop (σ := Int × Nat) (fun ⟨s7_82, n⟩ => [(1, .int .i64 a1), (2, .pointer (some ⟨b1, 0, none⟩)), (6, .pointer (some ⟨b2, 0, none⟩)), (7, .int .i64 s7_82)]) (fun ⟨s7_82, n⟩ wr => Lcl w [.box b2 [.int .i64 (0 : Int), .int .i64 (0 : Int)] 27, .box b1 [v0_0, .int .i64 a0.2] 56] wr ∧ Go.L.itr (bits_ReadGamma_bl2 a0 a1) n s7_82 = some r) (fun ⟨s7_82, n⟩ => n) ((0 : Int), n83) (.cons rfl (.cons rfl (.cons rfl (.cons rfl (Sub.nil _))))) ⟨hL4, h⟩ ?_
     rintro ⟨s7_82, nn83⟩ wr83 ⟨hL83, h⟩
     obtain ⟨n83, e83, rfl, h, hm83⟩ := Go.L.itr_some h
     refine W_seq ?_
     refine W_p 2 rfl ?_
     obtain ⟨hk85, h⟩ := Go.L.chk_some h
     refine S_v (r_ar64 rfl rfl rfl hk85) rfl ?_
     refine S_v (r_field rfl underlying56 rfl zr3 (by decide)) rfl ?_
     refine S_v (r_loadB1 1 rfl underlying3 rfl hL83 rfl rfl) rfl ?_
     refine S_pu 2 rfl ?_
     refine S_split (s := 27) rfl (fun hg86 => ?_) (fun hg86 => ?_)
     ·replace h := Go.L.ite_p (of_decide_eq_true hg86) h
      refine S_guarded rfl rfl hg86 ?_
      refine S_v (r_loadBN 1 rfl underlying56 rfl zr56 hL83 rfl) rfl ?_
      refine S_guarded rfl rfl hg86 ?_
      refine S_v (RunsAt_pu rfl) rfl ?_
      refine S_guarded rfl rfl hg86 ?_
      refine S_v (RunsAt_pu rfl) rfl ?_
      refine S_guarded rfl rfl hg86 ?_
      obtain ⟨hk88, h⟩ := Go.L.chk_some h
      refine S_v (r_ar64 rfl rfl rfl hk88) rfl ?_
      refine S_guarded rfl rfl hg86 ?_
      obtain ⟨x89, hb89, h⟩ := Go.L.bind_some h
      refine S_callL rfl rfl hL83 (bits_at_ok _ _ (gz_le hH hL83) (h0_0.mono (gz_left hH)) hb89) ?_
      rintro _ w90 rfl hx90 hL90 hle90
      refine S_guarded rfl rfl hg86 ?_
      refine S_v (RunsAt_pu rfl) rfl ?_
      refine S_v (r_pickT rfl hg86 rfl) rfl ?_
      refine S_seqnil ?_
      refine W_if rfl (fun hc91 => ?_) (fun hc91 => ?_)
      ·replace h := Go.L.ite_p hc91 h
       refine W_skip ?_
       refine At_seq ?_
       refine W_block ?_
       refine W_p 1 rfl ?_
       obtain ⟨hk93, h⟩ := Go.L.chk_some h
       refine S_v (r_ar64 rfl rfl rfl hk93) rfl ?_
       refine S_pz 1 rfl ?_
       refine W_pz 2 rfl ?_
       refine W_if rfl (fun hc94 => ?_) (fun hc94 => ?_)
       ·replace h := Go.L.ite_p hc94 h
        refine W_seqr ?_
        obtain ⟨x96, hb96, h⟩ := Go.L.bind_some h
        refine S_callL rfl rfl hL90 (bits_fault_ok _ _ (gz_le hH hL90) hb96) ?_
        rintro _ w97 rfl hx97 hL97 hle97
        refine S_pu 2 rfl ?_
        refine S_storeBN 0 rfl rfl rfl zr27 hL97 rfl rfl (onc rfl (onc rfl on0)) ?_
        intro w98 hL98 hle98
        refine S_seqnil ?_
        refine W_ret ?_
        refine At_block_ret ?_
        refine At_loop_ret ?_
        replace h := Go.L.Nxt.out h hm83
        refine At_block_ret ?_
        refine At_cut_ret ?_
        obtain rfl := Option.some.inj h
        refine At_got3 rfl (.tmp rfl) (.tmp rfl) (.cell rfl underlying27 rfl zr27 (box_ptr (i := 0) hL98 rfl)) ?_
        exact ⟨hL98.ext, rfl⟩
       ·replace h := Go.L.ite_n hc94 h
        refine W_skip ?_
        refine At_block ?_
        have h := Go.L.Nxt.again h hm83
        refine At_round ((s7_82 + (1 : Int)), n83) (.cons rfl (.cons rfl (.cons rfl (.cons rfl (Sub.nil _))))) ⟨hL90, h⟩ (Nat.lt_succ_self _)
      ·replace h := Go.L.ite_n hc91 h
       refine W_exit ?_
       refine At_seq_exit ?_
       refine At_loop_exit ?_
       replace h := Go.L.Nxt.out h hm83
       refine At_exit ?_
       refine At_cut s7_82 (.cons rfl (.cons rfl (.cons rfl (.cons rfl (Sub.nil _))))) ⟨hL90, h⟩
     ·replace h := Go.L.ite_n (of_decide_eq_false hg86) h
      iterate 6 refine S_unwanted rfl rfl hg86 rfl ?_
      refine S_v (r_pickF rfl hg86 rfl) rfl ?_
      refine S_seqnil ?_
      refine W_false rfl ?_
      refine W_exit ?_
      refine At_seq_exit ?_
      refine At_loop_exit ?_
      replace h := Go.L.Nxt.out h hm83
      refine At_exit ?_
      refine At_cut s7_82 (.cons rfl (.cons rfl (.cons rfl (.cons rfl (Sub.nil _))))) ⟨hL83, h⟩
    ·rintro s7_61 wr62 ⟨hL62, h⟩
     refine W_seq ?_
     refine W_p 2 rfl ?_
     obtain ⟨hk103, h⟩ := Go.L.chk_some h
     refine S_v (r_ar64 rfl rfl rfl hk103) rfl ?_
     obtain ⟨hk104, h⟩ := Go.L.chk_some h
     refine S_v (r_ar64 rfl rfl rfl hk104) rfl ?_
     obtain ⟨hk105, h⟩ := Go.L.chk_some h
     refine S_v (r_ar64 rfl rfl rfl hk105) rfl ?_
     refine S_v (r_field rfl underlying56 rfl zr3 (by decide)) rfl ?_
     refine S_v (r_loadB1 1 rfl underlying3 rfl hL62 rfl rfl) rfl ?_
     refine S_pz 1 rfl ?_
     refine W_if rfl (fun hc106 => ?_) (fun hc106 => ?_)
     ·replace h := Go.L.ite_p hc106 h
      refine W_seqr ?_
      obtain ⟨x108, hb108, h⟩ := Go.L.bind_some h
      refine S_callL rfl rfl hL62 (bits_fault_ok _ _ (gz_le hH hL62) hb108) ?_
      rintro _ w109 rfl hx109 hL109 hle109
      refine S_pu 2 rfl ?_
      refine S_storeBN 0 rfl rfl rfl zr27 hL109 rfl rfl (onc rfl (onc rfl on0)) ?_
      intro w110 hL110 hle110
      refine S_seqnil ?_
      refine W_ret ?_
      refine At_seq_ret ?_
      obtain rfl := Option.some.inj h
      refine At_got3 rfl (.tmp rfl) (.tmp rfl) (.cell rfl underlying27 rfl zr27 (box_ptr (i := 0) hL110 rfl)) ?_
      exact ⟨hL110.ext, rfl⟩
     ·replace h := Go.L.ite_n hc106 h
      refine W_skip ?_
      refine At_seq ?_
      refine W_seqr ?_
      refine S_v (r_loadBN 1 rfl underlying56 rfl zr56 hL62 rfl) rfl ?_
      refine S_pu 2 rfl ?_
      obtain ⟨hk112, h⟩ := Go.L.chk_some h
      refine S_v (r_ar64 rfl rfl rfl hk112) rfl ?_
      refine S_pu 1 rfl ?_
      obtain ⟨hk113, h⟩ := Go.L.chk_some h
      refine S_v (r_ar64 rfl rfl rfl hk113) rfl ?_
      obtain ⟨x114, hb114, h⟩ := Go.L.bind_some h
      refine S_callL rfl rfl hL62 (bits_number_ok _ _ (gz_le hH hL62) (h0_0.mono (gz_left hH)) hb114) ?_
      rintro _ w115 rfl hx115 hL115 hle115
      refine S_pu 2 rfl ?_
      obtain ⟨hk116, h⟩ := Go.L.chk_some h
      refine S_v (r_ar64 rfl rfl rfl hk116) rfl ?_
      obtain ⟨hk117, h⟩ := Go.L.chk_some h
      refine S_v (r_ar64 rfl rfl rfl hk117) rfl ?_
      obtain ⟨hk118, h⟩ := Go.L.chk_some h
      refine S_v (r_ar64 rfl rfl rfl hk118) rfl ?_
      refine S_v (r_build rfl (fun _ => bld27_z _)) rfl ?_
      refine S_pu 2 rfl ?_
      refine S_storeBN 0 rfl rfl rfl zr27 hL115 rfl rfl (onc rfl (onc rfl on0)) ?_
      intro w119 hL119 hle119
      refine S_seqnil ?_
      refine W_ret ?_
      obtain rfl := Option.some.inj h
      refine At_got3 rfl (.tmp rfl) (.tmp rfl) (.cell rfl underlying27 rfl zr27 (box_ptr (i := 0) hL119 rfl)) ?_
      exact ⟨hL119.ext, rfl⟩

noncomputable def bits_put_k1 (a0 : (List UInt8) × Int) (a1 : Int) (l12 : List UInt8) : Option (((List UInt8) × Int)) :=
 Go.L.chk (0 ≤ a0.2 ∧ a0.2 ≤ 9223372036854775807 ∧ 0 < (8 : Int)) (Go.L.chk (0 ≤ (a0.2 / (8 : Int)) ∧ (a0.2 / (8 : Int)) < (l12.length : Int)) (Go.L.chk (0 ≤ a0.2 ∧ a0.2 ≤ 9223372036854775807 ∧ 0 < (8 : Int)) (Go.L.chk (Go.L.I64 ((7 : Int) - (a0.2 % (8 : Int)))) (Go.L.chk ((0 ≤ ((7 : Int) - (a0.2 % (8 : Int))) ∧ ((7 : Int) - (a0.2 % (8 : Int))) ≤ 63) ∧ Go.L.I64 (a1 * 2 ^ ((7 : Int) - (a0.2 % (8 : Int))).toNat)) (Go.L.chk (0 ≤ (a0.2 / (8 : Int)) ∧ (a0.2 / (8 : Int)) < (l12.length : Int)) (Go.L.chk (Go.L.I64 (a0.2 + (1 : Int))) (some (((l12.set ((a0.2 / (8 : Int)).toNat) (l12.getD ((a0.2 / (8 : Int)).toNat) default ||| (Go.L.u8 (a1 * 2 ^ ((7 : Int) - (a0.2 % (8 : Int))).toNat)))), (a0.2 + (1 : Int)))))))))))
noncomputable def bits_put (a0 : (List UInt8) × Int) (a1 : Int) : Option (((List UInt8) × Int)) :=
 Go.L.chk (0 ≤ a0.2 ∧ a0.2 ≤ 9223372036854775807 ∧ 0 < (8 : Int)) (if (a0.2 % (8 : Int)) = (0 : Int) then Go.L.chk (Go.E.Cap 1 (a0.1.length + ([(0 : UInt8)]).length)) ((bits_put_k1 a0 a1) (a0.1 ++ [(0 : UInt8)])) else (bits_put_k1 a0 a1) a0.1)

theorem bits_put_fr {w0 w : World} {H : PH} (hH : Le H (hp w0)) {O : List Res} {a0 : (List UInt8) × Int} {a1 : Int} {va0_0 : Value} {xsa0_0 : List Value} (hL : Lcl w0 (HAppend.hAppend ([.row (va0_0) 5 1 (a0.1).length (xsa0_0)] : List Res) O) w) (hea0_0 : Elems .byte (gz H w0 w (HAppend.hAppend ([.row (va0_0) 5 1 (a0.1).length (xsa0_0)] : List Res) O)) (a0.1) xsa0_0) {r : ((List UInt8) × Int)} (h : bits_put a0 a1 = some r) :
  Ok Tryz.prog 62 [.agg #[va0_0, .int .i64 a0.2], .int .i64 a1] w (fun v w' => ∃ (u0 : Value) (y0 : List Value), v = .agg #[u0, .int .i64 r.2] ∧ Lcl w0 (HAppend.hAppend ([.row u0 5 1 (r.1).length y0] : List Res) O) w' ∧ Le (fz w (HAppend.hAppend ([.row (va0_0) 5 1 (a0.1).length (xsa0_0)] : List Res) O)) (fz w' (HAppend.hAppend ([.row u0 5 1 (r.1).length y0] : List Res) O)) ∧ Elems .byte (gz H w0 w' (HAppend.hAppend ([.row u0 5 1 (r.1).length y0] : List Res) O)) (r.1) y0) := by
 refine Ok_enter (n := 35) [(0, .agg #[va0_0, .int .i64 a0.2]), (1, .int .i64 a1)] func62 rfl rfl rfl rfl rfl ?_
 have hT := Le.refl (fz w (HAppend.hAppend ([.row (va0_0) 5 1 (a0.1).length (xsa0_0)] : List Res) O))
 refine W_seqr ?_
 refine S_box (t := 56) rfl rfl rfl hL ?_
 intro w1 b1 hL1 hle1 _
 replace hea0_0 := hea0_0.mono (gz_mono hH hle1)
 replace hT := hT.trans hle1
 refine S_alloc zr56 rfl rfl hL1 ?_
 intro w2 b2 hL2 hle2 _
 replace hea0_0 := hea0_0.mono (gz_mono hH hle2)
 replace hT := hT.trans hle2
 refine S_seqnil ?_
 refine W_cut (σ := (List UInt8) × Value × (List Value)) (fun ⟨l12, vl12, xsl12⟩ => [(1, .int .i64 a1), (2, .pointer (some ⟨b1, 0, none⟩)), (4, .pointer (some ⟨b2, 0, none⟩))]) (fun ⟨l12, vl12, xsl12⟩ wr => InO w0 (HAppend.hAppend ([.box b2 [.slice none 0 0, .int .i64 (0 : Int)] 56, .box b1 [vl12, .int .i64 a0.2] 56, .row (vl12) 5 1 (l12).length (xsl12)] : List Res) O) wr fun Oz => Elems .byte (gz H w0 wr Oz) (l12) (xsl12) ∧ Le (fz w (HAppend.hAppend ([.row (va0_0) 5 1 (a0.1).length (xsa0_0)] : List Res) O)) (fz wr Oz) ∧ (bits_put_k1 a0 a1) l12 = some r) ?_ ?_
 ·refine W_seqr ?_
  refine S_v (r_field rfl underlying56 rfl zr3 (by decide)) rfl ?_
  refine S_v (r_loadB1 1 rfl underlying3 rfl hL2 rfl rfl) rfl ?_
  obtain ⟨hk15, h⟩ := Go.L.chk_some h
  refine S_v (r_rem rfl rfl ⟨hk15.1, hk15.2.2⟩) rfl ?_
  refine S_pz 1 rfl ?_
  refine W_if rfl (fun hc16 => ?_) (fun hc16 => ?_)
  ·replace h := Go.L.ite_p hc16 h
   refine W_region ?_
   refine S_v (r_field rfl underlying56 rfl zr22 (by decide)) rfl ?_
   refine S_v (r_loadB1 1 rfl underlying22 rfl hL2 rfl rfl) rfl ?_
   refine S_litE (r := .byte) (l := [(0 : UInt8)]) rfl (fun _ => bsl22_1 _ _) rfl (show 1 ≤ 9223372036854775807 by decide) hH hL2 (.c1 rfl .nil) ?_
   intro v18 w18 hx18 hL18 hle18 hv18
   replace hea0_0 := hea0_0.mono (gz_mono hH hle18)
   replace hT := hT.trans hle18
   obtain ⟨hk20, h⟩ := Go.L.chk_some h
   refine S_appE (r := .byte) (l := a0.1) (m := [(0 : UInt8)]) 2 rfl rfl underlying22 zr5 rfl (by decide) rfl hH hL18 rfl hea0_0 hv18 hk20 ?_
   intro v19 w19 xs19 hL19 hle19 he19
   replace hv18 := hv18.mono (gz_mono hH hle19)
   replace hT := hT.trans hle19
   refine S_v (r_field rfl underlying56 rfl zr22 (by decide)) rfl ?_
   refine S_storeB1 1 rfl rfl (row_one (hL19.at (i := 2) rfl)) zr22 hL19 rfl rfl ?_
   intro w21 hL21 hle21
   replace hv18 := hv18.mono (gz_mono hH hle21)
   replace he19 := he19.mono (gz_mono hH hle21)
   replace hT := hT.trans hle21
   refine S_nil ?_
   refine At_cut ((a0.1 ++ [(0 : UInt8)]), v19, xs19) (.cons rfl (.cons rfl (.cons rfl (Sub.nil _)))) ⟨hL21, he19, hT, h⟩
  ·replace h := Go.L.ite_n hc16 h
   refine W_skip ?_
   refine At_cut (a0.1, va0_0, xsa0_0) (.cons rfl (.cons rfl (.cons rfl (Sub.nil _)))) ⟨hL2, hea0_0, hT, h⟩
 ·rintro ⟨l12, vl12, xsl12⟩ wr13 ⟨hL13, hel12, hT, h⟩
  refine W_seqd (.q 0 (.q 1 (.q 2 (.q 3 (.q 4 (.q 5 (.q 6 (.q 7 (.q 8 (.q 9 (.q 10 (.q 11 (.q 12 (.q 13 (.q 14 (.q 15 (.tail 16))))))))))))))))) mixed (by kernel_rfl) (fun w24 hx24 => ?_)
  have hL25 := hL13.call hx24
  have hle25 := fz_ext hL13 hx24
  replace hel12 := hel12.mono (gz_mono hH hle25)
  replace hT := hT.trans hle25
  refine D_v (r_field rfl underlying56 rfl zr22 (by decide)) rfl rfl ?_
  refine D_v (r_loadB1 1 rfl underlying22 rfl hL25 rfl rfl) rfl rfl ?_
  refine D_v (r_field rfl underlying56 rfl zr3 (by decide)) rfl rfl ?_
  refine D_v (r_loadB1 1 rfl underlying3 rfl hL25 rfl rfl) rfl rfl ?_
  obtain ⟨hk26, h⟩ := Go.L.chk_some h
  refine D_v (r_quo rfl rfl hk26) rfl rfl ?_
  obtain ⟨hk28, h⟩ := Go.L.chk_some h
  refine D_index rfl rfl rfl underlying22 zr5 (hL25.vecN hH (i := 2) rfl hel12) ((a0.2 / (8 : Int)).toNat) (Int.toNat_of_nonneg hk28.1).symm (idx_lt hk28) rfl ?_
  rintro p27 _ rfl hp27
  refine D_v (r_load1 rfl underlying5 rfl hp27 (Le.refl _)) rfl rfl ?_
  refine D_pu 1 rfl ?_
  refine D_v (r_field rfl underlying56 rfl zr3 (by decide)) rfl rfl ?_
  refine D_v (r_loadB1 1 rfl underlying3 rfl hL25 rfl rfl) rfl rfl ?_
  obtain ⟨hk29, h⟩ := Go.L.chk_some h
  refine D_v (r_rem rfl rfl ⟨hk29.1, hk29.2.2⟩) rfl rfl ?_
  obtain ⟨hk30, h⟩ := Go.L.chk_some h
  refine D_v (r_ar64 rfl rfl rfl hk30) rfl rfl ?_
  obtain ⟨hk31, h⟩ := Go.L.chk_some h
  refine D_v (r_shlV64 rfl rfl hk31) rfl rfl ?_
  refine D_v (r_conv underlying3 underlying5 rfl (conv_64_u8 _)) rfl rfl ?_
  refine D_v (r_bit8 rfl rfl rfl) rfl rfl ?_
  obtain ⟨hk33, h⟩ := Go.L.chk_some h
  refine D_indexR 2 rfl rfl rfl underlying22 zr5 hL25 rfl ((a0.2 / (8 : Int)).toNat) (Int.toNat_of_nonneg hk33.1).symm (idx_lt hk33) rfl ?_
  intro p32 hp32
  refine D_tail (fun w34 hx34 => ?_)
  have hL35 := hL25.call hx34
  have hle35 := fz_ext hL25 hx34
  replace hel12 := hel12.mono (gz_mono hH hle35)
  replace hT := hT.trans hle35
  refine S_storeE (z := (l12.getD ((a0.2 / (8 : Int)).toNat) default ||| (Go.L.u8 (a1 * 2 ^ ((7 : Int) - (a0.2 % (8 : Int))).toNat)))) (j := (a0.2 / (8 : Int)).toNat) 2 rfl rfl rfl zr5 hH hL35 rfl hel12 hp32 rfl (idx_lt hk33) rfl ?_
  intro w36 xs36 hL36 hle36 he36
  replace hT := hT.trans hle36
  refine S_seqnil ?_
  refine W_seqr ?_
  refine S_v (r_field rfl underlying56 rfl zr3 (by decide)) rfl ?_
  refine S_v (r_loadB1 1 rfl underlying3 rfl hL36 rfl rfl) rfl ?_
  obtain ⟨hk37, h⟩ := Go.L.chk_some h
  refine S_v (r_ar64 rfl rfl rfl hk37) rfl ?_
  refine S_v (r_field rfl underlying56 rfl zr3 (by decide)) rfl ?_
  refine S_storeB1 1 rfl rfl rfl zr3 hL36 rfl rfl ?_
  intro w38 hL38 hle38
  replace he36 := he36.mono (gz_mono hH hle38)
  replace hT := hT.trans hle38
  refine S_seqnil ?_
  refine W_seqr ?_
  refine S_v (r_loadBN 1 rfl underlying56 rfl zr56 hL38 rfl) rfl ?_
  refine S_storeBN 0 rfl rfl rfl zr56 hL38 rfl rfl (onc (row_one (hL38.at (i := 2) rfl)) (onc rfl on0)) ?_
  intro w39 hL39 hle39
  replace he36 := he36.mono (gz_mono hH hle39)
  replace hT := hT.trans hle39
  refine S_seqnil ?_
  refine W_ret ?_
  obtain rfl := Option.some.inj h
  refine At_got1 rfl (.cell rfl underlying56 rfl zr56 (box_ptr (i := 0) hL39 rfl)) ?_
  have hL40 := hL39.dropAt (i := 0) rfl
  replace he36 := he36.mono (gz_mono hH (fz_dropAt (i := 0) rfl))
  replace hT := hT.trans (fz_dropAt (i := 0) rfl)
  have hL41 := hL40.dropAt (i := 0) rfl
  replace he36 := he36.mono (gz_mono hH (fz_dropAt (i := 0) rfl))
  replace hT := hT.trans (fz_dropAt (i := 0) rfl)
  exact ⟨vl12, xs36, rfl, hL41, hT, he36⟩

noncomputable def bits_Make_k1 (c87 : Int) (l88 : List UInt8) : Option (((List UInt8) × Int) × (Int × Int)) :=
 some ((l88, c87), ((0 : Int), (0 : Int)))
noncomputable def bits_Make_bl2 (a0 : List UInt8) : Int × (List UInt8) × Int → Option ((Int × (List UInt8) × Int) ⊕ (((List UInt8) × Int) × (Int × Int))) := fun ⟨c128, l129, s13_130⟩ =>
 if s13_130 < (a0.length : Int) then Go.L.chk (0 ≤ s13_130 ∧ s13_130 < (a0.length : Int)) (if ((a0.getD s13_130.toNat default).toNat : Int) = 48 then Go.L.chk (0 ≤ s13_130 ∧ s13_130 < (a0.length : Int)) (Option.bind (bits_put (l129, c128) (((a0.getD s13_130.toNat default) - (48 : UInt8)).toNat : Int)) (fun x162 => Go.L.chk (Go.L.I64 (s13_130 + (1 : Int))) (some (Sum.inl (x162.2, x162.1, (s13_130 + (1 : Int))))))) else Go.L.chk (0 ≤ s13_130 ∧ s13_130 < (a0.length : Int)) (if ((a0.getD s13_130.toNat default).toNat : Int) = 49 then Go.L.chk (0 ≤ s13_130 ∧ s13_130 < (a0.length : Int)) (Option.bind (bits_put (l129, c128) (((a0.getD s13_130.toNat default) - (48 : UInt8)).toNat : Int)) (fun x152 => Go.L.chk (Go.L.I64 (s13_130 + (1 : Int))) (some (Sum.inl (x152.2, x152.1, (s13_130 + (1 : Int))))))) else Option.bind (bits_fault (6 : Int) s13_130) (fun x142 => Option.map Sum.inr (some (([], (0 : Int)), (x142.1, x142.2)))))) else Option.map Sum.inr (bits_Make_k1 c128 l129)
noncomputable def bits_Make_l2 (a0 : List UInt8) (s : Int × (List UInt8) × Int) : Option (((List UInt8) × Int) × (Int × Int)) := Go.L.run (bits_Make_bl2 a0) s
noncomputable def bits_Make (a0 : List UInt8) : Option (((List UInt8) × Int) × (Int × Int)) :=
 if (131072 : Int) < (a0.length : Int) then Option.bind (bits_fault (3 : Int) (-1 : Int)) (fun x5 => some (([], (0 : Int)), (x5.1, x5.2))) else (bits_Make_l2 a0) ((0 : Int), ([] : List UInt8), (0 : Int))

theorem bits_Make_ok (w : World) (H : PH) (hH : Le H (hp w)) {a0 : List UInt8}   {r : ((List UInt8) × Int) × (Int × Int)} (h : bits_Make a0 = some r) :
  Ok Tryz.prog 39 [.string ⟨(a0).toArray⟩] w (fun v w' => Ext w w' ∧ ∃ u0, v = .tuple #[.agg #[u0, .int .i64 r.1.2], .agg #[.int .i64 r.2.1, .int .i64 r.2.2]] ∧ OwnH 5 .byte H w w' u0 (r.1.1)) := by
 refine Ok_enter (n := 39) [(0, .string ⟨(a0).toArray⟩)] func39 rfl rfl rfl rfl rfl ?_
 have hL := Lcl.start w
 refine W_seqr ?_
 refine S_alloc zr56 rfl rfl hL ?_
 intro w1 b1 hL1 hle1 _
 refine S_alloc zr27 rfl rfl hL1 ?_
 intro w2 b2 hL2 hle2 _
 refine S_seqnil ?_
 refine W_seq ?_
 refine W_p 1 rfl ?_
 refine S_v (r_lenS rfl underlying9) rfl ?_
 refine S_pz 1 rfl ?_
 refine W_if rfl (fun hc3 => ?_) (fun hc3 => ?_)
 ·replace h := Go.L.ite_p hc3 h
  refine W_seqr ?_
  refine S_v (r_build rfl (fun _ => bld56_z _)) rfl ?_
  obtain ⟨x5, hb5, h⟩ := Go.L.bind_some h
  refine S_callL rfl rfl hL2 (bits_fault_ok _ _ (gz_le hH hL2) hb5) ?_
  rintro _ w6 rfl hx6 hL6 hle6
  refine S_storeBN 1 rfl rfl rfl zr56 hL6 rfl rfl (onc rfl (onc rfl on0)) ?_
  intro w7 hL7 hle7
  refine S_storeBN 0 rfl rfl rfl zr27 hL7 rfl rfl (onc rfl (onc rfl on0)) ?_
  intro w8 hL8 hle8
  refine S_seqnil ?_
  refine W_ret ?_
  refine At_seq_ret ?_
  obtain rfl := Option.some.inj h
  refine At_got2 rfl (.cell rfl underlying56 rfl zr56 (box_ptr (i := 1) hL8 rfl)) (.cell rfl underlying27 rfl zr27 (box_ptr (i := 0) hL8 rfl)) ?_
  exact ⟨hL8.ext, _, rfl, OwnH.nil⟩
 ·replace h := Go.L.ite_n hc3 h
  refine W_skip ?_
  refine At_seq ?_
  refine W_seqr ?_
  refine S_alloc zr56 rfl rfl hL2 ?_
  intro w10 b10 hL10 hle10 _
  refine S_seqnil ?_
  refine W_cut (σ := Int × (List UInt8) × Value × (List Value)) (fun ⟨c87, l88, vl88, xsl88⟩ => [(2, .pointer (some ⟨b1, 0, none⟩)), (3, .pointer (some ⟨b2, 0, none⟩)), (4, .pointer (some ⟨b10, 0, none⟩))]) (fun ⟨c87, l88, vl88, xsl88⟩ wr => InO w [.row (vl88) 5 1 (l88).length (xsl88), .box b10 [vl88, .int .i64 c87] 56, .box b2 [.int .i64 (0 : Int), .int .i64 (0 : Int)] 27, .box b1 [.slice none 0 0, .int .i64 (0 : Int)] 56] wr fun Oz => Elems .byte (gz H w wr Oz) (l88) (xsl88) ∧ bits_Make_k1 c87 l88 = some r) ?_ ?_
  ·refine W_p 1 rfl ?_
   refine S_v (r_lenS rfl underlying9) rfl ?_
   refine S_pz 1 rfl ?_
   refine W_block ?_
   obtain ⟨hL132, hle132, he132⟩ := row_nilE .byte H 5 hL10
   obtain ⟨n131, h⟩ := Go.L.run_some h
   refine W_loop (σ := Int × (List UInt8) × Int × Value × (List Value) × Nat) (fun ⟨c128, l129, s13_130, vl129, xsl129, n⟩ => [(0, .string ⟨(a0).toArray⟩), (2, .pointer (some ⟨b1, 0, none⟩)), (3, .pointer (some ⟨b2, 0, none⟩)), (4, .pointer (some ⟨b10, 0, none⟩)), (12, .int .i64 (a0.length : Int)), (13, .int .i64 s13_130)]) (fun ⟨c128, l129, s13_130, vl129, xsl129, n⟩ wr => InO w [.row (vl129) 5 1 (l129).length (xsl129), .box b10 [vl129, .int .i64 c128] 56, .box b2 [.int .i64 (0 : Int), .int .i64 (0 : Int)] 27, .box b1 [.slice none 0 0, .int .i64 (0 : Int)] 56] wr fun Oz => Elems .byte (gz H w wr Oz) (l129) (xsl129) ∧ Go.L.itr (bits_Make_bl2 a0) n (c128, l129, s13_130) = some r) (fun ⟨c128, l129, s13_130, vl129, xsl129, n⟩ => n) ((0 : Int), ([] : List UInt8), (0 : Int), .slice none 0 0, [], n131) (.cons rfl (.cons rfl (.cons rfl (.cons rfl (.cons rfl (.cons rfl (Sub.nil _))))))) ⟨hL132, he132, h⟩ ?_
   rintro ⟨c128, l129, s13_130, vl129, xsl129, nn131⟩ wr131 ⟨hL131, hel129, h⟩
   obtain ⟨n131, e131, rfl, h, hm131⟩ := Go.L.itr_some h
   refine W_pz 1 rfl ?_
   refine W_seq ?_
   refine W_if rfl (fun hc134 => ?_) (fun hc134 => ?_)
   ·replace h := Go.L.ite_p hc134 h
    refine W_skip ?_
    refine At_seq ?_
    refine W_seq ?_
    refine W_block ?_
    refine W_pz 2 rfl ?_
    refine W_seq ?_
    refine W_p 2 rfl ?_
    obtain ⟨hk136, h⟩ := Go.L.chk_some h
    refine S_v (r_sidx rfl rfl underlying9 hk136) rfl ?_
    refine S_pu 2 rfl ?_
    refine S_split (s := 20) rfl (fun hg137 => ?_) (fun hg137 => ?_)
    ·replace h := Go.L.ite_n (not_dec_t hg137) h
     refine S_guarded rfl rfl hg137 ?_
     refine S_v (RunsAt_pu rfl) rfl ?_
     refine S_guarded rfl rfl hg137 ?_
     refine S_v (RunsAt_pu rfl) rfl ?_
     refine S_guarded rfl rfl hg137 ?_
     obtain ⟨hk139, h⟩ := Go.L.chk_some h
     refine S_v (r_sidx rfl rfl underlying9 hk139) rfl ?_
     refine S_guarded rfl rfl hg137 ?_
     refine S_v (RunsAt_pu rfl) rfl ?_
     refine S_v (r_pickT rfl hg137 rfl) rfl ?_
     refine S_seqnil ?_
     refine W_ifn rfl (fun hc140 => ?_) (fun hc140 => ?_)
     ·replace h := Go.L.ite_n hc140 h
      refine W_seqr ?_
      refine S_v (r_build rfl (fun _ => bld56_z _)) rfl ?_
      refine S_pu 1 rfl ?_
      obtain ⟨x142, hb142, h⟩ := Go.L.bind_some h
      refine S_callL rfl rfl hL131 (bits_fault_ok _ _ (gz_le hH hL131) hb142) ?_
      rintro _ w143 rfl hx143 hL143 hle143
      replace hel129 := hel129.mono (gz_mono hH hle143)
      refine S_storeBN 3 rfl rfl rfl zr56 hL143 rfl rfl (onc rfl (onc rfl on0)) ?_
      intro w144 hL144 hle144
      replace hel129 := hel129.mono (gz_mono hH hle144)
      refine S_storeBN 2 rfl rfl rfl zr27 hL144 rfl rfl (onc rfl (onc rfl on0)) ?_
      intro w145 hL145 hle145
      replace hel129 := hel129.mono (gz_mono hH hle145)
      refine S_seqnil ?_
      refine W_ret ?_
      refine At_seq_ret ?_
      refine At_block_ret ?_
      refine At_seq_ret ?_
      refine At_loop_ret ?_
      replace h := Go.L.Nxt.out h hm131
      refine At_block_ret ?_
      refine At_cut_ret ?_
      obtain rfl := Option.some.inj h
      refine At_got2 rfl (.cell rfl underlying56 rfl zr56 (box_ptr (i := 3) hL145 rfl)) (.cell rfl underlying27 rfl zr27 (box_ptr (i := 2) hL145 rfl)) ?_
      exact ⟨hL145.ext, _, rfl, OwnH.nil⟩
     ·replace h := Go.L.ite_p hc140 h
      refine W_skip ?_
      refine At_seq ?_
      refine W_regd (.q 0 (.q 1 (.q 2 (.q 3 (.q 4 (.q 5 (.tail 6))))))) mixed (by kernel_rfl) (fun w147 hx147 => ?_)
      have hL148 := hL131.call hx147
      have hle148 := fz_ext hL131 hx147
      replace hel129 := hel129.mono (gz_mono hH hle148)
      refine D_v (r_loadBN 1 rfl underlying56 rfl zr56 hL148 rfl) rfl rfl ?_
      refine D_pu 2 rfl ?_
      obtain ⟨hk149, h⟩ := Go.L.chk_some h
      refine D_v (r_sidx rfl rfl underlying9 hk149) rfl rfl ?_
      refine D_v (r_ar8 (b := 48) rfl rfl rfl) rfl rfl ?_
      refine D_v (r_conv underlying5 underlying3 rfl (conv_8_64 _)) rfl rfl ?_
      refine D_tail (fun w150 hx150 => ?_)
      have hL151 := hL148.call hx150
      have hle151 := fz_ext hL148 hx150
      replace hel129 := hel129.mono (gz_mono hH hle151)
      obtain ⟨x152, hb152, h⟩ := Go.L.bind_some h
      refine S_call rfl rfl (bits_put_fr (a0 := (l129, c128)) (a1 := (((a0.getD s13_130.toNat default) - (48 : UInt8)).toNat : Int)) (O := [.box b10 [vl129, .int .i64 c128] 56, .box b2 [.int .i64 (0 : Int), .int .i64 (0 : Int)] 27, .box b1 [.slice none 0 0, .int .i64 (0 : Int)] 56]) hH hL151 hel129 hb152) ?_
      rintro _ w153 ⟨u153_0, y153_0, rfl, hL153, hle153, hf153_0⟩
      refine S_storeBN 1 rfl rfl rfl zr56 hL153 rfl rfl (onc (row_one (hL153.at (i := 0) rfl)) (onc rfl on0)) ?_
      intro w154 hL154 hle154
      replace hf153_0 := hf153_0.mono (gz_mono hH hle154)
      refine S_nil ?_
      refine At_block ?_
      refine At_seq ?_
      refine W_region ?_
      obtain ⟨hk155, h⟩ := Go.L.chk_some h
      refine S_v (r_ar64 rfl rfl rfl hk155) rfl ?_
      refine S_pu 1 rfl ?_
      refine S_nil ?_
      have h := Go.L.Nxt.again h hm131
      refine At_round (x152.2, x152.1, (s13_130 + (1 : Int)), u153_0, y153_0, n131) (.cons rfl (.cons rfl (.cons rfl (.cons rfl (.cons rfl (.cons rfl (Sub.nil _))))))) ⟨hL154, hf153_0, h⟩ (Nat.lt_succ_self _)
    ·replace h := Go.L.ite_p (not_dec_f hg137) h
     iterate 4 refine S_unwanted rfl rfl hg137 rfl ?_
     refine S_v (r_pickF rfl hg137 rfl) rfl ?_
     refine S_seqnil ?_
     refine W_false rfl ?_
     refine W_skip ?_
     refine At_seq ?_
     refine W_regd (.q 0 (.q 1 (.q 2 (.q 3 (.q 4 (.q 5 (.tail 6))))))) mixed (by kernel_rfl) (fun w157 hx157 => ?_)
     have hL158 := hL131.call hx157
     have hle158 := fz_ext hL131 hx157
     replace hel129 := hel129.mono (gz_mono hH hle158)
     refine D_v (r_loadBN 1 rfl underlying56 rfl zr56 hL158 rfl) rfl rfl ?_
     refine D_pu 2 rfl ?_
     obtain ⟨hk159, h⟩ := Go.L.chk_some h
     refine D_v (r_sidx rfl rfl underlying9 hk159) rfl rfl ?_
     refine D_v (r_ar8 (b := 48) rfl rfl rfl) rfl rfl ?_
     refine D_v (r_conv underlying5 underlying3 rfl (conv_8_64 _)) rfl rfl ?_
     refine D_tail (fun w160 hx160 => ?_)
     have hL161 := hL158.call hx160
     have hle161 := fz_ext hL158 hx160
     replace hel129 := hel129.mono (gz_mono hH hle161)
     obtain ⟨x162, hb162, h⟩ := Go.L.bind_some h
     refine S_call rfl rfl (bits_put_fr (a0 := (l129, c128)) (a1 := (((a0.getD s13_130.toNat default) - (48 : UInt8)).toNat : Int)) (O := [.box b10 [vl129, .int .i64 c128] 56, .box b2 [.int .i64 (0 : Int), .int .i64 (0 : Int)] 27, .box b1 [.slice none 0 0, .int .i64 (0 : Int)] 56]) hH hL161 hel129 hb162) ?_
     rintro _ w163 ⟨u163_0, y163_0, rfl, hL163, hle163, hf163_0⟩
     refine S_storeBN 1 rfl rfl rfl zr56 hL163 rfl rfl (onc (row_one (hL163.at (i := 0) rfl)) (onc rfl on0)) ?_
     intro w164 hL164 hle164
     replace hf163_0 := hf163_0.mono (gz_mono hH hle164)
     refine S_nil ?_
     refine At_block ?_
     refine At_seq ?_
     refine W_region ?_
     obtain ⟨hk165, h⟩ := Go.L.chk_some h
     refine S_v (r_ar64 rfl rfl rfl hk165) rfl ?_
     refine S_pu 1 rfl ?_
     refine S_nil ?_
     have h := Go.L.Nxt.again h hm131
     refine At_round (x162.2, x162.1, (s13_130 + (1 : Int)), u163_0, y163_0, n131) (.cons rfl (.cons rfl (.cons rfl (.cons rfl (.cons rfl (.cons rfl (Sub.nil _))))))) ⟨hL164, hf163_0, h⟩ (Nat.lt_succ_self _)
   ·replace h := Go.L.ite_n hc134 h
    refine W_exit ?_
    refine At_seq_exit ?_
    refine At_loop_exit ?_
    replace h := Go.L.Nxt.out h hm131
    refine At_exit ?_
    refine At_cut (c128, l129, vl129, xsl129) (.cons rfl (.cons rfl (.cons rfl (Sub.nil _)))) ⟨hL131, hel129, h⟩
  ·rintro ⟨c87, l88, vl88, xsl88⟩ wr89 ⟨hL89, hel88, h⟩
   refine W_seqr ?_
   refine S_v (r_loadBN 1 rfl underlying56 rfl zr56 hL89 rfl) rfl ?_
   refine S_v (r_build rfl (fun _ => bld27_z _)) rfl ?_
   refine S_storeBN 3 rfl rfl rfl zr56 hL89 rfl rfl (onc (row_one (hL89.at (i := 0) rfl)) (onc rfl on0)) ?_
   intro w168 hL168 hle168
   replace hel88 := hel88.mono (gz_mono hH hle168)
   refine S_storeBN 2 rfl rfl rfl zr27 hL168 rfl rfl (onc rfl (onc rfl on0)) ?_
   intro w169 hL169 hle169
   replace hel88 := hel88.mono (gz_mono hH hle169)
   refine S_seqnil ?_
   refine W_ret ?_
   obtain rfl := Option.some.inj h
   refine At_got2 rfl (.cell rfl underlying56 rfl zr56 (box_ptr (i := 3) hL169 rfl)) (.cell rfl underlying27 rfl zr27 (box_ptr (i := 2) hL169 rfl)) ?_
   exact ⟨hL169.ext, _, rfl, (hL169.ownH hH (i := 0) rfl hel88)⟩

noncomputable def bytes_Equal (a0 : List UInt8) (a1 : List UInt8) : Option (Bool) :=
 some (decide (a0 = a1))

theorem bytes_Equal_ok (w : World) (H : PH) (hH : Le H (hp w)) {a0 : List UInt8} {a1 : List UInt8} {v0_0 : Value} {v1_0 : Value} (h0_0 : Vec .byte H v0_0 (a0)) (h1_0 : Vec .byte H v1_0 (a1)) {r : Bool} (h : bytes_Equal a0 a1 = some r) :
  Ok Tryz.prog 23 [v0_0, v1_0] w (fun v w' => Ext w w' ∧ v = .bool r) := by
 refine Ok_enter (n := 10) [(0, v0_0), (1, v1_0)] func23 rfl rfl rfl rfl rfl ?_
 have hL := Lcl.start w
 refine W_pz 1 rfl ?_
 refine W_p 1 rfl ?_
 refine S_v (r_str rfl underlying22 underlying5 underlying9 h0_0 (hH.trans hL.arg)) rfl ?_
 refine S_pu 1 rfl ?_
 refine S_v (r_str rfl underlying22 underlying5 underlying9 h1_0 (hH.trans hL.arg)) rfl ?_
 refine S_v (r_seq rfl rfl) rfl ?_
 refine S_pz 1 rfl ?_
 refine W_ret ?_
 obtain rfl := Option.some.inj h
 refine At_body rfl rfl ?_
 exact ⟨hL.ext, rfl⟩
end Go.Proofs.YtdiieblgeaehpaaGreatDoor
