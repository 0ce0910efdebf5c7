/- Generated walk: the words of a text, by yield. -/
import Derived.Test.YtdiieblgeaehpaaGreatDoorP3
import Derived.Test.YtdiieblgeaehpaaGreatDoorEngT
import Derived.KernelRfl
namespace Go.Proofs.YtdiieblgeaehpaaGreatDoor
open Go Go.E Go.RowKit
set_option maxHeartbeats 1000000
set_option maxRecDepth 10000
open _root_.Go.Proofs.Tryz
noncomputable def words_split_1_k2 (s3_67 : Int) (c125 : List UInt8) (l126 : List ((List UInt8) × Int × Int)) (s3_127 : Int) : Option (((List ((List UInt8) × Int × Int)) × Int) ⊕ ((List ((List UInt8) × Int × Int)))) :=
 Go.L.chk (Go.E.Cap 32 (l126.length + 1)) (Option.map Sum.inr (some ((l126 ++ [(c125, s3_67, s3_127)]))))
noncomputable def words_split_1_bl3 (a1 : List UInt8) (l66 : List ((List UInt8) × Int × Int)) (s3_67 : Int) : (List UInt8) × Int → Option (((List UInt8) × Int) ⊕ (((List ((List UInt8) × Int × Int)) × Int) ⊕ ((List ((List UInt8) × Int × Int))))) := fun ⟨c153, s3_154⟩ =>
 if s3_154 < (a1.length : Int) then Go.L.chk (0 ≤ s3_154 ∧ s3_154 ≤ (a1.length : Int)) (Option.bind (words_letter (a1.drop s3_154.toNat)) (fun x162 => if x162.1 = ([] : List UInt8) then Go.L.chk (Go.L.I64 (s3_154 + x162.2)) (if c153 = ([] : List UInt8) then Option.map Sum.inr (some (Sum.inl (l66, (s3_154 + x162.2)))) else Go.L.chk (Go.E.Cap 32 (l66.length + 1)) (Option.map Sum.inr (some (Sum.inl ((l66 ++ [(c153, s3_67, s3_154)]), (s3_154 + x162.2)))))) else Go.L.chk (c153.length + x162.1.length ≤ 9223372036854775807) (Go.L.chk (Go.L.I64 (s3_154 + x162.2)) (some (Sum.inl ((c153 ++ x162.1), (s3_154 + x162.2))))))) else Option.map Sum.inr ((words_split_1_k2 s3_67) c153 l66 s3_154)
noncomputable def words_split_1_l3 (a1 : List UInt8) (l66 : List ((List UInt8) × Int × Int)) (s3_67 : Int) (s : (List UInt8) × Int) : Option (((List ((List UInt8) × Int × Int)) × Int) ⊕ ((List ((List UInt8) × Int × Int)))) := Go.L.run (words_split_1_bl3 a1 l66 s3_67) s
noncomputable def words_split_1_bl1 (a1 : List UInt8) : (List ((List UInt8) × Int × Int)) × Int → Option (((List ((List UInt8) × Int × Int)) × Int) ⊕ ((List ((List UInt8) × Int × Int)))) := fun ⟨l66, s3_67⟩ =>
 if s3_67 < (a1.length : Int) then (words_split_1_l3 a1 l66 s3_67) (([] : List UInt8), s3_67) else Option.map Sum.inr (some (l66))
noncomputable def words_split_1_l1 (a1 : List UInt8) (s : (List ((List UInt8) × Int × Int)) × Int) : Option ((List ((List UInt8) × Int × Int))) := Go.L.run (words_split_1_bl1 a1) s
noncomputable def words_split_1 (a0 : List ((List UInt8) × Int × Int)) (a1 : List UInt8) : Option ((List ((List UInt8) × Int × Int))) :=
 (words_split_1_l1 a1) (a0, (0 : Int))
theorem words_split_1_fr {w0 w : World} {H : PH} (hH : Le H (hp w0)) (hU : Utab H) {O : List Res} {a0 : List ((List UInt8) × Int × Int)} {a1 : List UInt8} {la0 Da0 ba0 : Nat} {ca0 : Loop} {va0 : Value} {xsa0 : List Value} {va1_0 : Value} {pa1 : Addr} (hYa0 : YSpec Tryz.prog (.pair .st (.pair (.int .i64) (.int .i64))) 3 32 la0 Da0 ba0 ca0 67 75) (hL : Lcl w0 (HAppend.hAppend ([.obj la0 (.loop ca0), .obj Da0 (.deferred (some [])), .box ba0 [va0] 67, .row (va0) 75 3 (a0).length (xsa0)] : List Res) O) w) (hea0 : Elems (.pair .st (.pair (.int .i64) (.int .i64))) (gz H w0 w (HAppend.hAppend ([.obj la0 (.loop ca0), .obj Da0 (.deferred (some [])), .box ba0 [va0] 67, .row (va0) 75 3 (a0).length (xsa0)] : List Res) O)) (a0) xsa0) (ha1_0 : Vec .byte (gz H w0 w (HAppend.hAppend ([.obj la0 (.loop ca0), .obj Da0 (.deferred (some [])), .box ba0 [va0] 67, .row (va0) 75 3 (a0).length (xsa0)] : List Res) O)) va1_0 (a1)) (hpa1 : PtrTo (gz H w0 w (HAppend.hAppend ([.obj la0 (.loop ca0), .obj Da0 (.deferred (some [])), .box ba0 [va0] 67, .row (va0) 75 3 (a0).length (xsa0)] : List Res) O)) pa1 [va1_0]) {r : (List ((List UInt8) × Int × Int))} (h : words_split_1 a0 a1 = some r) :
  Ok Tryz.prog 72 [.func (.yield la0) #[] #[], .pointer (some pa1)] w (fun v w' => ∃ (u0 : Value) (y0 : List Value), v = .tuple #[] ∧ Lcl w0 (HAppend.hAppend ([.obj la0 (.loop ca0), .obj Da0 (.deferred (some [])), .box ba0 [u0] 67, .row u0 75 3 (r).length y0] : List Res) O) w' ∧ Le (fz w (HAppend.hAppend ([.obj la0 (.loop ca0), .obj Da0 (.deferred (some [])), .box ba0 [va0] 67, .row (va0) 75 3 (a0).length (xsa0)] : List Res) O)) (fz w' (HAppend.hAppend ([.obj la0 (.loop ca0), .obj Da0 (.deferred (some [])), .box ba0 [u0] 67, .row u0 75 3 (r).length y0] : List Res) O)) ∧ Elems (.pair .st (.pair (.int .i64) (.int .i64))) (gz H w0 w' (HAppend.hAppend ([.obj la0 (.loop ca0), .obj Da0 (.deferred (some [])), .box ba0 [u0] 67, .row u0 75 3 (r).length y0] : List Res) O)) (r) y0) := by
 refine Ok_enter (n := 53) [(0, .func (.yield la0) #[] #[]), (1, .pointer (some pa1))] func72 rfl rfl rfl rfl rfl ?_
 have hT := Le.refl (fz w (HAppend.hAppend ([.obj la0 (.loop ca0), .obj Da0 (.deferred (some [])), .box ba0 [va0] 67, .row (va0) 75 3 (a0).length (xsa0)] : List Res) O))
 refine W_scope ?_
 have hG1 := hL.rG H
 refine W_pz 1 rfl ?_
 refine W_seq ?_
 refine W_label ?_
 refine At_seq ?_
 refine W_block ?_
 obtain ⟨n68, h⟩ := Go.L.run_some h
 refine W_loop (σ := (List ((List UInt8) × Int × Int)) × Int × Value × (List Value) × Nat) (fun ⟨l66, s3_67, vl66, xsl66, n⟩ => [(0, .func (.yield la0) #[] #[]), (1, .pointer (some pa1)), (3, .int .i64 s3_67)]) (fun ⟨l66, s3_67, vl66, xsl66, n⟩ wr => InO w0 (HAppend.hAppend ([.obj la0 (.loop ca0), .obj Da0 (.deferred (some [])), .box ba0 [vl66] 67, .row (vl66) 75 3 (l66).length (xsl66)] : List Res) O) wr fun Oz => PtrTo (gz H w0 wr Oz) pa1 [va1_0] ∧ Vec .byte (gz H w0 wr Oz) (va1_0) (a1) ∧ Elems (.pair .st (.pair (.int .i64) (.int .i64))) (gz H w0 wr Oz) (l66) (xsl66) ∧ Le (fz w (HAppend.hAppend ([.obj la0 (.loop ca0), .obj Da0 (.deferred (some [])), .box ba0 [va0] 67, .row (va0) 75 3 (a0).length (xsa0)] : List Res) O)) (fz wr Oz) ∧ Go.L.itr (words_split_1_bl1 a1) n (l66, s3_67) = some r) (fun ⟨l66, s3_67, vl66, xsl66, n⟩ => n) (a0, (0 : Int), va0, xsa0, n68) (.cons rfl (.cons rfl (.cons rfl (Sub.nil _)))) ⟨hL, (hpa1.mono hG1), (ha1_0.mono hG1), (hea0.mono hG1), hT, h⟩ ?_
 rintro ⟨l66, s3_67, vl66, xsl66, nn68⟩ wr68 ⟨hL68, hf68_0, hf68_1, hel66, hT, h⟩
 obtain ⟨n68, e68, rfl, h, hm68⟩ := Go.L.itr_some h
 refine W_seq ?_
 have hG70 := hL68.rG H
 refine W_p 1 rfl ?_
 refine S_v (r_load1 rfl underlying22 rfl (hf68_0.mono hG70) (gz_le hH hL68)) rfl ?_
 refine S_v (r_len rfl underlying22 (hf68_1.mono hG70)) rfl ?_
 refine S_pz 1 rfl ?_
 refine W_if rfl (fun hc71 => ?_) (fun hc71 => ?_)
 ·replace h := Go.L.ite_p hc71 h
  refine W_skip ?_
  refine At_seq ?_
  refine W_block ?_
  refine W_p 1 rfl ?_
  refine S_v (r_build rfl (fun _ => bld75_1 _ _)) rfl ?_
  refine S_alloc zr75 rfl rfl hL68 ?_
  intro w73 b73 hL73 hle73 _
  replace hG70 := hG70.trans (gz_mono hH hle73)
  replace hT := hT.trans hle73
  refine S_storeBN 0 rfl rfl rfl zr75 hL73 rfl rfl (onc rfl (onc rfl (onc rfl on0))) ?_
  intro w74 hL74 hle74
  replace hG70 := hG70.trans (gz_mono hH hle74)
  replace hT := hT.trans hle74
  refine S_seqnil ?_
  refine W_cut (σ := (List UInt8) × (List ((List UInt8) × Int × Int)) × Int × Value × (List Value)) (fun ⟨c125, l126, s3_127, vl126, xsl126⟩ => [(0, .func (.yield la0) #[] #[]), (3, .int .i64 s3_127), (4, .pointer (some ⟨b73, 0, none⟩))]) (fun ⟨c125, l126, s3_127, vl126, xsl126⟩ wr => InO w0 (HAppend.hAppend ([.box b73 [.string ⟨(c125).toArray⟩, .int .i64 s3_67, .int .i64 (0 : Int)] 75, .obj la0 (.loop ca0), .obj Da0 (.deferred (some [])), .box ba0 [vl126] 67, .row (vl126) 75 3 (l126).length (xsl126)] : List Res) O) wr fun Oz => Elems (.pair .st (.pair (.int .i64) (.int .i64))) (gz H w0 wr Oz) (l126) (xsl126) ∧ Le (fz w (HAppend.hAppend ([.obj la0 (.loop ca0), .obj Da0 (.deferred (some [])), .box ba0 [va0] 67, .row (va0) 75 3 (a0).length (xsa0)] : List Res) O)) (fz wr Oz) ∧ (words_split_1_k2 s3_67) c125 l126 s3_127 = some e68) ?_ ?_
  ·refine W_block ?_
   obtain ⟨n155, h⟩ := Go.L.run_some h
   refine W_loop (σ := (List UInt8) × Int × Nat) (fun ⟨c153, s3_154, n⟩ => [(0, .func (.yield la0) #[] #[]), (1, .pointer (some pa1)), (3, .int .i64 s3_154), (4, .pointer (some ⟨b73, 0, none⟩))]) (fun ⟨c153, s3_154, n⟩ wr => InO w0 (HAppend.hAppend ([.box b73 [.string ⟨(c153).toArray⟩, .int .i64 s3_67, .int .i64 (0 : Int)] 75, .obj la0 (.loop ca0), .obj Da0 (.deferred (some [])), .box ba0 [vl66] 67, .row (vl66) 75 3 (l66).length (xsl66)] : List Res) O) wr fun Oz => PtrTo (gz H w0 wr Oz) pa1 [va1_0] ∧ Vec .byte (gz H w0 wr Oz) (va1_0) (a1) ∧ Elems (.pair .st (.pair (.int .i64) (.int .i64))) (gz H w0 wr Oz) (l66) (xsl66) ∧ Le (fz w (HAppend.hAppend ([.obj la0 (.loop ca0), .obj Da0 (.deferred (some [])), .box ba0 [va0] 67, .row (va0) 75 3 (a0).length (xsa0)] : List Res) O)) (fz wr Oz) ∧ Go.L.itr (words_split_1_bl3 a1 l66 s3_67) n (c153, s3_154) = some e68) (fun ⟨c153, s3_154, n⟩ => n) (([] : List UInt8), s3_67, n155) (.cons rfl (.cons rfl (.cons rfl (.cons rfl (Sub.nil _))))) ⟨hL74, (hf68_0.mono hG70), (hf68_1.mono hG70), (hel66.mono hG70), hT, h⟩ ?_
   rintro ⟨c153, s3_154, nn155⟩ wr155 ⟨hL155, hf155_0, hf155_1, he155_Ra0, hT, h⟩
   obtain ⟨n155, e155, rfl, h, hm155⟩ := Go.L.itr_some h
   refine W_seq ?_
   have hG157 := hL155.rG H
   refine W_p 1 rfl ?_
   refine S_v (r_load1 rfl underlying22 rfl (hf155_0.mono hG157) (gz_le hH hL155)) rfl ?_
   refine S_v (r_len rfl underlying22 (hf155_1.mono hG157)) rfl ?_
   refine S_pz 1 rfl ?_
   refine W_if rfl (fun hc158 => ?_) (fun hc158 => ?_)
   ·replace h := Go.L.ite_p hc158 h
    refine W_skip ?_
    refine At_seq ?_
    refine W_block ?_
    refine W_seqr ?_
    refine S_v (r_load1 rfl underlying22 rfl (hf155_0.mono hG157) (gz_le hH hL155)) rfl ?_
    refine S_pu 1 rfl ?_
    obtain ⟨hk161, h⟩ := Go.L.chk_some h
    refine S_sliceL rfl rfl underlying22 zr5 (hf155_1.mono hG157) hk161 rfl ?_
    intro v160 hv160
    obtain ⟨x162, hb162, h⟩ := Go.L.bind_some h
    refine S_callL rfl rfl hL155 (words_letter_ok _ _ (gz_le hH hL155) (hU.mono (gz_left hH)) hv160 hb162) ?_
    rintro _ w163 rfl hx163 hL163 hle163
    replace hv160 := hv160.mono (gz_mono hH hle163)
    replace hG157 := hG157.trans (gz_mono hH hle163)
    replace hT := hT.trans hle163
    refine S_pz 5 rfl ?_
    refine W_seq ?_
    refine W_p 1 rfl ?_
    refine S_v (r_seq rfl rfl) rfl ?_
    refine S_seqnil ?_
    refine W_if rfl (fun hc164 => ?_) (fun hc164 => ?_)
    ·replace h := Go.L.ite_p hc164 h
     refine W_p 1 rfl ?_
     refine S_v (r_field rfl underlying75 rfl zr3 (by decide)) rfl ?_
     refine S_storeB1 0 rfl rfl rfl zr3 hL163 rfl rfl ?_
     intro w166 hL166 hle166
     replace hG157 := hG157.trans (gz_mono hH hle166)
     replace hT := hT.trans hle166
     refine S_seqnil ?_
     refine W_p 2 rfl ?_
     obtain ⟨hk167, h⟩ := Go.L.chk_some h
     refine S_v (r_ar64 rfl rfl rfl hk167) rfl ?_
     refine S_pz 1 rfl ?_
     refine W_seq ?_
     refine W_seqY ?_
     refine SY_op (no_seq (no_seq (no_seq (no_block (no_loop (no_block (no_cut (no_block (no_loop (no_block (no_scope no_body))))))))))) rfl ?_
     refine S_v (r_field rfl underlying75 rfl zr9 (by decide)) rfl ?_
     refine SY_back ?_
     refine SY_op (no_seq (no_seq (no_seq (no_block (no_loop (no_block (no_cut (no_block (no_loop (no_block (no_scope no_body))))))))))) rfl ?_
     refine S_v (r_loadB1 0 rfl underlying9 rfl hL166 rfl rfl) rfl ?_
     refine SY_back ?_
     refine SY_op (no_seq (no_seq (no_seq (no_block (no_loop (no_block (no_cut (no_block (no_loop (no_block (no_scope no_body))))))))))) rfl ?_
     refine S_v (r_sne rfl rfl) rfl ?_
     refine SY_back ?_
     refine SY_op (no_seq (no_seq (no_seq (no_block (no_loop (no_block (no_cut (no_block (no_loop (no_block (no_scope no_body))))))))))) rfl ?_
     refine S_pu 1 rfl ?_
     refine SY_back ?_
     refine SY_split (s := 34) rfl (fun hg168 => ?_) (fun hg168 => ?_)
     ·replace h := Go.L.ite_n (not_dec_t hg168) h
      refine SY_guarded rfl rfl hg168 ?_
      refine SY_op (no_seq (no_seq (no_seq (no_block (no_loop (no_block (no_cut (no_block (no_loop (no_block (no_scope no_body))))))))))) rfl ?_
      refine S_pu 1 rfl ?_
      refine SY_back ?_
      refine SY_guarded rfl rfl hg168 ?_
      refine SY_op (no_seq (no_seq (no_seq (no_block (no_loop (no_block (no_cut (no_block (no_loop (no_block (no_scope no_body))))))))))) rfl ?_
      refine S_v (r_loadBN 0 rfl underlying75 rfl zr75 hL166 rfl) rfl ?_
      refine SY_back ?_
      refine SY_guarded rfl rfl hg168 ?_
      have hL170 : Lcl w0 (HAppend.hAppend ([.box ba0 [vl66] 67, .row (vl66) 75 3 (l66).length (xsl66), .box b73 [.string ⟨(c153).toArray⟩, .int .i64 s3_67, .int .i64 s3_154] 75, .obj la0 (.loop ca0), .obj Da0 (.deferred (some []))] : List Res) O) w166 := hL166.picks [4, 4] rfl
      have hle170 := fz_picks [4, 4] hL166 hL170 rfl
      replace hG157 := hG157.trans (gz_mono hH hle170)
      replace hT := hT.trans hle170
      have hL171 : Lcl w0 (HAppend.hAppend ([.obj la0 (.loop ca0), .obj Da0 (.deferred (some [])), .box ba0 [vl66] 67, .row (vl66) 75 3 (l66).length (xsl66), .box b73 [.string ⟨(c153).toArray⟩, .int .i64 s3_67, .int .i64 s3_154] 75] : List Res) O) w166 := hL170.picks [4, 4] rfl
      have hle171 := fz_picks [4, 4] hL170 hL171 rfl
      replace hG157 := hG157.trans (gz_mono hH hle171)
      replace hT := hT.trans hle171
      obtain ⟨hk173, h⟩ := Go.L.chk_some h
      have hy172 := @hYa0 w0 w166 H ((HAppend.hAppend ([.box b73 [.string ⟨(c153).toArray⟩, .int .i64 s3_67, .int .i64 s3_154] 75] : List Res) O)) (vl66) (.agg #[.string ⟨(c153).toArray⟩, .int .i64 s3_67, .int .i64 s3_154]) (xsl66) [.string ⟨(c153).toArray⟩, .int .i64 s3_67, .int .i64 s3_154] (l66) (c153, s3_67, s3_154) hH hL171 (he155_Ra0.mono hG157) rfl ⟨_, _, rfl, rfl, ⟨_, _, rfl, rfl, rfl⟩⟩ hk173
      refine SY_yield rfl rfl rfl hy172 ?_
      rintro w172 ⟨v172, xs172, hL172, hle172, he172⟩
      replace hG157 := hG157.trans (gz_mono hH hle172)
      replace hT := hT.trans hle172
      refine SY_guarded rfl rfl hg168 ?_
      refine SY_op (no_seq (no_seq (no_seq (no_block (no_loop (no_block (no_cut (no_block (no_loop (no_block (no_scope no_body))))))))))) rfl ?_
      refine S_pu 1 rfl ?_
      refine SY_back ?_
      refine SY_op (no_seq (no_seq (no_seq (no_block (no_loop (no_block (no_cut (no_block (no_loop (no_block (no_scope no_body))))))))))) rfl ?_
      refine S_v (r_pickT rfl hg168 rfl) rfl ?_
      refine SY_back ?_
      refine SY_seqnil ?_
      refine W_false rfl ?_
      refine W_skip ?_
      refine At_seq ?_
      refine W_exit ?_
      refine At_seq_exit ?_
      refine At_exit_ne rfl ?_
      refine At_loop_exit ?_
      replace h := Go.L.Nxt.out h hm155
      refine At_exit_ne rfl ?_
      refine At_cut_exit ?_
      refine At_exit ?_
      have hL174 := hL172.dropAt (i := 4) rfl
      replace he172 := he172.mono (gz_mono hH (fz_dropAt (i := 4) rfl))
      replace hG157 := hG157.trans (gz_mono hH (fz_dropAt (i := 4) rfl))
      replace hT := hT.trans (fz_dropAt (i := 4) rfl)
      have h := Go.L.Nxt.again h hm68
      refine At_round ((l66 ++ [(c153, s3_67, s3_154)]), (s3_154 + x162.2), v172, xs172, n68) (.cons rfl (.cons rfl (.cons rfl (Sub.nil _)))) ⟨hL174, (hf155_0.mono hG157), (hf155_1.mono hG157), he172, hT, h⟩ (Nat.lt_succ_self _)
     ·replace h := Go.L.ite_p (not_dec_f hg168) h
      refine SY_op (no_seq (no_seq (no_seq (no_block (no_loop (no_block (no_cut (no_block (no_loop (no_block (no_scope no_body))))))))))) rfl ?_
      refine S_unwanted rfl rfl hg168 rfl ?_
      refine SY_back ?_
      refine SY_op (no_seq (no_seq (no_seq (no_block (no_loop (no_block (no_cut (no_block (no_loop (no_block (no_scope no_body))))))))))) rfl ?_
      refine S_unwanted rfl rfl hg168 rfl ?_
      refine SY_back ?_
      refine SY_op (no_seq (no_seq (no_seq (no_block (no_loop (no_block (no_cut (no_block (no_loop (no_block (no_scope no_body))))))))))) rfl ?_
      refine S_unwanted rfl rfl hg168 rfl ?_
      refine SY_back ?_
      refine SY_op (no_seq (no_seq (no_seq (no_block (no_loop (no_block (no_cut (no_block (no_loop (no_block (no_scope no_body))))))))))) rfl ?_
      refine S_unwanted rfl rfl hg168 rfl ?_
      refine SY_back ?_
      refine SY_op (no_seq (no_seq (no_seq (no_block (no_loop (no_block (no_cut (no_block (no_loop (no_block (no_scope no_body))))))))))) rfl ?_
      refine S_v (r_pickF rfl hg168 rfl) rfl ?_
      refine SY_back ?_
      refine SY_seqnil ?_
      refine W_false rfl ?_
      refine W_skip ?_
      refine At_seq ?_
      refine W_exit ?_
      refine At_seq_exit ?_
      refine At_exit_ne rfl ?_
      refine At_loop_exit ?_
      replace h := Go.L.Nxt.out h hm155
      refine At_exit_ne rfl ?_
      refine At_cut_exit ?_
      refine At_exit ?_
      have hL176 := hL166.dropAt (i := 0) rfl
      replace hG157 := hG157.trans (gz_mono hH (fz_dropAt (i := 0) rfl))
      replace hT := hT.trans (fz_dropAt (i := 0) rfl)
      have h := Go.L.Nxt.again h hm68
      refine At_round (l66, (s3_154 + x162.2), vl66, xsl66, n68) (.cons rfl (.cons rfl (.cons rfl (Sub.nil _)))) ⟨hL176, (hf155_0.mono hG157), (hf155_1.mono hG157), (he155_Ra0.mono hG157), hT, h⟩ (Nat.lt_succ_self _)
    ·replace h := Go.L.ite_n hc164 h
     refine W_skip ?_
     refine At_seq ?_
     refine W_seqr ?_
     refine S_v (r_field rfl underlying75 rfl zr9 (by decide)) rfl ?_
     refine S_v (r_loadB1 0 rfl underlying9 rfl hL163 rfl rfl) rfl ?_
     refine S_pu 1 rfl ?_
     obtain ⟨hk178, h⟩ := Go.L.chk_some h
     refine S_v (r_cat rfl rfl hk178) rfl ?_
     refine S_v (r_field rfl underlying75 rfl zr9 (by decide)) rfl ?_
     refine S_storeB1 0 rfl rfl rfl zr9 hL163 rfl rfl ?_
     intro w179 hL179 hle179
     replace hG157 := hG157.trans (gz_mono hH hle179)
     replace hT := hT.trans hle179
     refine S_seqnil ?_
     refine W_region ?_
     refine S_pu 2 rfl ?_
     obtain ⟨hk180, h⟩ := Go.L.chk_some h
     refine S_v (r_ar64 rfl rfl rfl hk180) rfl ?_
     refine S_pu 1 rfl ?_
     refine S_nil ?_
     refine At_block ?_
     have h := Go.L.Nxt.again h hm155
     refine At_round ((c153 ++ x162.1), (s3_154 + x162.2), n155) (.cons rfl (.cons rfl (.cons rfl (.cons rfl (Sub.nil _))))) ⟨hL179, (hf155_0.mono hG157), (hf155_1.mono hG157), (he155_Ra0.mono hG157), hT, h⟩ (Nat.lt_succ_self _)
   ·replace h := Go.L.ite_n hc158 h
    refine W_exit ?_
    refine At_seq_exit ?_
    refine At_loop_exit ?_
    replace h := Go.L.Nxt.out h hm155
    refine At_exit ?_
    refine At_cut (c153, l66, s3_154, vl66, xsl66) (.cons rfl (.cons rfl (.cons rfl (Sub.nil _)))) ⟨hL155, (he155_Ra0.mono hG157), hT, h⟩
  ·rintro ⟨c125, l126, s3_127, vl126, xsl126⟩ wr128 ⟨hL128, hel126, hT, h⟩
   refine W_p 1 rfl ?_
   refine S_v (r_field rfl underlying75 rfl zr3 (by decide)) rfl ?_
   refine S_storeB1 0 rfl rfl rfl zr3 hL128 rfl rfl ?_
   intro w183 hL183 hle183
   replace hel126 := hel126.mono (gz_mono hH hle183)
   replace hT := hT.trans hle183
   refine S_seqnil ?_
   refine W_seqY ?_
   refine SY_op (no_seq (no_block (no_loop (no_block (no_scope no_body))))) rfl ?_
   refine S_pu 1 rfl ?_
   refine SY_back ?_
   refine SY_op (no_seq (no_block (no_loop (no_block (no_scope no_body))))) rfl ?_
   refine S_v (r_loadBN 0 rfl underlying75 rfl zr75 hL183 rfl) rfl ?_
   refine SY_back ?_
   have hL184 : Lcl w0 (HAppend.hAppend ([.box ba0 [vl126] 67, .row (vl126) 75 3 (l126).length (xsl126), .box b73 [.string ⟨(c125).toArray⟩, .int .i64 s3_67, .int .i64 s3_127] 75, .obj la0 (.loop ca0), .obj Da0 (.deferred (some []))] : List Res) O) w183 := hL183.picks [4, 4] rfl
   have hle184 := fz_picks [4, 4] hL183 hL184 rfl
   replace hel126 := hel126.mono (gz_mono hH hle184)
   replace hT := hT.trans hle184
   have hL185 : Lcl w0 (HAppend.hAppend ([.obj la0 (.loop ca0), .obj Da0 (.deferred (some [])), .box ba0 [vl126] 67, .row (vl126) 75 3 (l126).length (xsl126), .box b73 [.string ⟨(c125).toArray⟩, .int .i64 s3_67, .int .i64 s3_127] 75] : List Res) O) w183 := hL184.picks [4, 4] rfl
   have hle185 := fz_picks [4, 4] hL184 hL185 rfl
   replace hel126 := hel126.mono (gz_mono hH hle185)
   replace hT := hT.trans hle185
   obtain ⟨hk187, h⟩ := Go.L.chk_some h
   have hy186 := @hYa0 w0 w183 H ((HAppend.hAppend ([.box b73 [.string ⟨(c125).toArray⟩, .int .i64 s3_67, .int .i64 s3_127] 75] : List Res) O)) (vl126) (.agg #[.string ⟨(c125).toArray⟩, .int .i64 s3_67, .int .i64 s3_127]) (xsl126) [.string ⟨(c125).toArray⟩, .int .i64 s3_67, .int .i64 s3_127] (l126) (c125, s3_67, s3_127) hH hL185 hel126 rfl ⟨_, _, rfl, rfl, ⟨_, _, rfl, rfl, rfl⟩⟩ hk187
   refine SY_yield rfl rfl rfl hy186 ?_
   rintro w186 ⟨v186, xs186, hL186, hle186, he186⟩
   replace hT := hT.trans hle186
   refine SY_seqnil ?_
   refine W_ret ?_
   refine At_block_ret ?_
   refine At_loop_ret ?_
   replace h := Go.L.Nxt.out h hm68
   refine At_block_ret ?_
   refine At_scope_ret ?_
   obtain rfl := Option.some.inj h
   refine At_got0 rfl ?_
   have hL188 := hL186.dropAt (i := 4) rfl
   replace he186 := he186.mono (gz_mono hH (fz_dropAt (i := 4) rfl))
   replace hT := hT.trans (fz_dropAt (i := 4) rfl)
   exact ⟨v186, xs186, rfl, hL188, hT, he186⟩
 ·replace h := Go.L.ite_n hc71 h
  refine W_exit ?_
  refine At_seq_exit ?_
  refine At_loop_exit ?_
  replace h := Go.L.Nxt.out h hm68
  refine At_exit ?_
  refine At_scope ?_
  obtain rfl := Option.some.inj h
  refine At_got0e rfl ?_
  exact ⟨vl66, xsl66, rfl, hL68, hT, (hel66.mono hG70)⟩
end Go.Proofs.YtdiieblgeaehpaaGreatDoor
