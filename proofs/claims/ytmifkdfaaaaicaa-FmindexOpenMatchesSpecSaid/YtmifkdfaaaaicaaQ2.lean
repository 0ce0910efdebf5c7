/- Generated walks: Grow, Concat, Build, the references. -/
import Derived.Test.YtmifkdfaaaaicaaEngO
import Derived.Test.YtmifkdfaaaaicaaQ1
import Derived.KernelRfl
namespace Go.Proofs.Ytmifkdfaaaaicaa
open Go Go.E Go.RowKit
noncomputable def slices_Grow_int_int_k1 (a1 : Int) : Option ((List Int)) :=
  Go.L.chk (Go.L.I64 ((0 : Int) - (0 : Int))) (Go.L.chk (Go.L.I64 (a1 - ((0 : Int) - (0 : Int)))) (if (0 : Int) < (a1 - ((0 : Int) - (0 : Int))) then Go.L.chk (0 < (a1 - ((0 : Int) - (0 : Int))) ∧ (a1 - ((0 : Int) - (0 : Int))) * 8 ≤ 281474976710656) (some (([] : List Int))) else some ([])))
noncomputable def slices_Grow_int_int (a0 : List Int) (a1 : Int) : Option ((List Int)) :=
  if a1 < (0 : Int) then none else (slices_Grow_int_int_k1 a1)

set_option maxRecDepth 10000 in
theorem slices_Grow_int_int_ok (w : World) (H : PH) (hH : Le H (hp w)) {a0 : List Int} {a1 : Int}  (_ : Vec (.int .i64) H (.slice none 0 0) a0) {r : (List Int)} (h : slices_Grow_int_int a0 a1 = some r) :
    Ok Try.prog 64 [.slice none 0 0, .int .i64 a1] w (fun v w' => Ext w w' ∧ ∃ u0, v = u0 ∧ OwnH 3 (.int .i64) H w w' u0 (r)) := by
  refine Ok_enter (n := 27) [(0, .slice none 0 0), (1, .int .i64 a1)] Try.func64 rfl rfl rfl rfl rfl ?_
  have hL := Lcl.start w
  refine W_seqr ?_
  refine S_pu 1 rfl ?_
  refine S_seqnil ?_
  refine W_cut (σ := Unit) (fun (_ : Unit) => [(0, .slice none 0 0), (1, .int .i64 a1)]) (fun (_ : Unit) wr => Lcl w [] wr ∧ (slices_Grow_int_int_k1 a1) = some r) ?_ ?_
  · refine W_seqr ?_
    refine S_pu 2 rfl ?_
    refine S_seqnil ?_
    refine W_if rfl (fun hc7 => ?_) (fun hc7 => ?_)
    · replace h := Go.L.ite_p hc7 h
      refine W_region ?_
      cases h
    · replace h := Go.L.ite_n hc7 h
      refine W_skip ?_
      refine At_cut () (.cons rfl (.cons rfl (Sub.nil _))) ⟨hL, h⟩
  · rintro _ wr5 ⟨hL5, h⟩
    refine W_seq ?_
    refine W_seqr ?_
    refine S_pu 2 rfl ?_
    refine S_v (r_cap rfl Try.underlying23) rfl ?_
    refine S_pu 1 rfl ?_
    refine S_v (r_lenH rfl Try.underlying23) rfl ?_
    obtain ⟨hk11, h⟩ := Go.L.chk_some h
    refine S_v (r_ar64 rfl rfl rfl hk11) rfl ?_
    obtain ⟨hk12, h⟩ := Go.L.chk_some h
    refine S_v (r_ar64 rfl rfl rfl hk12) rfl ?_
    refine S_pu 1 rfl ?_
    refine S_seqnil ?_
    refine W_seqr ?_
    refine S_pu 2 rfl ?_
    refine S_seqnil ?_
    refine W_if rfl (fun hc13 => ?_) (fun hc13 => ?_)
    · replace h := Go.L.ite_p hc13 h
      refine W_region ?_
      refine S_pu 2 rfl ?_
      refine S_v (r_cap rfl Try.underlying23) rfl ?_
      refine S_v (r_sliceNil rfl rfl Try.underlying23 zr3) rfl ?_
      refine S_pu 1 rfl ?_
      obtain ⟨hk16, h⟩ := Go.L.chk_some h
      obtain ⟨m15, hm15⟩ := Int.eq_ofNat_of_zero_le (show 0 ≤ (a1 - ((0 : Int) - (0 : Int))) by omega)
      refine S_growZ (k := .i64) (m := m15) rfl (by rw [← hm15]; rfl) Try.underlying23 Try.underlying3 zr3 rfl rfl (by omega) (by omega) (by omega) ?_
      intro g15 cap15 cur15 w15 hx15 hg15 hh15 hc15 hs15
      refine S_pu 1 rfl ?_
      refine S_v (r_lenH rfl Try.underlying23) rfl ?_
      refine S_v (r_cut0 rfl rfl Try.underlying23 zr3) rfl ?_
      obtain ⟨hL15, hle15⟩ := row_new (v := .slice (some ⟨g15, 0, none⟩) 0 cap15) (e := 3) (sz := 1) (m := 0) (xs := []) hL5 hx15 ⟨rfl, .inr ⟨g15, cap15, cur15, rfl, hg15, hh15, Nat.zero_le _, hc15, by rw [hs15, Nat.mul_one], rfl⟩⟩
      refine S_pu 1 rfl ?_
      refine S_nil ?_
      refine At_seq ?_
      refine W_seqr ?_
      refine S_pu 2 rfl ?_
      refine S_seqnil ?_
      refine W_ret ?_
      obtain rfl := Option.some.inj h
      refine At_body rfl rfl ?_
      exact ⟨hL15.ext, _, rfl, (hL15.ownH hH (i := 0) rfl .nil)⟩
    · replace h := Go.L.ite_n hc13 h
      refine W_skip ?_
      refine At_seq ?_
      refine W_seqr ?_
      refine S_pu 2 rfl ?_
      refine S_seqnil ?_
      refine W_ret ?_
      obtain rfl := Option.some.inj h
      refine At_body rfl rfl ?_
      exact ⟨hL5.ext, _, rfl, OwnH.nil⟩

noncomputable def slices_Concat_int_int_k3 (l57 : List Int) : Option ((List Int)) :=
  some (l57)
noncomputable def slices_Concat_int_int_bl4 (a0 : List (List Int)) : (List Int) × Int → Option (((List Int) × Int) ⊕ ((List Int))) := fun ⟨l69, s27_70⟩ =>
  if s27_70 < (a0.length : Int) then Go.L.chk (0 ≤ s27_70 ∧ s27_70 < (a0.length : Int)) (Go.L.chk (Go.E.Cap 8 (l69.length + (a0.getD s27_70.toNat default).length)) (Go.L.chk (Go.L.I64 (s27_70 + (1 : Int))) (some (Sum.inl ((l69 ++ a0.getD s27_70.toNat default), (s27_70 + (1 : Int))))))) else Option.map Sum.inr (slices_Concat_int_int_k3 l69)
noncomputable def slices_Concat_int_int_l4 (a0 : List (List Int)) (s : (List Int) × Int) : Option ((List Int)) := Go.L.run (slices_Concat_int_int_bl4 a0) s
noncomputable def slices_Concat_int_int_k1 (a0 : List (List Int)) (s3_15 : Int) : Option ((List Int)) :=
  Option.bind (slices_Grow_int_int ([]) s3_15) (fun x44 => (slices_Concat_int_int_l4 a0) (x44, (0 : Int)))
noncomputable def slices_Concat_int_int_bl2 (a0 : List (List Int)) : Int × Int → Option ((Int × Int) ⊕ ((List Int))) := fun ⟨s3_29, s11_30⟩ =>
  if s11_30 < (a0.length : Int) then Go.L.chk (0 ≤ s11_30 ∧ s11_30 < (a0.length : Int)) (Go.L.chk (Go.L.I64 (s3_29 + ((a0.getD s11_30.toNat default).length : Int))) (if (s3_29 + ((a0.getD s11_30.toNat default).length : Int)) < (0 : Int) then none else Go.L.chk (Go.L.I64 (s11_30 + (1 : Int))) (some (Sum.inl ((s3_29 + ((a0.getD s11_30.toNat default).length : Int)), (s11_30 + (1 : Int))))))) else Option.map Sum.inr ((slices_Concat_int_int_k1 a0) s3_29)
noncomputable def slices_Concat_int_int_l2 (a0 : List (List Int)) (s : Int × Int) : Option ((List Int)) := Go.L.run (slices_Concat_int_int_bl2 a0) s
noncomputable def slices_Concat_int_int (a0 : List (List Int)) : Option ((List Int)) :=
  (slices_Concat_int_int_l2 a0) ((0 : Int), (0 : Int))

set_option maxRecDepth 10000 in
theorem slices_Concat_int_int_ok (w : World) (H : PH) (hH : Le H (hp w)) {a0 : List (List Int)} {v0_0 : Value} (h0_0 : Vec (.vec (.int .i64)) H v0_0 (a0)) {r : (List Int)} (h : slices_Concat_int_int a0 = some r) :
    Ok Try.prog 49 [v0_0] w (fun v w' => Ext w w' ∧ ∃ u0, v = u0 ∧ OwnH 3 (.int .i64) H w w' u0 (r)) := by
  refine Ok_enter (n := 36) [(0, v0_0)] Try.func49 rfl rfl rfl rfl rfl ?_
  have hL := Lcl.start w
  refine W_seqr ?_
  refine S_pu 1 rfl ?_
  refine S_seqnil ?_
  refine W_seqr ?_
  refine S_pu 1 rfl ?_
  refine S_seqnil ?_
  refine W_cut (σ := Int) (fun (s3_15 : Int) => [(0, v0_0), (3, .int .i64 s3_15)]) (fun (s3_15 : Int) wr => Lcl w [] wr ∧ (slices_Concat_int_int_k1 a0) s3_15 = some r) ?_ ?_
  · refine W_seqr ?_
    refine S_pu 1 rfl ?_
    refine S_v (r_len rfl Try.underlying76 h0_0) rfl ?_
    refine S_pu 1 rfl ?_
    refine S_seqnil ?_
    refine W_block ?_
    obtain ⟨n31, h⟩ := Go.L.run_some h
    refine W_loop (σ := Int × Int × Nat) (fun (⟨s3_29, s11_30, n⟩ : Int × Int × Nat) => [(0, v0_0), (3, .int .i64 s3_29), (9, v0_0), (10, .int .i64 (a0.length : Int)), (11, .int .i64 s11_30)]) (fun (⟨s3_29, s11_30, n⟩ : Int × Int × Nat) wr => Lcl w [] wr ∧ Go.L.itr (slices_Concat_int_int_bl2 a0) n (s3_29, s11_30) = some r) (fun (⟨s3_29, s11_30, n⟩ : Int × Int × Nat) => n) ((0 : Int), (0 : Int), n31) (.cons rfl (.cons rfl (.cons rfl (.cons rfl (.cons rfl (Sub.nil _)))))) ⟨hL, h⟩ ?_
    rintro ⟨s3_29, s11_30, nn31⟩ wr31 ⟨hL31, h⟩
    obtain ⟨n31, e31, rfl, h, hm31⟩ := Go.L.itr_some h
    refine W_seqr ?_
    refine S_pu 1 rfl ?_
    refine S_seqnil ?_
    refine W_seq ?_
    refine W_if rfl (fun hc33 => ?_) (fun hc33 => ?_)
    · replace h := Go.L.ite_p hc33 h
      refine W_skip ?_
      refine At_seq ?_
      refine W_seq ?_
      refine W_block ?_
      refine W_seqr ?_
      obtain ⟨hk36, h⟩ := Go.L.chk_some h
      refine S_index rfl rfl Try.underlying76 zr23 h0_0 s11_30.toNat (Int.toNat_of_nonneg hk36.1).symm (idx_lt hk36) rfl ?_
      rintro p35 _ ⟨e35v0, rfl, e35h0⟩ hp35
      refine S_v (r_load1 rfl Try.underlying23 rfl hp35 (hH.trans hL31.arg)) rfl ?_
      refine S_pu 1 rfl ?_
      refine S_seqnil ?_
      refine W_seqr ?_
      refine S_pu 2 rfl ?_
      refine S_v (r_len rfl Try.underlying23 e35h0) rfl ?_
      obtain ⟨hk37, h⟩ := Go.L.chk_some h
      refine S_v (r_ar64 rfl rfl rfl hk37) rfl ?_
      refine S_pu 1 rfl ?_
      refine S_seqnil ?_
      refine W_seqr ?_
      refine S_pu 2 rfl ?_
      refine S_seqnil ?_
      refine W_if rfl (fun hc38 => ?_) (fun hc38 => ?_)
      · replace h := Go.L.ite_p hc38 h
        refine W_region ?_
        cases h
      · replace h := Go.L.ite_n hc38 h
        refine W_skip ?_
        refine At_block ?_
        refine At_seq ?_
        refine W_region ?_
        obtain ⟨hk41, h⟩ := Go.L.chk_some h
        refine S_v (r_ar64 rfl rfl rfl hk41) rfl ?_
        refine S_pu 1 rfl ?_
        refine S_nil ?_
        have h := Go.L.Nxt.again h hm31
        refine At_round ((s3_29 + ((a0.getD s11_30.toNat default).length : Int)), (s11_30 + (1 : Int)), n31) (.cons rfl (.cons rfl (.cons rfl (.cons rfl (.cons rfl (Sub.nil _)))))) ⟨hL31, h⟩ (Nat.lt_succ_self _)
    · replace h := Go.L.ite_n hc33 h
      refine W_exit ?_
      refine At_seq_exit ?_
      refine At_loop_exit ?_
      replace h := Go.L.Nxt.out h hm31
      refine At_exit ?_
      refine At_cut s3_29 (.cons rfl (.cons rfl (Sub.nil _))) ⟨hL31, h⟩
  · rintro s3_15 wr16 ⟨hL16, h⟩
    refine W_seqr ?_
    refine S_pu 1 rfl ?_
    obtain ⟨x44, hb44, h⟩ := Go.L.bind_some h
    refine S_callL rfl rfl hL16 (slices_Grow_int_int_ok _ _ (gz_le hH hL16) (Vec.nil _ _) hb44) ?_
    rintro u45_0 w45 ⟨_, rfl, hR45_0⟩ hx45 hL45 hle45
    obtain ⟨xs45, hL45, hle45, he45⟩ := hR45_0.take hH hL16 hx45
    refine S_pu 1 rfl ?_
    refine S_seqnil ?_
    refine W_cut (σ := (List Int) × Value × (List Value)) (fun (⟨l57, vl57, xsl57⟩ : (List Int) × Value × (List Value)) => [(6, vl57)]) (fun (⟨l57, vl57, xsl57⟩ : (List Int) × Value × (List Value)) wr => Lcl w [.row (vl57) 3 1 (l57).length (xsl57)] wr ∧ Elems (.int .i64) (gz H w wr [.row (vl57) 3 1 (l57).length (xsl57)]) (l57) (xsl57) ∧ slices_Concat_int_int_k3 l57 = some r) ?_ ?_
    · refine W_seqr ?_
      refine S_pu 1 rfl ?_
      refine S_v (r_len rfl Try.underlying76 h0_0) rfl ?_
      refine S_pu 1 rfl ?_
      refine S_seqnil ?_
      refine W_block ?_
      obtain ⟨n71, h⟩ := Go.L.run_some h
      refine W_loop (σ := (List Int) × Int × Value × (List Value) × Nat) (fun (⟨l69, s27_70, vl69, xsl69, n⟩ : (List Int) × Int × Value × (List Value) × Nat) => [(6, vl69), (25, v0_0), (26, .int .i64 (a0.length : Int)), (27, .int .i64 s27_70)]) (fun (⟨l69, s27_70, vl69, xsl69, n⟩ : (List Int) × Int × Value × (List Value) × Nat) wr => Lcl w [.row (vl69) 3 1 (l69).length (xsl69)] wr ∧ Elems (.int .i64) (gz H w wr [.row (vl69) 3 1 (l69).length (xsl69)]) (l69) (xsl69) ∧ Go.L.itr (slices_Concat_int_int_bl4 a0) n (l69, s27_70) = some r) (fun (⟨l69, s27_70, vl69, xsl69, n⟩ : (List Int) × Int × Value × (List Value) × Nat) => n) (x44, (0 : Int), u45_0, xs45, n71) (.cons rfl (.cons rfl (.cons rfl (.cons rfl (Sub.nil _))))) ⟨hL45, he45, h⟩ ?_
      rintro ⟨l69, s27_70, vl69, xsl69, nn71⟩ wr71 ⟨hL71, hel69, h⟩
      obtain ⟨n71, e71, rfl, h, hm71⟩ := Go.L.itr_some h
      refine W_seqr ?_
      refine S_pu 1 rfl ?_
      refine S_seqnil ?_
      refine W_seq ?_
      refine W_if rfl (fun hc73 => ?_) (fun hc73 => ?_)
      · replace h := Go.L.ite_p hc73 h
        refine W_skip ?_
        refine At_seq ?_
        refine W_seq ?_
        refine W_block ?_
        refine W_seqr ?_
        obtain ⟨hk76, h⟩ := Go.L.chk_some h
        refine S_index rfl rfl Try.underlying76 zr23 h0_0 s27_70.toNat (Int.toNat_of_nonneg hk76.1).symm (idx_lt hk76) rfl ?_
        rintro p75 _ ⟨e75v0, rfl, e75h0⟩ hp75
        refine S_v (r_load1 rfl Try.underlying23 rfl hp75 (hH.trans hL71.arg)) rfl ?_
        refine S_pu 1 rfl ?_
        refine S_seqnil ?_
        refine W_region ?_
        refine S_pu 2 rfl ?_
        obtain ⟨hk78, h⟩ := Go.L.chk_some h
        refine S_appE (r := (.int .i64)) (l := l69) (m := a0.getD s27_70.toNat default) 0 rfl rfl Try.underlying23 zr3 rfl (by decide) rfl hH hL71 rfl hel69 (e75h0.mono (gz_left hH)) hk78 ?_
        intro v77 w77 xs77 hL77 hle77 he77
        refine S_pu 1 rfl ?_
        refine S_nil ?_
        refine At_block ?_
        refine At_seq ?_
        refine W_region ?_
        obtain ⟨hk79, h⟩ := Go.L.chk_some h
        refine S_v (r_ar64 rfl rfl rfl hk79) rfl ?_
        refine S_pu 1 rfl ?_
        refine S_nil ?_
        have h := Go.L.Nxt.again h hm71
        refine At_round ((l69 ++ a0.getD s27_70.toNat default), (s27_70 + (1 : Int)), v77, xs77, n71) (.cons rfl (.cons rfl (.cons rfl (.cons rfl (Sub.nil _))))) ⟨hL77, he77, h⟩ (Nat.lt_succ_self _)
      · replace h := Go.L.ite_n hc73 h
        refine W_exit ?_
        refine At_seq_exit ?_
        refine At_loop_exit ?_
        replace h := Go.L.Nxt.out h hm71
        refine At_exit ?_
        refine At_cut (l69, vl69, xsl69) (.cons rfl (Sub.nil _)) ⟨hL71, hel69, h⟩
    · rintro ⟨l57, vl57, xsl57⟩ wr58 ⟨hL58, hel57, h⟩
      refine W_seqr ?_
      refine S_pu 2 rfl ?_
      refine S_seqnil ?_
      refine W_ret ?_
      obtain rfl := Option.some.inj h
      refine At_body rfl rfl ?_
      exact ⟨hL58.ext, _, rfl, (hL58.ownH hH (i := 0) rfl hel57)⟩

noncomputable def fmindex_Build_k1 (c16 : Int) (c17 : Int) : Option ((((List Int)) × (List Int) × (List Int)) × (Int × Int)) :=
  some (([], [], []), (c16, c17))
noncomputable def fmindex_Build_k2 (l61 : List Int) : Option ((((List Int)) × (List Int) × (List Int)) × (Int × Int)) :=
  Option.bind (fmindex_fromSymbols l61) (fun x113 => some ((x113.1.1, x113.1.2.1, x113.1.2.2), ((0 : Int), (0 : Int))))
noncomputable def fmindex_Build_bl3 (a0 : List UInt8) (x66 : (List Int)) : (List Int) × Int → Option (((List Int) × Int) ⊕ ((((List Int)) × (List Int) × (List Int)) × (Int × Int))) := fun ⟨l88, s32_89⟩ =>
  if s32_89 < (x66.length : Int) then Go.L.chk (0 ≤ s32_89 ∧ s32_89 < (x66.length : Int)) (if x66.getD s32_89.toNat default = (0 : Int) then Go.L.chk (Go.E.Cap 8 (l88.length + ([(-1 : Int)]).length)) (Go.L.chk (Go.L.I64 (s32_89 + (1 : Int))) (some (Sum.inl ((l88 ++ [(-1 : Int)]), (s32_89 + (1 : Int)))))) else Go.L.chk (Go.L.I64 (x66.getD s32_89.toNat default - (1 : Int))) (Go.L.chk (0 ≤ (x66.getD s32_89.toNat default - (1 : Int)) ∧ (x66.getD s32_89.toNat default - (1 : Int)) < (a0.length : Int)) (Go.L.chk (Go.E.Cap 8 (l88.length + ([((a0.getD ((x66.getD s32_89.toNat default - (1 : Int)).toNat) default).toNat : Int)]).length)) (Go.L.chk (Go.L.I64 (s32_89 + (1 : Int))) (some (Sum.inl ((l88 ++ [((a0.getD ((x66.getD s32_89.toNat default - (1 : Int)).toNat) default).toNat : Int)]), (s32_89 + (1 : Int))))))))) else Option.map Sum.inr (fmindex_Build_k2 l88)
noncomputable def fmindex_Build_l3 (a0 : List UInt8) (x66 : (List Int)) (s : (List Int) × Int) : Option ((((List Int)) × (List Int) × (List Int)) × (Int × Int)) := Go.L.run (fmindex_Build_bl3 a0 x66) s
noncomputable def fmindex_Build (a0 : List UInt8) : Option ((((List Int)) × (List Int) × (List Int)) × (Int × Int)) :=
  Option.bind (suffix_Array a0) (fun x3 => if x3.2.1 = (0 : Int) ∧ x3.2.2 = (0 : Int) then Go.L.chk (Go.L.I64 ((a0.length : Int) + (1 : Int))) (Go.L.chk (0 ≤ ((a0.length : Int) + (1 : Int)) ∧ ((8 : Nat) : Int) * ((a0.length : Int) + (1 : Int)) ≤ 281474976710656 ∧ ((a0.length : Int) + (1 : Int)) ≤ 9223372036854775807) (Option.bind (slices_Concat_int_int ([[(a0.length : Int)], x3.1])) (fun x66 => (fmindex_Build_l3 a0 x66) (([] : List Int), (0 : Int))))) else fmindex_Build_k1 x3.2.1 x3.2.2)

set_option maxRecDepth 10000 in
theorem fmindex_Build_ok (w : World) (H : PH) (hH : Le H (hp w)) {a0 : List UInt8} {v0_0 : Value} (h0_0 : Vec .byte H v0_0 (a0)) {r : (((List Int)) × (List Int) × (List Int)) × (Int × Int)} (h : fmindex_Build a0 = some r) :
    Ok Try.prog 29 [v0_0] w (fun v w' => Ext w w' ∧ ∃ u0 u1 u2, v = .tuple #[.agg #[u0, u1, u2], .agg #[.int .i64 r.2.1, .int .i64 r.2.2]] ∧ Vec (.int .i64) (un H (nw w w')) u0 (r.1.1) ∧ Vec (.int .i64) (un H (nw w w')) u1 (r.1.2.1) ∧ Vec (.int .i64) (un H (nw w w')) u2 (r.1.2.2)) := by
  refine Ok_enter (n := 58) [(0, v0_0)] Try.func29 rfl rfl rfl rfl rfl ?_
  have hL := Lcl.start w
  refine W_seqr ?_
  refine S_alloc zr50 rfl rfl hL ?_
  intro w1 b1 hL1 hle1 _
  refine S_alloc zr25 rfl rfl hL1 ?_
  intro w2 b2 hL2 hle2 _
  refine S_seqnil ?_
  refine W_seqr ?_
  refine S_pu 1 rfl ?_
  obtain ⟨x3, hb3, h⟩ := Go.L.bind_some h
  refine S_callL rfl rfl hL2 (suffix_Array_ok _ _ (gz_le hH hL2) (h0_0.mono (gz_left hH)) hb3) ?_
  rintro _ w4 ⟨u4_0, rfl, hR4_0⟩ hx4 hL4 hle4
  have hv4_0 := hR4_0.vecG hH hL2 hx4
  refine S_pu 3 rfl ?_
  refine S_alloc zr25 rfl rfl hL4 ?_
  intro w5 b5 hL5 hle5 _
  replace hv4_0 := hv4_0.mono (gz_mono hH hle5)
  refine S_pu 1 rfl ?_
  refine S_storeBN 0 rfl rfl rfl zr25 hL5 rfl rfl (onc rfl (onc rfl on0)) ?_
  intro w6 hL6 hle6
  replace hv4_0 := hv4_0.mono (gz_mono hH hle6)
  refine S_seqnil ?_
  refine W_seq ?_
  refine W_seqr ?_
  refine S_v (r_loadBN 0 rfl Try.underlying25 rfl zr25 hL6 rfl) rfl ?_
  refine S_v (r_build rfl (fun _ => bld25_z _)) rfl ?_
  refine S_v (r_neA rfl rfl eqg25 (eq25 _ _ _ _ )) rfl ?_
  refine S_seqnil ?_
  refine W_ifn rfl (fun hc7 => ?_) (fun hc7 => ?_)
  · replace h := Go.L.ite_n hc7 h
    refine W_cut (σ := Int × Int) (fun (⟨c16, c17⟩ : Int × Int) => [(2, .pointer (some ⟨b1, 0, none⟩)), (3, .pointer (some ⟨b2, 0, none⟩))]) (fun (⟨c16, c17⟩ : Int × Int) wr => Lcl w [.box b5 [.int .i64 x3.2.1, .int .i64 x3.2.2] 25, .box b2 [.int .i64 c16, .int .i64 c17] 25, .box b1 [.slice none 0 0, .slice none 0 0, .slice none 0 0] 50] wr ∧ fmindex_Build_k1 c16 c17 = some r) ?_ ?_
    · refine W_naive mixed rfl (fun w23 hx23 => ?_)
      have hL24 := hL6.call hx23
      refine N_hoist 0 (np_cut (np_seq np_body)) (by kernel_rfl) rfl (fun _ => r_build rfl (fun _ => bld50_z _)) rfl ?_
      refine N2 (i := 1) (j := 2) (by kernel_rfl) rfl rfl ?_ ?_
      · refine S_v (r_loadBN 0 rfl Try.underlying25 rfl zr25 hL24 rfl) rfl ?_
        refine N_nil ?_
        refine N1 (i := 2) (by kernel_rfl) rfl ?_
        refine S_storeBN 2 rfl rfl rfl zr50 hL24 rfl rfl (onc rfl (onc rfl (onc rfl on0))) ?_
        intro w25 hL25 hle25
        refine N_nil ?_
        refine N1 (i := 3) (by kernel_rfl) rfl ?_
        refine S_storeBN 1 rfl rfl rfl zr25 hL25 rfl rfl (onc rfl (onc rfl on0)) ?_
        intro w26 hL26 hle26
        refine N_nil ?_
        refine N_end (by kernel_rfl) ?_
        refine At_cut (x3.2.1, x3.2.2) (.cons rfl (.cons rfl (Sub.nil _))) ⟨hL26, h⟩
      · refine S_storeBN 2 rfl rfl rfl zr50 hL24 rfl rfl (onc rfl (onc rfl (onc rfl on0))) ?_
        intro w27 hL27 hle27
        refine N_nil ?_
        refine N1 (i := 1) (by kernel_rfl) rfl ?_
        refine S_v (r_loadBN 0 rfl Try.underlying25 rfl zr25 hL27 rfl) rfl ?_
        refine N_nil ?_
        refine N1 (i := 3) (by kernel_rfl) rfl ?_
        refine S_storeBN 1 rfl rfl rfl zr25 hL27 rfl rfl (onc rfl (onc rfl on0)) ?_
        intro w28 hL28 hle28
        refine N_nil ?_
        refine N_end (by kernel_rfl) ?_
        refine At_cut (x3.2.1, x3.2.2) (.cons rfl (.cons rfl (Sub.nil _))) ⟨hL28, h⟩
    · rintro ⟨c16, c17⟩ wr21 ⟨hL21, h⟩
      refine W_ret ?_
      refine At_seq_ret ?_
      obtain rfl := Option.some.inj h
      refine At_got2 rfl (.cell rfl Try.underlying50 rfl zr50 (box_ptr (i := 2) hL21 rfl)) (.cell rfl Try.underlying25 rfl zr25 (box_ptr (i := 1) hL21 rfl)) ?_
      exact ⟨hL21.ext, _, _, _, rfl, (Vec.nil _ _), (Vec.nil _ _), (Vec.nil _ _)⟩
  · replace h := Go.L.ite_p hc7 h
    refine W_skip ?_
    refine At_seq ?_
    refine W_seqr ?_
    refine S_pu 1 rfl ?_
    refine S_v (r_len rfl Try.underlying22 h0_0) rfl ?_
    obtain ⟨hk31, h⟩ := Go.L.chk_some h
    refine S_v (r_ar64 rfl rfl rfl hk31) rfl ?_
    obtain ⟨hk34, h⟩ := Go.L.chk_some h
    refine S_make0 (H := H) (r := (.int .i64)) rfl rfl Try.underlying23 zr3 rfl hL6 hk34 ?_
    intro v33 w33 xs33 hL33 hle33 he33
    replace hv4_0 := hv4_0.mono (gz_mono hH hle33)
    refine S_pu 1 rfl ?_
    refine S_seqnil ?_
    refine W_cut (σ := (List Int) × Value × (List Value)) (fun (⟨l61, vl61, xsl61⟩ : (List Int) × Value × (List Value)) => [(2, .pointer (some ⟨b1, 0, none⟩)), (3, .pointer (some ⟨b2, 0, none⟩)), (6, vl61)]) (fun (⟨l61, vl61, xsl61⟩ : (List Int) × Value × (List Value)) wr => Lcl w [.row (vl61) 3 1 (l61).length (xsl61), .box b5 [.int .i64 x3.2.1, .int .i64 x3.2.2] 25, .box b2 [.int .i64 (0 : Int), .int .i64 (0 : Int)] 25, .box b1 [.slice none 0 0, .slice none 0 0, .slice none 0 0] 50] wr ∧ Elems (.int .i64) (gz H w wr [.row (vl61) 3 1 (l61).length (xsl61), .box b5 [.int .i64 x3.2.1, .int .i64 x3.2.2] 25, .box b2 [.int .i64 (0 : Int), .int .i64 (0 : Int)] 25, .box b1 [.slice none 0 0, .slice none 0 0, .slice none 0 0] 50]) (l61) (xsl61) ∧ fmindex_Build_k2 l61 = some r) ?_ ?_
    · refine W_seqr ?_
      refine S_pu 1 rfl ?_
      refine S_v (r_len rfl Try.underlying22 h0_0) rfl ?_
      refine S_litE (r := (.int .i64)) (l := [(a0.length : Int)]) rfl (fun _ => bsl23_1 _ _) rfl (show 1 ≤ 9223372036854775807 by decide) hH hL33 (.c1 rfl .nil) ?_
      intro v64 w64 hx64 hL64 hle64 hv64
      replace hv4_0 := hv4_0.mono (gz_mono hH hle64)
      replace he33 := he33.mono (gz_mono hH hle64)
      refine S_pu 1 rfl ?_
      refine S_litE (r := (.vec (.int .i64))) (l := [[(a0.length : Int)], x3.1]) rfl (fun _ => bsl76_2 _ hv64.one _ hv4_0.one _) rfl (show 2 ≤ 9223372036854775807 by decide) hH hL64 (.c1 ⟨_, rfl, hv64⟩ (.c1 ⟨_, rfl, hv4_0⟩ .nil)) ?_
      intro v65 w65 hx65 hL65 hle65 hv65
      replace hv4_0 := hv4_0.mono (gz_mono hH hle65)
      replace he33 := he33.mono (gz_mono hH hle65)
      replace hv64 := hv64.mono (gz_mono hH hle65)
      obtain ⟨x66, hb66, h⟩ := Go.L.bind_some h
      refine S_callL rfl rfl hL65 (slices_Concat_int_int_ok _ _ (gz_le hH hL65) hv65 hb66) ?_
      rintro u67_0 w67 ⟨_, rfl, hR67_0⟩ hx67 hL67 hle67
      have hv67_0 := hR67_0.vecG hH hL65 hx67
      replace hv4_0 := hv4_0.mono (gz_mono hH hle67)
      replace he33 := he33.mono (gz_mono hH hle67)
      replace hv64 := hv64.mono (gz_mono hH hle67)
      replace hv65 := hv65.mono (gz_mono hH hle67)
      refine S_v (r_len rfl Try.underlying23 hv67_0) rfl ?_
      refine S_pu 1 rfl ?_
      refine S_seqnil ?_
      refine W_block ?_
      obtain ⟨n90, h⟩ := Go.L.run_some h
      refine W_loop (σ := (List Int) × Int × Value × (List Value) × Nat) (fun (⟨l88, s32_89, vl88, xsl88, n⟩ : (List Int) × Int × Value × (List Value) × Nat) => [(0, v0_0), (2, .pointer (some ⟨b1, 0, none⟩)), (3, .pointer (some ⟨b2, 0, none⟩)), (6, vl88), (30, u67_0), (31, .int .i64 (x66.length : Int)), (32, .int .i64 s32_89)]) (fun (⟨l88, s32_89, vl88, xsl88, n⟩ : (List Int) × Int × Value × (List Value) × Nat) wr => Lcl w [.row (vl88) 3 1 (l88).length (xsl88), .box b5 [.int .i64 x3.2.1, .int .i64 x3.2.2] 25, .box b2 [.int .i64 (0 : Int), .int .i64 (0 : Int)] 25, .box b1 [.slice none 0 0, .slice none 0 0, .slice none 0 0] 50] wr ∧ Vec (.int .i64) (gz H w wr [.row (vl88) 3 1 (l88).length (xsl88), .box b5 [.int .i64 x3.2.1, .int .i64 x3.2.2] 25, .box b2 [.int .i64 (0 : Int), .int .i64 (0 : Int)] 25, .box b1 [.slice none 0 0, .slice none 0 0, .slice none 0 0] 50]) (u67_0) (x66) ∧ Elems (.int .i64) (gz H w wr [.row (vl88) 3 1 (l88).length (xsl88), .box b5 [.int .i64 x3.2.1, .int .i64 x3.2.2] 25, .box b2 [.int .i64 (0 : Int), .int .i64 (0 : Int)] 25, .box b1 [.slice none 0 0, .slice none 0 0, .slice none 0 0] 50]) (l88) (xsl88) ∧ Go.L.itr (fmindex_Build_bl3 a0 x66) n (l88, s32_89) = some r) (fun (⟨l88, s32_89, vl88, xsl88, n⟩ : (List Int) × Int × Value × (List Value) × Nat) => n) (([] : List Int), (0 : Int), v33, xs33, n90) (.cons rfl (.cons rfl (.cons rfl (.cons rfl (.cons rfl (.cons rfl (.cons rfl (Sub.nil _)))))))) ⟨hL67, hv67_0, he33, h⟩ ?_
      rintro ⟨l88, s32_89, vl88, xsl88, nn90⟩ wr90 ⟨hL90, hf90_0, hel88, h⟩
      obtain ⟨n90, e90, rfl, h, hm90⟩ := Go.L.itr_some h
      refine W_seqr ?_
      refine S_pu 1 rfl ?_
      refine S_seqnil ?_
      refine W_seq ?_
      refine W_if rfl (fun hc92 => ?_) (fun hc92 => ?_)
      · replace h := Go.L.ite_p hc92 h
        refine W_skip ?_
        refine At_seq ?_
        refine W_seq ?_
        refine W_block ?_
        refine W_seqr ?_
        obtain ⟨hk95, h⟩ := Go.L.chk_some h
        refine S_index rfl rfl Try.underlying23 zr3 hf90_0 s32_89.toNat (Int.toNat_of_nonneg hk95.1).symm (idx_lt hk95) rfl ?_
        rintro p94 _ rfl hp94
        refine S_v (r_load1 rfl Try.underlying3 rfl hp94 (gz_le hH hL90)) rfl ?_
        refine S_pu 1 rfl ?_
        refine S_seqnil ?_
        refine W_seqr ?_
        refine S_pu 2 rfl ?_
        refine S_seqnil ?_
        refine W_if rfl (fun hc96 => ?_) (fun hc96 => ?_)
        · replace h := Go.L.ite_p hc96 h
          refine W_region ?_
          refine S_pu 1 rfl ?_
          refine S_litE (r := (.int .i64)) (l := [(-1 : Int)]) rfl (fun _ => bsl23_1 _ _) rfl (show 1 ≤ 9223372036854775807 by decide) hH hL90 (.c1 rfl .nil) ?_
          intro v98 w98 hx98 hL98 hle98 hv98
          replace hf90_0 := hf90_0.mono (gz_mono hH hle98)
          replace hel88 := hel88.mono (gz_mono hH hle98)
          obtain ⟨hk100, h⟩ := Go.L.chk_some h
          refine S_appE (r := (.int .i64)) (l := l88) (m := [(-1 : Int)]) 0 rfl rfl Try.underlying23 zr3 rfl (by decide) rfl hH hL98 rfl hel88 hv98 hk100 ?_
          intro v99 w99 xs99 hL99 hle99 he99
          replace hf90_0 := hf90_0.mono (gz_mono hH hle99)
          replace hv98 := hv98.mono (gz_mono hH hle99)
          refine S_pu 1 rfl ?_
          refine S_nil ?_
          refine At_block ?_
          refine At_seq ?_
          refine W_region ?_
          obtain ⟨hk101, h⟩ := Go.L.chk_some h
          refine S_v (r_ar64 rfl rfl rfl hk101) rfl ?_
          refine S_pu 1 rfl ?_
          refine S_nil ?_
          have h := Go.L.Nxt.again h hm90
          refine At_round ((l88 ++ [(-1 : Int)]), (s32_89 + (1 : Int)), v99, xs99, n90) (.cons rfl (.cons rfl (.cons rfl (.cons rfl (.cons rfl (.cons rfl (.cons rfl (Sub.nil _)))))))) ⟨hL99, hf90_0, he99, h⟩ (Nat.lt_succ_self _)
        · replace h := Go.L.ite_n hc96 h
          refine W_region ?_
          refine S_pu 3 rfl ?_
          obtain ⟨hk103, h⟩ := Go.L.chk_some h
          refine S_v (r_ar64 rfl rfl rfl hk103) rfl ?_
          obtain ⟨hk105, h⟩ := Go.L.chk_some h
          refine S_index rfl rfl Try.underlying22 zr5 h0_0 ((x66.getD s32_89.toNat default - (1 : Int)).toNat) (Int.toNat_of_nonneg hk105.1).symm (idx_lt hk105) rfl ?_
          rintro p104 _ rfl hp104
          refine S_v (r_load1 rfl Try.underlying5 rfl hp104 (hH.trans hL90.arg)) rfl ?_
          refine S_v (r_conv Try.underlying5 Try.underlying3 rfl (conv_8_64 _)) rfl ?_
          refine S_litE (r := (.int .i64)) (l := [((a0.getD ((x66.getD s32_89.toNat default - (1 : Int)).toNat) default).toNat : Int)]) rfl (fun _ => bsl23_1 _ _) rfl (show 1 ≤ 9223372036854775807 by decide) hH hL90 (.c1 rfl .nil) ?_
          intro v106 w106 hx106 hL106 hle106 hv106
          replace hf90_0 := hf90_0.mono (gz_mono hH hle106)
          replace hel88 := hel88.mono (gz_mono hH hle106)
          obtain ⟨hk108, h⟩ := Go.L.chk_some h
          refine S_appE (r := (.int .i64)) (l := l88) (m := [((a0.getD ((x66.getD s32_89.toNat default - (1 : Int)).toNat) default).toNat : Int)]) 0 rfl rfl Try.underlying23 zr3 rfl (by decide) rfl hH hL106 rfl hel88 hv106 hk108 ?_
          intro v107 w107 xs107 hL107 hle107 he107
          replace hf90_0 := hf90_0.mono (gz_mono hH hle107)
          replace hv106 := hv106.mono (gz_mono hH hle107)
          refine S_pu 1 rfl ?_
          refine S_nil ?_
          refine At_block ?_
          refine At_seq ?_
          refine W_region ?_
          obtain ⟨hk109, h⟩ := Go.L.chk_some h
          refine S_v (r_ar64 rfl rfl rfl hk109) rfl ?_
          refine S_pu 1 rfl ?_
          refine S_nil ?_
          have h := Go.L.Nxt.again h hm90
          refine At_round ((l88 ++ [((a0.getD ((x66.getD s32_89.toNat default - (1 : Int)).toNat) default).toNat : Int)]), (s32_89 + (1 : Int)), v107, xs107, n90) (.cons rfl (.cons rfl (.cons rfl (.cons rfl (.cons rfl (.cons rfl (.cons rfl (Sub.nil _)))))))) ⟨hL107, hf90_0, he107, h⟩ (Nat.lt_succ_self _)
      · replace h := Go.L.ite_n hc92 h
        refine W_exit ?_
        refine At_seq_exit ?_
        refine At_loop_exit ?_
        replace h := Go.L.Nxt.out h hm90
        refine At_exit ?_
        refine At_cut (l88, vl88, xsl88) (.cons rfl (.cons rfl (.cons rfl (Sub.nil _)))) ⟨hL90, hel88, h⟩
    · rintro ⟨l61, vl61, xsl61⟩ wr62 ⟨hL62, hel61, h⟩
      refine W_seqr ?_
      refine S_pu 1 rfl ?_
      have hv112 := hL62.vecG hH (i := 0) rfl hel61
      have hL112 := hL62.dropAt (i := 0) rfl
      obtain ⟨x113, hb113, h⟩ := Go.L.bind_some h
      refine S_callL rfl rfl hL112 (fmindex_fromSymbols_ok _ _ (gz_le hH hL112) hv112 hb113) ?_
      rintro _ w114 ⟨u114_0, u114_1, u114_2, rfl, hR114_0, hR114_1, hR114_2⟩ hx114 hL114 hle114
      have hv114_0 := hR114_0.mono (gz_nw hH hL112 hx114)
      have hv114_1 := hR114_1.vecG hH hL112 hx114
      have hv114_2 := hR114_2.vecG hH hL112 hx114
      replace hv112 := hv112.mono (gz_mono hH hle114)
      refine S_pu 3 rfl ?_
      refine S_alloc zr50 rfl rfl hL114 ?_
      intro w115 b115 hL115 hle115 _
      replace hv112 := hv112.mono (gz_mono hH hle115)
      replace hv114_0 := hv114_0.mono (gz_mono hH hle115)
      replace hv114_1 := hv114_1.mono (gz_mono hH hle115)
      replace hv114_2 := hv114_2.mono (gz_mono hH hle115)
      refine S_storeBN 0 rfl rfl rfl zr50 hL115 rfl rfl (onc hv114_0.one (onc hv114_1.one (onc hv114_2.one on0))) ?_
      intro w116 hL116 hle116
      replace hv112 := hv112.mono (gz_mono hH hle116)
      replace hv114_0 := hv114_0.mono (gz_mono hH hle116)
      replace hv114_1 := hv114_1.mono (gz_mono hH hle116)
      replace hv114_2 := hv114_2.mono (gz_mono hH hle116)
      refine S_pu 1 rfl ?_
      refine S_seqnil ?_
      refine W_seqr ?_
      refine S_v (r_loadBN 0 rfl Try.underlying50 rfl zr50 hL116 rfl) rfl ?_
      refine S_v (r_build rfl (fun _ => bld25_z _)) rfl ?_
      refine S_storeBN 3 rfl rfl rfl zr50 hL116 rfl rfl (onc hv114_0.one (onc hv114_1.one (onc hv114_2.one on0))) ?_
      intro w117 hL117 hle117
      replace hv114_0 := hv114_0.mono (gz_mono hH hle117)
      replace hv114_1 := hv114_1.mono (gz_mono hH hle117)
      replace hv114_2 := hv114_2.mono (gz_mono hH hle117)
      refine S_storeBN 2 rfl rfl rfl zr25 hL117 rfl rfl (onc rfl (onc rfl on0)) ?_
      intro w118 hL118 hle118
      replace hv114_0 := hv114_0.mono (gz_mono hH hle118)
      replace hv114_1 := hv114_1.mono (gz_mono hH hle118)
      replace hv114_2 := hv114_2.mono (gz_mono hH hle118)
      refine S_seqnil ?_
      refine W_ret ?_
      obtain rfl := Option.some.inj h
      refine At_got2 rfl (.cell rfl Try.underlying50 rfl zr50 (box_ptr (i := 3) hL118 rfl)) (.cell rfl Try.underlying25 rfl zr25 (box_ptr (i := 2) hL118 rfl)) ?_
      exact ⟨hL118.ext, _, _, _, rfl, (hv114_0.mono (gz_res hH)), (hv114_1.mono (gz_res hH)), (hv114_2.mono (gz_res hH))⟩

noncomputable def law4_patternFault (a0 : List UInt8) : Option ((Int × Int)) :=
  if (a0.length : Int) = (0 : Int) then Option.bind (ref3_At (10 : Int) (-1 : Int)) (fun x4 => some ((x4.1, x4.2))) else (if (64 : Int) < (a0.length : Int) then Option.bind (ref3_At (3 : Int) (-1 : Int)) (fun x10 => some ((x10.1, x10.2))) else some (((0 : Int), (0 : Int))))

set_option maxRecDepth 10000 in
theorem law4_patternFault_ok (w : World) (H : PH) (hH : Le H (hp w)) {a0 : List UInt8} {v0_0 : Value} (h0_0 : Vec .byte H v0_0 (a0)) {r : (Int × Int)} (h : law4_patternFault a0 = some r) :
    Ok Try.prog 34 [v0_0] w (fun v w' => Ext w w' ∧ v = .agg #[.int .i64 r.1, .int .i64 r.2]) := by
  refine Ok_enter (n := 12) [(0, v0_0)] Try.func34 rfl rfl rfl rfl rfl ?_
  have hL := Lcl.start w
  refine W_seqr ?_
  refine S_alloc zr25 rfl rfl hL ?_
  intro w1 b1 hL1 hle1 _
  refine S_seqnil ?_
  refine W_seq ?_
  refine W_seqr ?_
  refine S_pu 1 rfl ?_
  refine S_v (r_len rfl Try.underlying22 h0_0) rfl ?_
  refine S_pu 1 rfl ?_
  refine S_seqnil ?_
  refine W_if rfl (fun hc2 => ?_) (fun hc2 => ?_)
  · replace h := Go.L.ite_p hc2 h
    refine W_seqr ?_
    obtain ⟨x4, hb4, h⟩ := Go.L.bind_some h
    refine S_callL rfl rfl hL1 (ref3_At_ok _ _ (gz_le hH hL1) hb4) ?_
    rintro _ w5 rfl hx5 hL5 hle5
    refine S_storeBN 0 rfl rfl rfl zr25 hL5 rfl rfl (onc rfl (onc rfl on0)) ?_
    intro w6 hL6 hle6
    refine S_seqnil ?_
    refine W_ret ?_
    refine At_seq_ret ?_
    obtain rfl := Option.some.inj h
    refine At_got1 rfl (.cell rfl Try.underlying25 rfl zr25 (box_ptr (i := 0) hL6 rfl)) ?_
    exact ⟨hL6.ext, rfl⟩
  · replace h := Go.L.ite_n hc2 h
    refine W_skip ?_
    refine At_seq ?_
    refine W_seq ?_
    refine W_seqr ?_
    refine S_pu 1 rfl ?_
    refine S_v (r_len rfl Try.underlying22 h0_0) rfl ?_
    refine S_pu 1 rfl ?_
    refine S_seqnil ?_
    refine W_if rfl (fun hc8 => ?_) (fun hc8 => ?_)
    · replace h := Go.L.ite_p hc8 h
      refine W_seqr ?_
      obtain ⟨x10, hb10, h⟩ := Go.L.bind_some h
      refine S_callL rfl rfl hL1 (ref3_At_ok _ _ (gz_le hH hL1) hb10) ?_
      rintro _ w11 rfl hx11 hL11 hle11
      refine S_storeBN 0 rfl rfl rfl zr25 hL11 rfl rfl (onc rfl (onc rfl on0)) ?_
      intro w12 hL12 hle12
      refine S_seqnil ?_
      refine W_ret ?_
      refine At_seq_ret ?_
      obtain rfl := Option.some.inj h
      refine At_got1 rfl (.cell rfl Try.underlying25 rfl zr25 (box_ptr (i := 0) hL12 rfl)) ?_
      exact ⟨hL12.ext, rfl⟩
    · replace h := Go.L.ite_n hc8 h
      refine W_skip ?_
      refine At_seq ?_
      refine W_seqr ?_
      refine S_v (r_build rfl (fun _ => bld25_z _)) rfl ?_
      refine S_storeBN 0 rfl rfl rfl zr25 hL1 rfl rfl (onc rfl (onc rfl on0)) ?_
      intro w14 hL14 hle14
      refine S_seqnil ?_
      refine W_ret ?_
      obtain rfl := Option.some.inj h
      refine At_got1 rfl (.cell rfl Try.underlying25 rfl zr25 (box_ptr (i := 0) hL14 rfl)) ?_
      exact ⟨hL14.ext, rfl⟩

noncomputable def ref4_Places_k1 (l18 : List Int) : Option ((List Int)) :=
  some (l18)
noncomputable def ref4_Places_bl2 (a0 : List UInt8) (a1 : List UInt8) : (List Int) × Int → Option (((List Int) × Int) ⊕ ((List Int))) := fun ⟨l35, s6_36⟩ =>
  if s6_36 < (a0.length : Int) then Option.bind (ref4_Begins a0 s6_36 a1) (fun x41 => if x41 then Go.L.chk (Go.E.Cap 8 (l35.length + ([s6_36]).length)) (Go.L.chk (Go.L.I64 (s6_36 + (1 : Int))) (some (Sum.inl ((l35 ++ [s6_36]), (s6_36 + (1 : Int)))))) else Go.L.chk (Go.L.I64 (s6_36 + (1 : Int))) (some (Sum.inl (l35, (s6_36 + (1 : Int)))))) else Option.map Sum.inr (ref4_Places_k1 l35)
noncomputable def ref4_Places_l2 (a0 : List UInt8) (a1 : List UInt8) (s : (List Int) × Int) : Option ((List Int)) := Go.L.run (ref4_Places_bl2 a0 a1) s
noncomputable def ref4_Places (a0 : List UInt8) (a1 : List UInt8) : Option ((List Int)) :=
  (ref4_Places_l2 a0 a1) (([] : List Int), (0 : Int))

set_option maxRecDepth 10000 in
theorem ref4_Places_ok (w : World) (H : PH) (hH : Le H (hp w)) {a0 : List UInt8} {a1 : List UInt8} {v0_0 : Value} {v1_0 : Value} (h0_0 : Vec .byte H v0_0 (a0)) (h1_0 : Vec .byte H v1_0 (a1)) {r : (List Int)} (h : ref4_Places a0 a1 = some r) :
    Ok Try.prog 35 [v0_0, v1_0] w (fun v w' => Ext w w' ∧ ∃ u0, v = u0 ∧ OwnH 3 (.int .i64) H w w' u0 (r)) := by
  refine Ok_enter (n := 22) [(0, v0_0), (1, v1_0)] Try.func35 rfl rfl rfl rfl rfl ?_
  have hL := Lcl.start w
  refine W_seqr ?_
  refine S_pu 1 rfl ?_
  refine S_seqnil ?_
  refine W_seqr ?_
  refine S_pu 1 rfl ?_
  obtain ⟨hL1, hle1, he1⟩ := row_nilE (.int .i64) H 3 hL
  refine S_seqnil ?_
  refine W_cut (σ := (List Int) × Value × (List Value)) (fun (⟨l18, vl18, xsl18⟩ : (List Int) × Value × (List Value)) => [(5, vl18)]) (fun (⟨l18, vl18, xsl18⟩ : (List Int) × Value × (List Value)) wr => Lcl w [.row (vl18) 3 1 (l18).length (xsl18)] wr ∧ Elems (.int .i64) (gz H w wr [.row (vl18) 3 1 (l18).length (xsl18)]) (l18) (xsl18) ∧ ref4_Places_k1 l18 = some r) ?_ ?_
  · refine W_seqr ?_
    refine S_pu 1 rfl ?_
    refine S_seqnil ?_
    refine W_block ?_
    obtain ⟨n37, h⟩ := Go.L.run_some h
    refine W_loop (σ := (List Int) × Int × Value × (List Value) × Nat) (fun (⟨l35, s6_36, vl35, xsl35, n⟩ : (List Int) × Int × Value × (List Value) × Nat) => [(0, v0_0), (1, v1_0), (5, vl35), (6, .int .i64 s6_36)]) (fun (⟨l35, s6_36, vl35, xsl35, n⟩ : (List Int) × Int × Value × (List Value) × Nat) wr => Lcl w [.row (vl35) 3 1 (l35).length (xsl35)] wr ∧ Elems (.int .i64) (gz H w wr [.row (vl35) 3 1 (l35).length (xsl35)]) (l35) (xsl35) ∧ Go.L.itr (ref4_Places_bl2 a0 a1) n (l35, s6_36) = some r) (fun (⟨l35, s6_36, vl35, xsl35, n⟩ : (List Int) × Int × Value × (List Value) × Nat) => n) (([] : List Int), (0 : Int), .slice none 0 0, [], n37) (.cons rfl (.cons rfl (.cons rfl (.cons rfl (Sub.nil _))))) ⟨hL1, he1, h⟩ ?_
    rintro ⟨l35, s6_36, vl35, xsl35, nn37⟩ wr37 ⟨hL37, hel35, h⟩
    obtain ⟨n37, e37, rfl, h, hm37⟩ := Go.L.itr_some h
    refine W_seq ?_
    refine W_seqr ?_
    refine S_pu 2 rfl ?_
    refine S_v (r_len rfl Try.underlying22 h0_0) rfl ?_
    refine S_pu 1 rfl ?_
    refine S_seqnil ?_
    refine W_if rfl (fun hc39 => ?_) (fun hc39 => ?_)
    · replace h := Go.L.ite_p hc39 h
      refine W_skip ?_
      refine At_seq ?_
      refine W_seq ?_
      refine W_block ?_
      refine W_seqr ?_
      refine S_pu 3 rfl ?_
      obtain ⟨x41, hb41, h⟩ := Go.L.bind_some h
      refine S_callL rfl rfl hL37 (ref4_Begins_ok _ _ (gz_le hH hL37) (h0_0.mono (gz_left hH)) (h1_0.mono (gz_left hH)) hb41) ?_
      rintro _ w42 rfl hx42 hL42 hle42
      replace hel35 := hel35.mono (gz_mono hH hle42)
      refine S_seqnil ?_
      refine W_cond rfl (fun hc43 => ?_) (fun hc43 => ?_)
      · replace h := Go.L.ite_t hc43 h
        refine W_region ?_
        refine S_pu 2 rfl ?_
        refine S_litE (r := (.int .i64)) (l := [s6_36]) rfl (fun _ => bsl23_1 _ _) rfl (show 1 ≤ 9223372036854775807 by decide) hH hL42 (.c1 rfl .nil) ?_
        intro v45 w45 hx45 hL45 hle45 hv45
        replace hel35 := hel35.mono (gz_mono hH hle45)
        obtain ⟨hk47, h⟩ := Go.L.chk_some h
        refine S_appE (r := (.int .i64)) (l := l35) (m := [s6_36]) 0 rfl rfl Try.underlying23 zr3 rfl (by decide) rfl hH hL45 rfl hel35 hv45 hk47 ?_
        intro v46 w46 xs46 hL46 hle46 he46
        replace hv45 := hv45.mono (gz_mono hH hle46)
        refine S_pu 1 rfl ?_
        refine S_nil ?_
        refine At_block ?_
        refine At_seq ?_
        refine W_region ?_
        refine S_pu 1 rfl ?_
        obtain ⟨hk48, h⟩ := Go.L.chk_some h
        refine S_v (r_ar64 rfl rfl rfl hk48) rfl ?_
        refine S_pu 1 rfl ?_
        refine S_nil ?_
        have h := Go.L.Nxt.again h hm37
        refine At_round ((l35 ++ [s6_36]), (s6_36 + (1 : Int)), v46, xs46, n37) (.cons rfl (.cons rfl (.cons rfl (.cons rfl (Sub.nil _))))) ⟨hL46, he46, h⟩ (Nat.lt_succ_self _)
      · replace h := Go.L.ite_f hc43 h
        refine W_skip ?_
        refine At_block ?_
        refine At_seq ?_
        refine W_region ?_
        refine S_pu 1 rfl ?_
        obtain ⟨hk50, h⟩ := Go.L.chk_some h
        refine S_v (r_ar64 rfl rfl rfl hk50) rfl ?_
        refine S_pu 1 rfl ?_
        refine S_nil ?_
        have h := Go.L.Nxt.again h hm37
        refine At_round (l35, (s6_36 + (1 : Int)), vl35, xsl35, n37) (.cons rfl (.cons rfl (.cons rfl (.cons rfl (Sub.nil _))))) ⟨hL42, hel35, h⟩ (Nat.lt_succ_self _)
    · replace h := Go.L.ite_n hc39 h
      refine W_exit ?_
      refine At_seq_exit ?_
      refine At_loop_exit ?_
      replace h := Go.L.Nxt.out h hm37
      refine At_exit ?_
      refine At_cut (l35, vl35, xsl35) (.cons rfl (Sub.nil _)) ⟨hL37, hel35, h⟩
  · rintro ⟨l18, vl18, xsl18⟩ wr19 ⟨hL19, hel18, h⟩
    refine W_seqr ?_
    refine S_pu 2 rfl ?_
    refine S_seqnil ?_
    refine W_ret ?_
    obtain rfl := Option.some.inj h
    refine At_body rfl rfl ?_
    exact ⟨hL19.ext, _, rfl, (hL19.ownH hH (i := 0) rfl hel18)⟩

noncomputable def ref4_Form_k2 (a0 : List UInt8) (l50 : List UInt8) (s4_51 : Int) : Option ((List UInt8)) :=
  Go.L.chk (0 ≤ (a0.length : Int) ∧ (a0.length : Int) ≤ 9223372036854775807 ∧ 0 < (256 : Int)) (Go.L.chk (0 ≤ (a0.length : Int) ∧ (a0.length : Int) ≤ 9223372036854775807 ∧ 0 < (256 : Int)) (Go.L.chk (0 ≤ s4_51 ∧ s4_51 ≤ 9223372036854775807 ∧ 0 < (256 : Int)) (Go.L.chk (0 ≤ s4_51 ∧ s4_51 ≤ 9223372036854775807 ∧ 0 < (256 : Int)) (Go.L.chk (Go.E.Cap 1 (([(Go.L.u8 ((a0.length : Int) % (256 : Int))), (Go.L.u8 ((a0.length : Int) / (256 : Int))), (Go.L.u8 (s4_51 % (256 : Int))), (Go.L.u8 (s4_51 / (256 : Int)))]).length + l50.length)) (some (([(Go.L.u8 ((a0.length : Int) % (256 : Int))), (Go.L.u8 ((a0.length : Int) / (256 : Int))), (Go.L.u8 (s4_51 % (256 : Int))), (Go.L.u8 (s4_51 / (256 : Int)))] ++ l50)))))))
noncomputable def ref4_Form_bl3 (a0 : List UInt8) (x1 : (List Int)) : (List UInt8) × Int × Int → Option (((List UInt8) × Int × Int) ⊕ ((List UInt8))) := fun ⟨l74, s4_75, s6_76⟩ =>
  if s6_76 < (x1.length : Int) then Go.L.chk (0 ≤ s6_76 ∧ s6_76 < (x1.length : Int)) (if x1.getD s6_76.toNat default = (0 : Int) then Go.L.chk (Go.L.I64 (s6_76 + (1 : Int))) (Go.L.chk (Go.L.I64 (s6_76 + (1 : Int))) (some (Sum.inl (l74, (s6_76 + (1 : Int)), (s6_76 + (1 : Int)))))) else Go.L.chk (0 ≤ s6_76 ∧ s6_76 < (x1.length : Int)) (Go.L.chk (Go.L.I64 (x1.getD s6_76.toNat default - (1 : Int))) (Go.L.chk (0 ≤ (x1.getD s6_76.toNat default - (1 : Int)) ∧ (x1.getD s6_76.toNat default - (1 : Int)) < (a0.length : Int)) (Go.L.chk (Go.E.Cap 1 (l74.length + ([a0.getD ((x1.getD s6_76.toNat default - (1 : Int)).toNat) default]).length)) (Go.L.chk (Go.L.I64 (s6_76 + (1 : Int))) (some (Sum.inl ((l74 ++ [a0.getD ((x1.getD s6_76.toNat default - (1 : Int)).toNat) default]), s4_75, (s6_76 + (1 : Int)))))))))) else Option.map Sum.inr ((ref4_Form_k2 a0) l74 s4_75)
noncomputable def ref4_Form_l3 (a0 : List UInt8) (x1 : (List Int)) (s : (List UInt8) × Int × Int) : Option ((List UInt8)) := Go.L.run (ref4_Form_bl3 a0 x1) s
noncomputable def ref4_Form_k1 (a0 : List UInt8) (x1 : (List Int)) (l14 : List UInt8) : Option ((List UInt8)) :=
  (ref4_Form_l3 a0 x1) (l14, (0 : Int), (0 : Int))
noncomputable def ref4_Form (a0 : List UInt8) : Option ((List UInt8)) :=
  Option.bind (ref4_Order a0) (fun x1 => if (0 : Int) < (a0.length : Int) then Go.L.chk (Go.L.I64 ((a0.length : Int) - (1 : Int))) (Go.L.chk (0 ≤ ((a0.length : Int) - (1 : Int)) ∧ ((a0.length : Int) - (1 : Int)) < (a0.length : Int)) (Go.L.chk (Go.E.Cap 1 (([] : List UInt8).length + ([a0.getD (((a0.length : Int) - (1 : Int)).toNat) default]).length)) ((ref4_Form_k1 a0 x1) (([] : List UInt8) ++ [a0.getD (((a0.length : Int) - (1 : Int)).toNat) default])))) else (ref4_Form_k1 a0 x1) ([] : List UInt8))

set_option maxRecDepth 10000 in
theorem ref4_Form_ok (w : World) (H : PH) (hH : Le H (hp w)) {a0 : List UInt8} {v0_0 : Value} (h0_0 : Vec .byte H v0_0 (a0)) {r : (List UInt8)} (h : ref4_Form a0 = some r) :
    Ok Try.prog 39 [v0_0] w (fun v w' => Ext w w' ∧ ∃ u0, v = u0 ∧ OwnH 5 .byte H w w' u0 (r)) := by
  refine Ok_enter (n := 64) [(0, v0_0)] Try.func39 rfl rfl rfl rfl rfl ?_
  have hL := Lcl.start w
  refine W_seqr ?_
  refine S_pu 1 rfl ?_
  refine S_seqnil ?_
  refine W_seqr ?_
  refine S_pu 1 rfl ?_
  obtain ⟨x1, hb1, h⟩ := Go.L.bind_some h
  refine S_callL rfl rfl hL (ref4_Order_ok _ _ (gz_le hH hL) (h0_0.mono (gz_left hH)) hb1) ?_
  rintro u2_0 w2 ⟨_, rfl, hR2_0⟩ hx2 hL2 hle2
  have hv2_0 := hR2_0.vecG hH hL hx2
  refine S_pu 1 rfl ?_
  refine S_seqnil ?_
  refine W_seqr ?_
  refine S_pu 1 rfl ?_
  refine S_seqnil ?_
  refine W_seqr ?_
  refine S_pu 1 rfl ?_
  obtain ⟨hL3, hle3, he3⟩ := row_nilE .byte H 5 hL2
  replace hv2_0 := hv2_0.mono (gz_mono hH hle3)
  refine S_seqnil ?_
  refine W_cut (σ := (List UInt8) × Value × (List Value)) (fun (⟨l14, vl14, xsl14⟩ : (List UInt8) × Value × (List Value)) => [(0, v0_0), (3, u2_0), (4, .int .i64 (0 : Int)), (5, vl14)]) (fun (⟨l14, vl14, xsl14⟩ : (List UInt8) × Value × (List Value)) wr => Lcl w [.row (vl14) 5 1 (l14).length (xsl14)] wr ∧ Vec (.int .i64) (gz H w wr [.row (vl14) 5 1 (l14).length (xsl14)]) (u2_0) (x1) ∧ Elems .byte (gz H w wr [.row (vl14) 5 1 (l14).length (xsl14)]) (l14) (xsl14) ∧ (ref4_Form_k1 a0 x1) l14 = some r) ?_ ?_
  · refine W_seqr ?_
    refine S_pu 1 rfl ?_
    refine S_v (r_len rfl Try.underlying22 h0_0) rfl ?_
    refine S_pu 1 rfl ?_
    refine S_seqnil ?_
    refine W_if rfl (fun hc17 => ?_) (fun hc17 => ?_)
    · replace h := Go.L.ite_p hc17 h
      refine W_region ?_
      refine S_pu 3 rfl ?_
      refine S_v (r_len rfl Try.underlying22 h0_0) rfl ?_
      obtain ⟨hk19, h⟩ := Go.L.chk_some h
      refine S_v (r_ar64 rfl rfl rfl hk19) rfl ?_
      obtain ⟨hk21, h⟩ := Go.L.chk_some h
      refine S_index rfl rfl Try.underlying22 zr5 h0_0 (((a0.length : Int) - (1 : Int)).toNat) (Int.toNat_of_nonneg hk21.1).symm (idx_lt hk21) rfl ?_
      rintro p20 _ rfl hp20
      refine S_v (r_load1 rfl Try.underlying5 rfl hp20 (hH.trans hL3.arg)) rfl ?_
      refine S_litE (r := .byte) (l := [a0.getD (((a0.length : Int) - (1 : Int)).toNat) default]) rfl (fun _ => bsl22_1 _ _) rfl (show 1 ≤ 9223372036854775807 by decide) hH hL3 (.c1 rfl .nil) ?_
      intro v22 w22 hx22 hL22 hle22 hv22
      replace hv2_0 := hv2_0.mono (gz_mono hH hle22)
      replace he3 := he3.mono (gz_mono hH hle22)
      obtain ⟨hk24, h⟩ := Go.L.chk_some h
      refine S_appE (r := .byte) (l := ([] : List UInt8)) (m := [a0.getD (((a0.length : Int) - (1 : Int)).toNat) default]) 0 rfl rfl Try.underlying22 zr5 rfl (by decide) rfl hH hL22 rfl he3 hv22 hk24 ?_
      intro v23 w23 xs23 hL23 hle23 he23
      replace hv2_0 := hv2_0.mono (gz_mono hH hle23)
      replace hv22 := hv22.mono (gz_mono hH hle23)
      refine S_pu 1 rfl ?_
      refine S_nil ?_
      refine At_cut ((([] : List UInt8) ++ [a0.getD (((a0.length : Int) - (1 : Int)).toNat) default]), v23, xs23) (.cons rfl (.cons rfl (.cons rfl (.cons rfl (Sub.nil _))))) ⟨hL23, hv2_0, he23, h⟩
    · replace h := Go.L.ite_n hc17 h
      refine W_skip ?_
      refine At_cut (([] : List UInt8), .slice none 0 0, []) (.cons rfl (.cons rfl (.cons rfl (.cons rfl (Sub.nil _))))) ⟨hL3, hv2_0, he3, h⟩
  · rintro ⟨l14, vl14, xsl14⟩ wr15 ⟨hL15, hf15_0, hel14, h⟩
    refine W_cut (σ := (List UInt8) × Int × Value × (List Value)) (fun (⟨l50, s4_51, vl50, xsl50⟩ : (List UInt8) × Int × Value × (List Value)) => [(0, v0_0), (4, .int .i64 s4_51), (5, vl50)]) (fun (⟨l50, s4_51, vl50, xsl50⟩ : (List UInt8) × Int × Value × (List Value)) wr => Lcl w [.row (vl50) 5 1 (l50).length (xsl50)] wr ∧ Elems .byte (gz H w wr [.row (vl50) 5 1 (l50).length (xsl50)]) (l50) (xsl50) ∧ (ref4_Form_k2 a0) l50 s4_51 = some r) ?_ ?_
    · refine W_seqr ?_
      refine S_pu 1 rfl ?_
      refine S_seqnil ?_
      refine W_block ?_
      obtain ⟨n77, h⟩ := Go.L.run_some h
      refine W_loop (σ := (List UInt8) × Int × Int × Value × (List Value) × Nat) (fun (⟨l74, s4_75, s6_76, vl74, xsl74, n⟩ : (List UInt8) × Int × Int × Value × (List Value) × Nat) => [(0, v0_0), (3, u2_0), (4, .int .i64 s4_75), (5, vl74), (6, .int .i64 s6_76)]) (fun (⟨l74, s4_75, s6_76, vl74, xsl74, n⟩ : (List UInt8) × Int × Int × Value × (List Value) × Nat) wr => Lcl w [.row (vl74) 5 1 (l74).length (xsl74)] wr ∧ Vec (.int .i64) (gz H w wr [.row (vl74) 5 1 (l74).length (xsl74)]) (u2_0) (x1) ∧ Elems .byte (gz H w wr [.row (vl74) 5 1 (l74).length (xsl74)]) (l74) (xsl74) ∧ Go.L.itr (ref4_Form_bl3 a0 x1) n (l74, s4_75, s6_76) = some r) (fun (⟨l74, s4_75, s6_76, vl74, xsl74, n⟩ : (List UInt8) × Int × Int × Value × (List Value) × Nat) => n) (l14, (0 : Int), (0 : Int), vl14, xsl14, n77) (.cons rfl (.cons rfl (.cons rfl (.cons rfl (.cons rfl (Sub.nil _)))))) ⟨hL15, hf15_0, hel14, h⟩ ?_
      rintro ⟨l74, s4_75, s6_76, vl74, xsl74, nn77⟩ wr77 ⟨hL77, hf77_0, hel74, h⟩
      obtain ⟨n77, e77, rfl, h, hm77⟩ := Go.L.itr_some h
      refine W_seq ?_
      refine W_seqr ?_
      refine S_pu 2 rfl ?_
      refine S_v (r_len rfl Try.underlying23 hf77_0) rfl ?_
      refine S_pu 1 rfl ?_
      refine S_seqnil ?_
      refine W_if rfl (fun hc79 => ?_) (fun hc79 => ?_)
      · replace h := Go.L.ite_p hc79 h
        refine W_skip ?_
        refine At_seq ?_
        refine W_seq ?_
        refine W_block ?_
        refine W_seqr ?_
        refine S_pu 2 rfl ?_
        obtain ⟨hk82, h⟩ := Go.L.chk_some h
        refine S_index rfl rfl Try.underlying23 zr3 hf77_0 s6_76.toNat (Int.toNat_of_nonneg hk82.1).symm (idx_lt hk82) rfl ?_
        rintro p81 _ rfl hp81
        refine S_v (r_load1 rfl Try.underlying3 rfl hp81 (gz_le hH hL77)) rfl ?_
        refine S_pu 1 rfl ?_
        refine S_seqnil ?_
        refine W_if rfl (fun hc83 => ?_) (fun hc83 => ?_)
        · replace h := Go.L.ite_p hc83 h
          refine W_region ?_
          refine S_pu 1 rfl ?_
          obtain ⟨hk85, h⟩ := Go.L.chk_some h
          refine S_v (r_ar64 rfl rfl rfl hk85) rfl ?_
          refine S_pu 1 rfl ?_
          refine S_nil ?_
          refine At_block ?_
          refine At_seq ?_
          refine W_region ?_
          refine S_pu 1 rfl ?_
          obtain ⟨hk86, h⟩ := Go.L.chk_some h
          refine S_v (r_ar64 rfl rfl rfl hk86) rfl ?_
          refine S_pu 1 rfl ?_
          refine S_nil ?_
          have h := Go.L.Nxt.again h hm77
          refine At_round (l74, (s6_76 + (1 : Int)), (s6_76 + (1 : Int)), vl74, xsl74, n77) (.cons rfl (.cons rfl (.cons rfl (.cons rfl (.cons rfl (Sub.nil _)))))) ⟨hL77, hf77_0, hel74, h⟩ (Nat.lt_succ_self _)
        · replace h := Go.L.ite_n hc83 h
          refine W_region ?_
          refine S_pu 4 rfl ?_
          obtain ⟨hk89, h⟩ := Go.L.chk_some h
          refine S_index rfl rfl Try.underlying23 zr3 hf77_0 s6_76.toNat (Int.toNat_of_nonneg hk89.1).symm (idx_lt hk89) rfl ?_
          rintro p88 _ rfl hp88
          refine S_v (r_load1 rfl Try.underlying3 rfl hp88 (gz_le hH hL77)) rfl ?_
          obtain ⟨hk90, h⟩ := Go.L.chk_some h
          refine S_v (r_ar64 rfl rfl rfl hk90) rfl ?_
          obtain ⟨hk92, h⟩ := Go.L.chk_some h
          refine S_index rfl rfl Try.underlying22 zr5 h0_0 ((x1.getD s6_76.toNat default - (1 : Int)).toNat) (Int.toNat_of_nonneg hk92.1).symm (idx_lt hk92) rfl ?_
          rintro p91 _ rfl hp91
          refine S_v (r_load1 rfl Try.underlying5 rfl hp91 (hH.trans hL77.arg)) rfl ?_
          refine S_litE (r := .byte) (l := [a0.getD ((x1.getD s6_76.toNat default - (1 : Int)).toNat) default]) rfl (fun _ => bsl22_1 _ _) rfl (show 1 ≤ 9223372036854775807 by decide) hH hL77 (.c1 rfl .nil) ?_
          intro v93 w93 hx93 hL93 hle93 hv93
          replace hf77_0 := hf77_0.mono (gz_mono hH hle93)
          replace hel74 := hel74.mono (gz_mono hH hle93)
          replace hp88 := hp88.mono (gz_mono hH hle93)
          obtain ⟨hk95, h⟩ := Go.L.chk_some h
          refine S_appE (r := .byte) (l := l74) (m := [a0.getD ((x1.getD s6_76.toNat default - (1 : Int)).toNat) default]) 0 rfl rfl Try.underlying22 zr5 rfl (by decide) rfl hH hL93 rfl hel74 hv93 hk95 ?_
          intro v94 w94 xs94 hL94 hle94 he94
          replace hf77_0 := hf77_0.mono (gz_mono hH hle94)
          replace hp88 := hp88.mono (gz_mono hH hle94)
          replace hv93 := hv93.mono (gz_mono hH hle94)
          refine S_pu 1 rfl ?_
          refine S_nil ?_
          refine At_block ?_
          refine At_seq ?_
          refine W_region ?_
          refine S_pu 1 rfl ?_
          obtain ⟨hk96, h⟩ := Go.L.chk_some h
          refine S_v (r_ar64 rfl rfl rfl hk96) rfl ?_
          refine S_pu 1 rfl ?_
          refine S_nil ?_
          have h := Go.L.Nxt.again h hm77
          refine At_round ((l74 ++ [a0.getD ((x1.getD s6_76.toNat default - (1 : Int)).toNat) default]), s4_75, (s6_76 + (1 : Int)), v94, xs94, n77) (.cons rfl (.cons rfl (.cons rfl (.cons rfl (.cons rfl (Sub.nil _)))))) ⟨hL94, hf77_0, he94, h⟩ (Nat.lt_succ_self _)
      · replace h := Go.L.ite_n hc79 h
        refine W_exit ?_
        refine At_seq_exit ?_
        refine At_loop_exit ?_
        replace h := Go.L.Nxt.out h hm77
        refine At_exit ?_
        refine At_cut (l74, s4_75, vl74, xsl74) (.cons rfl (.cons rfl (.cons rfl (Sub.nil _)))) ⟨hL77, hel74, h⟩
    · rintro ⟨l50, s4_51, vl50, xsl50⟩ wr52 ⟨hL52, hel50, h⟩
      refine W_seqr ?_
      refine S_pu 1 rfl ?_
      refine S_v (r_len rfl Try.underlying22 h0_0) rfl ?_
      obtain ⟨hk99, h⟩ := Go.L.chk_some h
      refine S_v (r_rem rfl rfl ⟨hk99.1, hk99.2.2⟩) rfl ?_
      refine S_v (r_conv Try.underlying3 Try.underlying5 rfl (conv_64_u8 _)) rfl ?_
      refine S_pu 1 rfl ?_
      refine S_v (r_len rfl Try.underlying22 h0_0) rfl ?_
      obtain ⟨hk100, h⟩ := Go.L.chk_some h
      refine S_v (r_quo rfl rfl hk100) rfl ?_
      refine S_v (r_conv Try.underlying3 Try.underlying5 rfl (conv_64_u8 _)) rfl ?_
      refine S_pu 1 rfl ?_
      obtain ⟨hk101, h⟩ := Go.L.chk_some h
      refine S_v (r_rem rfl rfl ⟨hk101.1, hk101.2.2⟩) rfl ?_
      refine S_v (r_conv Try.underlying3 Try.underlying5 rfl (conv_64_u8 _)) rfl ?_
      refine S_pu 1 rfl ?_
      obtain ⟨hk102, h⟩ := Go.L.chk_some h
      refine S_v (r_quo rfl rfl hk102) rfl ?_
      refine S_v (r_conv Try.underlying3 Try.underlying5 rfl (conv_64_u8 _)) rfl ?_
      refine S_litO (r := .byte) (l := [(Go.L.u8 ((a0.length : Int) % (256 : Int))), (Go.L.u8 ((a0.length : Int) / (256 : Int))), (Go.L.u8 (s4_51 % (256 : Int))), (Go.L.u8 (s4_51 / (256 : Int)))]) rfl (fun _ => bsl22_4 _ _ _ _ _) rfl (show 4 ≤ 9223372036854775807 by decide) hH hL52 (.c1 rfl (.c1 rfl (.c1 rfl (.c1 rfl .nil)))) ?_
      intro v103 w103 xs103 hL103 hle103 he103
      replace hel50 := hel50.mono (gz_mono hH hle103)
      refine S_pu 1 rfl ?_
      refine S_seqnil ?_
      refine W_seqr ?_
      refine S_pu 2 rfl ?_
      have hv105 := hL103.vecG hH (i := 1) rfl hel50
      have hL105 := hL103.dropAt (i := 1) rfl
      replace he103 := he103.mono (gz_mono hH (fz_dropAt (i := 1) rfl))
      obtain ⟨hk106, h⟩ := Go.L.chk_some h
      refine S_appE (r := .byte) (l := [(Go.L.u8 ((a0.length : Int) % (256 : Int))), (Go.L.u8 ((a0.length : Int) / (256 : Int))), (Go.L.u8 (s4_51 % (256 : Int))), (Go.L.u8 (s4_51 / (256 : Int)))]) (m := l50) 0 rfl rfl Try.underlying22 zr5 rfl (by decide) rfl hH hL105 rfl he103 hv105 hk106 ?_
      intro v104 w104 xs104 hL104 hle104 he104
      replace hv105 := hv105.mono (gz_mono hH hle104)
      refine S_pu 1 rfl ?_
      refine S_seqnil ?_
      refine W_ret ?_
      obtain rfl := Option.some.inj h
      refine At_body rfl rfl ?_
      exact ⟨hL104.ext, _, rfl, (hL104.ownH hH (i := 0) rfl he104)⟩

noncomputable def ref4_TextOf_k6 (s10_408 : Int) (l469 : List (List UInt8)) (s9_470 : Int) : Option (((List (List UInt8)) × Int × Int) ⊕ (((List (List UInt8)) × Int) ⊕ ((List UInt8) × Bool))) :=
  Go.L.chk (Go.L.I64 (s10_408 + (1 : Int))) (some (Sum.inl (l469, s9_470, (s10_408 + (1 : Int)))))
noncomputable def ref4_TextOf_bl8 (s10_408 : Int) (s9_482 : Int) : (List (List UInt8)) × Int → Option (((List (List UInt8)) × Int) ⊕ (((List (List UInt8)) × Int × Int) ⊕ (((List (List UInt8)) × Int) ⊕ ((List UInt8) × Bool)))) := fun ⟨l537, s12_538⟩ =>
  if (0 : Int) < s12_538 then Go.L.chk (0 ≤ s12_538 ∧ s12_538 < (l537.length : Int)) (Go.L.chk (Go.L.I64 (s12_538 - (1 : Int))) (Go.L.chk (0 ≤ (s12_538 - (1 : Int)) ∧ (s12_538 - (1 : Int)) < (l537.length : Int)) (if Op.bytesLess (l537.getD s12_538.toNat default) (l537.getD ((s12_538 - (1 : Int)).toNat) default) then Go.L.chk (Go.L.I64 (s12_538 - (1 : Int))) (Go.L.chk (Go.L.I64 (s12_538 - (1 : Int))) (Go.L.chk (0 ≤ (s12_538 - (1 : Int)) ∧ (s12_538 - (1 : Int)) < (l537.length : Int)) (Go.L.chk (0 ≤ s12_538 ∧ s12_538 < (l537.length : Int)) (Go.L.chk (0 ≤ s12_538 ∧ s12_538 < (l537.length : Int)) (Go.L.chk (0 ≤ (s12_538 - (1 : Int)) ∧ (s12_538 - (1 : Int)) < ((l537.set s12_538.toNat (l537.getD ((s12_538 - (1 : Int)).toNat) default)).length : Int)) (Go.L.chk (Go.L.I64 (s12_538 - (1 : Int))) (some (Sum.inl (((l537.set s12_538.toNat (l537.getD ((s12_538 - (1 : Int)).toNat) default)).set ((s12_538 - (1 : Int)).toNat) (l537.getD s12_538.toNat default)), (s12_538 - (1 : Int))))))))))) else Option.map Sum.inr ((ref4_TextOf_k6 s10_408) l537 s9_482)))) else Option.map Sum.inr ((ref4_TextOf_k6 s10_408) l537 s9_482)
noncomputable def ref4_TextOf_l8 (s10_408 : Int) (s9_482 : Int) (s : (List (List UInt8)) × Int) : Option (((List (List UInt8)) × Int × Int) ⊕ (((List (List UInt8)) × Int) ⊕ ((List UInt8) × Bool))) := Go.L.run (ref4_TextOf_bl8 s10_408 s9_482) s
noncomputable def ref4_TextOf_k7 (l194 : List (List UInt8)) (l406 : List (List UInt8)) (s10_408 : Int) (s9_482 : Int) (s11_483 : List UInt8) : Option (((List (List UInt8)) × Int × Int) ⊕ (((List (List UInt8)) × Int) ⊕ ((List UInt8) × Bool))) :=
  Go.L.chk (0 ≤ s10_408 ∧ s10_408 < (l194.length : Int)) (Go.L.chk (s11_483.length + (l194.getD s10_408.toNat default).length ≤ 9223372036854775807) (Go.L.chk (Go.E.Cap 16 (l406.length + ([(s11_483 ++ l194.getD s10_408.toNat default)]).length)) ((ref4_TextOf_l8 s10_408 s9_482) ((l406 ++ [(s11_483 ++ l194.getD s10_408.toNat default)]), s10_408))))
noncomputable def ref4_TextOf_k3 (s7_195 : Int) (l270 : List (List UInt8)) : Option (((List (List UInt8)) × Int) ⊕ ((List UInt8) × Bool)) :=
  Go.L.chk (Go.L.I64 (s7_195 + (1 : Int))) (some (Sum.inl (l270, (s7_195 + (1 : Int)))))
noncomputable def ref4_TextOf_k4 (s7_195 : Int) (l340 : List (List UInt8)) : Option (((List (List UInt8)) × Int) ⊕ ((List UInt8) × Bool)) :=
  (ref4_TextOf_k3 s7_195) l340
noncomputable def ref4_TextOf_bl5 (a0 : List UInt8) (l194 : List (List UInt8)) (s7_195 : Int) : (List (List UInt8)) × Int × Int → Option (((List (List UInt8)) × Int × Int) ⊕ (((List (List UInt8)) × Int) ⊕ ((List UInt8) × Bool))) := fun ⟨l406, s9_407, s10_408⟩ =>
  if s10_408 ≤ ((a0.length : Int) - (4 : Int)) then (if s10_408 = (((a0.getD ((2 : Int).toNat) default).toNat : Int) + ((256 : Int) * ((a0.getD ((3 : Int).toNat) default).toNat : Int))) then (ref4_TextOf_k7 l194 l406 s10_408) s9_407 ([(0 : UInt8)]) else Go.L.chk (0 ≤ s9_407 ∧ s9_407 < (a0.length : Int)) (Go.L.chk (Go.L.I64 (s9_407 + (1 : Int))) ((ref4_TextOf_k7 l194 l406 s10_408) (s9_407 + (1 : Int)) ([(1 : UInt8), a0.getD s9_407.toNat default])))) else Option.map Sum.inr ((ref4_TextOf_k4 s7_195) l406)
noncomputable def ref4_TextOf_l5 (a0 : List UInt8) (l194 : List (List UInt8)) (s7_195 : Int) (s : (List (List UInt8)) × Int × Int) : Option (((List (List UInt8)) × Int) ⊕ ((List UInt8) × Bool)) := Go.L.run (ref4_TextOf_bl5 a0 l194 s7_195) s
noncomputable def ref4_TextOf_k9 (a0 : List UInt8) (l606 : List UInt8) : Option ((List UInt8) × Bool) :=
  Option.bind (ref4_Form l606) (fun x643 => Option.bind (ref3_SameBytes x643 a0) (fun x645 => some (l606, x645)))
noncomputable def ref4_TextOf_bl10 (a0 : List UInt8) (l115 : List (List UInt8)) : (List UInt8) × Int → Option (((List UInt8) × Int) ⊕ ((List UInt8) × Bool)) := fun ⟨l624, s15_625⟩ =>
  Go.L.chk (Go.L.I64 ((2 : Int) * ((a0.length : Int) - (4 : Int)))) (if s15_625 < ((2 : Int) * ((a0.length : Int) - (4 : Int))) then Go.L.chk (Go.L.I64 (s15_625 + (1 : Int))) (if (s15_625 + (1 : Int)) < ((l115.getD ((((a0.getD ((2 : Int).toNat) default).toNat : Int) + ((256 : Int) * ((a0.getD ((3 : Int).toNat) default).toNat : Int))).toNat) default).length : Int) then Go.L.chk (Go.L.I64 (s15_625 + (1 : Int))) (Go.L.chk (0 ≤ (s15_625 + (1 : Int)) ∧ (s15_625 + (1 : Int)) < ((l115.getD ((((a0.getD ((2 : Int).toNat) default).toNat : Int) + ((256 : Int) * ((a0.getD ((3 : Int).toNat) default).toNat : Int))).toNat) default).length : Int)) (Go.L.chk (Go.E.Cap 1 (l624.length + ([((l115.getD ((((a0.getD ((2 : Int).toNat) default).toNat : Int) + ((256 : Int) * ((a0.getD ((3 : Int).toNat) default).toNat : Int))).toNat) default).getD (s15_625 + (1 : Int)).toNat default)]).length)) (Go.L.chk (Go.L.I64 (s15_625 + (2 : Int))) (some (Sum.inl ((l624 ++ [((l115.getD ((((a0.getD ((2 : Int).toNat) default).toNat : Int) + ((256 : Int) * ((a0.getD ((3 : Int).toNat) default).toNat : Int))).toNat) default).getD (s15_625 + (1 : Int)).toNat default)]), (s15_625 + (2 : Int)))))))) else Option.map Sum.inr ((ref4_TextOf_k9 a0) l624)) else Option.map Sum.inr ((ref4_TextOf_k9 a0) l624))
noncomputable def ref4_TextOf_l10 (a0 : List UInt8) (l115 : List (List UInt8)) (s : (List UInt8) × Int) : Option ((List UInt8) × Bool) := Go.L.run (ref4_TextOf_bl10 a0 l115) s
noncomputable def ref4_TextOf_k1 (a0 : List UInt8) (l115 : List (List UInt8)) : Option ((List UInt8) × Bool) :=
  Go.L.chk (0 ≤ (((a0.getD ((2 : Int).toNat) default).toNat : Int) + ((256 : Int) * ((a0.getD ((3 : Int).toNat) default).toNat : Int))) ∧ (((a0.getD ((2 : Int).toNat) default).toNat : Int) + ((256 : Int) * ((a0.getD ((3 : Int).toNat) default).toNat : Int))) < (l115.length : Int)) ((ref4_TextOf_l10 a0 l115) (([] : List UInt8), (0 : Int)))
noncomputable def ref4_TextOf_bl2 (a0 : List UInt8) : (List (List UInt8)) × Int → Option (((List (List UInt8)) × Int) ⊕ ((List UInt8) × Bool)) := fun ⟨l194, s7_195⟩ =>
  if s7_195 ≤ ((a0.length : Int) - (4 : Int)) then (ref4_TextOf_l5 a0 l194 s7_195) (([] : List (List UInt8)), (4 : Int), (0 : Int)) else Option.map Sum.inr ((ref4_TextOf_k1 a0) l194)
noncomputable def ref4_TextOf_l2 (a0 : List UInt8) (s : (List (List UInt8)) × Int) : Option ((List UInt8) × Bool) := Go.L.run (ref4_TextOf_bl2 a0) s
noncomputable def ref4_TextOf (a0 : List UInt8) : Option ((List UInt8) × Bool) :=
  if (a0.length : Int) < (4 : Int) then some ([], false) else Go.L.chk (0 ≤ (0 : Int) ∧ (0 : Int) < (a0.length : Int)) (Go.L.chk (Go.L.I64 ((4 : Int) + ((a0.getD ((0 : Int).toNat) default).toNat : Int))) (Go.L.chk (0 ≤ (1 : Int) ∧ (1 : Int) < (a0.length : Int)) (Go.L.chk (Go.L.I64 ((256 : Int) * ((a0.getD ((1 : Int).toNat) default).toNat : Int))) (Go.L.chk (Go.L.I64 (((4 : Int) + ((a0.getD ((0 : Int).toNat) default).toNat : Int)) + ((256 : Int) * ((a0.getD ((1 : Int).toNat) default).toNat : Int)))) (if (a0.length : Int) = (((4 : Int) + ((a0.getD ((0 : Int).toNat) default).toNat : Int)) + ((256 : Int) * ((a0.getD ((1 : Int).toNat) default).toNat : Int))) then Go.L.chk (Go.L.I64 ((a0.length : Int) - (4 : Int))) (Go.L.chk (0 ≤ (2 : Int) ∧ (2 : Int) < (a0.length : Int)) (Go.L.chk (0 ≤ (3 : Int) ∧ (3 : Int) < (a0.length : Int)) (Go.L.chk (Go.L.I64 ((256 : Int) * ((a0.getD ((3 : Int).toNat) default).toNat : Int))) (Go.L.chk (Go.L.I64 (((a0.getD ((2 : Int).toNat) default).toNat : Int) + ((256 : Int) * ((a0.getD ((3 : Int).toNat) default).toNat : Int)))) (if ((a0.length : Int) - (4 : Int)) < (((a0.getD ((2 : Int).toNat) default).toNat : Int) + ((256 : Int) * ((a0.getD ((3 : Int).toNat) default).toNat : Int))) then some ([], false) else Go.L.chk (Go.L.I64 (((a0.length : Int) - (4 : Int)) + (1 : Int))) (Go.L.chk (0 ≤ (((a0.length : Int) - (4 : Int)) + (1 : Int)) ∧ ((16 : Nat) : Int) * (((a0.length : Int) - (4 : Int)) + (1 : Int)) ≤ 281474976710656 ∧ (((a0.length : Int) - (4 : Int)) + (1 : Int)) ≤ 9223372036854775807) ((ref4_TextOf_l2 a0) ((List.replicate (((a0.length : Int) - (4 : Int)) + (1 : Int)).toNat ([] : List UInt8)), (0 : Int))))))))) else some ([], false))))))

set_option maxRecDepth 10000 in
theorem ref4_TextOf_ok (w : World) (H : PH) (hH : Le H (hp w)) {a0 : List UInt8} {v0_0 : Value} (h0_0 : Vec .byte H v0_0 (a0)) {r : (List UInt8) × Bool} (h : ref4_TextOf a0 = some r) :
    Ok Try.prog 41 [v0_0] w (fun v w' => Ext w w' ∧ ∃ u0, v = .tuple #[u0, .bool r.2] ∧ OwnH 5 .byte H w w' u0 (r.1)) := by
  refine Ok_enter (n := 149) [(0, v0_0)] Try.func41 rfl rfl rfl rfl rfl ?_
  have hL := Lcl.start w
  refine W_seqr ?_
  refine S_pu 2 rfl ?_
  refine S_seqnil ?_
  refine W_seq ?_
  refine W_seqd (.q 0 (.q 1 (.q 2 (.q 3 (.q 4 (.q 5 (.q 6 (.q 7 (.q 8 (.q 9 (.q 10 (.q 11 (.q 12 (.q 13 (.q 14 (.q 15 (.q 16 (.q 17 (.q 18 (.tail 19)))))))))))))))))))) mixed (by kernel_rfl) (fun w1 hx1 => ?_)
  have hL2 := hL.call hx1
  refine D_pu 1 rfl ?_
  refine D_v (r_len rfl Try.underlying22 h0_0) rfl rfl ?_
  refine D_pu 2 rfl ?_
  refine D_split (s := 19) rfl (fun hg3 => ?_) (fun hg3 => ?_)
  · replace h := Go.L.ite_p (of_decide_eq_true hg3) h
    refine D_no rfl rfl rfl rfl hg3 rfl ?_
    refine D_no rfl rfl rfl rfl hg3 rfl ?_
    refine D_no rfl rfl rfl rfl hg3 rfl ?_
    refine D_no rfl rfl rfl rfl hg3 rfl ?_
    refine D_no rfl rfl rfl rfl hg3 rfl ?_
    refine D_no rfl rfl rfl rfl hg3 rfl ?_
    refine D_no rfl rfl rfl rfl hg3 rfl ?_
    refine D_no rfl rfl rfl rfl hg3 rfl ?_
    refine D_no rfl rfl rfl rfl hg3 rfl ?_
    refine D_no rfl rfl rfl rfl hg3 rfl ?_
    refine D_no rfl rfl rfl rfl hg3 rfl ?_
    refine D_no rfl rfl rfl rfl hg3 rfl ?_
    refine D_no rfl rfl rfl rfl hg3 rfl ?_
    refine D_no rfl rfl rfl rfl hg3 rfl ?_
    refine D_v (r_pickT rfl hg3 rfl) rfl rfl ?_
    refine D_tail (fun w5 hx5 => ?_)
    have hL6 := hL2.call hx5
    refine S_seqnil ?_
    refine W_true rfl ?_
    refine W_seqr ?_
    refine S_pu 2 rfl ?_
    refine S_seqnil ?_
    refine W_ret ?_
    refine At_seq_ret ?_
    obtain rfl := Option.some.inj h
    refine At_body rfl rfl ?_
    exact ⟨hL6.ext, _, rfl, OwnH.nil⟩
  · replace h := Go.L.ite_n (of_decide_eq_false hg3) h
    refine D_vg (RunsAt_pu rfl) rfl rfl rfl rfl hg3 rfl ?_
    refine D_vg (r_len rfl Try.underlying22 h0_0) rfl rfl rfl rfl hg3 rfl ?_
    refine D_vg (RunsAt_pu rfl) rfl rfl rfl rfl hg3 rfl ?_
    obtain ⟨hk9, h⟩ := Go.L.chk_some h
    refine D_indexg rfl rfl rfl rfl hg3 rfl rfl Try.underlying22 zr5 h0_0 ((0 : Int).toNat) (Int.toNat_of_nonneg hk9.1).symm (idx_lt hk9) rfl ?_
    rintro p8 _ rfl hp8
    refine D_vg (r_load1 rfl Try.underlying5 rfl hp8 (hH.trans hL2.arg)) rfl rfl rfl rfl hg3 rfl ?_
    refine D_vg (r_conv Try.underlying5 Try.underlying3 rfl (conv_8_64 _)) rfl rfl rfl rfl hg3 rfl ?_
    obtain ⟨hk10, h⟩ := Go.L.chk_some h
    refine D_vg (r_ar64 rfl rfl rfl hk10) rfl rfl rfl rfl hg3 rfl ?_
    refine D_vg (RunsAt_pu rfl) rfl rfl rfl rfl hg3 rfl ?_
    obtain ⟨hk12, h⟩ := Go.L.chk_some h
    refine D_indexg rfl rfl rfl rfl hg3 rfl rfl Try.underlying22 zr5 h0_0 ((1 : Int).toNat) (Int.toNat_of_nonneg hk12.1).symm (idx_lt hk12) rfl ?_
    rintro p11 _ rfl hp11
    refine D_vg (r_load1 rfl Try.underlying5 rfl hp11 (hH.trans hL2.arg)) rfl rfl rfl rfl hg3 rfl ?_
    refine D_vg (r_conv Try.underlying5 Try.underlying3 rfl (conv_8_64 _)) rfl rfl rfl rfl hg3 rfl ?_
    obtain ⟨hk13, h⟩ := Go.L.chk_some h
    refine D_vg (r_ar64 rfl rfl rfl hk13) rfl rfl rfl rfl hg3 rfl ?_
    obtain ⟨hk14, h⟩ := Go.L.chk_some h
    refine D_vg (r_ar64 rfl rfl rfl hk14) rfl rfl rfl rfl hg3 rfl ?_
    refine D_vg (RunsAt_pu rfl) rfl rfl rfl rfl hg3 rfl ?_
    refine D_v (r_pickF rfl hg3 rfl) rfl rfl ?_
    refine D_tail (fun w15 hx15 => ?_)
    have hL16 := hL2.call hx15
    refine S_seqnil ?_
    refine W_ifn rfl (fun hc17 => ?_) (fun hc17 => ?_)
    · replace h := Go.L.ite_n hc17 h
      refine W_seqr ?_
      refine S_pu 2 rfl ?_
      refine S_seqnil ?_
      refine W_ret ?_
      refine At_seq_ret ?_
      obtain rfl := Option.some.inj h
      refine At_body rfl rfl ?_
      exact ⟨hL16.ext, _, rfl, OwnH.nil⟩
    · replace h := Go.L.ite_p hc17 h
      refine W_skip ?_
      refine At_seq ?_
      refine W_seqr ?_
      refine S_pu 1 rfl ?_
      refine S_v (r_len rfl Try.underlying22 h0_0) rfl ?_
      obtain ⟨hk20, h⟩ := Go.L.chk_some h
      refine S_v (r_ar64 rfl rfl rfl hk20) rfl ?_
      refine S_pu 1 rfl ?_
      refine S_seqnil ?_
      refine W_seqd (.q 0 (.q 1 (.q 2 (.q 3 (.q 4 (.q 5 (.q 6 (.q 7 (.q 8 (.q 9 (.q 10 (.tail 11)))))))))))) mixed (by kernel_rfl) (fun w21 hx21 => ?_)
      have hL22 := hL16.call hx21
      refine D_pu 1 rfl ?_
      obtain ⟨hk24, h⟩ := Go.L.chk_some h
      refine D_index rfl rfl rfl Try.underlying22 zr5 h0_0 ((2 : Int).toNat) (Int.toNat_of_nonneg hk24.1).symm (idx_lt hk24) rfl ?_
      rintro p23 _ rfl hp23
      refine D_v (r_load1 rfl Try.underlying5 rfl hp23 (hH.trans hL22.arg)) rfl rfl ?_
      refine D_v (r_conv Try.underlying5 Try.underlying3 rfl (conv_8_64 _)) rfl rfl ?_
      refine D_pu 1 rfl ?_
      obtain ⟨hk26, h⟩ := Go.L.chk_some h
      refine D_index rfl rfl rfl Try.underlying22 zr5 h0_0 ((3 : Int).toNat) (Int.toNat_of_nonneg hk26.1).symm (idx_lt hk26) rfl ?_
      rintro p25 _ rfl hp25
      refine D_v (r_load1 rfl Try.underlying5 rfl hp25 (hH.trans hL22.arg)) rfl rfl ?_
      refine D_v (r_conv Try.underlying5 Try.underlying3 rfl (conv_8_64 _)) rfl rfl ?_
      obtain ⟨hk27, h⟩ := Go.L.chk_some h
      refine D_v (r_ar64 rfl rfl rfl hk27) rfl rfl ?_
      obtain ⟨hk28, h⟩ := Go.L.chk_some h
      refine D_v (r_ar64 rfl rfl rfl hk28) rfl rfl ?_
      refine D_pu 1 rfl ?_
      refine D_tail (fun w29 hx29 => ?_)
      have hL30 := hL22.call hx29
      refine S_seqnil ?_
      refine W_seq ?_
      refine W_seqr ?_
      refine S_pu 3 rfl ?_
      refine S_seqnil ?_
      refine W_if rfl (fun hc31 => ?_) (fun hc31 => ?_)
      · replace h := Go.L.ite_p hc31 h
        refine W_seqr ?_
        refine S_pu 2 rfl ?_
        refine S_seqnil ?_
        refine W_ret ?_
        refine At_seq_ret ?_
        obtain rfl := Option.some.inj h
        refine At_body rfl rfl ?_
        exact ⟨hL30.ext, _, rfl, OwnH.nil⟩
      · replace h := Go.L.ite_n hc31 h
        refine W_skip ?_
        refine At_seq ?_
        refine W_seqr ?_
        refine S_pu 1 rfl ?_
        obtain ⟨hk34, h⟩ := Go.L.chk_some h
        refine S_v (r_ar64 rfl rfl rfl hk34) rfl ?_
        obtain ⟨hk36, h⟩ := Go.L.chk_some h
        refine S_makeE (r := .st) (z := ([] : List UInt8)) rfl rfl rfl Try.underlying73 zr9 rfl (fun _ => rfl) rfl hH hL30 hk36 ?_
        intro v35 w35 xs35 hL35 hle35 he35
        refine S_pu 1 rfl ?_
        refine S_seqnil ?_
        refine W_cut (σ := (List (List UInt8)) × Value × (List Value)) (fun (⟨l115, vl115, xsl115⟩ : (List (List UInt8)) × Value × (List Value)) => [(0, v0_0), (4, .int .i64 ((a0.length : Int) - (4 : Int))), (5, .int .i64 (((a0.getD ((2 : Int).toNat) default).toNat : Int) + ((256 : Int) * ((a0.getD ((3 : Int).toNat) default).toNat : Int)))), (6, vl115)]) (fun (⟨l115, vl115, xsl115⟩ : (List (List UInt8)) × Value × (List Value)) wr => Lcl w [.row (vl115) 9 1 (l115).length (xsl115)] wr ∧ Elems .st (gz H w wr [.row (vl115) 9 1 (l115).length (xsl115)]) (l115) (xsl115) ∧ (ref4_TextOf_k1 a0) l115 = some r) ?_ ?_
        · refine W_seqr ?_
          refine S_pu 1 rfl ?_
          refine S_seqnil ?_
          refine W_block ?_
          obtain ⟨n196, h⟩ := Go.L.run_some h
          refine W_loop (σ := (List (List UInt8)) × Int × Value × (List Value) × Nat) (fun (⟨l194, s7_195, vl194, xsl194, n⟩ : (List (List UInt8)) × Int × Value × (List Value) × Nat) => [(0, v0_0), (4, .int .i64 ((a0.length : Int) - (4 : Int))), (5, .int .i64 (((a0.getD ((2 : Int).toNat) default).toNat : Int) + ((256 : Int) * ((a0.getD ((3 : Int).toNat) default).toNat : Int)))), (6, vl194), (7, .int .i64 s7_195)]) (fun (⟨l194, s7_195, vl194, xsl194, n⟩ : (List (List UInt8)) × Int × Value × (List Value) × Nat) wr => Lcl w [.row (vl194) 9 1 (l194).length (xsl194)] wr ∧ Elems .st (gz H w wr [.row (vl194) 9 1 (l194).length (xsl194)]) (l194) (xsl194) ∧ Go.L.itr (ref4_TextOf_bl2 a0) n (l194, s7_195) = some r) (fun (⟨l194, s7_195, vl194, xsl194, n⟩ : (List (List UInt8)) × Int × Value × (List Value) × Nat) => n) ((List.replicate (((a0.length : Int) - (4 : Int)) + (1 : Int)).toNat ([] : List UInt8)), (0 : Int), v35, xs35, n196) (.cons rfl (.cons rfl (.cons rfl (.cons rfl (.cons rfl (Sub.nil _)))))) ⟨hL35, he35, h⟩ ?_
          rintro ⟨l194, s7_195, vl194, xsl194, nn196⟩ wr196 ⟨hL196, hel194, h⟩
          obtain ⟨n196, e196, rfl, h, hm196⟩ := Go.L.itr_some h
          refine W_seq ?_
          refine W_seqr ?_
          refine S_pu 3 rfl ?_
          refine S_seqnil ?_
          refine W_if rfl (fun hc198 => ?_) (fun hc198 => ?_)
          · replace h := Go.L.ite_p hc198 h
            refine W_skip ?_
            refine At_seq ?_
            refine W_cut (σ := (List (List UInt8)) × Value × (List Value)) (fun (⟨l270, vl270, xsl270⟩ : (List (List UInt8)) × Value × (List Value)) => [(0, v0_0), (4, .int .i64 ((a0.length : Int) - (4 : Int))), (5, .int .i64 (((a0.getD ((2 : Int).toNat) default).toNat : Int) + ((256 : Int) * ((a0.getD ((3 : Int).toNat) default).toNat : Int)))), (6, vl270), (7, .int .i64 s7_195)]) (fun (⟨l270, vl270, xsl270⟩ : (List (List UInt8)) × Value × (List Value)) wr => Lcl w [.row (vl270) 9 1 (l270).length (xsl270), .row (vl194) 9 1 (l194).length (xsl194)] wr ∧ Elems .st (gz H w wr [.row (vl270) 9 1 (l270).length (xsl270), .row (vl194) 9 1 (l194).length (xsl194)]) (l270) (xsl270) ∧ Elems .st (gz H w wr [.row (vl270) 9 1 (l270).length (xsl270), .row (vl194) 9 1 (l194).length (xsl194)]) (l194) (xsl194) ∧ (ref4_TextOf_k3 s7_195) l270 = some e196) ?_ ?_
            · refine W_block ?_
              refine W_seqr ?_
              refine S_pu 1 rfl ?_
              obtain ⟨hL273, hle273, he273⟩ := row_nilE .st H 9 hL196
              replace hel194 := hel194.mono (gz_mono hH hle273)
              refine S_seqnil ?_
              refine W_seqr ?_
              refine S_pu 1 rfl ?_
              refine S_seqnil ?_
              refine W_cut (σ := (List (List UInt8)) × Value × (List Value)) (fun (⟨l340, vl340, xsl340⟩ : (List (List UInt8)) × Value × (List Value)) => [(0, v0_0), (4, .int .i64 ((a0.length : Int) - (4 : Int))), (5, .int .i64 (((a0.getD ((2 : Int).toNat) default).toNat : Int) + ((256 : Int) * ((a0.getD ((3 : Int).toNat) default).toNat : Int)))), (7, .int .i64 s7_195), (8, vl340)]) (fun (⟨l340, vl340, xsl340⟩ : (List (List UInt8)) × Value × (List Value)) wr => Lcl w [.row (vl340) 9 1 (l340).length (xsl340), .row (vl194) 9 1 (l194).length (xsl194)] wr ∧ Elems .st (gz H w wr [.row (vl340) 9 1 (l340).length (xsl340), .row (vl194) 9 1 (l194).length (xsl194)]) (l340) (xsl340) ∧ Elems .st (gz H w wr [.row (vl340) 9 1 (l340).length (xsl340), .row (vl194) 9 1 (l194).length (xsl194)]) (l194) (xsl194) ∧ (ref4_TextOf_k4 s7_195) l340 = some e196) ?_ ?_
              · refine W_seqr ?_
                refine S_pu 1 rfl ?_
                refine S_seqnil ?_
                refine W_block ?_
                obtain ⟨n409, h⟩ := Go.L.run_some h
                refine W_loop (σ := (List (List UInt8)) × Int × Int × Value × (List Value) × Nat) (fun (⟨l406, s9_407, s10_408, vl406, xsl406, n⟩ : (List (List UInt8)) × Int × Int × Value × (List Value) × Nat) => [(0, v0_0), (4, .int .i64 ((a0.length : Int) - (4 : Int))), (5, .int .i64 (((a0.getD ((2 : Int).toNat) default).toNat : Int) + ((256 : Int) * ((a0.getD ((3 : Int).toNat) default).toNat : Int)))), (6, vl194), (7, .int .i64 s7_195), (8, vl406), (9, .int .i64 s9_407), (10, .int .i64 s10_408)]) (fun (⟨l406, s9_407, s10_408, vl406, xsl406, n⟩ : (List (List UInt8)) × Int × Int × Value × (List Value) × Nat) wr => Lcl w [.row (vl406) 9 1 (l406).length (xsl406), .row (vl194) 9 1 (l194).length (xsl194)] wr ∧ Elems .st (gz H w wr [.row (vl406) 9 1 (l406).length (xsl406), .row (vl194) 9 1 (l194).length (xsl194)]) (l406) (xsl406) ∧ Elems .st (gz H w wr [.row (vl406) 9 1 (l406).length (xsl406), .row (vl194) 9 1 (l194).length (xsl194)]) (l194) (xsl194) ∧ Go.L.itr (ref4_TextOf_bl5 a0 l194 s7_195) n (l406, s9_407, s10_408) = some e196) (fun (⟨l406, s9_407, s10_408, vl406, xsl406, n⟩ : (List (List UInt8)) × Int × Int × Value × (List Value) × Nat) => n) (([] : List (List UInt8)), (4 : Int), (0 : Int), .slice none 0 0, [], n409) (.cons rfl (.cons rfl (.cons rfl (.cons rfl (.cons rfl (.cons rfl (.cons rfl (.cons rfl (Sub.nil _))))))))) ⟨hL273, he273, hel194, h⟩ ?_
                rintro ⟨l406, s9_407, s10_408, vl406, xsl406, nn409⟩ wr409 ⟨hL409, hel406, hel194, h⟩
                obtain ⟨n409, e409, rfl, h, hm409⟩ := Go.L.itr_some h
                refine W_seq ?_
                refine W_seqr ?_
                refine S_pu 3 rfl ?_
                refine S_seqnil ?_
                refine W_if rfl (fun hc411 => ?_) (fun hc411 => ?_)
                · replace h := Go.L.ite_p hc411 h
                  refine W_skip ?_
                  refine At_seq ?_
                  refine W_cut (σ := (List (List UInt8)) × Int × Value × (List Value)) (fun (⟨l469, s9_470, vl469, xsl469⟩ : (List (List UInt8)) × Int × Value × (List Value)) => [(0, v0_0), (4, .int .i64 ((a0.length : Int) - (4 : Int))), (5, .int .i64 (((a0.getD ((2 : Int).toNat) default).toNat : Int) + ((256 : Int) * ((a0.getD ((3 : Int).toNat) default).toNat : Int)))), (6, vl194), (7, .int .i64 s7_195), (8, vl469), (9, .int .i64 s9_470), (10, .int .i64 s10_408)]) (fun (⟨l469, s9_470, vl469, xsl469⟩ : (List (List UInt8)) × Int × Value × (List Value)) wr => Lcl w [.row (vl469) 9 1 (l469).length (xsl469), .row (vl194) 9 1 (l194).length (xsl194)] wr ∧ Elems .st (gz H w wr [.row (vl469) 9 1 (l469).length (xsl469), .row (vl194) 9 1 (l194).length (xsl194)]) (l469) (xsl469) ∧ Elems .st (gz H w wr [.row (vl469) 9 1 (l469).length (xsl469), .row (vl194) 9 1 (l194).length (xsl194)]) (l194) (xsl194) ∧ (ref4_TextOf_k6 s10_408) l469 s9_470 = some e409) ?_ ?_
                  · refine W_block ?_
                    refine W_seqr ?_
                    refine S_litE (r := .byte) (l := [(0 : UInt8)]) rfl (fun _ => bsl22_1 _ _) rfl (show 1 ≤ 9223372036854775807 by decide) hH hL409 (.c1 rfl .nil) ?_
                    intro v473 w473 hx473 hL473 hle473 hv473
                    replace hel406 := hel406.mono (gz_mono hH hle473)
                    replace hel194 := hel194.mono (gz_mono hH hle473)
                    refine S_v (r_str rfl Try.underlying22 Try.underlying5 Try.underlying9 hv473 (gz_le hH hL473)) rfl ?_
                    refine S_pu 1 rfl ?_
                    refine S_seqnil ?_
                    refine W_cut (σ := Int × (List UInt8)) (fun (⟨s9_482, s11_483⟩ : Int × (List UInt8)) => [(0, v0_0), (4, .int .i64 ((a0.length : Int) - (4 : Int))), (5, .int .i64 (((a0.getD ((2 : Int).toNat) default).toNat : Int) + ((256 : Int) * ((a0.getD ((3 : Int).toNat) default).toNat : Int)))), (6, vl194), (7, .int .i64 s7_195), (8, vl406), (9, .int .i64 s9_482), (10, .int .i64 s10_408), (11, .string ⟨(s11_483).toArray⟩)]) (fun (⟨s9_482, s11_483⟩ : Int × (List UInt8)) wr => Lcl w [.row (vl406) 9 1 (l406).length (xsl406), .row (vl194) 9 1 (l194).length (xsl194)] wr ∧ Elems .st (gz H w wr [.row (vl406) 9 1 (l406).length (xsl406), .row (vl194) 9 1 (l194).length (xsl194)]) (l406) (xsl406) ∧ Elems .st (gz H w wr [.row (vl406) 9 1 (l406).length (xsl406), .row (vl194) 9 1 (l194).length (xsl194)]) (l194) (xsl194) ∧ (ref4_TextOf_k7 l194 l406 s10_408) s9_482 s11_483 = some e409) ?_ ?_
                    · refine W_seqr ?_
                      refine S_pu 3 rfl ?_
                      refine S_seqnil ?_
                      refine W_ifn rfl (fun hc486 => ?_) (fun hc486 => ?_)
                      · replace h := Go.L.ite_n hc486 h
                        refine W_seqr ?_
                        refine S_pu 2 rfl ?_
                        obtain ⟨hk489, h⟩ := Go.L.chk_some h
                        refine S_index rfl rfl Try.underlying22 zr5 h0_0 s9_407.toNat (Int.toNat_of_nonneg hk489.1).symm (idx_lt hk489) rfl ?_
                        rintro p488 _ rfl hp488
                        refine S_v (r_load1 rfl Try.underlying5 rfl hp488 (hH.trans hL473.arg)) rfl ?_
                        refine S_litE (r := .byte) (l := [(1 : UInt8), a0.getD s9_407.toNat default]) rfl (fun _ => bsl22_2 _ _ _) rfl (show 2 ≤ 9223372036854775807 by decide) hH hL473 (.c1 rfl (.c1 rfl .nil)) ?_
                        intro v490 w490 hx490 hL490 hle490 hv490
                        replace hel406 := hel406.mono (gz_mono hH hle490)
                        replace hel194 := hel194.mono (gz_mono hH hle490)
                        refine S_v (r_str rfl Try.underlying22 Try.underlying5 Try.underlying9 hv490 (gz_le hH hL490)) rfl ?_
                        refine S_pu 1 rfl ?_
                        refine S_seqnil ?_
                        refine W_region ?_
                        refine S_pu 1 rfl ?_
                        obtain ⟨hk491, h⟩ := Go.L.chk_some h
                        refine S_v (r_ar64 rfl rfl rfl hk491) rfl ?_
                        refine S_pu 1 rfl ?_
                        refine S_nil ?_
                        refine At_cut ((s9_407 + (1 : Int)), [(1 : UInt8), a0.getD s9_407.toNat default]) (.cons rfl (.cons rfl (.cons rfl (.cons rfl (.cons rfl (.cons rfl (.cons rfl (.cons rfl (.cons rfl (Sub.nil _)))))))))) ⟨hL490, hel406, hel194, h⟩
                      · replace h := Go.L.ite_p hc486 h
                        refine W_skip ?_
                        refine At_cut (s9_407, [(0 : UInt8)]) (.cons rfl (.cons rfl (.cons rfl (.cons rfl (.cons rfl (.cons rfl (.cons rfl (.cons rfl (.cons rfl (Sub.nil _)))))))))) ⟨hL473, hel406, hel194, h⟩
                    · rintro ⟨s9_482, s11_483⟩ wr484 ⟨hL484, hel406, hel194, h⟩
                      refine W_seqr ?_
                      refine S_pu 4 rfl ?_
                      obtain ⟨hk495, h⟩ := Go.L.chk_some h
                      refine S_index rfl rfl Try.underlying73 zr9 (hL484.vecN hH (i := 1) rfl hel194) s10_408.toNat (Int.toNat_of_nonneg hk495.1).symm (idx_lt hk495) rfl ?_
                      rintro p494 _ rfl hp494
                      refine S_v (r_load1 rfl Try.underlying9 rfl hp494 (Le.refl _)) rfl ?_
                      obtain ⟨hk496, h⟩ := Go.L.chk_some h
                      refine S_v (r_cat rfl rfl hk496) rfl ?_
                      refine S_litE (r := .st) (l := [(s11_483 ++ l194.getD s10_408.toNat default)]) rfl (fun _ => bsl73_1 _ rfl _) rfl (show 1 ≤ 9223372036854775807 by decide) hH hL484 (.c1 rfl .nil) ?_
                      intro v497 w497 hx497 hL497 hle497 hv497
                      replace hel406 := hel406.mono (gz_mono hH hle497)
                      replace hel194 := hel194.mono (gz_mono hH hle497)
                      obtain ⟨hk499, h⟩ := Go.L.chk_some h
                      refine S_appE (r := .st) (l := l406) (m := [(s11_483 ++ l194.getD s10_408.toNat default)]) 0 rfl rfl Try.underlying73 zr9 rfl (by decide) rfl hH hL497 rfl hel406 hv497 hk499 ?_
                      intro v498 w498 xs498 hL498 hle498 he498
                      replace hel194 := hel194.mono (gz_mono hH hle498)
                      replace hv497 := hv497.mono (gz_mono hH hle498)
                      refine S_pu 1 rfl ?_
                      refine S_seqnil ?_
                      refine W_seqr ?_
                      refine S_pu 2 rfl ?_
                      refine S_seqnil ?_
                      refine W_block ?_
                      obtain ⟨n539, h⟩ := Go.L.run_some h
                      refine W_loop (σ := (List (List UInt8)) × Int × (List Value) × Nat) (fun (⟨l537, s12_538, xsl537, n⟩ : (List (List UInt8)) × Int × (List Value) × Nat) => [(0, v0_0), (4, .int .i64 ((a0.length : Int) - (4 : Int))), (5, .int .i64 (((a0.getD ((2 : Int).toNat) default).toNat : Int) + ((256 : Int) * ((a0.getD ((3 : Int).toNat) default).toNat : Int)))), (6, vl194), (7, .int .i64 s7_195), (8, v498), (9, .int .i64 s9_482), (10, .int .i64 s10_408), (12, .int .i64 s12_538)]) (fun (⟨l537, s12_538, xsl537, n⟩ : (List (List UInt8)) × Int × (List Value) × Nat) wr => Lcl w [.row (v498) 9 1 (l537).length (xsl537), .row (vl194) 9 1 (l194).length (xsl194)] wr ∧ Elems .st (gz H w wr [.row (v498) 9 1 (l537).length (xsl537), .row (vl194) 9 1 (l194).length (xsl194)]) (l537) (xsl537) ∧ Elems .st (gz H w wr [.row (v498) 9 1 (l537).length (xsl537), .row (vl194) 9 1 (l194).length (xsl194)]) (l194) (xsl194) ∧ Go.L.itr (ref4_TextOf_bl8 s10_408 s9_482) n (l537, s12_538) = some e409) (fun (⟨l537, s12_538, xsl537, n⟩ : (List (List UInt8)) × Int × (List Value) × Nat) => n) ((l406 ++ [(s11_483 ++ l194.getD s10_408.toNat default)]), s10_408, xs498, n539) (.cons rfl (.cons rfl (.cons rfl (.cons rfl (.cons rfl (.cons rfl (.cons rfl (.cons rfl (.cons rfl (Sub.nil _)))))))))) ⟨hL498, he498, hel194, h⟩ ?_
                      rintro ⟨l537, s12_538, xsl537, nn539⟩ wr539 ⟨hL539, hel537, hel194, h⟩
                      obtain ⟨n539, e539, rfl, h, hm539⟩ := Go.L.itr_some h
                      refine W_seq ?_
                      refine W_seqd (.q 0 (.q 1 (.q 2 (.q 3 (.q 4 (.q 5 (.q 6 (.q 7 (.q 8 (.q 9 (.q 10 (.q 11 (.q 12 (.q 13 (.tail 14))))))))))))))) mixed (by kernel_rfl) (fun w541 hx541 => ?_)
                      have hL542 := hL539.call hx541
                      have hle542 := fz_ext hL539 hx541
                      replace hel537 := hel537.mono (gz_mono hH hle542)
                      replace hel194 := hel194.mono (gz_mono hH hle542)
                      refine D_pu 3 rfl ?_
                      refine D_split (s := 89) rfl (fun hg543 => ?_) (fun hg543 => ?_)
                      · replace h := Go.L.ite_p (of_decide_eq_true hg543) h
                        refine D_vg (RunsAt_pu rfl) rfl rfl rfl rfl hg543 rfl ?_
                        refine D_vg (RunsAt_pu rfl) rfl rfl rfl rfl hg543 rfl ?_
                        obtain ⟨hk546, h⟩ := Go.L.chk_some h
                        refine D_indexg rfl rfl rfl rfl hg543 rfl rfl Try.underlying73 zr9 (hL542.vecN hH (i := 0) rfl hel537) s12_538.toNat (Int.toNat_of_nonneg hk546.1).symm (idx_lt hk546) rfl ?_
                        rintro p545 _ rfl hp545
                        refine D_vg (r_load1 rfl Try.underlying9 rfl hp545 (Le.refl _)) rfl rfl rfl rfl hg543 rfl ?_
                        refine D_vg (RunsAt_pu rfl) rfl rfl rfl rfl hg543 rfl ?_
                        refine D_vg (RunsAt_pu rfl) rfl rfl rfl rfl hg543 rfl ?_
                        obtain ⟨hk547, h⟩ := Go.L.chk_some h
                        refine D_vg (r_ar64 rfl rfl rfl hk547) rfl rfl rfl rfl hg543 rfl ?_
                        obtain ⟨hk549, h⟩ := Go.L.chk_some h
                        refine D_indexg rfl rfl rfl rfl hg543 rfl rfl Try.underlying73 zr9 (hL542.vecN hH (i := 0) rfl hel537) ((s12_538 - (1 : Int)).toNat) (Int.toNat_of_nonneg hk549.1).symm (idx_lt hk549) rfl ?_
                        rintro p548 _ rfl hp548
                        refine D_vg (r_load1 rfl Try.underlying9 rfl hp548 (Le.refl _)) rfl rfl rfl rfl hg543 rfl ?_
                        refine D_vg (r_slt rfl rfl) rfl rfl rfl rfl hg543 rfl ?_
                        refine D_v (r_pickT rfl hg543 rfl) rfl rfl ?_
                        refine D_tail (fun w550 hx550 => ?_)
                        have hL551 := hL542.call hx550
                        have hle551 := fz_ext hL542 hx550
                        replace hel537 := hel537.mono (gz_mono hH hle551)
                        replace hel194 := hel194.mono (gz_mono hH hle551)
                        refine S_seqnil ?_
                        refine W_cond rfl (fun hc552 => ?_) (fun hc552 => ?_)
                        · replace h := Go.L.ite_t hc552 h
                          refine W_skip ?_
                          refine At_seq ?_
                          refine W_seq ?_
                          refine W_block ?_
                          refine W_naive mixed rfl (fun w554 hx554 => ?_)
                          have hL555 := hL551.call hx554
                          have hle555 := fz_ext hL551 hx554
                          replace hel537 := hel537.mono (gz_mono hH hle555)
                          replace hel194 := hel194.mono (gz_mono hH hle555)
                          refine N_hoist 0 (np_block (np_seq (np_loop (np_block (np_block (np_cut (np_loop (np_block (np_cut (np_block (np_cut (np_loop (np_block (np_cut np_body)))))))))))))) (by kernel_rfl) rfl (fun _ => RunsAt_pu rfl) rfl ?_
                          refine N_hoist 1 (np_block (np_seq (np_loop (np_block (np_block (np_cut (np_loop (np_block (np_cut (np_block (np_cut (np_loop (np_block (np_cut np_body)))))))))))))) (by kernel_rfl) rfl (fun _ => RunsAt_pu rfl) rfl ?_
                          refine N_hoist 2 (np_block (np_seq (np_loop (np_block (np_block (np_cut (np_loop (np_block (np_cut (np_block (np_cut (np_loop (np_block (np_cut np_body)))))))))))))) (by kernel_rfl) rfl (fun _ => RunsAt_pu rfl) rfl ?_
                          refine N_hoist 3 (np_block (np_seq (np_loop (np_block (np_block (np_cut (np_loop (np_block (np_cut (np_block (np_cut (np_loop (np_block (np_cut np_body)))))))))))))) (by kernel_rfl) rfl (fun _ => RunsAt_pu rfl) rfl ?_
                          obtain ⟨hk556, h⟩ := Go.L.chk_some h
                          refine N_hoist 4 (np_block (np_seq (np_loop (np_block (np_block (np_cut (np_loop (np_block (np_cut (np_block (np_cut (np_loop (np_block (np_cut np_body)))))))))))))) (by kernel_rfl) rfl (fun _ => r_ar64 rfl rfl rfl hk556) rfl ?_
                          refine N_hoist 5 (np_block (np_seq (np_loop (np_block (np_block (np_cut (np_loop (np_block (np_cut (np_block (np_cut (np_loop (np_block (np_cut np_body)))))))))))))) (by kernel_rfl) rfl (fun _ => RunsAt_pu rfl) rfl ?_
                          refine N_hoist 6 (np_block (np_seq (np_loop (np_block (np_block (np_cut (np_loop (np_block (np_cut (np_block (np_cut (np_loop (np_block (np_cut np_body)))))))))))))) (by kernel_rfl) rfl (fun _ => RunsAt_pu rfl) rfl ?_
                          obtain ⟨hk557, h⟩ := Go.L.chk_some h
                          refine N_hoist 7 (np_block (np_seq (np_loop (np_block (np_block (np_cut (np_loop (np_block (np_cut (np_block (np_cut (np_loop (np_block (np_cut np_body)))))))))))))) (by kernel_rfl) rfl (fun _ => r_ar64 rfl rfl rfl hk557) rfl ?_
                          obtain ⟨hk559, h⟩ := Go.L.chk_some h
                          refine N_index 8 (np_block (np_seq (np_loop (np_block (np_block (np_cut (np_loop (np_block (np_cut (np_block (np_cut (np_loop (np_block (np_cut np_body)))))))))))))) (by kernel_rfl) rfl rfl rfl Try.underlying73 zr9 (hL555.vecN hH (i := 0) rfl hel537) ((s12_538 - (1 : Int)).toNat) (Int.toNat_of_nonneg hk559.1).symm (idx_lt hk559) rfl ?_
                          rintro p558 _ rfl hp558
                          refine N_hoist 10 (np_block (np_seq (np_loop (np_block (np_block (np_cut (np_loop (np_block (np_cut (np_block (np_cut (np_loop (np_block (np_cut np_body)))))))))))))) (by kernel_rfl) rfl (fun _ => RunsAt_pu rfl) rfl ?_
                          refine N_hoist 11 (np_block (np_seq (np_loop (np_block (np_block (np_cut (np_loop (np_block (np_cut (np_block (np_cut (np_loop (np_block (np_cut np_body)))))))))))))) (by kernel_rfl) rfl (fun _ => RunsAt_pu rfl) rfl ?_
                          obtain ⟨hk561, h⟩ := Go.L.chk_some h
                          refine N_index 12 (np_block (np_seq (np_loop (np_block (np_block (np_cut (np_loop (np_block (np_cut (np_block (np_cut (np_loop (np_block (np_cut np_body)))))))))))))) (by kernel_rfl) rfl rfl rfl Try.underlying73 zr9 (hL555.vecN hH (i := 0) rfl hel537) s12_538.toNat (Int.toNat_of_nonneg hk561.1).symm (idx_lt hk561) rfl ?_
                          rintro p560 _ rfl hp560
                          refine N2 (i := 9) (j := 13) (by kernel_rfl) rfl rfl ?_ ?_
                          · refine S_v (r_load1 rfl Try.underlying9 rfl hp558 (Le.refl _)) rfl ?_
                            refine N_nil ?_
                            refine N1 (i := 13) (by kernel_rfl) rfl ?_
                            refine S_v (r_load1 rfl Try.underlying9 rfl hp560 (Le.refl _)) rfl ?_
                            refine N_nil ?_
                            obtain ⟨hk563, h⟩ := Go.L.chk_some h
                            refine N_indexR 14 0 (np_block (np_seq (np_loop (np_block (np_block (np_cut (np_loop (np_block (np_cut (np_block (np_cut (np_loop (np_block (np_cut np_body)))))))))))))) (by kernel_rfl) rfl rfl rfl Try.underlying73 zr9 hL555 rfl s12_538.toNat (Int.toNat_of_nonneg hk563.1).symm (idx_lt hk563) rfl ?_
                            intro p562 hp562
                            refine N1 (i := 15) (by kernel_rfl) rfl ?_
                            refine S_storeE (z := l537.getD ((s12_538 - (1 : Int)).toNat) default) (j := s12_538.toNat) 0 rfl rfl rfl zr9 hH hL555 rfl hel537 hp562 rfl (idx_lt hk563) rfl ?_
                            intro w564 xs564 hL564 hle564 he564
                            replace hel194 := hel194.mono (gz_mono hH hle564)
                            refine N_nil ?_
                            obtain ⟨hk566, h⟩ := Go.L.chk_some h
                            refine N_indexR 16 0 (np_block (np_seq (np_loop (np_block (np_block (np_cut (np_loop (np_block (np_cut (np_block (np_cut (np_loop (np_block (np_cut np_body)))))))))))))) (by kernel_rfl) rfl rfl rfl Try.underlying73 zr9 hL564 rfl ((s12_538 - (1 : Int)).toNat) (Int.toNat_of_nonneg hk566.1).symm (idx_lt hk566) rfl ?_
                            intro p565 hp565
                            refine N1 (i := 17) (by kernel_rfl) rfl ?_
                            refine S_storeE (z := l537.getD s12_538.toNat default) (j := (s12_538 - (1 : Int)).toNat) 0 rfl rfl rfl zr9 hH hL564 rfl he564 hp565 rfl (idx_lt hk566) rfl ?_
                            intro w567 xs567 hL567 hle567 he567
                            replace hel194 := hel194.mono (gz_mono hH hle567)
                            refine N_nil ?_
                            refine N_end (by kernel_rfl) ?_
                            refine At_block ?_
                            refine At_seq ?_
                            refine W_region ?_
                            refine S_pu 1 rfl ?_
                            obtain ⟨hk568, h⟩ := Go.L.chk_some h
                            refine S_v (r_ar64 rfl rfl rfl hk568) rfl ?_
                            refine S_pu 1 rfl ?_
                            refine S_nil ?_
                            have h := Go.L.Nxt.again h hm539
                            refine At_round (((l537.set s12_538.toNat (l537.getD ((s12_538 - (1 : Int)).toNat) default)).set ((s12_538 - (1 : Int)).toNat) (l537.getD s12_538.toNat default)), (s12_538 - (1 : Int)), xs567, n539) (.cons rfl (.cons rfl (.cons rfl (.cons rfl (.cons rfl (.cons rfl (.cons rfl (.cons rfl (.cons rfl (Sub.nil _)))))))))) ⟨hL567, he567, hel194, h⟩ (Nat.lt_succ_self _)
                          · obtain ⟨hk563, h⟩ := Go.L.chk_some h
                            obtain ⟨hk566, h⟩ := Go.L.chk_some h
                            obtain ⟨hk568, h⟩ := Go.L.chk_some h
                            refine S_v (r_load1 rfl Try.underlying9 rfl hp560 (Le.refl _)) rfl ?_
                            refine N_nil ?_
                            refine N1 (i := 9) (by kernel_rfl) rfl ?_
                            refine S_v (r_load1 rfl Try.underlying9 rfl hp558 (Le.refl _)) rfl ?_
                            refine N_nil ?_
                            refine N_indexR 14 0 (np_block (np_seq (np_loop (np_block (np_block (np_cut (np_loop (np_block (np_cut (np_block (np_cut (np_loop (np_block (np_cut np_body)))))))))))))) (by kernel_rfl) rfl rfl rfl Try.underlying73 zr9 hL555 rfl s12_538.toNat (Int.toNat_of_nonneg hk563.1).symm (idx_lt hk563) rfl ?_
                            intro p569 hp569
                            refine N1 (i := 15) (by kernel_rfl) rfl ?_
                            refine S_storeE (z := l537.getD ((s12_538 - (1 : Int)).toNat) default) (j := s12_538.toNat) 0 rfl rfl rfl zr9 hH hL555 rfl hel537 hp569 rfl (idx_lt hk563) rfl ?_
                            intro w570 xs570 hL570 hle570 he570
                            replace hel194 := hel194.mono (gz_mono hH hle570)
                            refine N_nil ?_
                            refine N_indexR 16 0 (np_block (np_seq (np_loop (np_block (np_block (np_cut (np_loop (np_block (np_cut (np_block (np_cut (np_loop (np_block (np_cut np_body)))))))))))))) (by kernel_rfl) rfl rfl rfl Try.underlying73 zr9 hL570 rfl ((s12_538 - (1 : Int)).toNat) (Int.toNat_of_nonneg hk566.1).symm (idx_lt hk566) rfl ?_
                            intro p571 hp571
                            refine N1 (i := 17) (by kernel_rfl) rfl ?_
                            refine S_storeE (z := l537.getD s12_538.toNat default) (j := (s12_538 - (1 : Int)).toNat) 0 rfl rfl rfl zr9 hH hL570 rfl he570 hp571 rfl (idx_lt hk566) rfl ?_
                            intro w572 xs572 hL572 hle572 he572
                            replace hel194 := hel194.mono (gz_mono hH hle572)
                            refine N_nil ?_
                            refine N_end (by kernel_rfl) ?_
                            refine At_block ?_
                            refine At_seq ?_
                            refine W_region ?_
                            refine S_pu 1 rfl ?_
                            refine S_v (r_ar64 rfl rfl rfl hk568) rfl ?_
                            refine S_pu 1 rfl ?_
                            refine S_nil ?_
                            have h := Go.L.Nxt.again h hm539
                            refine At_round (((l537.set s12_538.toNat (l537.getD ((s12_538 - (1 : Int)).toNat) default)).set ((s12_538 - (1 : Int)).toNat) (l537.getD s12_538.toNat default)), (s12_538 - (1 : Int)), xs572, n539) (.cons rfl (.cons rfl (.cons rfl (.cons rfl (.cons rfl (.cons rfl (.cons rfl (.cons rfl (.cons rfl (Sub.nil _)))))))))) ⟨hL572, he572, hel194, h⟩ (Nat.lt_succ_self _)
                        · replace h := Go.L.ite_f hc552 h
                          refine W_exit ?_
                          refine At_seq_exit ?_
                          refine At_loop_exit ?_
                          replace h := Go.L.Nxt.out h hm539
                          refine At_exit ?_
                          refine At_block ?_
                          refine At_cut (l537, s9_482, v498, xsl537) (.cons rfl (.cons rfl (.cons rfl (.cons rfl (.cons rfl (.cons rfl (.cons rfl (.cons rfl (Sub.nil _))))))))) ⟨hL551, hel537, hel194, h⟩
                      · replace h := Go.L.ite_n (of_decide_eq_false hg543) h
                        refine D_no rfl rfl rfl rfl hg543 rfl ?_
                        refine D_no rfl rfl rfl rfl hg543 rfl ?_
                        refine D_no rfl rfl rfl rfl hg543 rfl ?_
                        refine D_no rfl rfl rfl rfl hg543 rfl ?_
                        refine D_no rfl rfl rfl rfl hg543 rfl ?_
                        refine D_no rfl rfl rfl rfl hg543 rfl ?_
                        refine D_no rfl rfl rfl rfl hg543 rfl ?_
                        refine D_no rfl rfl rfl rfl hg543 rfl ?_
                        refine D_no rfl rfl rfl rfl hg543 rfl ?_
                        refine D_no rfl rfl rfl rfl hg543 rfl ?_
                        refine D_v (r_pickF rfl hg543 rfl) rfl rfl ?_
                        refine D_tail (fun w575 hx575 => ?_)
                        have hL576 := hL542.call hx575
                        have hle576 := fz_ext hL542 hx575
                        replace hel537 := hel537.mono (gz_mono hH hle576)
                        replace hel194 := hel194.mono (gz_mono hH hle576)
                        refine S_seqnil ?_
                        refine W_false rfl ?_
                        refine W_exit ?_
                        refine At_seq_exit ?_
                        refine At_loop_exit ?_
                        replace h := Go.L.Nxt.out h hm539
                        refine At_exit ?_
                        refine At_block ?_
                        refine At_cut (l537, s9_482, v498, xsl537) (.cons rfl (.cons rfl (.cons rfl (.cons rfl (.cons rfl (.cons rfl (.cons rfl (.cons rfl (Sub.nil _))))))))) ⟨hL576, hel537, hel194, h⟩
                  · rintro ⟨l469, s9_470, vl469, xsl469⟩ wr471 ⟨hL471, hel469, hel194, h⟩
                    refine W_region ?_
                    refine S_pu 1 rfl ?_
                    obtain ⟨hk578, h⟩ := Go.L.chk_some h
                    refine S_v (r_ar64 rfl rfl rfl hk578) rfl ?_
                    refine S_pu 1 rfl ?_
                    refine S_nil ?_
                    have h := Go.L.Nxt.again h hm409
                    refine At_round (l469, s9_470, (s10_408 + (1 : Int)), vl469, xsl469, n409) (.cons rfl (.cons rfl (.cons rfl (.cons rfl (.cons rfl (.cons rfl (.cons rfl (.cons rfl (Sub.nil _))))))))) ⟨hL471, hel469, hel194, h⟩ (Nat.lt_succ_self _)
                · replace h := Go.L.ite_n hc411 h
                  refine W_exit ?_
                  refine At_seq_exit ?_
                  refine At_loop_exit ?_
                  replace h := Go.L.Nxt.out h hm409
                  refine At_exit ?_
                  refine At_cut (l406, vl406, xsl406) (.cons rfl (.cons rfl (.cons rfl (.cons rfl (.cons rfl (Sub.nil _)))))) ⟨hL409, hel406, hel194, h⟩
              · rintro ⟨l340, vl340, xsl340⟩ wr341 ⟨hL341, hel340, hel194, h⟩
                refine W_region ?_
                refine S_pu 2 rfl ?_
                refine S_nil ?_
                refine At_block ?_
                refine At_cut (l340, vl340, xsl340) (.cons rfl (.cons rfl (.cons rfl (.cons rfl (.cons rfl (Sub.nil _)))))) ⟨hL341, hel340, hel194, h⟩
            · rintro ⟨l270, vl270, xsl270⟩ wr271 ⟨hL271, hel270, hel194, h⟩
              refine W_region ?_
              refine S_pu 1 rfl ?_
              obtain ⟨hk582, h⟩ := Go.L.chk_some h
              refine S_v (r_ar64 rfl rfl rfl hk582) rfl ?_
              refine S_pu 1 rfl ?_
              refine S_nil ?_
              have hL583 := hL271.dropAt (i := 1) rfl
              replace hel270 := hel270.mono (gz_mono hH (fz_dropAt (i := 1) rfl))
              have h := Go.L.Nxt.again h hm196
              refine At_round (l270, (s7_195 + (1 : Int)), vl270, xsl270, n196) (.cons rfl (.cons rfl (.cons rfl (.cons rfl (.cons rfl (Sub.nil _)))))) ⟨hL583, hel270, h⟩ (Nat.lt_succ_self _)
          · replace h := Go.L.ite_n hc198 h
            refine W_exit ?_
            refine At_seq_exit ?_
            refine At_loop_exit ?_
            replace h := Go.L.Nxt.out h hm196
            refine At_exit ?_
            refine At_cut (l194, vl194, xsl194) (.cons rfl (.cons rfl (.cons rfl (.cons rfl (Sub.nil _))))) ⟨hL196, hel194, h⟩
        · rintro ⟨l115, vl115, xsl115⟩ wr116 ⟨hL116, hel115, h⟩
          refine W_seqr ?_
          refine S_pu 2 rfl ?_
          obtain ⟨hk587, h⟩ := Go.L.chk_some h
          refine S_index rfl rfl Try.underlying73 zr9 (hL116.vecN hH (i := 0) rfl hel115) ((((a0.getD ((2 : Int).toNat) default).toNat : Int) + ((256 : Int) * ((a0.getD ((3 : Int).toNat) default).toNat : Int))).toNat) (Int.toNat_of_nonneg hk587.1).symm (idx_lt hk587) rfl ?_
          rintro p586 _ rfl hp586
          refine S_v (r_load1 rfl Try.underlying9 rfl hp586 (Le.refl _)) rfl ?_
          refine S_pu 1 rfl ?_
          refine S_seqnil ?_
          refine W_seqr ?_
          refine S_pu 1 rfl ?_
          obtain ⟨hL588, hle588, he588⟩ := row_nilE .byte H 5 hL116
          replace hel115 := hel115.mono (gz_mono hH hle588)
          refine S_seqnil ?_
          refine W_cut (σ := (List UInt8) × Value × (List Value)) (fun (⟨l606, vl606, xsl606⟩ : (List UInt8) × Value × (List Value)) => [(0, v0_0), (14, vl606)]) (fun (⟨l606, vl606, xsl606⟩ : (List UInt8) × Value × (List Value)) wr => Lcl w [.row (vl606) 5 1 (l606).length (xsl606), .row (vl115) 9 1 (l115).length (xsl115)] wr ∧ Elems .byte (gz H w wr [.row (vl606) 5 1 (l606).length (xsl606), .row (vl115) 9 1 (l115).length (xsl115)]) (l606) (xsl606) ∧ Elems .st (gz H w wr [.row (vl606) 5 1 (l606).length (xsl606), .row (vl115) 9 1 (l115).length (xsl115)]) (l115) (xsl115) ∧ (ref4_TextOf_k9 a0) l606 = some r) ?_ ?_
          · refine W_seqr ?_
            refine S_pu 1 rfl ?_
            refine S_seqnil ?_
            refine W_block ?_
            obtain ⟨n626, h⟩ := Go.L.run_some h
            refine W_loop (σ := (List UInt8) × Int × Value × (List Value) × Nat) (fun (⟨l624, s15_625, vl624, xsl624, n⟩ : (List UInt8) × Int × Value × (List Value) × Nat) => [(0, v0_0), (4, .int .i64 ((a0.length : Int) - (4 : Int))), (13, .string ⟨(l115.getD ((((a0.getD ((2 : Int).toNat) default).toNat : Int) + ((256 : Int) * ((a0.getD ((3 : Int).toNat) default).toNat : Int))).toNat) default).toArray⟩), (14, vl624), (15, .int .i64 s15_625)]) (fun (⟨l624, s15_625, vl624, xsl624, n⟩ : (List UInt8) × Int × Value × (List Value) × Nat) wr => Lcl w [.row (vl624) 5 1 (l624).length (xsl624), .row (vl115) 9 1 (l115).length (xsl115)] wr ∧ Elems .byte (gz H w wr [.row (vl624) 5 1 (l624).length (xsl624), .row (vl115) 9 1 (l115).length (xsl115)]) (l624) (xsl624) ∧ Elems .st (gz H w wr [.row (vl624) 5 1 (l624).length (xsl624), .row (vl115) 9 1 (l115).length (xsl115)]) (l115) (xsl115) ∧ Go.L.itr (ref4_TextOf_bl10 a0 l115) n (l624, s15_625) = some r) (fun (⟨l624, s15_625, vl624, xsl624, n⟩ : (List UInt8) × Int × Value × (List Value) × Nat) => n) (([] : List UInt8), (0 : Int), .slice none 0 0, [], n626) (.cons rfl (.cons rfl (.cons rfl (.cons rfl (.cons rfl (Sub.nil _)))))) ⟨hL588, he588, hel115, h⟩ ?_
            rintro ⟨l624, s15_625, vl624, xsl624, nn626⟩ wr626 ⟨hL626, hel624, hel115, h⟩
            obtain ⟨n626, e626, rfl, h, hm626⟩ := Go.L.itr_some h
            refine W_seq ?_
            refine W_seqr ?_
            refine S_pu 2 rfl ?_
            obtain ⟨hk628, h⟩ := Go.L.chk_some h
            refine S_v (r_ar64 rfl rfl rfl hk628) rfl ?_
            refine S_pu 2 rfl ?_
            refine S_split (s := 128) rfl (fun hg629 => ?_) (fun hg629 => ?_)
            · replace h := Go.L.ite_p (of_decide_eq_true hg629) h
              refine S_guarded rfl rfl hg629 ?_
              refine S_v (RunsAt_pu rfl) rfl ?_
              refine S_guarded rfl rfl hg629 ?_
              obtain ⟨hk631, h⟩ := Go.L.chk_some h
              refine S_v (r_ar64 rfl rfl rfl hk631) rfl ?_
              refine S_guarded rfl rfl hg629 ?_
              refine S_v (RunsAt_pu rfl) rfl ?_
              refine S_guarded rfl rfl hg629 ?_
              refine S_v (r_lenS rfl Try.underlying9) rfl ?_
              refine S_guarded rfl rfl hg629 ?_
              refine S_v (RunsAt_pu rfl) rfl ?_
              refine S_v (r_pickT rfl hg629 rfl) rfl ?_
              refine S_seqnil ?_
              refine W_if rfl (fun hc632 => ?_) (fun hc632 => ?_)
              · replace h := Go.L.ite_p hc632 h
                refine W_skip ?_
                refine At_seq ?_
                refine W_seq ?_
                refine W_block ?_
                refine W_region ?_
                refine S_pu 3 rfl ?_
                obtain ⟨hk634, h⟩ := Go.L.chk_some h
                refine S_v (r_ar64 rfl rfl rfl hk634) rfl ?_
                obtain ⟨hk635, h⟩ := Go.L.chk_some h
                refine S_v (r_sidx rfl rfl Try.underlying9 hk635) rfl ?_
                refine S_litE (r := .byte) (l := [((l115.getD ((((a0.getD ((2 : Int).toNat) default).toNat : Int) + ((256 : Int) * ((a0.getD ((3 : Int).toNat) default).toNat : Int))).toNat) default).getD (s15_625 + (1 : Int)).toNat default)]) rfl (fun _ => bsl22_1 _ _) rfl (show 1 ≤ 9223372036854775807 by decide) hH hL626 (.c1 rfl .nil) ?_
                intro v636 w636 hx636 hL636 hle636 hv636
                replace hel624 := hel624.mono (gz_mono hH hle636)
                replace hel115 := hel115.mono (gz_mono hH hle636)
                obtain ⟨hk638, h⟩ := Go.L.chk_some h
                refine S_appE (r := .byte) (l := l624) (m := [((l115.getD ((((a0.getD ((2 : Int).toNat) default).toNat : Int) + ((256 : Int) * ((a0.getD ((3 : Int).toNat) default).toNat : Int))).toNat) default).getD (s15_625 + (1 : Int)).toNat default)]) 0 rfl rfl Try.underlying22 zr5 rfl (by decide) rfl hH hL636 rfl hel624 hv636 hk638 ?_
                intro v637 w637 xs637 hL637 hle637 he637
                replace hel115 := hel115.mono (gz_mono hH hle637)
                replace hv636 := hv636.mono (gz_mono hH hle637)
                refine S_pu 1 rfl ?_
                refine S_nil ?_
                refine At_block ?_
                refine At_seq ?_
                refine W_region ?_
                refine S_pu 1 rfl ?_
                obtain ⟨hk639, h⟩ := Go.L.chk_some h
                refine S_v (r_ar64 rfl rfl rfl hk639) rfl ?_
                refine S_pu 1 rfl ?_
                refine S_nil ?_
                have h := Go.L.Nxt.again h hm626
                refine At_round ((l624 ++ [((l115.getD ((((a0.getD ((2 : Int).toNat) default).toNat : Int) + ((256 : Int) * ((a0.getD ((3 : Int).toNat) default).toNat : Int))).toNat) default).getD (s15_625 + (1 : Int)).toNat default)]), (s15_625 + (2 : Int)), v637, xs637, n626) (.cons rfl (.cons rfl (.cons rfl (.cons rfl (.cons rfl (Sub.nil _)))))) ⟨hL637, he637, hel115, h⟩ (Nat.lt_succ_self _)
              · replace h := Go.L.ite_n hc632 h
                refine W_exit ?_
                refine At_seq_exit ?_
                refine At_loop_exit ?_
                replace h := Go.L.Nxt.out h hm626
                refine At_exit ?_
                refine At_cut (l624, vl624, xsl624) (.cons rfl (.cons rfl (Sub.nil _))) ⟨hL626, hel624, hel115, h⟩
            · replace h := Go.L.ite_n (of_decide_eq_false hg629) h
              refine S_unwanted rfl rfl hg629 rfl ?_
              refine S_unwanted rfl rfl hg629 rfl ?_
              refine S_unwanted rfl rfl hg629 rfl ?_
              refine S_unwanted rfl rfl hg629 rfl ?_
              refine S_unwanted rfl rfl hg629 rfl ?_
              refine S_v (r_pickF rfl hg629 rfl) rfl ?_
              refine S_seqnil ?_
              refine W_false rfl ?_
              refine W_exit ?_
              refine At_seq_exit ?_
              refine At_loop_exit ?_
              replace h := Go.L.Nxt.out h hm626
              refine At_exit ?_
              refine At_cut (l624, vl624, xsl624) (.cons rfl (.cons rfl (Sub.nil _))) ⟨hL626, hel624, hel115, h⟩
          · rintro ⟨l606, vl606, xsl606⟩ wr607 ⟨hL607, hel606, hel115, h⟩
            refine W_seqr ?_
            refine S_pu 2 rfl ?_
            obtain ⟨x643, hb643, h⟩ := Go.L.bind_some h
            refine S_callL rfl rfl hL607 (ref4_Form_ok _ _ (Le.refl _) (hL607.vecN hH (i := 0) rfl hel606) hb643) ?_
            rintro u644_0 w644 ⟨_, rfl, hR644_0⟩ hx644 hL644 hle644
            have hv644_0 := (hR644_0.ofPlain plain_byte).vecG hH hL607 hx644
            replace hel606 := hel606.mono (gz_mono hH hle644)
            replace hel115 := hel115.mono (gz_mono hH hle644)
            refine S_pu 1 rfl ?_
            obtain ⟨x645, hb645, h⟩ := Go.L.bind_some h
            refine S_callL rfl rfl hL644 (ref3_SameBytes_ok _ _ (gz_le hH hL644) hv644_0 (h0_0.mono (gz_left hH)) hb645) ?_
            rintro _ w646 rfl hx646 hL646 hle646
            replace hel606 := hel606.mono (gz_mono hH hle646)
            replace hel115 := hel115.mono (gz_mono hH hle646)
            replace hv644_0 := hv644_0.mono (gz_mono hH hle646)
            refine S_pu 2 rfl ?_
            refine S_seqnil ?_
            refine W_ret ?_
            obtain rfl := Option.some.inj h
            refine At_body rfl rfl ?_
            exact ⟨hL646.ext, _, rfl, (hL646.ownH hH (i := 0) rfl hel606)⟩
end Go.Proofs.Ytmifkdfaaaaicaa
