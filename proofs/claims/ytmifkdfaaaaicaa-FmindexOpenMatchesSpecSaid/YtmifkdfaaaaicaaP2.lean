/- Generated walks: suffixes. -/
import Derived.Test.YtmifkdfaaaaicaaSortSuf
import Derived.KernelRfl
namespace Go.Proofs.Ytmifkdfaaaaicaa
open Go Go.E Go.RowKit
noncomputable def suffix_array_k1 (a0 : List UInt8) (l14 : List Int) : Option ((List Int)) :=
  Go.L.chk (l14 = Go.L.iota a0.length ∧ a0.length < 4611686018427387904) (some ((Go.L.sufArr a0)))
noncomputable def suffix_array_bl2 (a0 : List UInt8) : (List Int) × Int → Option (((List Int) × Int) ⊕ ((List Int))) := fun ⟨l25, s10_26⟩ =>
  if s10_26 < ((List.replicate (a0.length : Int).toNat (0 : Int)).length : Int) then Go.L.chk (0 ≤ s10_26 ∧ s10_26 < (l25.length : Int)) (Go.L.chk (Go.L.I64 (s10_26 + (1 : Int))) (some (Sum.inl ((l25.set s10_26.toNat s10_26), (s10_26 + (1 : Int)))))) else Option.map Sum.inr ((suffix_array_k1 a0) l25)
noncomputable def suffix_array_l2 (a0 : List UInt8) (s : (List Int) × Int) : Option ((List Int)) := Go.L.run (suffix_array_bl2 a0) s
noncomputable def suffix_array (a0 : List UInt8) : Option ((List Int)) :=
  Go.L.chk (0 ≤ (a0.length : Int) ∧ ((8 : Nat) : Int) * (a0.length : Int) ≤ 281474976710656 ∧ (a0.length : Int) ≤ 9223372036854775807) ((suffix_array_l2 a0) ((List.replicate (a0.length : Int).toNat (0 : Int)), (0 : Int)))

set_option maxRecDepth 10000 in
theorem suffix_array_ok (w : World) (H : PH) (hH : Le H (hp w)) {a0 : List UInt8} {v0_0 : Value} (h0_0 : Vec .byte H v0_0 (a0)) {r : (List Int)} (h : suffix_array a0 = some r) :
    Ok Try.prog 43 [v0_0] w (fun v w' => Ext w w' ∧ ∃ u0, v = u0 ∧ OwnH 3 (.int .i64) H w w' u0 (r)) := by
  refine Ok_enter (n := 22) [(0, v0_0)] Try.func43 rfl rfl rfl rfl rfl ?_
  have hL := Lcl.start w
  refine W_seqr ?_
  refine S_box1 (t := 22) rfl h0_0.one rfl hL ?_
  intro w1 b1 hL1 hle1 _
  refine S_pu 1 rfl ?_
  refine S_seqnil ?_
  refine W_seqr ?_
  refine S_v (r_loadB1 0 rfl Try.underlying22 rfl hL1 rfl rfl) rfl ?_
  refine S_v (r_len rfl Try.underlying22 h0_0) rfl ?_
  obtain ⟨hk3, h⟩ := Go.L.chk_some h
  refine S_makeE (r := (.int .i64)) (z := (0 : Int)) rfl rfl rfl Try.underlying23 zr3 rfl (fun _ => rfl) rfl hH hL1 hk3 ?_
  intro v2 w2 xs2 hL2 hle2 he2
  refine S_pu 1 rfl ?_
  refine S_seqnil ?_
  refine W_cut (σ := (List Int) × (List Value)) (fun (⟨l14, xsl14⟩ : (List Int) × (List Value)) => [(1, .pointer (some ⟨b1, 0, none⟩)), (3, v2)]) (fun (⟨l14, xsl14⟩ : (List Int) × (List Value)) wr => Lcl w [.row (v2) 3 1 (l14).length (xsl14), .box b1 [v0_0] 22] wr ∧ Elems (.int .i64) (gz H w wr [.row (v2) 3 1 (l14).length (xsl14), .box b1 [v0_0] 22]) (l14) (xsl14) ∧ (suffix_array_k1 a0) l14 = some r) ?_ ?_
  · refine W_seqr ?_
    refine S_pu 1 rfl ?_
    refine S_v (r_lenR (i := 0) rfl Try.underlying23 hL2 rfl) rfl ?_
    refine S_pu 1 rfl ?_
    refine S_seqnil ?_
    refine W_block ?_
    obtain ⟨n27, h⟩ := Go.L.run_some h
    refine W_loop (σ := (List Int) × Int × (List Value) × Nat) (fun (⟨l25, s10_26, xsl25, n⟩ : (List Int) × Int × (List Value) × Nat) => [(1, .pointer (some ⟨b1, 0, none⟩)), (3, v2), (9, .int .i64 ((List.replicate (a0.length : Int).toNat (0 : Int)).length : Int)), (10, .int .i64 s10_26)]) (fun (⟨l25, s10_26, xsl25, n⟩ : (List Int) × Int × (List Value) × Nat) wr => Lcl w [.row (v2) 3 1 (l25).length (xsl25), .box b1 [v0_0] 22] wr ∧ Elems (.int .i64) (gz H w wr [.row (v2) 3 1 (l25).length (xsl25), .box b1 [v0_0] 22]) (l25) (xsl25) ∧ Go.L.itr (suffix_array_bl2 a0) n (l25, s10_26) = some r) (fun (⟨l25, s10_26, xsl25, n⟩ : (List Int) × Int × (List Value) × Nat) => n) ((List.replicate (a0.length : Int).toNat (0 : Int)), (0 : Int), xs2, n27) (.cons rfl (.cons rfl (.cons rfl (.cons rfl (Sub.nil _))))) ⟨hL2, he2, h⟩ ?_
    rintro ⟨l25, s10_26, xsl25, nn27⟩ wr27 ⟨hL27, hel25, h⟩
    obtain ⟨n27, e27, rfl, h, hm27⟩ := Go.L.itr_some h
    refine W_seqr ?_
    refine S_pu 1 rfl ?_
    refine S_seqnil ?_
    refine W_seq ?_
    refine W_if rfl (fun hc29 => ?_) (fun hc29 => ?_)
    · replace h := Go.L.ite_p hc29 h
      refine W_skip ?_
      refine At_seq ?_
      refine W_seq ?_
      refine W_block ?_
      refine W_seqr ?_
      refine S_pu 2 rfl ?_
      refine S_seqnil ?_
      refine W_region ?_
      refine S_pu 3 rfl ?_
      obtain ⟨hk32, h⟩ := Go.L.chk_some h
      refine S_indexR 0 rfl rfl Try.underlying23 zr3 hL27 rfl s10_26.toNat (Int.toNat_of_nonneg hk32.1).symm (idx_lt hk32) rfl ?_
      intro p31 hp31
      refine S_storeE (z := s10_26) (j := s10_26.toNat) 0 rfl rfl rfl zr3 hH hL27 rfl hel25 hp31 rfl (idx_lt hk32) rfl ?_
      intro w33 xs33 hL33 hle33 he33
      refine S_nil ?_
      refine At_block ?_
      refine At_seq ?_
      refine W_region ?_
      obtain ⟨hk34, h⟩ := Go.L.chk_some h
      refine S_v (r_ar64 rfl rfl rfl hk34) rfl ?_
      refine S_pu 1 rfl ?_
      refine S_nil ?_
      have h := Go.L.Nxt.again h hm27
      refine At_round ((l25.set s10_26.toNat s10_26), (s10_26 + (1 : Int)), xs33, n27) (.cons rfl (.cons rfl (.cons rfl (.cons rfl (Sub.nil _))))) ⟨hL33, he33, h⟩ (Nat.lt_succ_self _)
    · replace h := Go.L.ite_n hc29 h
      refine W_exit ?_
      refine At_seq_exit ?_
      refine At_loop_exit ?_
      replace h := Go.L.Nxt.out h hm27
      refine At_exit ?_
      refine At_cut (l25, xsl25) (.cons rfl (.cons rfl (Sub.nil _))) ⟨hL27, hel25, h⟩
  · rintro ⟨l14, xsl14⟩ wr15 ⟨hL15, hel14, h⟩
    refine W_seqr ?_
    refine S_pu 2 rfl ?_
    obtain ⟨hk38, h⟩ := Go.L.chk_some h
    obtain ⟨hs37, hl37⟩ := hk38
    rw [hs37] at hL15 hel14
    refine S_sortSuf (i := 0) (a := a0) rfl rfl hH hL15 rfl hel14 (h0_0.mono (gz_left hH)) (boxAt (i := 1) rfl) hl37 ?_
    intro w37 xs37 hL37 hle37 he37
    refine S_seqnil ?_
    refine W_seqr ?_
    refine S_pu 2 rfl ?_
    refine S_seqnil ?_
    refine W_ret ?_
    obtain rfl := Option.some.inj h
    refine At_body rfl rfl ?_
    exact ⟨hL37.ext, _, rfl, (hL37.ownH hH (i := 0) rfl he37)⟩

noncomputable def suffix_Array (a0 : List UInt8) : Option ((List Int) × (Int × Int)) :=
  if (2048 : Int) < (a0.length : Int) then Option.bind (suffix_fault (3 : Int) (-1 : Int)) (fun x4 => some ([], (x4.1, x4.2))) else Option.bind (suffix_array a0) (fun x8 => some (x8, ((0 : Int), (0 : Int))))

set_option maxRecDepth 10000 in
theorem suffix_Array_ok (w : World) (H : PH) (hH : Le H (hp w)) {a0 : List UInt8} {v0_0 : Value} (h0_0 : Vec .byte H v0_0 (a0)) {r : (List Int) × (Int × Int)} (h : suffix_Array a0 = some r) :
    Ok Try.prog 14 [v0_0] w (fun v w' => Ext w w' ∧ ∃ u0, v = .tuple #[u0, .agg #[.int .i64 r.2.1, .int .i64 r.2.2]] ∧ OwnH 3 (.int .i64) H w w' u0 (r.1)) := by
  refine Ok_enter (n := 11) [(0, v0_0)] Try.func14 rfl rfl rfl rfl rfl ?_
  have hL := Lcl.start w
  refine W_seqr ?_
  refine S_pu 1 rfl ?_
  refine S_alloc zr25 rfl rfl hL ?_
  intro w1 b1 hL1 hle1 _
  refine S_seqnil ?_
  refine W_seq ?_
  refine W_seqr ?_
  refine S_pu 1 rfl ?_
  refine S_v (r_len rfl Try.underlying22 h0_0) rfl ?_
  refine S_pu 1 rfl ?_
  refine S_seqnil ?_
  refine W_if rfl (fun hc2 => ?_) (fun hc2 => ?_)
  · replace h := Go.L.ite_p hc2 h
    refine W_seqr ?_
    obtain ⟨x4, hb4, h⟩ := Go.L.bind_some h
    refine S_callL rfl rfl hL1 (suffix_fault_ok _ _ (gz_le hH hL1) hb4) ?_
    rintro _ w5 rfl hx5 hL5 hle5
    refine S_pu 1 rfl ?_
    refine S_storeBN 0 rfl rfl rfl zr25 hL5 rfl rfl (onc rfl (onc rfl on0)) ?_
    intro w6 hL6 hle6
    refine S_seqnil ?_
    refine W_ret ?_
    refine At_seq_ret ?_
    obtain rfl := Option.some.inj h
    refine At_got2 rfl (.tmp rfl) (.cell rfl Try.underlying25 rfl zr25 (box_ptr (i := 0) hL6 rfl)) ?_
    exact ⟨hL6.ext, _, rfl, OwnH.nil⟩
  · replace h := Go.L.ite_n hc2 h
    refine W_skip ?_
    refine At_seq ?_
    refine W_seqr ?_
    refine S_pu 1 rfl ?_
    obtain ⟨x8, hb8, h⟩ := Go.L.bind_some h
    refine S_callL rfl rfl hL1 (suffix_array_ok _ _ (gz_le hH hL1) (h0_0.mono (gz_left hH)) hb8) ?_
    rintro u9_0 w9 ⟨_, rfl, hR9_0⟩ hx9 hL9 hle9
    obtain ⟨xs9, hL9, hle9, he9⟩ := hR9_0.take hH hL1 hx9
    refine S_v (r_build rfl (fun _ => bld25_z _)) rfl ?_
    refine S_pu 1 rfl ?_
    refine S_storeBN 1 rfl rfl rfl zr25 hL9 rfl rfl (onc rfl (onc rfl on0)) ?_
    intro w10 hL10 hle10
    replace he9 := he9.mono (gz_mono hH hle10)
    refine S_seqnil ?_
    refine W_ret ?_
    obtain rfl := Option.some.inj h
    refine At_got2 rfl (.tmp rfl) (.cell rfl Try.underlying25 rfl zr25 (box_ptr (i := 1) hL10 rfl)) ?_
    exact ⟨hL10.ext, _, rfl, (hL10.ownH hH (i := 0) rfl he9)⟩

noncomputable def suffix_Common_k1 (l41 : List Int) : Option ((List Int) × (Int × Int)) :=
  some (l41, ((0 : Int), (0 : Int)))
noncomputable def suffix_Common_bl2 (a0 : List UInt8) (x2 : (List Int) × (Int × Int)) : (List Int) × Int → Option (((List Int) × Int) ⊕ ((List Int) × (Int × Int))) := fun ⟨l67, s7_68⟩ =>
  if s7_68 < (x2.1.length : Int) then Go.L.chk (Go.L.I64 (s7_68 - (1 : Int))) (Go.L.chk (0 ≤ (s7_68 - (1 : Int)) ∧ (s7_68 - (1 : Int)) < (x2.1.length : Int)) (Go.L.chk (0 ≤ x2.1.getD ((s7_68 - (1 : Int)).toNat) default ∧ x2.1.getD ((s7_68 - (1 : Int)).toNat) default ≤ (a0.length : Int)) (Go.L.chk (0 ≤ s7_68 ∧ s7_68 < (x2.1.length : Int)) (Go.L.chk (0 ≤ x2.1.getD s7_68.toNat default ∧ x2.1.getD s7_68.toNat default ≤ (a0.length : Int)) (Option.bind (suffix_common (a0.drop (x2.1.getD ((s7_68 - (1 : Int)).toNat) default).toNat) (a0.drop (x2.1.getD s7_68.toNat default).toNat)) (fun x84 => Go.L.chk (0 ≤ s7_68 ∧ s7_68 < (l67.length : Int)) (Go.L.chk (Go.L.I64 (s7_68 + (1 : Int))) (some (Sum.inl ((l67.set s7_68.toNat x84), (s7_68 + (1 : Int)))))))))))) else Option.map Sum.inr (suffix_Common_k1 l67)
noncomputable def suffix_Common_l2 (a0 : List UInt8) (x2 : (List Int) × (Int × Int)) (s : (List Int) × Int) : Option ((List Int) × (Int × Int)) := Go.L.run (suffix_Common_bl2 a0 x2) s
noncomputable def suffix_Common (a0 : List UInt8) : Option ((List Int) × (Int × Int)) :=
  Option.bind (suffix_Array a0) (fun x2 => if x2.2.1 = (0 : Int) ∧ x2.2.2 = (0 : Int) then Go.L.chk (0 ≤ (x2.1.length : Int) ∧ ((8 : Nat) : Int) * (x2.1.length : Int) ≤ 281474976710656 ∧ (x2.1.length : Int) ≤ 9223372036854775807) ((suffix_Common_l2 a0 x2) ((List.replicate (x2.1.length : Int).toNat (0 : Int)), (1 : Int))) else some ([], (x2.2.1, x2.2.2)))

set_option maxRecDepth 10000 in
theorem suffix_Common_ok (w : World) (H : PH) (hH : Le H (hp w)) {a0 : List UInt8} {v0_0 : Value} (h0_0 : Vec .byte H v0_0 (a0)) {r : (List Int) × (Int × Int)} (h : suffix_Common a0 = some r) :
    Ok Try.prog 15 [v0_0] w (fun v w' => Ext w w' ∧ ∃ u0, v = .tuple #[u0, .agg #[.int .i64 r.2.1, .int .i64 r.2.2]] ∧ OwnH 3 (.int .i64) H w w' u0 (r.1)) := by
  refine Ok_enter (n := 45) [(0, v0_0)] Try.func15 rfl rfl rfl rfl rfl ?_
  have hL := Lcl.start w
  refine W_seqr ?_
  refine S_pu 1 rfl ?_
  refine S_alloc zr25 rfl rfl hL ?_
  intro w1 b1 hL1 hle1 _
  refine S_seqnil ?_
  refine W_seqr ?_
  refine S_pu 1 rfl ?_
  obtain ⟨x2, hb2, h⟩ := Go.L.bind_some h
  refine S_callL rfl rfl hL1 (suffix_Array_ok _ _ (gz_le hH hL1) (h0_0.mono (gz_left hH)) hb2) ?_
  rintro _ w3 ⟨u3_0, rfl, hR3_0⟩ hx3 hL3 hle3
  have hv3_0 := hR3_0.vecG hH hL1 hx3
  refine S_pu 3 rfl ?_
  refine S_alloc zr25 rfl rfl hL3 ?_
  intro w4 b4 hL4 hle4 _
  replace hv3_0 := hv3_0.mono (gz_mono hH hle4)
  refine S_pu 1 rfl ?_
  refine S_storeBN 0 rfl rfl rfl zr25 hL4 rfl rfl (onc rfl (onc rfl on0)) ?_
  intro w5 hL5 hle5
  replace hv3_0 := hv3_0.mono (gz_mono hH hle5)
  refine S_seqnil ?_
  refine W_seq ?_
  refine W_seqr ?_
  refine S_v (r_loadBN 0 rfl Try.underlying25 rfl zr25 hL5 rfl) rfl ?_
  refine S_v (r_build rfl (fun _ => bld25_z _)) rfl ?_
  refine S_v (r_neA rfl rfl eqg25 (eq25 _ _ _ _ )) rfl ?_
  refine S_seqnil ?_
  refine W_ifn rfl (fun hc6 => ?_) (fun hc6 => ?_)
  · replace h := Go.L.ite_n hc6 h
    refine W_seqd (.q 0 (.q 1 (.tail 2))) mixed (by kernel_rfl) (fun w8 hx8 => ?_)
    have hL9 := hL5.call hx8
    refine D_v (r_loadBN 0 rfl Try.underlying25 rfl zr25 hL9 rfl) rfl rfl ?_
    refine D_pu 1 rfl ?_
    refine D_tail (fun w10 hx10 => ?_)
    have hL11 := hL9.call hx10
    refine S_storeBN 1 rfl rfl rfl zr25 hL11 rfl rfl (onc rfl (onc rfl on0)) ?_
    intro w12 hL12 hle12
    refine S_seqnil ?_
    refine W_ret ?_
    refine At_seq_ret ?_
    obtain rfl := Option.some.inj h
    refine At_got2 rfl (.tmp rfl) (.cell rfl Try.underlying25 rfl zr25 (box_ptr (i := 1) hL12 rfl)) ?_
    exact ⟨hL12.ext, _, rfl, OwnH.nil⟩
  · replace h := Go.L.ite_p hc6 h
    refine W_skip ?_
    refine At_seq ?_
    refine W_seqr ?_
    refine S_pu 1 rfl ?_
    refine S_v (r_len rfl Try.underlying23 hv3_0) rfl ?_
    obtain ⟨hk15, h⟩ := Go.L.chk_some h
    refine S_makeE (r := (.int .i64)) (z := (0 : Int)) rfl rfl rfl Try.underlying23 zr3 rfl (fun _ => rfl) rfl hH hL5 hk15 ?_
    intro v14 w14 xs14 hL14 hle14 he14
    replace hv3_0 := hv3_0.mono (gz_mono hH hle14)
    refine S_pu 1 rfl ?_
    refine S_seqnil ?_
    refine W_cut (σ := (List Int) × (List Value)) (fun (⟨l41, xsl41⟩ : (List Int) × (List Value)) => [(3, .pointer (some ⟨b1, 0, none⟩)), (6, v14)]) (fun (⟨l41, xsl41⟩ : (List Int) × (List Value)) wr => Lcl w [.row (v14) 3 1 (l41).length (xsl41), .box b4 [.int .i64 x2.2.1, .int .i64 x2.2.2] 25, .box b1 [.int .i64 (0 : Int), .int .i64 (0 : Int)] 25] wr ∧ Elems (.int .i64) (gz H w wr [.row (v14) 3 1 (l41).length (xsl41), .box b4 [.int .i64 x2.2.1, .int .i64 x2.2.2] 25, .box b1 [.int .i64 (0 : Int), .int .i64 (0 : Int)] 25]) (l41) (xsl41) ∧ suffix_Common_k1 l41 = some r) ?_ ?_
    · refine W_seqr ?_
      refine S_pu 1 rfl ?_
      refine S_seqnil ?_
      refine W_block ?_
      obtain ⟨n69, h⟩ := Go.L.run_some h
      refine W_loop (σ := (List Int) × Int × (List Value) × Nat) (fun (⟨l67, s7_68, xsl67, n⟩ : (List Int) × Int × (List Value) × Nat) => [(0, v0_0), (3, .pointer (some ⟨b1, 0, none⟩)), (4, u3_0), (6, v14), (7, .int .i64 s7_68)]) (fun (⟨l67, s7_68, xsl67, n⟩ : (List Int) × Int × (List Value) × Nat) wr => Lcl w [.row (v14) 3 1 (l67).length (xsl67), .box b4 [.int .i64 x2.2.1, .int .i64 x2.2.2] 25, .box b1 [.int .i64 (0 : Int), .int .i64 (0 : Int)] 25] wr ∧ Vec (.int .i64) (gz H w wr [.row (v14) 3 1 (l67).length (xsl67), .box b4 [.int .i64 x2.2.1, .int .i64 x2.2.2] 25, .box b1 [.int .i64 (0 : Int), .int .i64 (0 : Int)] 25]) (u3_0) (x2.1) ∧ Elems (.int .i64) (gz H w wr [.row (v14) 3 1 (l67).length (xsl67), .box b4 [.int .i64 x2.2.1, .int .i64 x2.2.2] 25, .box b1 [.int .i64 (0 : Int), .int .i64 (0 : Int)] 25]) (l67) (xsl67) ∧ Go.L.itr (suffix_Common_bl2 a0 x2) n (l67, s7_68) = some r) (fun (⟨l67, s7_68, xsl67, n⟩ : (List Int) × Int × (List Value) × Nat) => n) ((List.replicate (x2.1.length : Int).toNat (0 : Int)), (1 : Int), xs14, n69) (.cons rfl (.cons rfl (.cons rfl (.cons rfl (.cons rfl (Sub.nil _)))))) ⟨hL14, hv3_0, he14, h⟩ ?_
      rintro ⟨l67, s7_68, xsl67, nn69⟩ wr69 ⟨hL69, hf69_0, hel67, h⟩
      obtain ⟨n69, e69, rfl, h, hm69⟩ := Go.L.itr_some h
      refine W_seq ?_
      refine W_seqr ?_
      refine S_pu 2 rfl ?_
      refine S_v (r_len rfl Try.underlying23 hf69_0) rfl ?_
      refine S_pu 1 rfl ?_
      refine S_seqnil ?_
      refine W_if rfl (fun hc71 => ?_) (fun hc71 => ?_)
      · replace h := Go.L.ite_p hc71 h
        refine W_skip ?_
        refine At_seq ?_
        refine W_seq ?_
        refine W_block ?_
        refine W_regd (.q 0 (.q 1 (.q 2 (.q 3 (.q 4 (.q 5 (.q 6 (.q 7 (.q 8 (.q 9 (.q 10 (.q 11 (.q 12 (.q 13 (.q 14 (.q 15 (.q 16 (.tail 17)))))))))))))))))) mixed (by kernel_rfl) (fun w73 hx73 => ?_)
        have hL74 := hL69.call hx73
        have hle74 := fz_ext hL69 hx73
        replace hf69_0 := hf69_0.mono (gz_mono hH hle74)
        replace hel67 := hel67.mono (gz_mono hH hle74)
        refine D_pu 5 rfl ?_
        obtain ⟨hk75, h⟩ := Go.L.chk_some h
        refine D_v (r_ar64 rfl rfl rfl hk75) rfl rfl ?_
        obtain ⟨hk77, h⟩ := Go.L.chk_some h
        refine D_index rfl rfl rfl Try.underlying23 zr3 hf69_0 ((s7_68 - (1 : Int)).toNat) (Int.toNat_of_nonneg hk77.1).symm (idx_lt hk77) rfl ?_
        rintro p76 _ rfl hp76
        refine D_v (r_load1 rfl Try.underlying3 rfl hp76 (gz_le hH hL74)) rfl rfl ?_
        obtain ⟨hk79, h⟩ := Go.L.chk_some h
        refine D_sliceL rfl rfl rfl Try.underlying22 zr5 h0_0 hk79 rfl ?_
        intro v78 hv78
        refine D_pu 3 rfl ?_
        obtain ⟨hk81, h⟩ := Go.L.chk_some h
        refine D_index rfl rfl rfl Try.underlying23 zr3 hf69_0 s7_68.toNat (Int.toNat_of_nonneg hk81.1).symm (idx_lt hk81) rfl ?_
        rintro p80 _ rfl hp80
        refine D_v (r_load1 rfl Try.underlying3 rfl hp80 (gz_le hH hL74)) rfl rfl ?_
        obtain ⟨hk83, h⟩ := Go.L.chk_some h
        refine D_sliceL rfl rfl rfl Try.underlying22 zr5 h0_0 hk83 rfl ?_
        intro v82 hv82
        obtain ⟨x84, hb84, h⟩ := Go.L.bind_some h
        refine D_call rfl rfl rfl (fun w85 hx85 => suffix_common_ok _ _ (Le.refl _) ((hv78.mono (hH.trans hL74.arg)).mono hx85.le) ((hv82.mono (hH.trans hL74.arg)).mono hx85.le) hb84) ?_
        obtain ⟨hk87, h⟩ := Go.L.chk_some h
        refine D_indexR 0 rfl rfl rfl Try.underlying23 zr3 hL74 rfl s7_68.toNat (Int.toNat_of_nonneg hk87.1).symm (idx_lt hk87) rfl ?_
        intro p86 hp86
        refine D_tail (fun w88 hx88 => ?_)
        have hL89 := hL74.call hx88
        have hle89 := fz_ext hL74 hx88
        replace hf69_0 := hf69_0.mono (gz_mono hH hle89)
        replace hel67 := hel67.mono (gz_mono hH hle89)
        replace hp76 := hp76.mono (gz_mono hH hle89)
        replace hp80 := hp80.mono (gz_mono hH hle89)
        refine S_storeE (z := x84) (j := s7_68.toNat) 0 rfl rfl rfl zr3 hH hL89 rfl hel67 hp86 rfl (idx_lt hk87) rfl ?_
        intro w90 xs90 hL90 hle90 he90
        replace hf69_0 := hf69_0.mono (gz_mono hH hle90)
        replace hp76 := hp76.mono (gz_mono hH hle90)
        replace hp80 := hp80.mono (gz_mono hH hle90)
        refine S_nil ?_
        refine At_block ?_
        refine At_seq ?_
        refine W_region ?_
        refine S_pu 1 rfl ?_
        obtain ⟨hk91, h⟩ := Go.L.chk_some h
        refine S_v (r_ar64 rfl rfl rfl hk91) rfl ?_
        refine S_pu 1 rfl ?_
        refine S_nil ?_
        have h := Go.L.Nxt.again h hm69
        refine At_round ((l67.set s7_68.toNat x84), (s7_68 + (1 : Int)), xs90, n69) (.cons rfl (.cons rfl (.cons rfl (.cons rfl (.cons rfl (Sub.nil _)))))) ⟨hL90, hf69_0, he90, h⟩ (Nat.lt_succ_self _)
      · replace h := Go.L.ite_n hc71 h
        refine W_exit ?_
        refine At_seq_exit ?_
        refine At_loop_exit ?_
        replace h := Go.L.Nxt.out h hm69
        refine At_exit ?_
        refine At_cut (l67, xsl67) (.cons rfl (.cons rfl (Sub.nil _))) ⟨hL69, hel67, h⟩
    · rintro ⟨l41, xsl41⟩ wr42 ⟨hL42, hel41, h⟩
      refine W_seqr ?_
      refine S_pu 1 rfl ?_
      refine S_v (r_build rfl (fun _ => bld25_z _)) rfl ?_
      refine S_pu 1 rfl ?_
      refine S_storeBN 2 rfl rfl rfl zr25 hL42 rfl rfl (onc rfl (onc rfl on0)) ?_
      intro w94 hL94 hle94
      replace hel41 := hel41.mono (gz_mono hH hle94)
      refine S_seqnil ?_
      refine W_ret ?_
      obtain rfl := Option.some.inj h
      refine At_got2 rfl (.tmp rfl) (.cell rfl Try.underlying25 rfl zr25 (box_ptr (i := 2) hL94 rfl)) ?_
      exact ⟨hL94.ext, _, rfl, (hL94.ownH hH (i := 0) rfl hel41)⟩

noncomputable def suffix_Find_k1 (s7_39 : Int) (s8_40 : Int) : Option (Int × Int × (Int × Int)) :=
  Go.L.chk (Go.L.I64 (s7_39 + s8_40)) (some (s7_39, (s7_39 + s8_40), ((0 : Int), (0 : Int))))
noncomputable def suffix_Find_bl2 (a0 : List UInt8) (a1 : List UInt8) : Int × Int × Int → Option ((Int × Int × Int) ⊕ (Int × Int × (Int × Int))) := fun ⟨s7_64, s8_65, s21_66⟩ =>
  if s21_66 < (a0.length : Int) then Go.L.chk (0 ≤ s21_66 ∧ s21_66 ≤ (a0.length : Int)) (Option.bind (bytes_HasPrefix (a0.drop s21_66.toNat) a1) (fun x73 => if x73 then Go.L.chk (Go.L.I64 (s8_65 + (1 : Int))) (Go.L.chk (Go.L.I64 (s21_66 + (1 : Int))) (some (Sum.inl (s7_64, (s8_65 + (1 : Int)), (s21_66 + (1 : Int)))))) else Option.bind (bytes_Compare (a0.drop s21_66.toNat) a1) (fun x80 => if x80 < (0 : Int) then Go.L.chk (Go.L.I64 (s7_64 + (1 : Int))) (Go.L.chk (Go.L.I64 (s21_66 + (1 : Int))) (some (Sum.inl ((s7_64 + (1 : Int)), s8_65, (s21_66 + (1 : Int)))))) else Go.L.chk (Go.L.I64 (s21_66 + (1 : Int))) (some (Sum.inl (s7_64, s8_65, (s21_66 + (1 : Int)))))))) else Option.map Sum.inr (suffix_Find_k1 s7_64 s8_65)
noncomputable def suffix_Find_l2 (a0 : List UInt8) (a1 : List UInt8) (s : Int × Int × Int) : Option (Int × Int × (Int × Int)) := Go.L.run (suffix_Find_bl2 a0 a1) s
noncomputable def suffix_Find (a0 : List UInt8) (a1 : List UInt8) : Option (Int × Int × (Int × Int)) :=
  if (2048 : Int) < (a0.length : Int) then Option.bind (suffix_fault (3 : Int) (-1 : Int)) (fun x4 => some ((0 : Int), (0 : Int), (x4.1, x4.2))) else (if (2048 : Int) < (a1.length : Int) then Option.bind (suffix_fault (3 : Int) (-2 : Int)) (fun x10 => some ((0 : Int), (0 : Int), (x10.1, x10.2))) else (suffix_Find_l2 a0 a1) ((0 : Int), (0 : Int), (0 : Int)))

set_option maxRecDepth 10000 in
theorem suffix_Find_ok (w : World) (H : PH) (hH : Le H (hp w)) {a0 : List UInt8} {a1 : List UInt8} {v0_0 : Value} {v1_0 : Value} (h0_0 : Vec .byte H v0_0 (a0)) (h1_0 : Vec .byte H v1_0 (a1)) {r : Int × Int × (Int × Int)} (h : suffix_Find a0 a1 = some r) :
    Ok Try.prog 23 [v0_0, v1_0] w (fun v w' => Ext w w' ∧ v = .tuple #[.int .i64 r.1, .int .i64 r.2.1, .agg #[.int .i64 r.2.2.1, .int .i64 r.2.2.2]]) := by
  refine Ok_enter (n := 46) [(0, v0_0), (1, v1_0)] Try.func23 rfl rfl rfl rfl rfl ?_
  have hL := Lcl.start w
  refine W_seqr ?_
  refine S_pu 2 rfl ?_
  refine S_alloc zr25 rfl rfl hL ?_
  intro w1 b1 hL1 hle1 _
  refine S_seqnil ?_
  refine W_seq ?_
  refine W_seqr ?_
  refine S_pu 1 rfl ?_
  refine S_v (r_len rfl Try.underlying22 h0_0) rfl ?_
  refine S_pu 1 rfl ?_
  refine S_seqnil ?_
  refine W_if rfl (fun hc2 => ?_) (fun hc2 => ?_)
  · replace h := Go.L.ite_p hc2 h
    refine W_seqr ?_
    obtain ⟨x4, hb4, h⟩ := Go.L.bind_some h
    refine S_callL rfl rfl hL1 (suffix_fault_ok _ _ (gz_le hH hL1) hb4) ?_
    rintro _ w5 rfl hx5 hL5 hle5
    refine S_pu 2 rfl ?_
    refine S_storeBN 0 rfl rfl rfl zr25 hL5 rfl rfl (onc rfl (onc rfl on0)) ?_
    intro w6 hL6 hle6
    refine S_seqnil ?_
    refine W_ret ?_
    refine At_seq_ret ?_
    obtain rfl := Option.some.inj h
    refine At_got3 rfl (.tmp rfl) (.tmp rfl) (.cell rfl Try.underlying25 rfl zr25 (box_ptr (i := 0) hL6 rfl)) ?_
    exact ⟨hL6.ext, rfl⟩
  · replace h := Go.L.ite_n hc2 h
    refine W_skip ?_
    refine At_seq ?_
    refine W_seq ?_
    refine W_seqr ?_
    refine S_pu 1 rfl ?_
    refine S_v (r_len rfl Try.underlying22 h1_0) rfl ?_
    refine S_pu 1 rfl ?_
    refine S_seqnil ?_
    refine W_if rfl (fun hc8 => ?_) (fun hc8 => ?_)
    · replace h := Go.L.ite_p hc8 h
      refine W_seqr ?_
      obtain ⟨x10, hb10, h⟩ := Go.L.bind_some h
      refine S_callL rfl rfl hL1 (suffix_fault_ok _ _ (gz_le hH hL1) hb10) ?_
      rintro _ w11 rfl hx11 hL11 hle11
      refine S_pu 2 rfl ?_
      refine S_storeBN 0 rfl rfl rfl zr25 hL11 rfl rfl (onc rfl (onc rfl on0)) ?_
      intro w12 hL12 hle12
      refine S_seqnil ?_
      refine W_ret ?_
      refine At_seq_ret ?_
      obtain rfl := Option.some.inj h
      refine At_got3 rfl (.tmp rfl) (.tmp rfl) (.cell rfl Try.underlying25 rfl zr25 (box_ptr (i := 0) hL12 rfl)) ?_
      exact ⟨hL12.ext, rfl⟩
    · replace h := Go.L.ite_n hc8 h
      refine W_skip ?_
      refine At_seq ?_
      refine W_seqr ?_
      refine S_pu 2 rfl ?_
      refine S_seqnil ?_
      refine W_cut (σ := Int × Int) (fun (⟨s7_39, s8_40⟩ : Int × Int) => [(6, .pointer (some ⟨b1, 0, none⟩)), (7, .int .i64 s7_39), (8, .int .i64 s8_40)]) (fun (⟨s7_39, s8_40⟩ : Int × Int) wr => Lcl w [.box b1 [.int .i64 (0 : Int), .int .i64 (0 : Int)] 25] wr ∧ suffix_Find_k1 s7_39 s8_40 = some r) ?_ ?_
      · refine W_seqr ?_
        refine S_pu 1 rfl ?_
        refine S_v (r_len rfl Try.underlying22 h0_0) rfl ?_
        refine S_pu 1 rfl ?_
        refine S_seqnil ?_
        refine W_block ?_
        obtain ⟨n67, h⟩ := Go.L.run_some h
        refine W_loop (σ := Int × Int × Int × Nat) (fun (⟨s7_64, s8_65, s21_66, n⟩ : Int × Int × Int × Nat) => [(0, v0_0), (1, v1_0), (6, .pointer (some ⟨b1, 0, none⟩)), (7, .int .i64 s7_64), (8, .int .i64 s8_65), (20, .int .i64 (a0.length : Int)), (21, .int .i64 s21_66)]) (fun (⟨s7_64, s8_65, s21_66, n⟩ : Int × Int × Int × Nat) wr => Lcl w [.box b1 [.int .i64 (0 : Int), .int .i64 (0 : Int)] 25] wr ∧ Go.L.itr (suffix_Find_bl2 a0 a1) n (s7_64, s8_65, s21_66) = some r) (fun (⟨s7_64, s8_65, s21_66, n⟩ : Int × Int × Int × Nat) => n) ((0 : Int), (0 : Int), (0 : Int), n67) (.cons rfl (.cons rfl (.cons rfl (.cons rfl (.cons rfl (.cons rfl (.cons rfl (Sub.nil _)))))))) ⟨hL1, h⟩ ?_
        rintro ⟨s7_64, s8_65, s21_66, nn67⟩ wr67 ⟨hL67, h⟩
        obtain ⟨n67, e67, rfl, h, hm67⟩ := Go.L.itr_some h
        refine W_seqr ?_
        refine S_pu 1 rfl ?_
        refine S_seqnil ?_
        refine W_seq ?_
        refine W_if rfl (fun hc69 => ?_) (fun hc69 => ?_)
        · replace h := Go.L.ite_p hc69 h
          refine W_skip ?_
          refine At_seq ?_
          refine W_seq ?_
          refine W_block ?_
          refine W_seqr ?_
          refine S_pu 2 rfl ?_
          refine S_seqnil ?_
          refine W_seqr ?_
          refine S_pu 2 rfl ?_
          obtain ⟨hk72, h⟩ := Go.L.chk_some h
          refine S_sliceL rfl rfl Try.underlying22 zr5 h0_0 hk72 rfl ?_
          intro v71 hv71
          refine S_pu 1 rfl ?_
          refine S_seqnil ?_
          refine W_block ?_
          refine W_seqr ?_
          refine S_pu 2 rfl ?_
          obtain ⟨x73, hb73, h⟩ := Go.L.bind_some h
          refine S_callL rfl rfl hL67 (bytes_HasPrefix_ok _ _ (gz_le hH hL67) (hv71.mono (gz_left hH)) (h1_0.mono (gz_left hH)) hb73) ?_
          rintro _ w74 rfl hx74 hL74 hle74
          refine S_pu 1 rfl ?_
          refine S_seqnil ?_
          refine W_cond rfl (fun hc75 => ?_) (fun hc75 => ?_)
          · replace h := Go.L.ite_t hc75 h
            refine W_region ?_
            refine S_pu 1 rfl ?_
            obtain ⟨hk77, h⟩ := Go.L.chk_some h
            refine S_v (r_ar64 rfl rfl rfl hk77) rfl ?_
            refine S_pu 1 rfl ?_
            refine S_nil ?_
            refine At_block ?_
            refine At_block ?_
            refine At_seq ?_
            refine W_region ?_
            obtain ⟨hk78, h⟩ := Go.L.chk_some h
            refine S_v (r_ar64 rfl rfl rfl hk78) rfl ?_
            refine S_pu 1 rfl ?_
            refine S_nil ?_
            have h := Go.L.Nxt.again h hm67
            refine At_round (s7_64, (s8_65 + (1 : Int)), (s21_66 + (1 : Int)), n67) (.cons rfl (.cons rfl (.cons rfl (.cons rfl (.cons rfl (.cons rfl (.cons rfl (Sub.nil _)))))))) ⟨hL74, h⟩ (Nat.lt_succ_self _)
          · replace h := Go.L.ite_f hc75 h
            refine W_seqr ?_
            refine S_pu 2 rfl ?_
            obtain ⟨x80, hb80, h⟩ := Go.L.bind_some h
            refine S_callL rfl rfl hL74 (bytes_Compare_ok _ _ (gz_le hH hL74) (hv71.mono (gz_left hH)) (h1_0.mono (gz_left hH)) hb80) ?_
            rintro _ w81 rfl hx81 hL81 hle81
            refine S_pu 2 rfl ?_
            refine S_seqnil ?_
            refine W_if rfl (fun hc82 => ?_) (fun hc82 => ?_)
            · replace h := Go.L.ite_p hc82 h
              refine W_region ?_
              refine S_pu 1 rfl ?_
              obtain ⟨hk84, h⟩ := Go.L.chk_some h
              refine S_v (r_ar64 rfl rfl rfl hk84) rfl ?_
              refine S_pu 1 rfl ?_
              refine S_nil ?_
              refine At_block ?_
              refine At_block ?_
              refine At_seq ?_
              refine W_region ?_
              obtain ⟨hk85, h⟩ := Go.L.chk_some h
              refine S_v (r_ar64 rfl rfl rfl hk85) rfl ?_
              refine S_pu 1 rfl ?_
              refine S_nil ?_
              have h := Go.L.Nxt.again h hm67
              refine At_round ((s7_64 + (1 : Int)), s8_65, (s21_66 + (1 : Int)), n67) (.cons rfl (.cons rfl (.cons rfl (.cons rfl (.cons rfl (.cons rfl (.cons rfl (Sub.nil _)))))))) ⟨hL81, h⟩ (Nat.lt_succ_self _)
            · replace h := Go.L.ite_n hc82 h
              refine W_skip ?_
              refine At_block ?_
              refine At_block ?_
              refine At_seq ?_
              refine W_region ?_
              obtain ⟨hk87, h⟩ := Go.L.chk_some h
              refine S_v (r_ar64 rfl rfl rfl hk87) rfl ?_
              refine S_pu 1 rfl ?_
              refine S_nil ?_
              have h := Go.L.Nxt.again h hm67
              refine At_round (s7_64, s8_65, (s21_66 + (1 : Int)), n67) (.cons rfl (.cons rfl (.cons rfl (.cons rfl (.cons rfl (.cons rfl (.cons rfl (Sub.nil _)))))))) ⟨hL81, h⟩ (Nat.lt_succ_self _)
        · replace h := Go.L.ite_n hc69 h
          refine W_exit ?_
          refine At_seq_exit ?_
          refine At_loop_exit ?_
          replace h := Go.L.Nxt.out h hm67
          refine At_exit ?_
          refine At_cut (s7_64, s8_65) (.cons rfl (.cons rfl (.cons rfl (Sub.nil _)))) ⟨hL67, h⟩
      · rintro ⟨s7_39, s8_40⟩ wr41 ⟨hL41, h⟩
        refine W_seqr ?_
        refine S_pu 3 rfl ?_
        obtain ⟨hk90, h⟩ := Go.L.chk_some h
        refine S_v (r_ar64 rfl rfl rfl hk90) rfl ?_
        refine S_v (r_build rfl (fun _ => bld25_z _)) rfl ?_
        refine S_pu 2 rfl ?_
        refine S_storeBN 0 rfl rfl rfl zr25 hL41 rfl rfl (onc rfl (onc rfl on0)) ?_
        intro w91 hL91 hle91
        refine S_seqnil ?_
        refine W_ret ?_
        obtain rfl := Option.some.inj h
        refine At_got3 rfl (.tmp rfl) (.tmp rfl) (.cell rfl Try.underlying25 rfl zr25 (box_ptr (i := 0) hL91 rfl)) ?_
        exact ⟨hL91.ext, rfl⟩

noncomputable def suffix_Repeated_k1 (x22 : Int) (s9_53 : Int) : Option (Int × Int × (Int × Int)) :=
  some (s9_53, x22, ((0 : Int), (0 : Int)))
noncomputable def suffix_Repeated_bl2 (x2 : (List Int) × (Int × Int)) (x22 : Int) (x28 : (List Int)) : Int × Int → Option ((Int × Int) ⊕ (Int × Int × (Int × Int))) := fun ⟨s9_76, s37_77⟩ =>
  if s37_77 < (x2.1.length : Int) then Go.L.chk (0 ≤ s37_77 ∧ s37_77 < (x2.1.length : Int)) (if x2.1.getD s37_77.toNat default = x22 then Go.L.chk (0 ≤ s37_77 ∧ s37_77 < (x28.length : Int)) (Go.L.chk (Go.L.I64 (s37_77 - (1 : Int))) (Go.L.chk (0 ≤ (s37_77 - (1 : Int)) ∧ (s37_77 - (1 : Int)) < (x28.length : Int)) (Go.L.chk (Go.L.I64 (s37_77 + (1 : Int))) (some (Sum.inl ((min (min s9_76 (x28.getD s37_77.toNat default)) (x28.getD ((s37_77 - (1 : Int)).toNat) default)), (s37_77 + (1 : Int)))))))) else Go.L.chk (Go.L.I64 (s37_77 + (1 : Int))) (some (Sum.inl (s9_76, (s37_77 + (1 : Int)))))) else Option.map Sum.inr ((suffix_Repeated_k1 x22) s9_76)
noncomputable def suffix_Repeated_l2 (x2 : (List Int) × (Int × Int)) (x22 : Int) (x28 : (List Int)) (s : Int × Int) : Option (Int × Int × (Int × Int)) := Go.L.run (suffix_Repeated_bl2 x2 x22 x28) s
noncomputable def suffix_Repeated (a0 : List UInt8) : Option (Int × Int × (Int × Int)) :=
  Option.bind (suffix_Common a0) (fun x2 => if x2.2.1 = (0 : Int) ∧ x2.2.2 = (0 : Int) then if (x2.1.length : Int) = (0 : Int) then some ((0 : Int), (0 : Int), (x2.2.1, x2.2.2)) else Option.bind (slices_Max_int_int x2.1) (fun x22 => if x22 = (0 : Int) then some ((0 : Int), (0 : Int), ((0 : Int), (0 : Int))) else Option.bind (suffix_array a0) (fun x28 => (suffix_Repeated_l2 x2 x22 x28) ((a0.length : Int), (0 : Int)))) else some ((0 : Int), (0 : Int), (x2.2.1, x2.2.2)))

set_option maxRecDepth 10000 in
theorem suffix_Repeated_ok (w : World) (H : PH) (hH : Le H (hp w)) {a0 : List UInt8} {v0_0 : Value} (h0_0 : Vec .byte H v0_0 (a0)) {r : Int × Int × (Int × Int)} (h : suffix_Repeated a0 = some r) :
    Ok Try.prog 27 [v0_0] w (fun v w' => Ext w w' ∧ v = .tuple #[.int .i64 r.1, .int .i64 r.2.1, .agg #[.int .i64 r.2.2.1, .int .i64 r.2.2.2]]) := by
  refine Ok_enter (n := 60) [(0, v0_0)] Try.func27 rfl rfl rfl rfl rfl ?_
  have hL := Lcl.start w
  refine W_seqr ?_
  refine S_pu 2 rfl ?_
  refine S_alloc zr25 rfl rfl hL ?_
  intro w1 b1 hL1 hle1 _
  refine S_seqnil ?_
  refine W_seqr ?_
  refine S_pu 1 rfl ?_
  obtain ⟨x2, hb2, h⟩ := Go.L.bind_some h
  refine S_callL rfl rfl hL1 (suffix_Common_ok _ _ (gz_le hH hL1) (h0_0.mono (gz_left hH)) hb2) ?_
  rintro _ w3 ⟨u3_0, rfl, hR3_0⟩ hx3 hL3 hle3
  have hv3_0 := hR3_0.vecG hH hL1 hx3
  refine S_pu 3 rfl ?_
  refine S_alloc zr25 rfl rfl hL3 ?_
  intro w4 b4 hL4 hle4 _
  replace hv3_0 := hv3_0.mono (gz_mono hH hle4)
  refine S_pu 1 rfl ?_
  refine S_storeBN 0 rfl rfl rfl zr25 hL4 rfl rfl (onc rfl (onc rfl on0)) ?_
  intro w5 hL5 hle5
  replace hv3_0 := hv3_0.mono (gz_mono hH hle5)
  refine S_seqnil ?_
  refine W_seq ?_
  refine W_seqr ?_
  refine S_v (r_loadBN 0 rfl Try.underlying25 rfl zr25 hL5 rfl) rfl ?_
  refine S_v (r_build rfl (fun _ => bld25_z _)) rfl ?_
  refine S_v (r_neA rfl rfl eqg25 (eq25 _ _ _ _ )) rfl ?_
  refine S_pu 1 rfl ?_
  refine S_split (s := 20) rfl (fun hg6 => ?_) (fun hg6 => ?_)
  · replace h := Go.L.ite_n (not_dec_t hg6) h
    refine S_unwanted rfl rfl hg6 rfl ?_
    refine S_unwanted rfl rfl hg6 rfl ?_
    refine S_unwanted rfl rfl hg6 rfl ?_
    refine S_v (r_pickT rfl hg6 rfl) rfl ?_
    refine S_seqnil ?_
    refine W_true rfl ?_
    refine W_seqd (.q 0 (.q 1 (.q 2 (.tail 3)))) mixed (by kernel_rfl) (fun w8 hx8 => ?_)
    have hL9 := hL5.call hx8
    have hle9 := fz_ext hL5 hx8
    replace hv3_0 := hv3_0.mono (gz_mono hH hle9)
    refine D_v (r_loadBN 0 rfl Try.underlying25 rfl zr25 hL9 rfl) rfl rfl ?_
    refine D_pu 2 rfl ?_
    refine D_tail (fun w10 hx10 => ?_)
    have hL11 := hL9.call hx10
    have hle11 := fz_ext hL9 hx10
    replace hv3_0 := hv3_0.mono (gz_mono hH hle11)
    refine S_storeBN 1 rfl rfl rfl zr25 hL11 rfl rfl (onc rfl (onc rfl on0)) ?_
    intro w12 hL12 hle12
    replace hv3_0 := hv3_0.mono (gz_mono hH hle12)
    refine S_seqnil ?_
    refine W_ret ?_
    refine At_seq_ret ?_
    obtain rfl := Option.some.inj h
    refine At_got3 rfl (.tmp rfl) (.tmp rfl) (.cell rfl Try.underlying25 rfl zr25 (box_ptr (i := 1) hL12 rfl)) ?_
    exact ⟨hL12.ext, rfl⟩
  · replace h := Go.L.ite_p (not_dec_f hg6) h
    refine S_guarded rfl rfl hg6 ?_
    refine S_v (RunsAt_pu rfl) rfl ?_
    refine S_guarded rfl rfl hg6 ?_
    refine S_v (r_len rfl Try.underlying23 hv3_0) rfl ?_
    refine S_guarded rfl rfl hg6 ?_
    refine S_v (RunsAt_pu rfl) rfl ?_
    refine S_v (r_pickF rfl hg6 rfl) rfl ?_
    refine S_seqnil ?_
    refine W_if rfl (fun hc14 => ?_) (fun hc14 => ?_)
    · replace h := Go.L.ite_p hc14 h
      refine W_seqd (.q 0 (.q 1 (.q 2 (.tail 3)))) mixed (by kernel_rfl) (fun w16 hx16 => ?_)
      have hL17 := hL5.call hx16
      refine D_v (r_loadBN 0 rfl Try.underlying25 rfl zr25 hL17 rfl) rfl rfl ?_
      refine D_pu 2 rfl ?_
      refine D_tail (fun w18 hx18 => ?_)
      have hL19 := hL17.call hx18
      refine S_storeBN 1 rfl rfl rfl zr25 hL19 rfl rfl (onc rfl (onc rfl on0)) ?_
      intro w20 hL20 hle20
      refine S_seqnil ?_
      refine W_ret ?_
      refine At_seq_ret ?_
      obtain rfl := Option.some.inj h
      refine At_got3 rfl (.tmp rfl) (.tmp rfl) (.cell rfl Try.underlying25 rfl zr25 (box_ptr (i := 1) hL20 rfl)) ?_
      exact ⟨hL20.ext, rfl⟩
    · replace h := Go.L.ite_n hc14 h
      refine W_skip ?_
      refine At_seq ?_
      refine W_seqr ?_
      refine S_pu 1 rfl ?_
      obtain ⟨x22, hb22, h⟩ := Go.L.bind_some h
      refine S_callL rfl rfl hL5 (slices_Max_int_int_ok _ _ (gz_le hH hL5) hv3_0 hb22) ?_
      rintro _ w23 rfl hx23 hL23 hle23
      replace hv3_0 := hv3_0.mono (gz_mono hH hle23)
      refine S_pu 1 rfl ?_
      refine S_seqnil ?_
      refine W_seq ?_
      refine W_seqr ?_
      refine S_pu 2 rfl ?_
      refine S_seqnil ?_
      refine W_if rfl (fun hc24 => ?_) (fun hc24 => ?_)
      · replace h := Go.L.ite_p hc24 h
        refine W_seqr ?_
        refine S_v (r_build rfl (fun _ => bld25_z _)) rfl ?_
        refine S_pu 2 rfl ?_
        refine S_storeBN 1 rfl rfl rfl zr25 hL23 rfl rfl (onc rfl (onc rfl on0)) ?_
        intro w26 hL26 hle26
        refine S_seqnil ?_
        refine W_ret ?_
        refine At_seq_ret ?_
        obtain rfl := Option.some.inj h
        refine At_got3 rfl (.tmp rfl) (.tmp rfl) (.cell rfl Try.underlying25 rfl zr25 (box_ptr (i := 1) hL26 rfl)) ?_
        exact ⟨hL26.ext, rfl⟩
      · replace h := Go.L.ite_n hc24 h
        refine W_skip ?_
        refine At_seq ?_
        refine W_seqr ?_
        refine S_pu 1 rfl ?_
        obtain ⟨x28, hb28, h⟩ := Go.L.bind_some h
        refine S_callL rfl rfl hL23 (suffix_array_ok _ _ (gz_le hH hL23) (h0_0.mono (gz_left hH)) hb28) ?_
        rintro u29_0 w29 ⟨_, rfl, hR29_0⟩ hx29 hL29 hle29
        have hv29_0 := hR29_0.vecG hH hL23 hx29
        replace hv3_0 := hv3_0.mono (gz_mono hH hle29)
        refine S_pu 1 rfl ?_
        refine S_seqnil ?_
        refine W_seqr ?_
        refine S_pu 1 rfl ?_
        refine S_v (r_len rfl Try.underlying22 h0_0) rfl ?_
        refine S_pu 1 rfl ?_
        refine S_seqnil ?_
        refine W_cut (σ := Int) (fun (s9_53 : Int) => [(4, .pointer (some ⟨b1, 0, none⟩)), (7, .int .i64 x22), (9, .int .i64 s9_53)]) (fun (s9_53 : Int) wr => Lcl w [.box b4 [.int .i64 x2.2.1, .int .i64 x2.2.2] 25, .box b1 [.int .i64 (0 : Int), .int .i64 (0 : Int)] 25] wr ∧ (suffix_Repeated_k1 x22) s9_53 = some r) ?_ ?_
        · refine W_seqr ?_
          refine S_pu 1 rfl ?_
          refine S_v (r_len rfl Try.underlying23 hv3_0) rfl ?_
          refine S_pu 1 rfl ?_
          refine S_seqnil ?_
          refine W_block ?_
          obtain ⟨n78, h⟩ := Go.L.run_some h
          refine W_loop (σ := Int × Int × Nat) (fun (⟨s9_76, s37_77, n⟩ : Int × Int × Nat) => [(4, .pointer (some ⟨b1, 0, none⟩)), (7, .int .i64 x22), (8, u29_0), (9, .int .i64 s9_76), (35, u3_0), (36, .int .i64 (x2.1.length : Int)), (37, .int .i64 s37_77)]) (fun (⟨s9_76, s37_77, n⟩ : Int × Int × Nat) wr => Lcl w [.box b4 [.int .i64 x2.2.1, .int .i64 x2.2.2] 25, .box b1 [.int .i64 (0 : Int), .int .i64 (0 : Int)] 25] wr ∧ Vec (.int .i64) (gz H w wr [.box b4 [.int .i64 x2.2.1, .int .i64 x2.2.2] 25, .box b1 [.int .i64 (0 : Int), .int .i64 (0 : Int)] 25]) (u29_0) (x28) ∧ Vec (.int .i64) (gz H w wr [.box b4 [.int .i64 x2.2.1, .int .i64 x2.2.2] 25, .box b1 [.int .i64 (0 : Int), .int .i64 (0 : Int)] 25]) (u3_0) (x2.1) ∧ Go.L.itr (suffix_Repeated_bl2 x2 x22 x28) n (s9_76, s37_77) = some r) (fun (⟨s9_76, s37_77, n⟩ : Int × Int × Nat) => n) ((a0.length : Int), (0 : Int), n78) (.cons rfl (.cons rfl (.cons rfl (.cons rfl (.cons rfl (.cons rfl (.cons rfl (Sub.nil _)))))))) ⟨hL29, hv29_0, hv3_0, h⟩ ?_
          rintro ⟨s9_76, s37_77, nn78⟩ wr78 ⟨hL78, hf78_0, hf78_1, h⟩
          obtain ⟨n78, e78, rfl, h, hm78⟩ := Go.L.itr_some h
          refine W_seqr ?_
          refine S_pu 1 rfl ?_
          refine S_seqnil ?_
          refine W_seq ?_
          refine W_if rfl (fun hc80 => ?_) (fun hc80 => ?_)
          · replace h := Go.L.ite_p hc80 h
            refine W_skip ?_
            refine At_seq ?_
            refine W_seq ?_
            refine W_block ?_
            refine W_seqr ?_
            refine S_pu 1 rfl ?_
            obtain ⟨hk83, h⟩ := Go.L.chk_some h
            refine S_index rfl rfl Try.underlying23 zr3 hf78_1 s37_77.toNat (Int.toNat_of_nonneg hk83.1).symm (idx_lt hk83) rfl ?_
            rintro p82 _ rfl hp82
            refine S_v (r_load1 rfl Try.underlying3 rfl hp82 (gz_le hH hL78)) rfl ?_
            refine S_pu 2 rfl ?_
            refine S_seqnil ?_
            refine W_seqr ?_
            refine S_pu 3 rfl ?_
            refine S_seqnil ?_
            refine W_if rfl (fun hc84 => ?_) (fun hc84 => ?_)
            · replace h := Go.L.ite_p hc84 h
              refine W_regd (.q 0 (.q 1 (.q 2 (.q 3 (.q 4 (.q 5 (.q 6 (.q 7 (.q 8 (.q 9 (.q 10 (.q 11 (.tail 12))))))))))))) mixed (by kernel_rfl) (fun w86 hx86 => ?_)
              have hL87 := hL78.call hx86
              have hle87 := fz_ext hL78 hx86
              replace hf78_0 := hf78_0.mono (gz_mono hH hle87)
              replace hf78_1 := hf78_1.mono (gz_mono hH hle87)
              refine D_pu 3 rfl ?_
              obtain ⟨hk89, h⟩ := Go.L.chk_some h
              refine D_index rfl rfl rfl Try.underlying23 zr3 hf78_0 s37_77.toNat (Int.toNat_of_nonneg hk89.1).symm (idx_lt hk89) rfl ?_
              rintro p88 _ rfl hp88
              refine D_v (r_load1 rfl Try.underlying3 rfl hp88 (gz_le hH hL87)) rfl rfl ?_
              refine D_pu 2 rfl ?_
              obtain ⟨hk90, h⟩ := Go.L.chk_some h
              refine D_v (r_ar64 rfl rfl rfl hk90) rfl rfl ?_
              obtain ⟨hk92, h⟩ := Go.L.chk_some h
              refine D_index rfl rfl rfl Try.underlying23 zr3 hf78_0 ((s37_77 - (1 : Int)).toNat) (Int.toNat_of_nonneg hk92.1).symm (idx_lt hk92) rfl ?_
              rintro p91 _ rfl hp91
              refine D_v (r_load1 rfl Try.underlying3 rfl hp91 (gz_le hH hL87)) rfl rfl ?_
              refine D_v (r_min3 rfl rfl rfl) rfl rfl ?_
              refine D_pu 1 rfl ?_
              refine D_tail (fun w93 hx93 => ?_)
              have hL94 := hL87.call hx93
              have hle94 := fz_ext hL87 hx93
              replace hf78_0 := hf78_0.mono (gz_mono hH hle94)
              replace hf78_1 := hf78_1.mono (gz_mono hH hle94)
              replace hp88 := hp88.mono (gz_mono hH hle94)
              replace hp91 := hp91.mono (gz_mono hH hle94)
              refine S_nil ?_
              refine At_block ?_
              refine At_seq ?_
              refine W_region ?_
              obtain ⟨hk95, h⟩ := Go.L.chk_some h
              refine S_v (r_ar64 rfl rfl rfl hk95) rfl ?_
              refine S_pu 1 rfl ?_
              refine S_nil ?_
              have h := Go.L.Nxt.again h hm78
              refine At_round ((min (min s9_76 (x28.getD s37_77.toNat default)) (x28.getD ((s37_77 - (1 : Int)).toNat) default)), (s37_77 + (1 : Int)), n78) (.cons rfl (.cons rfl (.cons rfl (.cons rfl (.cons rfl (.cons rfl (.cons rfl (Sub.nil _)))))))) ⟨hL94, hf78_0, hf78_1, h⟩ (Nat.lt_succ_self _)
            · replace h := Go.L.ite_n hc84 h
              refine W_skip ?_
              refine At_block ?_
              refine At_seq ?_
              refine W_region ?_
              obtain ⟨hk97, h⟩ := Go.L.chk_some h
              refine S_v (r_ar64 rfl rfl rfl hk97) rfl ?_
              refine S_pu 1 rfl ?_
              refine S_nil ?_
              have h := Go.L.Nxt.again h hm78
              refine At_round (s9_76, (s37_77 + (1 : Int)), n78) (.cons rfl (.cons rfl (.cons rfl (.cons rfl (.cons rfl (.cons rfl (.cons rfl (Sub.nil _)))))))) ⟨hL78, hf78_0, hf78_1, h⟩ (Nat.lt_succ_self _)
          · replace h := Go.L.ite_n hc80 h
            refine W_exit ?_
            refine At_seq_exit ?_
            refine At_loop_exit ?_
            replace h := Go.L.Nxt.out h hm78
            refine At_exit ?_
            refine At_cut s9_76 (.cons rfl (.cons rfl (.cons rfl (Sub.nil _)))) ⟨hL78, h⟩
        · rintro s9_53 wr54 ⟨hL54, h⟩
          refine W_seqr ?_
          refine S_pu 2 rfl ?_
          refine S_v (r_build rfl (fun _ => bld25_z _)) rfl ?_
          refine S_pu 2 rfl ?_
          refine S_storeBN 1 rfl rfl rfl zr25 hL54 rfl rfl (onc rfl (onc rfl on0)) ?_
          intro w100 hL100 hle100
          refine S_seqnil ?_
          refine W_ret ?_
          obtain rfl := Option.some.inj h
          refine At_got3 rfl (.tmp rfl) (.tmp rfl) (.cell rfl Try.underlying25 rfl zr25 (box_ptr (i := 1) hL100 rfl)) ?_
          exact ⟨hL100.ext, rfl⟩
end Go.Proofs.Ytmifkdfaaaaicaa
