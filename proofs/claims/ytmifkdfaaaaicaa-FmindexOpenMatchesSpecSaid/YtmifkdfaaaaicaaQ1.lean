/- Generated walks: package fmindex, small functions. -/
import Derived.Test.YtmifkdfaaaaicaaEngN
import Derived.Test.YtmifkdfaaaaicaaP2
import Derived.KernelRfl
namespace Go.Proofs.Ytmifkdfaaaaicaa
open Go Go.E Go.RowKit
noncomputable def fmindex_fault (a0 : Int) (a1 : Int) : Option ((Int × Int)) :=
  some ((a0, a1))

set_option maxRecDepth 10000 in
theorem fmindex_fault_ok (w : World) (H : PH) (hH : Le H (hp w)) {a0 : Int} {a1 : Int}   {r : (Int × Int)} (h : fmindex_fault a0 a1 = some r) :
    Ok Try.prog 55 [.int .i64 a0, .int .i64 a1] w (fun v w' => Ext w w' ∧ v = .agg #[.int .i64 r.1, .int .i64 r.2]) := by
  refine Ok_enter (n := 8) [(0, .int .i64 a0), (1, .int .i64 a1)] Try.func55 rfl rfl rfl rfl rfl ?_
  have hL := Lcl.start w
  refine W_seqr ?_
  refine S_alloc zr25 rfl rfl hL ?_
  intro w1 b1 hL1 hle1 _
  refine S_seqnil ?_
  refine W_seqr ?_
  refine S_pu 2 rfl ?_
  refine S_v (r_build rfl (fun _ => bld25_0_1 _ _ _)) rfl ?_
  refine S_storeBN 0 rfl rfl rfl zr25 hL1 rfl rfl (onc rfl (onc rfl on0)) ?_
  intro w2 hL2 hle2
  refine S_seqnil ?_
  refine W_ret ?_
  obtain rfl := Option.some.inj h
  refine At_got1 rfl (.cell rfl Try.underlying25 rfl zr25 (box_ptr (i := 0) hL2 rfl)) ?_
  exact ⟨hL2.ext, rfl⟩

noncomputable def fmindex_transform_rows (a0 : (List Int)) : Option (Int) :=
  some ((max (a0.length : Int) (1 : Int)))

set_option maxRecDepth 10000 in
theorem fmindex_transform_rows_ok (w : World) (H : PH) (hH : Le H (hp w)) {a0 : (List Int)} {v0_0 : Value} (h0_0 : Vec (.int .i64) H v0_0 (a0)) {r : Int} (h : fmindex_transform_rows a0 = some r) :
    Ok Try.prog 51 [.agg #[v0_0]] w (fun v w' => Ext w w' ∧ v = .int .i64 r) := by
  refine Ok_enter (n := 7) [(0, .agg #[v0_0])] Try.func51 rfl rfl rfl rfl rfl ?_
  have hL := Lcl.start w
  refine W_seqr ?_
  refine S_box (t := 48) rfl rfl rfl hL ?_
  intro w1 b1 hL1 hle1 _
  refine S_pu 1 rfl ?_
  refine S_seqnil ?_
  refine W_seqr ?_
  refine S_v (r_field rfl Try.underlying48 rfl zr23 (by decide)) rfl ?_
  refine S_v (r_loadB1 0 rfl Try.underlying23 rfl hL1 rfl rfl) rfl ?_
  refine S_v (r_len rfl Try.underlying23 h0_0) rfl ?_
  refine S_v (r_max rfl rfl) rfl ?_
  refine S_pu 1 rfl ?_
  refine S_seqnil ?_
  refine W_ret ?_
  obtain rfl := Option.some.inj h
  refine At_body rfl rfl ?_
  exact ⟨hL1.ext, rfl⟩

noncomputable def fmindex_Index_Length (a0 : ((List Int)) × (List Int) × (List Int)) : Option (Int) :=
  Option.bind (fmindex_transform_rows a0.1) (fun x2 => Go.L.chk (Go.L.I64 (x2 - (1 : Int))) (some ((x2 - (1 : Int)))))

set_option maxRecDepth 10000 in
theorem fmindex_Index_Length_ok (w : World) (H : PH) (hH : Le H (hp w)) {a0 : ((List Int)) × (List Int) × (List Int)} {v0_0 : Value} {v0_1 : Value} {v0_2 : Value} (h0_0 : Vec (.int .i64) H v0_0 (a0.1)) (h0_1 : Vec (.int .i64) H v0_1 (a0.2.1)) (h0_2 : Vec (.int .i64) H v0_2 (a0.2.2)) {r : Int} (h : fmindex_Index_Length a0 = some r) :
    Ok Try.prog 31 [.agg #[v0_0, v0_1, v0_2]] w (fun v w' => Ext w w' ∧ v = .int .i64 r) := by
  refine Ok_enter (n := 7) [(0, .agg #[v0_0, v0_1, v0_2])] Try.func31 rfl rfl rfl rfl rfl ?_
  have hL := Lcl.start w
  refine W_seqr ?_
  refine S_box (t := 50) rfl rfl rfl hL ?_
  intro w1 b1 hL1 hle1 _
  refine S_pu 1 rfl ?_
  refine S_seqnil ?_
  refine W_seqr ?_
  refine S_v (r_field rfl Try.underlying50 rfl zr48 (by decide)) rfl ?_
  refine S_v (r_loadBP 0 1 rfl Try.underlying48 rfl zr48 hL1 rfl rfl) rfl ?_
  obtain ⟨x2, hb2, h⟩ := Go.L.bind_some h
  refine S_callL rfl rfl hL1 (fmindex_transform_rows_ok _ _ (gz_le hH hL1) (h0_0.mono (gz_left hH)) hb2) ?_
  rintro _ w3 rfl hx3 hL3 hle3
  obtain ⟨hk4, h⟩ := Go.L.chk_some h
  refine S_v (r_ar64 rfl rfl rfl hk4) rfl ?_
  refine S_pu 1 rfl ?_
  refine S_seqnil ?_
  refine W_ret ?_
  obtain rfl := Option.some.inj h
  refine At_body rfl rfl ?_
  exact ⟨hL3.ext, rfl⟩

noncomputable def fmindex_transform_step_k3 (a0 : (List Int)) (a1 : Int) (a3 : Int) (s12_66 : Int) (s18_67 : Int) (s10_86 : Int) (s11_87 : Int) : Option ((Int × Int × Int × Int) ⊕ (Int × Int)) :=
  if (a0.getD s18_67.toNat default = a1) ∧ (s18_67 < a3) then Go.L.chk (Go.L.I64 (s12_66 + (1 : Int))) (Go.L.chk (Go.L.I64 (s18_67 + (1 : Int))) (some (Sum.inl (s10_86, s11_87, (s12_66 + (1 : Int)), (s18_67 + (1 : Int)))))) else Go.L.chk (Go.L.I64 (s18_67 + (1 : Int))) (some (Sum.inl (s10_86, s11_87, s12_66, (s18_67 + (1 : Int)))))
noncomputable def fmindex_transform_step_k1 (s10_33 : Int) (s11_34 : Int) (s12_35 : Int) : Option (Int × Int) :=
  Go.L.chk (Go.L.I64 (s10_33 + s11_34)) (Go.L.chk (Go.L.I64 (s10_33 + s12_35)) (some ((s10_33 + s11_34), (s10_33 + s12_35))))
noncomputable def fmindex_transform_step_bl2 (a0 : (List Int)) (a1 : Int) (a2 : Int) (a3 : Int) : Int × Int × Int × Int → Option ((Int × Int × Int × Int) ⊕ (Int × Int)) := fun ⟨s10_64, s11_65, s12_66, s18_67⟩ =>
  if s18_67 < (a0.length : Int) then Go.L.chk (0 ≤ s18_67 ∧ s18_67 < (a0.length : Int)) (if a0.getD s18_67.toNat default = (-1 : Int) then (fmindex_transform_step_k3 a0 a1 a3 s12_66 s18_67) s10_64 s11_65 else (if a0.getD s18_67.toNat default < a1 then Go.L.chk (Go.L.I64 (s10_64 + (1 : Int))) ((fmindex_transform_step_k3 a0 a1 a3 s12_66 s18_67) (s10_64 + (1 : Int)) s11_65) else (if (a0.getD s18_67.toNat default = a1) ∧ (s18_67 < a2) then Go.L.chk (Go.L.I64 (s11_65 + (1 : Int))) ((fmindex_transform_step_k3 a0 a1 a3 s12_66 s18_67) s10_64 (s11_65 + (1 : Int))) else (fmindex_transform_step_k3 a0 a1 a3 s12_66 s18_67) s10_64 s11_65))) else Option.map Sum.inr (fmindex_transform_step_k1 s10_64 s11_65 s12_66)
noncomputable def fmindex_transform_step_l2 (a0 : (List Int)) (a1 : Int) (a2 : Int) (a3 : Int) (s : Int × Int × Int × Int) : Option (Int × Int) := Go.L.run (fmindex_transform_step_bl2 a0 a1 a2 a3) s
noncomputable def fmindex_transform_step (a0 : (List Int)) (a1 : Int) (a2 : Int) (a3 : Int) : Option (Int × Int) :=
  (fmindex_transform_step_l2 a0 a1 a2 a3) ((1 : Int), (0 : Int), (0 : Int), (0 : Int))

set_option maxRecDepth 10000 in
theorem fmindex_transform_step_ok (w : World) (H : PH) (hH : Le H (hp w)) {a0 : (List Int)} {a1 : Int} {a2 : Int} {a3 : Int} {v0_0 : Value} (h0_0 : Vec (.int .i64) H v0_0 (a0)) {r : Int × Int} (h : fmindex_transform_step a0 a1 a2 a3 = some r) :
    Ok Try.prog 65 [.agg #[v0_0], .int .i64 a1, .int .i64 a2, .int .i64 a3] w (fun v w' => Ext w w' ∧ v = .tuple #[.int .i64 r.1, .int .i64 r.2]) := by
  refine Ok_enter (n := 60) [(0, .agg #[v0_0]), (1, .int .i64 a1), (2, .int .i64 a2), (3, .int .i64 a3)] Try.func65 rfl rfl rfl rfl rfl ?_
  have hL := Lcl.start w
  refine W_seqr ?_
  refine S_box (t := 48) rfl rfl rfl hL ?_
  intro w1 b1 hL1 hle1 _
  refine S_pu 2 rfl ?_
  refine S_seqnil ?_
  refine W_seqr ?_
  refine S_pu 3 rfl ?_
  refine S_seqnil ?_
  refine W_cut (σ := Int × Int × Int) (fun (⟨s10_33, s11_34, s12_35⟩ : Int × Int × Int) => [(10, .int .i64 s10_33), (11, .int .i64 s11_34), (12, .int .i64 s12_35)]) (fun (⟨s10_33, s11_34, s12_35⟩ : Int × Int × Int) wr => Lcl w [.box b1 [v0_0] 48] wr ∧ fmindex_transform_step_k1 s10_33 s11_34 s12_35 = some r) ?_ ?_
  · refine W_seqr ?_
    refine S_v (r_field rfl Try.underlying48 rfl zr23 (by decide)) rfl ?_
    refine S_v (r_loadB1 0 rfl Try.underlying23 rfl hL1 rfl rfl) rfl ?_
    refine S_v (r_len rfl Try.underlying23 h0_0) rfl ?_
    refine S_pu 1 rfl ?_
    refine S_seqnil ?_
    refine W_block ?_
    obtain ⟨n68, h⟩ := Go.L.run_some h
    refine W_loop (σ := Int × Int × Int × Int × Nat) (fun (⟨s10_64, s11_65, s12_66, s18_67, n⟩ : Int × Int × Int × Int × Nat) => [(1, .int .i64 a1), (2, .int .i64 a2), (3, .int .i64 a3), (10, .int .i64 s10_64), (11, .int .i64 s11_65), (12, .int .i64 s12_66), (16, v0_0), (17, .int .i64 (a0.length : Int)), (18, .int .i64 s18_67)]) (fun (⟨s10_64, s11_65, s12_66, s18_67, n⟩ : Int × Int × Int × Int × Nat) wr => Lcl w [.box b1 [v0_0] 48] wr ∧ Go.L.itr (fmindex_transform_step_bl2 a0 a1 a2 a3) n (s10_64, s11_65, s12_66, s18_67) = some r) (fun (⟨s10_64, s11_65, s12_66, s18_67, n⟩ : Int × Int × Int × Int × Nat) => n) ((1 : Int), (0 : Int), (0 : Int), (0 : Int), n68) (.cons rfl (.cons rfl (.cons rfl (.cons rfl (.cons rfl (.cons rfl (.cons rfl (.cons rfl (.cons rfl (Sub.nil _)))))))))) ⟨hL1, h⟩ ?_
    rintro ⟨s10_64, s11_65, s12_66, s18_67, nn68⟩ wr68 ⟨hL68, h⟩
    obtain ⟨n68, e68, rfl, h, hm68⟩ := Go.L.itr_some h
    refine W_seqr ?_
    refine S_pu 1 rfl ?_
    refine S_seqnil ?_
    refine W_seq ?_
    refine W_if rfl (fun hc70 => ?_) (fun hc70 => ?_)
    · replace h := Go.L.ite_p hc70 h
      refine W_skip ?_
      refine At_seq ?_
      refine W_seq ?_
      refine W_block ?_
      refine W_seqr ?_
      refine S_pu 1 rfl ?_
      obtain ⟨hk73, h⟩ := Go.L.chk_some h
      refine S_index rfl rfl Try.underlying23 zr3 h0_0 s18_67.toNat (Int.toNat_of_nonneg hk73.1).symm (idx_lt hk73) rfl ?_
      rintro p72 _ rfl hp72
      refine S_v (r_load1 rfl Try.underlying3 rfl hp72 (hH.trans hL68.arg)) rfl ?_
      refine S_pu 2 rfl ?_
      refine S_seqnil ?_
      refine W_cut (σ := Int × Int) (fun (⟨s10_86, s11_87⟩ : Int × Int) => [(1, .int .i64 a1), (2, .int .i64 a2), (3, .int .i64 a3), (10, .int .i64 s10_86), (11, .int .i64 s11_87), (12, .int .i64 s12_66), (13, .int .i64 s18_67), (14, .int .i64 (a0.getD s18_67.toNat default)), (16, v0_0), (17, .int .i64 (a0.length : Int)), (18, .int .i64 s18_67)]) (fun (⟨s10_86, s11_87⟩ : Int × Int) wr => Lcl w [.box b1 [v0_0] 48] wr ∧ (fmindex_transform_step_k3 a0 a1 a3 s12_66 s18_67) s10_86 s11_87 = some e68) ?_ ?_
      · refine W_block ?_
        refine W_seqr ?_
        refine S_pu 3 rfl ?_
        refine S_seqnil ?_
        refine W_if rfl (fun hc90 => ?_) (fun hc90 => ?_)
        · replace h := Go.L.ite_p hc90 h
          refine W_skip ?_
          refine At_block ?_
          refine At_cut (s10_64, s11_65) (.cons rfl (.cons rfl (.cons rfl (.cons rfl (.cons rfl (.cons rfl (.cons rfl (.cons rfl (.cons rfl (.cons rfl (.cons rfl (Sub.nil _)))))))))))) ⟨hL68, h⟩
        · replace h := Go.L.ite_n hc90 h
          refine W_seqr ?_
          refine S_pu 4 rfl ?_
          refine S_seqnil ?_
          refine W_if rfl (fun hc93 => ?_) (fun hc93 => ?_)
          · replace h := Go.L.ite_p hc93 h
            refine W_region ?_
            refine S_pu 1 rfl ?_
            obtain ⟨hk95, h⟩ := Go.L.chk_some h
            refine S_v (r_ar64 rfl rfl rfl hk95) rfl ?_
            refine S_pu 1 rfl ?_
            refine S_nil ?_
            refine At_block ?_
            refine At_cut ((s10_64 + (1 : Int)), s11_65) (.cons rfl (.cons rfl (.cons rfl (.cons rfl (.cons rfl (.cons rfl (.cons rfl (.cons rfl (.cons rfl (.cons rfl (.cons rfl (Sub.nil _)))))))))))) ⟨hL68, h⟩
          · replace h := Go.L.ite_n hc93 h
            refine W_seqr ?_
            refine S_pu 4 rfl ?_
            refine S_and 3 3 rfl rfl rfl rfl rfl rfl ?_
            refine S_pu 1 rfl ?_
            refine S_seqnil ?_
            refine W_if rfl (fun hc97 => ?_) (fun hc97 => ?_)
            · replace h := Go.L.ite_p hc97 h
              refine W_region ?_
              refine S_pu 1 rfl ?_
              obtain ⟨hk99, h⟩ := Go.L.chk_some h
              refine S_v (r_ar64 rfl rfl rfl hk99) rfl ?_
              refine S_pu 1 rfl ?_
              refine S_nil ?_
              refine At_block ?_
              refine At_cut (s10_64, (s11_65 + (1 : Int))) (.cons rfl (.cons rfl (.cons rfl (.cons rfl (.cons rfl (.cons rfl (.cons rfl (.cons rfl (.cons rfl (.cons rfl (.cons rfl (Sub.nil _)))))))))))) ⟨hL68, h⟩
            · replace h := Go.L.ite_n hc97 h
              refine W_skip ?_
              refine At_block ?_
              refine At_cut (s10_64, s11_65) (.cons rfl (.cons rfl (.cons rfl (.cons rfl (.cons rfl (.cons rfl (.cons rfl (.cons rfl (.cons rfl (.cons rfl (.cons rfl (Sub.nil _)))))))))))) ⟨hL68, h⟩
      · rintro ⟨s10_86, s11_87⟩ wr88 ⟨hL88, h⟩
        refine W_seqr ?_
        refine S_pu 4 rfl ?_
        refine S_and 3 3 rfl rfl rfl rfl rfl rfl ?_
        refine S_seqnil ?_
        refine W_if rfl (fun hc102 => ?_) (fun hc102 => ?_)
        · replace h := Go.L.ite_p hc102 h
          refine W_region ?_
          refine S_pu 1 rfl ?_
          obtain ⟨hk104, h⟩ := Go.L.chk_some h
          refine S_v (r_ar64 rfl rfl rfl hk104) rfl ?_
          refine S_pu 1 rfl ?_
          refine S_nil ?_
          refine At_block ?_
          refine At_seq ?_
          refine W_region ?_
          obtain ⟨hk105, h⟩ := Go.L.chk_some h
          refine S_v (r_ar64 rfl rfl rfl hk105) rfl ?_
          refine S_pu 1 rfl ?_
          refine S_nil ?_
          have h := Go.L.Nxt.again h hm68
          refine At_round (s10_86, s11_87, (s12_66 + (1 : Int)), (s18_67 + (1 : Int)), n68) (.cons rfl (.cons rfl (.cons rfl (.cons rfl (.cons rfl (.cons rfl (.cons rfl (.cons rfl (.cons rfl (Sub.nil _)))))))))) ⟨hL88, h⟩ (Nat.lt_succ_self _)
        · replace h := Go.L.ite_n hc102 h
          refine W_skip ?_
          refine At_block ?_
          refine At_seq ?_
          refine W_region ?_
          obtain ⟨hk107, h⟩ := Go.L.chk_some h
          refine S_v (r_ar64 rfl rfl rfl hk107) rfl ?_
          refine S_pu 1 rfl ?_
          refine S_nil ?_
          have h := Go.L.Nxt.again h hm68
          refine At_round (s10_86, s11_87, s12_66, (s18_67 + (1 : Int)), n68) (.cons rfl (.cons rfl (.cons rfl (.cons rfl (.cons rfl (.cons rfl (.cons rfl (.cons rfl (.cons rfl (Sub.nil _)))))))))) ⟨hL88, h⟩ (Nat.lt_succ_self _)
    · replace h := Go.L.ite_n hc70 h
      refine W_exit ?_
      refine At_seq_exit ?_
      refine At_loop_exit ?_
      replace h := Go.L.Nxt.out h hm68
      refine At_exit ?_
      refine At_cut (s10_64, s11_65, s12_66) (.cons rfl (.cons rfl (.cons rfl (Sub.nil _)))) ⟨hL68, h⟩
  · rintro ⟨s10_33, s11_34, s12_35⟩ wr36 ⟨hL36, h⟩
    refine W_seqr ?_
    refine S_pu 2 rfl ?_
    obtain ⟨hk110, h⟩ := Go.L.chk_some h
    refine S_v (r_ar64 rfl rfl rfl hk110) rfl ?_
    refine S_pu 2 rfl ?_
    obtain ⟨hk111, h⟩ := Go.L.chk_some h
    refine S_v (r_ar64 rfl rfl rfl hk111) rfl ?_
    refine S_pu 2 rfl ?_
    refine S_seqnil ?_
    refine W_ret ?_
    obtain rfl := Option.some.inj h
    refine At_body rfl rfl ?_
    exact ⟨hL36.ext, rfl⟩

noncomputable def fmindex_Index_find_k1 (s7_35 : Int) (s8_36 : Int) : Option (Int × Int × (Int × Int)) :=
  some (s7_35, (max s7_35 s8_36), ((0 : Int), (0 : Int)))
noncomputable def fmindex_Index_find_bl2 (a0 : ((List Int)) × (List Int) × (List Int)) (a1 : List UInt8) : Int × Int × Int → Option ((Int × Int × Int) ⊕ (Int × Int × (Int × Int))) := fun ⟨s7_53, s8_54, s9_55⟩ =>
  if ((0 : Int) ≤ s9_55) ∧ (s7_53 < s8_54) then Go.L.chk (0 ≤ s9_55 ∧ s9_55 < (a1.length : Int)) (Option.bind (fmindex_transform_step a0.1 ((a1.getD s9_55.toNat default).toNat : Int) s7_53 s8_54) (fun x64 => Go.L.chk (Go.L.I64 (s9_55 - (1 : Int))) (some (Sum.inl (x64.1, x64.2, (s9_55 - (1 : Int))))))) else Option.map Sum.inr (fmindex_Index_find_k1 s7_53 s8_54)
noncomputable def fmindex_Index_find_l2 (a0 : ((List Int)) × (List Int) × (List Int)) (a1 : List UInt8) (s : Int × Int × Int) : Option (Int × Int × (Int × Int)) := Go.L.run (fmindex_Index_find_bl2 a0 a1) s
noncomputable def fmindex_Index_find (a0 : ((List Int)) × (List Int) × (List Int)) (a1 : List UInt8) : Option (Int × Int × (Int × Int)) :=
  if (a1.length : Int) = (0 : Int) then Option.bind (fmindex_fault (10 : Int) (-1 : Int)) (fun x5 => some ((0 : Int), (0 : Int), (x5.1, x5.2))) else (if (64 : Int) < (a1.length : Int) then Option.bind (fmindex_fault (3 : Int) (-1 : Int)) (fun x11 => some ((0 : Int), (0 : Int), (x11.1, x11.2))) else Option.bind (fmindex_transform_rows a0.1) (fun x15 => Go.L.chk (Go.L.I64 ((a1.length : Int) - (1 : Int))) ((fmindex_Index_find_l2 a0 a1) ((0 : Int), x15, ((a1.length : Int) - (1 : Int))))))

set_option maxRecDepth 10000 in
theorem fmindex_Index_find_ok (w : World) (H : PH) (hH : Le H (hp w)) {a0 : ((List Int)) × (List Int) × (List Int)} {a1 : List UInt8} {v0_0 : Value} {v0_1 : Value} {v0_2 : Value} {v1_0 : Value} (h0_0 : Vec (.int .i64) H v0_0 (a0.1)) (h0_1 : Vec (.int .i64) H v0_1 (a0.2.1)) (h0_2 : Vec (.int .i64) H v0_2 (a0.2.2)) (h1_0 : Vec .byte H v1_0 (a1)) {r : Int × Int × (Int × Int)} (h : fmindex_Index_find a0 a1 = some r) :
    Ok Try.prog 52 [.agg #[v0_0, v0_1, v0_2], v1_0] w (fun v w' => Ext w w' ∧ v = .tuple #[.int .i64 r.1, .int .i64 r.2.1, .agg #[.int .i64 r.2.2.1, .int .i64 r.2.2.2]]) := by
  refine Ok_enter (n := 51) [(0, .agg #[v0_0, v0_1, v0_2]), (1, v1_0)] Try.func52 rfl rfl rfl rfl rfl ?_
  have hL := Lcl.start w
  refine W_seqr ?_
  refine S_box (t := 50) rfl rfl rfl hL ?_
  intro w1 b1 hL1 hle1 _
  refine S_pu 2 rfl ?_
  refine S_alloc zr25 rfl rfl hL1 ?_
  intro w2 b2 hL2 hle2 _
  refine S_seqnil ?_
  refine W_seq ?_
  refine W_seqr ?_
  refine S_pu 1 rfl ?_
  refine S_v (r_len rfl Try.underlying22 h1_0) rfl ?_
  refine S_pu 1 rfl ?_
  refine S_seqnil ?_
  refine W_if rfl (fun hc3 => ?_) (fun hc3 => ?_)
  · replace h := Go.L.ite_p hc3 h
    refine W_seqr ?_
    obtain ⟨x5, hb5, h⟩ := Go.L.bind_some h
    refine S_callL rfl rfl hL2 (fmindex_fault_ok _ _ (gz_le hH hL2) hb5) ?_
    rintro _ w6 rfl hx6 hL6 hle6
    refine S_pu 2 rfl ?_
    refine S_storeBN 0 rfl rfl rfl zr25 hL6 rfl rfl (onc rfl (onc rfl on0)) ?_
    intro w7 hL7 hle7
    refine S_seqnil ?_
    refine W_ret ?_
    refine At_seq_ret ?_
    obtain rfl := Option.some.inj h
    refine At_got3 rfl (.tmp rfl) (.tmp rfl) (.cell rfl Try.underlying25 rfl zr25 (box_ptr (i := 0) hL7 rfl)) ?_
    exact ⟨hL7.ext, rfl⟩
  · replace h := Go.L.ite_n hc3 h
    refine W_skip ?_
    refine At_seq ?_
    refine W_seq ?_
    refine W_seqr ?_
    refine S_pu 1 rfl ?_
    refine S_v (r_len rfl Try.underlying22 h1_0) rfl ?_
    refine S_pu 1 rfl ?_
    refine S_seqnil ?_
    refine W_if rfl (fun hc9 => ?_) (fun hc9 => ?_)
    · replace h := Go.L.ite_p hc9 h
      refine W_seqr ?_
      obtain ⟨x11, hb11, h⟩ := Go.L.bind_some h
      refine S_callL rfl rfl hL2 (fmindex_fault_ok _ _ (gz_le hH hL2) hb11) ?_
      rintro _ w12 rfl hx12 hL12 hle12
      refine S_pu 2 rfl ?_
      refine S_storeBN 0 rfl rfl rfl zr25 hL12 rfl rfl (onc rfl (onc rfl on0)) ?_
      intro w13 hL13 hle13
      refine S_seqnil ?_
      refine W_ret ?_
      refine At_seq_ret ?_
      obtain rfl := Option.some.inj h
      refine At_got3 rfl (.tmp rfl) (.tmp rfl) (.cell rfl Try.underlying25 rfl zr25 (box_ptr (i := 0) hL13 rfl)) ?_
      exact ⟨hL13.ext, rfl⟩
    · replace h := Go.L.ite_n hc9 h
      refine W_skip ?_
      refine At_seq ?_
      refine W_seqr ?_
      refine S_v (r_field rfl Try.underlying50 rfl zr48 (by decide)) rfl ?_
      refine S_v (r_loadBP 1 1 rfl Try.underlying48 rfl zr48 hL2 rfl rfl) rfl ?_
      obtain ⟨x15, hb15, h⟩ := Go.L.bind_some h
      refine S_callL rfl rfl hL2 (fmindex_transform_rows_ok _ _ (gz_le hH hL2) (h0_0.mono (gz_left hH)) hb15) ?_
      rintro _ w16 rfl hx16 hL16 hle16
      refine S_pu 2 rfl ?_
      refine S_seqnil ?_
      refine W_cut (σ := Int × Int) (fun (⟨s7_35, s8_36⟩ : Int × Int) => [(6, .pointer (some ⟨b2, 0, none⟩)), (7, .int .i64 s7_35), (8, .int .i64 s8_36)]) (fun (⟨s7_35, s8_36⟩ : Int × Int) wr => Lcl w [.box b2 [.int .i64 (0 : Int), .int .i64 (0 : Int)] 25, .box b1 [v0_0, v0_1, v0_2] 50] wr ∧ fmindex_Index_find_k1 s7_35 s8_36 = some r) ?_ ?_
      · refine W_seqr ?_
        refine S_pu 1 rfl ?_
        refine S_v (r_len rfl Try.underlying22 h1_0) rfl ?_
        obtain ⟨hk39, h⟩ := Go.L.chk_some h
        refine S_v (r_ar64 rfl rfl rfl hk39) rfl ?_
        refine S_pu 1 rfl ?_
        refine S_seqnil ?_
        refine W_block ?_
        obtain ⟨n56, h⟩ := Go.L.run_some h
        refine W_loop (σ := Int × Int × Int × Nat) (fun (⟨s7_53, s8_54, s9_55, n⟩ : Int × Int × Int × Nat) => [(1, v1_0), (2, .pointer (some ⟨b1, 0, none⟩)), (6, .pointer (some ⟨b2, 0, none⟩)), (7, .int .i64 s7_53), (8, .int .i64 s8_54), (9, .int .i64 s9_55)]) (fun (⟨s7_53, s8_54, s9_55, n⟩ : Int × Int × Int × Nat) wr => Lcl w [.box b2 [.int .i64 (0 : Int), .int .i64 (0 : Int)] 25, .box b1 [v0_0, v0_1, v0_2] 50] wr ∧ Go.L.itr (fmindex_Index_find_bl2 a0 a1) n (s7_53, s8_54, s9_55) = some r) (fun (⟨s7_53, s8_54, s9_55, n⟩ : Int × Int × Int × Nat) => n) ((0 : Int), x15, ((a1.length : Int) - (1 : Int)), n56) (.cons rfl (.cons rfl (.cons rfl (.cons rfl (.cons rfl (.cons rfl (Sub.nil _))))))) ⟨hL16, h⟩ ?_
        rintro ⟨s7_53, s8_54, s9_55, nn56⟩ wr56 ⟨hL56, h⟩
        obtain ⟨n56, e56, rfl, h, hm56⟩ := Go.L.itr_some h
        refine W_seq ?_
        refine W_seqr ?_
        refine S_pu 3 rfl ?_
        refine S_and 3 2 rfl rfl rfl rfl rfl rfl ?_
        refine S_seqnil ?_
        refine W_if rfl (fun hc58 => ?_) (fun hc58 => ?_)
        · replace h := Go.L.ite_p hc58 h
          refine W_skip ?_
          refine At_seq ?_
          refine W_seq ?_
          refine W_block ?_
          refine W_regd (.q 0 (.q 1 (.q 2 (.q 3 (.q 4 (.q 5 (.q 6 (.q 7 (.q 8 (.q 9 (.q 10 (.q 11 (.q 12 (.q 13 (.q 14 (.tail 15)))))))))))))))) mixed (by kernel_rfl) (fun w60 hx60 => ?_)
          have hL61 := hL56.call hx60
          refine D_v (r_field rfl Try.underlying50 rfl zr48 (by decide)) rfl rfl ?_
          refine D_v (r_loadBP 1 1 rfl Try.underlying48 rfl zr48 hL61 rfl rfl) rfl rfl ?_
          refine D_pu 2 rfl ?_
          obtain ⟨hk63, h⟩ := Go.L.chk_some h
          refine D_index rfl rfl rfl Try.underlying22 zr5 h1_0 s9_55.toNat (Int.toNat_of_nonneg hk63.1).symm (idx_lt hk63) rfl ?_
          rintro p62 _ rfl hp62
          refine D_v (r_load1 rfl Try.underlying5 rfl hp62 (hH.trans hL61.arg)) rfl rfl ?_
          refine D_v (r_conv Try.underlying5 Try.underlying3 rfl (conv_8_64 _)) rfl rfl ?_
          refine D_pu 2 rfl ?_
          obtain ⟨x64, hb64, h⟩ := Go.L.bind_some h
          refine D_call rfl rfl rfl (fun w65 hx65 => fmindex_transform_step_ok _ _ (Le.refl _) ((h0_0.mono (hH.trans hL61.arg)).mono hx65.le) hb64) ?_
          refine D_pu 5 rfl ?_
          refine D_tail (fun w66 hx66 => ?_)
          have hL67 := hL61.call hx66
          refine S_nil ?_
          refine At_block ?_
          refine At_seq ?_
          refine W_region ?_
          refine S_pu 1 rfl ?_
          obtain ⟨hk68, h⟩ := Go.L.chk_some h
          refine S_v (r_ar64 rfl rfl rfl hk68) rfl ?_
          refine S_pu 1 rfl ?_
          refine S_nil ?_
          have h := Go.L.Nxt.again h hm56
          refine At_round (x64.1, x64.2, (s9_55 - (1 : Int)), n56) (.cons rfl (.cons rfl (.cons rfl (.cons rfl (.cons rfl (.cons rfl (Sub.nil _))))))) ⟨hL67, h⟩ (Nat.lt_succ_self _)
        · replace h := Go.L.ite_n hc58 h
          refine W_exit ?_
          refine At_seq_exit ?_
          refine At_loop_exit ?_
          replace h := Go.L.Nxt.out h hm56
          refine At_exit ?_
          refine At_cut (s7_53, s8_54) (.cons rfl (.cons rfl (.cons rfl (Sub.nil _)))) ⟨hL56, h⟩
      · rintro ⟨s7_35, s8_36⟩ wr37 ⟨hL37, h⟩
        refine W_seqr ?_
        refine S_pu 3 rfl ?_
        refine S_v (r_max rfl rfl) rfl ?_
        refine S_v (r_build rfl (fun _ => bld25_z _)) rfl ?_
        refine S_pu 2 rfl ?_
        refine S_storeBN 0 rfl rfl rfl zr25 hL37 rfl rfl (onc rfl (onc rfl on0)) ?_
        intro w71 hL71 hle71
        refine S_seqnil ?_
        refine W_ret ?_
        obtain rfl := Option.some.inj h
        refine At_got3 rfl (.tmp rfl) (.tmp rfl) (.cell rfl Try.underlying25 rfl zr25 (box_ptr (i := 0) hL71 rfl)) ?_
        exact ⟨hL71.ext, rfl⟩

noncomputable def fmindex_Index_Count (a0 : ((List Int)) × (List Int) × (List Int)) (a1 : List UInt8) : Option (Int × (Int × Int)) :=
  Option.bind (fmindex_Index_find (a0.1, a0.2.1, a0.2.2) a1) (fun x3 => Go.L.chk (Go.L.I64 (x3.2.1 - x3.1)) (some ((x3.2.1 - x3.1), (x3.2.2.1, x3.2.2.2))))

set_option maxRecDepth 10000 in
theorem fmindex_Index_Count_ok (w : World) (H : PH) (hH : Le H (hp w)) {a0 : ((List Int)) × (List Int) × (List Int)} {a1 : List UInt8} {v0_0 : Value} {v0_1 : Value} {v0_2 : Value} {v1_0 : Value} (h0_0 : Vec (.int .i64) H v0_0 (a0.1)) (h0_1 : Vec (.int .i64) H v0_1 (a0.2.1)) (h0_2 : Vec (.int .i64) H v0_2 (a0.2.2)) (h1_0 : Vec .byte H v1_0 (a1)) {r : Int × (Int × Int)} (h : fmindex_Index_Count a0 a1 = some r) :
    Ok Try.prog 32 [.agg #[v0_0, v0_1, v0_2], v1_0] w (fun v w' => Ext w w' ∧ v = .tuple #[.int .i64 r.1, .agg #[.int .i64 r.2.1, .int .i64 r.2.2]]) := by
  refine Ok_enter (n := 20) [(0, .agg #[v0_0, v0_1, v0_2]), (1, v1_0)] Try.func32 rfl rfl rfl rfl rfl ?_
  have hL := Lcl.start w
  refine W_seqr ?_
  refine S_box (t := 50) rfl rfl rfl hL ?_
  intro w1 b1 hL1 hle1 _
  refine S_pu 1 rfl ?_
  refine S_alloc zr25 rfl rfl hL1 ?_
  intro w2 b2 hL2 hle2 _
  refine S_seqnil ?_
  refine W_seqr ?_
  refine S_v (r_loadBN 1 rfl Try.underlying50 rfl zr50 hL2 rfl) rfl ?_
  refine S_pu 1 rfl ?_
  obtain ⟨x3, hb3, h⟩ := Go.L.bind_some h
  refine S_callL rfl rfl hL2 (fmindex_Index_find_ok _ _ (gz_le hH hL2) (h0_0.mono (gz_left hH)) (h0_1.mono (gz_left hH)) (h0_2.mono (gz_left hH)) (h1_0.mono (gz_left hH)) hb3) ?_
  rintro _ w4 rfl hx4 hL4 hle4
  refine S_pu 4 rfl ?_
  refine S_alloc zr25 rfl rfl hL4 ?_
  intro w5 b5 hL5 hle5 _
  refine S_pu 2 rfl ?_
  refine S_storeBN 0 rfl rfl rfl zr25 hL5 rfl rfl (onc rfl (onc rfl on0)) ?_
  intro w6 hL6 hle6
  refine S_seqnil ?_
  refine W_seqd (.q 0 (.q 1 (.q 2 (.q 3 (.q 4 (.tail 5)))))) mixed (by kernel_rfl) (fun w7 hx7 => ?_)
  have hL8 := hL6.call hx7
  refine D_pu 2 rfl ?_
  obtain ⟨hk9, h⟩ := Go.L.chk_some h
  refine D_v (r_ar64 rfl rfl rfl hk9) rfl rfl ?_
  refine D_v (r_loadBN 0 rfl Try.underlying25 rfl zr25 hL8 rfl) rfl rfl ?_
  refine D_pu 1 rfl ?_
  refine D_tail (fun w10 hx10 => ?_)
  have hL11 := hL8.call hx10
  refine S_storeBN 1 rfl rfl rfl zr25 hL11 rfl rfl (onc rfl (onc rfl on0)) ?_
  intro w12 hL12 hle12
  refine S_seqnil ?_
  refine W_ret ?_
  obtain rfl := Option.some.inj h
  refine At_got2 rfl (.tmp rfl) (.cell rfl Try.underlying25 rfl zr25 (box_ptr (i := 1) hL12 rfl)) ?_
  exact ⟨hL12.ext, rfl⟩

noncomputable def fmindex_Index_text_k1 (l22 : List UInt8) : Option ((List UInt8)) :=
  some (l22)
noncomputable def fmindex_Index_text_bl2 (a0 : ((List Int)) × (List Int) × (List Int)) : (List UInt8) × Int × Int → Option (((List UInt8) × Int × Int) ⊕ ((List UInt8))) := fun ⟨l38, s4_39, s5_40⟩ =>
  if (0 : Int) ≤ s5_40 then Go.L.chk (0 ≤ s4_39 ∧ s4_39 < (a0.1.length : Int)) (Go.L.chk (0 ≤ s5_40 ∧ s5_40 < (l38.length : Int)) (Go.L.chk (0 ≤ s4_39 ∧ s4_39 < (a0.2.1.length : Int)) (Go.L.chk (Go.L.I64 (s5_40 - (1 : Int))) (some (Sum.inl ((l38.set s5_40.toNat (Go.L.u8 (a0.1.getD s4_39.toNat default))), a0.2.1.getD s4_39.toNat default, (s5_40 - (1 : Int)))))))) else Option.map Sum.inr (fmindex_Index_text_k1 l38)
noncomputable def fmindex_Index_text_l2 (a0 : ((List Int)) × (List Int) × (List Int)) (s : (List UInt8) × Int × Int) : Option ((List UInt8)) := Go.L.run (fmindex_Index_text_bl2 a0) s
noncomputable def fmindex_Index_text (a0 : ((List Int)) × (List Int) × (List Int)) : Option ((List UInt8)) :=
  Option.bind (fmindex_Index_Length (a0.1, a0.2.1, a0.2.2)) (fun x2 => Go.L.chk (0 ≤ x2 ∧ ((1 : Nat) : Int) * x2 ≤ 281474976710656 ∧ x2 ≤ 9223372036854775807) (Go.L.chk (Go.L.I64 (((List.replicate x2.toNat (0 : UInt8)).length : Int) - (1 : Int))) ((fmindex_Index_text_l2 a0) ((List.replicate x2.toNat (0 : UInt8)), (0 : Int), (((List.replicate x2.toNat (0 : UInt8)).length : Int) - (1 : Int))))))

set_option maxRecDepth 10000 in
theorem fmindex_Index_text_ok (w : World) (H : PH) (hH : Le H (hp w)) {a0 : ((List Int)) × (List Int) × (List Int)} {v0_0 : Value} {v0_1 : Value} {v0_2 : Value} (h0_0 : Vec (.int .i64) H v0_0 (a0.1)) (h0_1 : Vec (.int .i64) H v0_1 (a0.2.1)) (h0_2 : Vec (.int .i64) H v0_2 (a0.2.2)) {r : (List UInt8)} (h : fmindex_Index_text a0 = some r) :
    Ok Try.prog 57 [.agg #[v0_0, v0_1, v0_2]] w (fun v w' => Ext w w' ∧ ∃ u0, v = u0 ∧ OwnH 5 .byte H w w' u0 (r)) := by
  refine Ok_enter (n := 32) [(0, .agg #[v0_0, v0_1, v0_2])] Try.func57 rfl rfl rfl rfl rfl ?_
  have hL := Lcl.start w
  refine W_seqr ?_
  refine S_box (t := 50) rfl rfl rfl hL ?_
  intro w1 b1 hL1 hle1 _
  refine S_pu 1 rfl ?_
  refine S_seqnil ?_
  refine W_seqr ?_
  refine S_v (r_loadBN 0 rfl Try.underlying50 rfl zr50 hL1 rfl) rfl ?_
  obtain ⟨x2, hb2, h⟩ := Go.L.bind_some h
  refine S_callL rfl rfl hL1 (fmindex_Index_Length_ok _ _ (gz_le hH hL1) (h0_0.mono (gz_left hH)) (h0_1.mono (gz_left hH)) (h0_2.mono (gz_left hH)) hb2) ?_
  rintro _ w3 rfl hx3 hL3 hle3
  obtain ⟨hk5, h⟩ := Go.L.chk_some h
  refine S_makeE (r := .byte) (z := (0 : UInt8)) rfl rfl rfl Try.underlying22 zr5 rfl (fun _ => rfl) rfl hH hL3 hk5 ?_
  intro v4 w4 xs4 hL4 hle4 he4
  refine S_pu 1 rfl ?_
  refine S_seqnil ?_
  refine W_seqr ?_
  refine S_pu 1 rfl ?_
  refine S_seqnil ?_
  refine W_cut (σ := (List UInt8) × (List Value)) (fun (⟨l22, xsl22⟩ : (List UInt8) × (List Value)) => [(3, v4)]) (fun (⟨l22, xsl22⟩ : (List UInt8) × (List Value)) wr => Lcl w [.row (v4) 5 1 (l22).length (xsl22), .box b1 [v0_0, v0_1, v0_2] 50] wr ∧ Elems .byte (gz H w wr [.row (v4) 5 1 (l22).length (xsl22), .box b1 [v0_0, v0_1, v0_2] 50]) (l22) (xsl22) ∧ fmindex_Index_text_k1 l22 = some r) ?_ ?_
  · refine W_seqr ?_
    refine S_pu 1 rfl ?_
    refine S_v (r_lenR (i := 0) rfl Try.underlying22 hL4 rfl) rfl ?_
    obtain ⟨hk25, h⟩ := Go.L.chk_some h
    refine S_v (r_ar64 rfl rfl rfl hk25) rfl ?_
    refine S_pu 1 rfl ?_
    refine S_seqnil ?_
    refine W_block ?_
    obtain ⟨n41, h⟩ := Go.L.run_some h
    refine W_loop (σ := (List UInt8) × Int × Int × (List Value) × Nat) (fun (⟨l38, s4_39, s5_40, xsl38, n⟩ : (List UInt8) × Int × Int × (List Value) × Nat) => [(1, .pointer (some ⟨b1, 0, none⟩)), (3, v4), (4, .int .i64 s4_39), (5, .int .i64 s5_40)]) (fun (⟨l38, s4_39, s5_40, xsl38, n⟩ : (List UInt8) × Int × Int × (List Value) × Nat) wr => Lcl w [.row (v4) 5 1 (l38).length (xsl38), .box b1 [v0_0, v0_1, v0_2] 50] wr ∧ Elems .byte (gz H w wr [.row (v4) 5 1 (l38).length (xsl38), .box b1 [v0_0, v0_1, v0_2] 50]) (l38) (xsl38) ∧ Go.L.itr (fmindex_Index_text_bl2 a0) n (l38, s4_39, s5_40) = some r) (fun (⟨l38, s4_39, s5_40, xsl38, n⟩ : (List UInt8) × Int × Int × (List Value) × Nat) => n) ((List.replicate x2.toNat (0 : UInt8)), (0 : Int), (((List.replicate x2.toNat (0 : UInt8)).length : Int) - (1 : Int)), xs4, n41) (.cons rfl (.cons rfl (.cons rfl (.cons rfl (Sub.nil _))))) ⟨hL4, he4, h⟩ ?_
    rintro ⟨l38, s4_39, s5_40, xsl38, nn41⟩ wr41 ⟨hL41, hel38, h⟩
    obtain ⟨n41, e41, rfl, h, hm41⟩ := Go.L.itr_some h
    refine W_seq ?_
    refine W_seqr ?_
    refine S_pu 2 rfl ?_
    refine S_seqnil ?_
    refine W_if rfl (fun hc43 => ?_) (fun hc43 => ?_)
    · replace h := Go.L.ite_p hc43 h
      refine W_skip ?_
      refine At_seq ?_
      refine W_seq ?_
      refine W_block ?_
      refine W_seqr ?_
      refine S_pu 2 rfl ?_
      refine S_v (r_field rfl Try.underlying50 rfl zr48 (by decide)) rfl ?_
      refine S_v (r_field rfl Try.underlying48 rfl zr23 (by decide)) rfl ?_
      refine S_v (r_loadB1 1 rfl Try.underlying23 rfl hL41 rfl rfl) rfl ?_
      refine S_pu 1 rfl ?_
      obtain ⟨hk46, h⟩ := Go.L.chk_some h
      refine S_index rfl rfl Try.underlying23 zr3 h0_0 s4_39.toNat (Int.toNat_of_nonneg hk46.1).symm (idx_lt hk46) rfl ?_
      rintro p45 _ rfl hp45
      refine S_v (r_load1 rfl Try.underlying3 rfl hp45 (hH.trans hL41.arg)) rfl ?_
      refine S_v (r_conv Try.underlying3 Try.underlying5 rfl (conv_64_u8 _)) rfl ?_
      obtain ⟨hk48, h⟩ := Go.L.chk_some h
      refine S_indexR 0 rfl rfl Try.underlying22 zr5 hL41 rfl s5_40.toNat (Int.toNat_of_nonneg hk48.1).symm (idx_lt hk48) rfl ?_
      intro p47 hp47
      refine S_storeE (z := (Go.L.u8 (a0.1.getD s4_39.toNat default))) (j := s5_40.toNat) 0 rfl rfl rfl zr5 hH hL41 rfl hel38 hp47 rfl (idx_lt hk48) rfl ?_
      intro w49 xs49 hL49 hle49 he49
      refine S_seqnil ?_
      refine W_region ?_
      refine S_v (r_field rfl Try.underlying50 rfl zr23 (by decide)) rfl ?_
      refine S_v (r_loadB1 1 rfl Try.underlying23 rfl hL49 rfl rfl) rfl ?_
      refine S_pu 1 rfl ?_
      obtain ⟨hk51, h⟩ := Go.L.chk_some h
      refine S_index rfl rfl Try.underlying23 zr3 h0_1 s4_39.toNat (Int.toNat_of_nonneg hk51.1).symm (idx_lt hk51) rfl ?_
      rintro p50 _ rfl hp50
      refine S_v (r_load1 rfl Try.underlying3 rfl hp50 (hH.trans hL49.arg)) rfl ?_
      refine S_pu 1 rfl ?_
      refine S_nil ?_
      refine At_block ?_
      refine At_seq ?_
      refine W_region ?_
      refine S_pu 1 rfl ?_
      obtain ⟨hk52, h⟩ := Go.L.chk_some h
      refine S_v (r_ar64 rfl rfl rfl hk52) rfl ?_
      refine S_pu 1 rfl ?_
      refine S_nil ?_
      have h := Go.L.Nxt.again h hm41
      refine At_round ((l38.set s5_40.toNat (Go.L.u8 (a0.1.getD s4_39.toNat default))), a0.2.1.getD s4_39.toNat default, (s5_40 - (1 : Int)), xs49, n41) (.cons rfl (.cons rfl (.cons rfl (.cons rfl (Sub.nil _))))) ⟨hL49, he49, h⟩ (Nat.lt_succ_self _)
    · replace h := Go.L.ite_n hc43 h
      refine W_exit ?_
      refine At_seq_exit ?_
      refine At_loop_exit ?_
      replace h := Go.L.Nxt.out h hm41
      refine At_exit ?_
      refine At_cut (l38, xsl38) (.cons rfl (Sub.nil _)) ⟨hL41, hel38, h⟩
  · rintro ⟨l22, xsl22⟩ wr23 ⟨hL23, hel22, h⟩
    refine W_seqr ?_
    refine S_pu 2 rfl ?_
    refine S_seqnil ?_
    refine W_ret ?_
    obtain rfl := Option.some.inj h
    refine At_body rfl rfl ?_
    exact ⟨hL23.ext, _, rfl, (hL23.ownH hH (i := 0) rfl hel22)⟩

noncomputable def slices_Index_int_int_k1 : Option (Int) :=
  some ((-1 : Int))
noncomputable def slices_Index_int_int_bl2 (a0 : List Int) (a1 : Int) : Int → Option ((Int) ⊕ (Int)) := fun s8_25 =>
  if s8_25 < (a0.length : Int) then Go.L.chk (0 ≤ s8_25 ∧ s8_25 < (a0.length : Int)) (if a1 = a0.getD s8_25.toNat default then Option.map Sum.inr (some (s8_25)) else Go.L.chk (Go.L.I64 (s8_25 + (1 : Int))) (some (Sum.inl (s8_25 + (1 : Int))))) else Option.map Sum.inr (slices_Index_int_int_k1)
noncomputable def slices_Index_int_int_l2 (a0 : List Int) (a1 : Int) (s : Int) : Option (Int) := Go.L.run (slices_Index_int_int_bl2 a0 a1) s
noncomputable def slices_Index_int_int (a0 : List Int) (a1 : Int) : Option (Int) :=
  (slices_Index_int_int_l2 a0 a1) (0 : Int)

set_option maxRecDepth 10000 in
theorem slices_Index_int_int_ok (w : World) (H : PH) (hH : Le H (hp w)) {a0 : List Int} {a1 : Int} {v0_0 : Value} (h0_0 : Vec (.int .i64) H v0_0 (a0)) {r : Int} (h : slices_Index_int_int a0 a1 = some r) :
    Ok Try.prog 58 [v0_0, .int .i64 a1] w (fun v w' => Ext w w' ∧ v = .int .i64 r) := by
  refine Ok_enter (n := 19) [(0, v0_0), (1, .int .i64 a1)] Try.func58 rfl rfl rfl rfl rfl ?_
  have hL := Lcl.start w
  refine W_seqr ?_
  refine S_pu 1 rfl ?_
  refine S_seqnil ?_
  refine W_cut (σ := Unit) (fun (_ : Unit) => []) (fun (_ : Unit) wr => Lcl w [] wr ∧ slices_Index_int_int_k1 = some r) ?_ ?_
  · refine W_seqr ?_
    refine S_pu 1 rfl ?_
    refine S_v (r_len rfl Try.underlying23 h0_0) rfl ?_
    refine S_pu 1 rfl ?_
    refine S_seqnil ?_
    refine W_block ?_
    obtain ⟨n26, h⟩ := Go.L.run_some h
    refine W_loop (σ := Int × Nat) (fun (⟨s8_25, n⟩ : Int × Nat) => [(0, v0_0), (1, .int .i64 a1), (7, .int .i64 (a0.length : Int)), (8, .int .i64 s8_25)]) (fun (⟨s8_25, n⟩ : Int × Nat) wr => Lcl w [] wr ∧ Go.L.itr (slices_Index_int_int_bl2 a0 a1) n s8_25 = some r) (fun (⟨s8_25, n⟩ : Int × Nat) => n) ((0 : Int), n26) (.cons rfl (.cons rfl (.cons rfl (.cons rfl (Sub.nil _))))) ⟨hL, h⟩ ?_
    rintro ⟨s8_25, nn26⟩ wr26 ⟨hL26, h⟩
    obtain ⟨n26, e26, rfl, h, hm26⟩ := Go.L.itr_some h
    refine W_seqr ?_
    refine S_pu 1 rfl ?_
    refine S_seqnil ?_
    refine W_seq ?_
    refine W_if rfl (fun hc28 => ?_) (fun hc28 => ?_)
    · replace h := Go.L.ite_p hc28 h
      refine W_skip ?_
      refine At_seq ?_
      refine W_seq ?_
      refine W_block ?_
      refine W_seqr ?_
      refine S_pu 2 rfl ?_
      refine S_seqnil ?_
      refine W_seqr ?_
      refine S_pu 3 rfl ?_
      obtain ⟨hk31, h⟩ := Go.L.chk_some h
      refine S_index rfl rfl Try.underlying23 zr3 h0_0 s8_25.toNat (Int.toNat_of_nonneg hk31.1).symm (idx_lt hk31) rfl ?_
      rintro p30 _ rfl hp30
      refine S_v (r_load1 rfl Try.underlying3 rfl hp30 (hH.trans hL26.arg)) rfl ?_
      refine S_pu 1 rfl ?_
      refine S_seqnil ?_
      refine W_if rfl (fun hc32 => ?_) (fun hc32 => ?_)
      · replace h := Go.L.ite_p hc32 h
        refine W_seqr ?_
        refine S_pu 2 rfl ?_
        refine S_seqnil ?_
        refine W_ret ?_
        refine At_block_ret ?_
        refine At_seq_ret ?_
        refine At_loop_ret ?_
        replace h := Go.L.Nxt.out h hm26
        refine At_block_ret ?_
        refine At_cut_ret ?_
        obtain rfl := Option.some.inj h
        refine At_body rfl rfl ?_
        exact ⟨hL26.ext, rfl⟩
      · replace h := Go.L.ite_n hc32 h
        refine W_skip ?_
        refine At_block ?_
        refine At_seq ?_
        refine W_region ?_
        obtain ⟨hk35, h⟩ := Go.L.chk_some h
        refine S_v (r_ar64 rfl rfl rfl hk35) rfl ?_
        refine S_pu 1 rfl ?_
        refine S_nil ?_
        have h := Go.L.Nxt.again h hm26
        refine At_round ((s8_25 + (1 : Int)), n26) (.cons rfl (.cons rfl (.cons rfl (.cons rfl (Sub.nil _))))) ⟨hL26, h⟩ (Nat.lt_succ_self _)
    · replace h := Go.L.ite_n hc28 h
      refine W_exit ?_
      refine At_seq_exit ?_
      refine At_loop_exit ?_
      replace h := Go.L.Nxt.out h hm26
      refine At_exit ?_
      refine At_cut () (Sub.nil _) ⟨hL26, h⟩
  · rintro _ wr13 ⟨hL13, h⟩
    refine W_seqr ?_
    refine S_pu 1 rfl ?_
    refine S_seqnil ?_
    refine W_ret ?_
    obtain rfl := Option.some.inj h
    refine At_body rfl rfl ?_
    exact ⟨hL13.ext, rfl⟩

noncomputable def fmindex_Index_Bytes_k1 (l23 : List UInt8) : Option ((List UInt8)) :=
  some (l23)
noncomputable def fmindex_Index_Bytes_bl2 (a0 : ((List Int)) × (List Int) × (List Int)) : (List UInt8) × Int → Option (((List UInt8) × Int) ⊕ ((List UInt8))) := fun ⟨l40, s30_41⟩ =>
  if s30_41 < (a0.1.length : Int) then Go.L.chk (0 ≤ s30_41 ∧ s30_41 < (a0.1.length : Int)) (if a0.1.getD s30_41.toNat default = (-1 : Int) then Go.L.chk (Go.L.I64 (s30_41 + (1 : Int))) (some (Sum.inl (l40, (s30_41 + (1 : Int))))) else Go.L.chk (Go.E.Cap 1 (l40.length + ([(Go.L.u8 (a0.1.getD s30_41.toNat default))]).length)) (Go.L.chk (Go.L.I64 (s30_41 + (1 : Int))) (some (Sum.inl ((l40 ++ [(Go.L.u8 (a0.1.getD s30_41.toNat default))]), (s30_41 + (1 : Int))))))) else Option.map Sum.inr (fmindex_Index_Bytes_k1 l40)
noncomputable def fmindex_Index_Bytes_l2 (a0 : ((List Int)) × (List Int) × (List Int)) (s : (List UInt8) × Int) : Option ((List UInt8)) := Go.L.run (fmindex_Index_Bytes_bl2 a0) s
noncomputable def fmindex_Index_Bytes (a0 : ((List Int)) × (List Int) × (List Int)) : Option ((List UInt8)) :=
  Option.bind (fmindex_Index_Length (a0.1, a0.2.1, a0.2.2)) (fun x2 => Option.bind (slices_Index_int_int a0.1 (-1 : Int)) (fun x4 => (fmindex_Index_Bytes_l2 a0) ([(Go.L.u8 x2), (Go.L.u8 (x2 / 256)), (Go.L.u8 (max x4 (0 : Int))), (Go.L.u8 ((max x4 (0 : Int)) / 256))], (0 : Int))))

set_option maxRecDepth 10000 in
theorem fmindex_Index_Bytes_ok (w : World) (H : PH) (hH : Le H (hp w)) {a0 : ((List Int)) × (List Int) × (List Int)} {v0_0 : Value} {v0_1 : Value} {v0_2 : Value} (h0_0 : Vec (.int .i64) H v0_0 (a0.1)) (h0_1 : Vec (.int .i64) H v0_1 (a0.2.1)) (h0_2 : Vec (.int .i64) H v0_2 (a0.2.2)) {r : (List UInt8)} (h : fmindex_Index_Bytes a0 = some r) :
    Ok Try.prog 38 [.agg #[v0_0, v0_1, v0_2]] w (fun v w' => Ext w w' ∧ ∃ u0, v = u0 ∧ OwnH 5 .byte H w w' u0 (r)) := by
  refine Ok_enter (n := 43) [(0, .agg #[v0_0, v0_1, v0_2])] Try.func38 rfl rfl rfl rfl rfl ?_
  have hL := Lcl.start w
  refine W_seqr ?_
  refine S_box (t := 50) rfl rfl rfl hL ?_
  intro w1 b1 hL1 hle1 _
  refine S_pu 1 rfl ?_
  refine S_seqnil ?_
  refine W_seqr ?_
  refine S_v (r_loadBN 0 rfl Try.underlying50 rfl zr50 hL1 rfl) rfl ?_
  obtain ⟨x2, hb2, h⟩ := Go.L.bind_some h
  refine S_callL rfl rfl hL1 (fmindex_Index_Length_ok _ _ (gz_le hH hL1) (h0_0.mono (gz_left hH)) (h0_1.mono (gz_left hH)) (h0_2.mono (gz_left hH)) hb2) ?_
  rintro _ w3 rfl hx3 hL3 hle3
  refine S_pu 1 rfl ?_
  refine S_seqnil ?_
  refine W_seqr ?_
  refine S_v (r_field rfl Try.underlying50 rfl zr48 (by decide)) rfl ?_
  refine S_v (r_field rfl Try.underlying48 rfl zr23 (by decide)) rfl ?_
  refine S_v (r_loadB1 0 rfl Try.underlying23 rfl hL3 rfl rfl) rfl ?_
  obtain ⟨x4, hb4, h⟩ := Go.L.bind_some h
  refine S_callL rfl rfl hL3 (slices_Index_int_int_ok _ _ (gz_le hH hL3) (h0_0.mono (gz_left hH)) hb4) ?_
  rintro _ w5 rfl hx5 hL5 hle5
  refine S_v (r_max rfl rfl) rfl ?_
  refine S_pu 1 rfl ?_
  refine S_seqnil ?_
  refine W_seqr ?_
  refine S_pu 1 rfl ?_
  refine S_v (r_conv Try.underlying3 Try.underlying5 rfl (conv_64_u8 _)) rfl ?_
  refine S_pu 1 rfl ?_
  refine S_v (r_shr (c := 8) (m := 256) rfl rfl rfl (by decide)) rfl ?_
  refine S_v (r_conv Try.underlying3 Try.underlying5 rfl (conv_64_u8 _)) rfl ?_
  refine S_pu 1 rfl ?_
  refine S_v (r_conv Try.underlying3 Try.underlying5 rfl (conv_64_u8 _)) rfl ?_
  refine S_pu 1 rfl ?_
  refine S_v (r_shr (c := 8) (m := 256) rfl rfl rfl (by decide)) rfl ?_
  refine S_v (r_conv Try.underlying3 Try.underlying5 rfl (conv_64_u8 _)) rfl ?_
  refine S_litO (r := .byte) (l := [(Go.L.u8 x2), (Go.L.u8 (x2 / 256)), (Go.L.u8 (max x4 (0 : Int))), (Go.L.u8 ((max x4 (0 : Int)) / 256))]) rfl (fun _ => bsl22_4 _ _ _ _ _) rfl (show 4 ≤ 9223372036854775807 by decide) hH hL5 (.c1 rfl (.c1 rfl (.c1 rfl (.c1 rfl .nil)))) ?_
  intro v6 w6 xs6 hL6 hle6 he6
  refine S_pu 1 rfl ?_
  refine S_seqnil ?_
  refine W_cut (σ := (List UInt8) × Value × (List Value)) (fun (⟨l23, vl23, xsl23⟩ : (List UInt8) × Value × (List Value)) => [(5, vl23)]) (fun (⟨l23, vl23, xsl23⟩ : (List UInt8) × Value × (List Value)) wr => Lcl w [.row (vl23) 5 1 (l23).length (xsl23), .box b1 [v0_0, v0_1, v0_2] 50] wr ∧ Elems .byte (gz H w wr [.row (vl23) 5 1 (l23).length (xsl23), .box b1 [v0_0, v0_1, v0_2] 50]) (l23) (xsl23) ∧ fmindex_Index_Bytes_k1 l23 = some r) ?_ ?_
  · refine W_seqr ?_
    refine S_v (r_field rfl Try.underlying50 rfl zr48 (by decide)) rfl ?_
    refine S_v (r_field rfl Try.underlying48 rfl zr23 (by decide)) rfl ?_
    refine S_v (r_loadB1 1 rfl Try.underlying23 rfl hL6 rfl rfl) rfl ?_
    refine S_v (r_len rfl Try.underlying23 h0_0) rfl ?_
    refine S_pu 1 rfl ?_
    refine S_seqnil ?_
    refine W_block ?_
    obtain ⟨n42, h⟩ := Go.L.run_some h
    refine W_loop (σ := (List UInt8) × Int × Value × (List Value) × Nat) (fun (⟨l40, s30_41, vl40, xsl40, n⟩ : (List UInt8) × Int × Value × (List Value) × Nat) => [(5, vl40), (28, v0_0), (29, .int .i64 (a0.1.length : Int)), (30, .int .i64 s30_41)]) (fun (⟨l40, s30_41, vl40, xsl40, n⟩ : (List UInt8) × Int × Value × (List Value) × Nat) wr => Lcl w [.row (vl40) 5 1 (l40).length (xsl40), .box b1 [v0_0, v0_1, v0_2] 50] wr ∧ Elems .byte (gz H w wr [.row (vl40) 5 1 (l40).length (xsl40), .box b1 [v0_0, v0_1, v0_2] 50]) (l40) (xsl40) ∧ Go.L.itr (fmindex_Index_Bytes_bl2 a0) n (l40, s30_41) = some r) (fun (⟨l40, s30_41, vl40, xsl40, n⟩ : (List UInt8) × Int × Value × (List Value) × Nat) => n) ([(Go.L.u8 x2), (Go.L.u8 (x2 / 256)), (Go.L.u8 (max x4 (0 : Int))), (Go.L.u8 ((max x4 (0 : Int)) / 256))], (0 : Int), v6, xs6, n42) (.cons rfl (.cons rfl (.cons rfl (.cons rfl (Sub.nil _))))) ⟨hL6, he6, h⟩ ?_
    rintro ⟨l40, s30_41, vl40, xsl40, nn42⟩ wr42 ⟨hL42, hel40, h⟩
    obtain ⟨n42, e42, rfl, h, hm42⟩ := Go.L.itr_some h
    refine W_seqr ?_
    refine S_pu 1 rfl ?_
    refine S_seqnil ?_
    refine W_seq ?_
    refine W_if rfl (fun hc44 => ?_) (fun hc44 => ?_)
    · replace h := Go.L.ite_p hc44 h
      refine W_skip ?_
      refine At_seq ?_
      refine W_seq ?_
      refine W_block ?_
      refine W_seqr ?_
      obtain ⟨hk47, h⟩ := Go.L.chk_some h
      refine S_index rfl rfl Try.underlying23 zr3 h0_0 s30_41.toNat (Int.toNat_of_nonneg hk47.1).symm (idx_lt hk47) rfl ?_
      rintro p46 _ rfl hp46
      refine S_v (r_load1 rfl Try.underlying3 rfl hp46 (hH.trans hL42.arg)) rfl ?_
      refine S_pu 1 rfl ?_
      refine S_seqnil ?_
      refine W_seqr ?_
      refine S_pu 2 rfl ?_
      refine S_seqnil ?_
      refine W_ifn rfl (fun hc48 => ?_) (fun hc48 => ?_)
      · replace h := Go.L.ite_n hc48 h
        refine W_region ?_
        refine S_pu 2 rfl ?_
        refine S_v (r_conv Try.underlying3 Try.underlying5 rfl (conv_64_u8 _)) rfl ?_
        refine S_litE (r := .byte) (l := [(Go.L.u8 (a0.1.getD s30_41.toNat default))]) rfl (fun _ => bsl22_1 _ _) rfl (show 1 ≤ 9223372036854775807 by decide) hH hL42 (.c1 rfl .nil) ?_
        intro v50 w50 hx50 hL50 hle50 hv50
        replace hel40 := hel40.mono (gz_mono hH hle50)
        obtain ⟨hk52, h⟩ := Go.L.chk_some h
        refine S_appE (r := .byte) (l := l40) (m := [(Go.L.u8 (a0.1.getD s30_41.toNat default))]) 0 rfl rfl Try.underlying22 zr5 rfl (by decide) rfl hH hL50 rfl hel40 hv50 hk52 ?_
        intro v51 w51 xs51 hL51 hle51 he51
        replace hv50 := hv50.mono (gz_mono hH hle51)
        refine S_pu 1 rfl ?_
        refine S_nil ?_
        refine At_block ?_
        refine At_seq ?_
        refine W_region ?_
        obtain ⟨hk53, h⟩ := Go.L.chk_some h
        refine S_v (r_ar64 rfl rfl rfl hk53) rfl ?_
        refine S_pu 1 rfl ?_
        refine S_nil ?_
        have h := Go.L.Nxt.again h hm42
        refine At_round ((l40 ++ [(Go.L.u8 (a0.1.getD s30_41.toNat default))]), (s30_41 + (1 : Int)), v51, xs51, n42) (.cons rfl (.cons rfl (.cons rfl (.cons rfl (Sub.nil _))))) ⟨hL51, he51, h⟩ (Nat.lt_succ_self _)
      · replace h := Go.L.ite_p hc48 h
        refine W_skip ?_
        refine At_block ?_
        refine At_seq ?_
        refine W_region ?_
        obtain ⟨hk55, h⟩ := Go.L.chk_some h
        refine S_v (r_ar64 rfl rfl rfl hk55) rfl ?_
        refine S_pu 1 rfl ?_
        refine S_nil ?_
        have h := Go.L.Nxt.again h hm42
        refine At_round (l40, (s30_41 + (1 : Int)), vl40, xsl40, n42) (.cons rfl (.cons rfl (.cons rfl (.cons rfl (Sub.nil _))))) ⟨hL42, hel40, h⟩ (Nat.lt_succ_self _)
    · replace h := Go.L.ite_n hc44 h
      refine W_exit ?_
      refine At_seq_exit ?_
      refine At_loop_exit ?_
      replace h := Go.L.Nxt.out h hm42
      refine At_exit ?_
      refine At_cut (l40, vl40, xsl40) (.cons rfl (Sub.nil _)) ⟨hL42, hel40, h⟩
  · rintro ⟨l23, vl23, xsl23⟩ wr24 ⟨hL24, hel23, h⟩
    refine W_seqr ?_
    refine S_pu 2 rfl ?_
    refine S_seqnil ?_
    refine W_ret ?_
    obtain rfl := Option.some.inj h
    refine At_body rfl rfl ?_
    exact ⟨hL24.ext, _, rfl, (hL24.ownH hH (i := 0) rfl hel23)⟩

noncomputable def fmindex_fromSymbols_k4 (s24_169 : Int) (l192 : List Int) (s6_193 : Int) : Option (((List Int) × Int × Int) ⊕ ((((List Int)) × (List Int) × (List Int)) × Bool)) :=
  Go.L.chk (Go.L.I64 (s24_169 + (1 : Int))) (some (Sum.inl (l192, s6_193, (s24_169 + (1 : Int)))))
noncomputable def fmindex_fromSymbols_bl5 (a0 : List Int) (s24_169 : Int) : (List Int) × Int × Int → Option (((List Int) × Int × Int) ⊕ (((List Int) × Int × Int) ⊕ ((((List Int)) × (List Int) × (List Int)) × Bool))) := fun ⟨l211, s6_212, s29_213⟩ =>
  if s29_213 < (a0.length : Int) then Go.L.chk (0 ≤ s29_213 ∧ s29_213 < (a0.length : Int)) (if a0.getD s29_213.toNat default = s24_169 then Go.L.chk (0 ≤ s29_213 ∧ s29_213 < (l211.length : Int)) (Go.L.chk (Go.L.I64 (s6_212 + (1 : Int))) (Go.L.chk (Go.L.I64 (s29_213 + (1 : Int))) (some (Sum.inl ((l211.set s29_213.toNat s6_212), (s6_212 + (1 : Int)), (s29_213 + (1 : Int))))))) else Go.L.chk (Go.L.I64 (s29_213 + (1 : Int))) (some (Sum.inl (l211, s6_212, (s29_213 + (1 : Int)))))) else Option.map Sum.inr ((fmindex_fromSymbols_k4 s24_169) l211 s6_212)
noncomputable def fmindex_fromSymbols_l5 (a0 : List Int) (s24_169 : Int) (s : (List Int) × Int × Int) : Option (((List Int) × Int × Int) ⊕ ((((List Int)) × (List Int) × (List Int)) × Bool)) := Go.L.run (fmindex_fromSymbols_bl5 a0 s24_169) s
noncomputable def fmindex_fromSymbols_k8 (l139 : List Int) (l253 : List Int) (s10_254 : Int) (c305 : List Int) (s3_306 : Bool) : Option ((((List Int)) × (List Int) × (List Int)) × Bool) :=
  some ((c305, l139, (l253.set s10_254.toNat (0 : Int))), s3_306)
noncomputable def fmindex_fromSymbols_k6 (a0 : List Int) (c44 : List Int) (l139 : List Int) (l253 : List Int) (s10_254 : Int) : Option ((((List Int)) × (List Int) × (List Int)) × Bool) :=
  Go.L.chk (0 ≤ s10_254 ∧ s10_254 < (l253.length : Int)) (Go.L.chk (0 ≤ s10_254 ∧ s10_254 < (a0.length : Int)) ((fmindex_fromSymbols_k8 l139 l253 s10_254) c44 (decide (a0.getD s10_254.toNat default = (-1 : Int)))))
noncomputable def fmindex_fromSymbols_bl7 (a0 : List Int) (c44 : List Int) (l139 : List Int) : (List Int) × Int × Int → Option (((List Int) × Int × Int) ⊕ ((((List Int)) × (List Int) × (List Int)) × Bool)) := fun ⟨l273, s10_274, s11_275⟩ =>
  if (0 : Int) < s11_275 then Go.L.chk (0 ≤ s10_274 ∧ s10_274 < (l273.length : Int)) (Go.L.chk (0 ≤ s10_274 ∧ s10_274 < (a0.length : Int)) (if a0.getD s10_274.toNat default = (-1 : Int) then Option.map Sum.inr (some (([], [], []), false)) else Go.L.chk (0 ≤ s10_274 ∧ s10_274 < (l139.length : Int)) (Go.L.chk (Go.L.I64 (s11_275 - (1 : Int))) (some (Sum.inl ((l273.set s10_274.toNat s11_275), l139.getD s10_274.toNat default, (s11_275 - (1 : Int)))))))) else Option.map Sum.inr ((fmindex_fromSymbols_k6 a0 c44 l139) l273 s10_274)
noncomputable def fmindex_fromSymbols_l7 (a0 : List Int) (c44 : List Int) (l139 : List Int) (s : (List Int) × Int × Int) : Option ((((List Int)) × (List Int) × (List Int)) × Bool) := Go.L.run (fmindex_fromSymbols_bl7 a0 c44 l139) s
noncomputable def fmindex_fromSymbols_k2 (a0 : List Int) (c44 : List Int) (l48 : List Int) (l139 : List Int) : Option ((((List Int)) × (List Int) × (List Int)) × Bool) :=
  (fmindex_fromSymbols_l7 a0 c44 l139) (l48, (0 : Int), ((a0.length : Int) - (1 : Int)))
noncomputable def fmindex_fromSymbols_bl3 (a0 : List Int) (c44 : List Int) (l48 : List Int) : (List Int) × Int × Int → Option (((List Int) × Int × Int) ⊕ ((((List Int)) × (List Int) × (List Int)) × Bool)) := fun ⟨l167, s6_168, s24_169⟩ =>
  if s24_169 < (256 : Int) then (fmindex_fromSymbols_l5 a0 s24_169) (l167, s6_168, (0 : Int)) else Option.map Sum.inr ((fmindex_fromSymbols_k2 a0 c44 l48) l167)
noncomputable def fmindex_fromSymbols_l3 (a0 : List Int) (c44 : List Int) (l48 : List Int) (s : (List Int) × Int × Int) : Option ((((List Int)) × (List Int) × (List Int)) × Bool) := Go.L.run (fmindex_fromSymbols_bl3 a0 c44 l48) s
noncomputable def fmindex_fromSymbols_k1 (a0 : List Int) (c44 : List Int) (l46 : List Int) (l48 : List Int) : Option ((((List Int)) × (List Int) × (List Int)) × Bool) :=
  (fmindex_fromSymbols_l3 a0 c44 l48) (l46, (1 : Int), (0 : Int))
noncomputable def fmindex_fromSymbols (a0 : List Int) : Option ((((List Int)) × (List Int) × (List Int)) × Bool) :=
  Go.L.chk (Go.L.I64 ((a0.length : Int) - (1 : Int))) (Go.L.chk (Go.L.I64 (((a0.length : Int) - (1 : Int)) + (1 : Int))) (Go.L.chk (Go.L.I64 (((a0.length : Int) - (1 : Int)) + (1 : Int))) (Go.L.chk (0 ≤ (((a0.length : Int) - (1 : Int)) + (1 : Int)) ∧ ((8 : Nat) : Int) * (((a0.length : Int) - (1 : Int)) + (1 : Int)) ≤ 281474976710656 ∧ (((a0.length : Int) - (1 : Int)) + (1 : Int)) ≤ 9223372036854775807) (Go.L.chk (0 ≤ (((a0.length : Int) - (1 : Int)) + (1 : Int)) ∧ ((8 : Nat) : Int) * (((a0.length : Int) - (1 : Int)) + (1 : Int)) ≤ 281474976710656 ∧ (((a0.length : Int) - (1 : Int)) + (1 : Int)) ≤ 9223372036854775807) ((fmindex_fromSymbols_k1 a0) a0 (List.replicate (((a0.length : Int) - (1 : Int)) + (1 : Int)).toNat (0 : Int)) (List.replicate (((a0.length : Int) - (1 : Int)) + (1 : Int)).toNat (0 : Int)))))))

set_option maxRecDepth 10000 in
theorem fmindex_fromSymbols_ok (w : World) (H : PH) (hH : Le H (hp w)) {a0 : List Int} {v0_0 : Value} (h0_0 : Vec (.int .i64) H v0_0 (a0)) {r : (((List Int)) × (List Int) × (List Int)) × Bool} (h : fmindex_fromSymbols a0 = some r) :
    Ok Try.prog 50 [v0_0] w (fun v w' => Ext w w' ∧ ∃ u0 u1 u2, v = .tuple #[.agg #[u0, u1, u2], .bool r.2] ∧ Vec (.int .i64) (un H (nw w w')) u0 (r.1.1) ∧ OwnH 3 (.int .i64) H w w' u1 (r.1.2.1) ∧ OwnH 3 (.int .i64) H w w' u2 (r.1.2.2)) := by
  refine Ok_enter (n := 77) [(0, v0_0)] Try.func50 rfl rfl rfl rfl rfl ?_
  have hL := Lcl.start w
  refine W_seqr ?_
  refine S_alloc zr50 rfl rfl hL ?_
  intro w1 b1 hL1 hle1 _
  refine S_pu 1 rfl ?_
  refine S_seqnil ?_
  refine W_seqr ?_
  refine S_pu 1 rfl ?_
  refine S_v (r_len rfl Try.underlying23 h0_0) rfl ?_
  obtain ⟨hk2, h⟩ := Go.L.chk_some h
  refine S_v (r_ar64 rfl rfl rfl hk2) rfl ?_
  refine S_pu 1 rfl ?_
  refine S_seqnil ?_
  refine W_cut (σ := (List Int) × (List Int) × (List Int) × Nat × Value × Value × (List Value) × Value × (List Value)) (fun (⟨c44, l46, l48, bjb43, vc44, vl46, xsl46, vl48, xsl48⟩ : (List Int) × (List Int) × (List Int) × Nat × Value × Value × (List Value) × Value × (List Value)) => [(0, v0_0), (2, .pointer (some ⟨b1, 0, none⟩)), (4, .int .i64 ((a0.length : Int) - (1 : Int))), (5, .pointer (some ⟨bjb43, 0, none⟩))]) (fun (⟨c44, l46, l48, bjb43, vc44, vl46, xsl46, vl48, xsl48⟩ : (List Int) × (List Int) × (List Int) × Nat × Value × Value × (List Value) × Value × (List Value)) wr => Lcl w [.box bjb43 [vc44, vl46, vl48] 50, .row (vl48) 3 1 (l48).length (xsl48), .row (vl46) 3 1 (l46).length (xsl46), .box b1 [.slice none 0 0, .slice none 0 0, .slice none 0 0] 50] wr ∧ Vec (.int .i64) (gz H w wr [.box bjb43 [vc44, vl46, vl48] 50, .row (vl48) 3 1 (l48).length (xsl48), .row (vl46) 3 1 (l46).length (xsl46), .box b1 [.slice none 0 0, .slice none 0 0, .slice none 0 0] 50]) (vc44) (c44) ∧ Elems (.int .i64) (gz H w wr [.box bjb43 [vc44, vl46, vl48] 50, .row (vl48) 3 1 (l48).length (xsl48), .row (vl46) 3 1 (l46).length (xsl46), .box b1 [.slice none 0 0, .slice none 0 0, .slice none 0 0] 50]) (l48) (xsl48) ∧ Elems (.int .i64) (gz H w wr [.box bjb43 [vc44, vl46, vl48] 50, .row (vl48) 3 1 (l48).length (xsl48), .row (vl46) 3 1 (l46).length (xsl46), .box b1 [.slice none 0 0, .slice none 0 0, .slice none 0 0] 50]) (l46) (xsl46) ∧ (fmindex_fromSymbols_k1 a0) c44 l46 l48 = some r) ?_ ?_
  · refine W_regd (.q 0 (.q 1 (.q 2 (.q 3 (.q 5 (.q 6 (.h3 4 (.h2 7 (.q 8 (.h 9 (.tail 10))) 9 (.h 7 (.q 8 (.tail 10)))) 7 (.h2 4 (.q 8 (.h 9 (.tail 10))) 9 (.h 4 (.q 8 (.tail 10)))) 9 (.h2 4 (.h 7 (.q 8 (.tail 10))) 7 (.h 4 (.q 8 (.tail 10))))))))))) mixed (by kernel_rfl) (fun w51 hx51 => ?_)
    have hL52 := hL1.call hx51
    refine D_pu 1 rfl ?_
    refine D_v (r_build rfl (fun _ => bld48_0 _ h0_0.one _)) rfl rfl ?_
    refine D_pu 1 rfl ?_
    obtain ⟨hk53, h⟩ := Go.L.chk_some h
    refine D_v (r_ar64 rfl rfl rfl hk53) rfl rfl ?_
    refine D_pu 1 rfl ?_
    obtain ⟨hk54, h⟩ := Go.L.chk_some h
    refine D_v (r_ar64 rfl rfl rfl hk54) rfl rfl ?_
    refine D_h3 ?_ ?_ ?_
    · obtain ⟨hk56, h⟩ := Go.L.chk_some h
      refine D_makeE (r := (.int .i64)) (z := (0 : Int)) rfl rfl rfl rfl Try.underlying23 zr3 rfl (fun _ => rfl) rfl hH hL52 hk56 ?_
      intro v55 w55 xs55 hL55 hle55 he55
      refine D_h2 ?_ ?_
      · obtain ⟨hk58, h⟩ := Go.L.chk_some h
        refine D_makeE (r := (.int .i64)) (z := (0 : Int)) rfl rfl rfl rfl Try.underlying23 zr3 rfl (fun _ => rfl) rfl hH hL55 hk58 ?_
        intro v57 w57 xs57 hL57 hle57 he57
        replace he55 := he55.mono (gz_mono hH hle57)
        refine D_v (r_build rfl (fun _ => bld50_0_1_2 _ _ (row_one (hL57.at (i := 1) rfl)) _ (row_one (hL57.at (i := 0) rfl)) _)) rfl rfl ?_
        refine D_alloc rfl zr50 rfl rfl hL57 ?_
        intro w59 b59 hL59 hle59
        replace he55 := he55.mono (gz_mono hH hle59)
        replace he57 := he57.mono (gz_mono hH hle59)
        refine D_tail (fun w60 hx60 => ?_)
        have hL61 := hL59.call hx60
        have hle61 := fz_ext hL59 hx60
        replace he55 := he55.mono (gz_mono hH hle61)
        replace he57 := he57.mono (gz_mono hH hle61)
        refine S_storeBN 0 rfl rfl rfl zr50 hL61 rfl rfl (onc h0_0.one (onc (row_one (hL61.at (i := 2) rfl)) (onc (row_one (hL61.at (i := 1) rfl)) on0))) ?_
        intro w62 hL62 hle62
        replace he55 := he55.mono (gz_mono hH hle62)
        replace he57 := he57.mono (gz_mono hH hle62)
        refine S_nil ?_
        refine At_cut (a0, (List.replicate (((a0.length : Int) - (1 : Int)) + (1 : Int)).toNat (0 : Int)), (List.replicate (((a0.length : Int) - (1 : Int)) + (1 : Int)).toNat (0 : Int)), b59, v0_0, v55, xs55, v57, xs57) (.cons rfl (.cons rfl (.cons rfl (.cons rfl (Sub.nil _))))) ⟨hL62, (h0_0.mono (gz_left hH)), he57, he55, h⟩
      · obtain ⟨hk58, h⟩ := Go.L.chk_some h
        refine D_alloc rfl zr50 rfl rfl hL55 ?_
        intro w63 b63 hL63 hle63
        replace he55 := he55.mono (gz_mono hH hle63)
        refine D_makeE (r := (.int .i64)) (z := (0 : Int)) rfl rfl rfl rfl Try.underlying23 zr3 rfl (fun _ => rfl) rfl hH hL63 hk58 ?_
        intro v64 w64 xs64 hL64 hle64 he64
        replace he55 := he55.mono (gz_mono hH hle64)
        refine D_v (r_build rfl (fun _ => bld50_0_1_2 _ _ (row_one (hL64.at (i := 2) rfl)) _ (row_one (hL64.at (i := 0) rfl)) _)) rfl rfl ?_
        refine D_tail (fun w65 hx65 => ?_)
        have hL66 := hL64.call hx65
        have hle66 := fz_ext hL64 hx65
        replace he55 := he55.mono (gz_mono hH hle66)
        replace he64 := he64.mono (gz_mono hH hle66)
        refine S_storeBN 1 rfl rfl rfl zr50 hL66 rfl rfl (onc h0_0.one (onc (row_one (hL66.at (i := 2) rfl)) (onc (row_one (hL66.at (i := 0) rfl)) on0))) ?_
        intro w67 hL67 hle67
        replace he55 := he55.mono (gz_mono hH hle67)
        replace he64 := he64.mono (gz_mono hH hle67)
        refine S_nil ?_
        have hL68 := hL67.pick (i := 3) rfl
        replace he55 := he55.mono (gz_mono hH (fz_pick (i := 3) rfl))
        replace he64 := he64.mono (gz_mono hH (fz_pick (i := 3) rfl))
        have hL69 := hL68.pick (i := 3) rfl
        replace he55 := he55.mono (gz_mono hH (fz_pick (i := 3) rfl))
        replace he64 := he64.mono (gz_mono hH (fz_pick (i := 3) rfl))
        have hL70 := hL69.pick (i := 2) rfl
        replace he55 := he55.mono (gz_mono hH (fz_pick (i := 2) rfl))
        replace he64 := he64.mono (gz_mono hH (fz_pick (i := 2) rfl))
        have hL71 := hL70.pick (i := 3) rfl
        replace he55 := he55.mono (gz_mono hH (fz_pick (i := 3) rfl))
        replace he64 := he64.mono (gz_mono hH (fz_pick (i := 3) rfl))
        refine At_cut (a0, (List.replicate (((a0.length : Int) - (1 : Int)) + (1 : Int)).toNat (0 : Int)), (List.replicate (((a0.length : Int) - (1 : Int)) + (1 : Int)).toNat (0 : Int)), b63, v0_0, v55, xs55, v64, xs64) (.cons rfl (.cons rfl (.cons rfl (.cons rfl (Sub.nil _))))) ⟨hL71, (h0_0.mono (gz_left hH)), he64, he55, h⟩
    · obtain ⟨hk56, h⟩ := Go.L.chk_some h
      obtain ⟨hk58, h⟩ := Go.L.chk_some h
      refine D_makeE (r := (.int .i64)) (z := (0 : Int)) rfl rfl rfl rfl Try.underlying23 zr3 rfl (fun _ => rfl) rfl hH hL52 hk58 ?_
      intro v72 w72 xs72 hL72 hle72 he72
      refine D_h2 ?_ ?_
      · refine D_makeE (r := (.int .i64)) (z := (0 : Int)) rfl rfl rfl rfl Try.underlying23 zr3 rfl (fun _ => rfl) rfl hH hL72 hk56 ?_
        intro v73 w73 xs73 hL73 hle73 he73
        replace he72 := he72.mono (gz_mono hH hle73)
        refine D_v (r_build rfl (fun _ => bld50_0_1_2 _ _ (row_one (hL73.at (i := 0) rfl)) _ (row_one (hL73.at (i := 1) rfl)) _)) rfl rfl ?_
        refine D_alloc rfl zr50 rfl rfl hL73 ?_
        intro w74 b74 hL74 hle74
        replace he72 := he72.mono (gz_mono hH hle74)
        replace he73 := he73.mono (gz_mono hH hle74)
        refine D_tail (fun w75 hx75 => ?_)
        have hL76 := hL74.call hx75
        have hle76 := fz_ext hL74 hx75
        replace he72 := he72.mono (gz_mono hH hle76)
        replace he73 := he73.mono (gz_mono hH hle76)
        refine S_storeBN 0 rfl rfl rfl zr50 hL76 rfl rfl (onc h0_0.one (onc (row_one (hL76.at (i := 1) rfl)) (onc (row_one (hL76.at (i := 2) rfl)) on0))) ?_
        intro w77 hL77 hle77
        replace he72 := he72.mono (gz_mono hH hle77)
        replace he73 := he73.mono (gz_mono hH hle77)
        refine S_nil ?_
        have hL78 := hL77.pick (i := 3) rfl
        replace he72 := he72.mono (gz_mono hH (fz_pick (i := 3) rfl))
        replace he73 := he73.mono (gz_mono hH (fz_pick (i := 3) rfl))
        have hL79 := hL78.pick (i := 2) rfl
        replace he72 := he72.mono (gz_mono hH (fz_pick (i := 2) rfl))
        replace he73 := he73.mono (gz_mono hH (fz_pick (i := 2) rfl))
        have hL80 := hL79.pick (i := 3) rfl
        replace he72 := he72.mono (gz_mono hH (fz_pick (i := 3) rfl))
        replace he73 := he73.mono (gz_mono hH (fz_pick (i := 3) rfl))
        have hL81 := hL80.pick (i := 3) rfl
        replace he72 := he72.mono (gz_mono hH (fz_pick (i := 3) rfl))
        replace he73 := he73.mono (gz_mono hH (fz_pick (i := 3) rfl))
        refine At_cut (a0, (List.replicate (((a0.length : Int) - (1 : Int)) + (1 : Int)).toNat (0 : Int)), (List.replicate (((a0.length : Int) - (1 : Int)) + (1 : Int)).toNat (0 : Int)), b74, v0_0, v73, xs73, v72, xs72) (.cons rfl (.cons rfl (.cons rfl (.cons rfl (Sub.nil _))))) ⟨hL81, (h0_0.mono (gz_left hH)), he72, he73, h⟩
      · refine D_alloc rfl zr50 rfl rfl hL72 ?_
        intro w82 b82 hL82 hle82
        replace he72 := he72.mono (gz_mono hH hle82)
        refine D_makeE (r := (.int .i64)) (z := (0 : Int)) rfl rfl rfl rfl Try.underlying23 zr3 rfl (fun _ => rfl) rfl hH hL82 hk56 ?_
        intro v83 w83 xs83 hL83 hle83 he83
        replace he72 := he72.mono (gz_mono hH hle83)
        refine D_v (r_build rfl (fun _ => bld50_0_1_2 _ _ (row_one (hL83.at (i := 0) rfl)) _ (row_one (hL83.at (i := 2) rfl)) _)) rfl rfl ?_
        refine D_tail (fun w84 hx84 => ?_)
        have hL85 := hL83.call hx84
        have hle85 := fz_ext hL83 hx84
        replace he72 := he72.mono (gz_mono hH hle85)
        replace he83 := he83.mono (gz_mono hH hle85)
        refine S_storeBN 1 rfl rfl rfl zr50 hL85 rfl rfl (onc h0_0.one (onc (row_one (hL85.at (i := 0) rfl)) (onc (row_one (hL85.at (i := 2) rfl)) on0))) ?_
        intro w86 hL86 hle86
        replace he72 := he72.mono (gz_mono hH hle86)
        replace he83 := he83.mono (gz_mono hH hle86)
        refine S_nil ?_
        have hL87 := hL86.pick (i := 3) rfl
        replace he72 := he72.mono (gz_mono hH (fz_pick (i := 3) rfl))
        replace he83 := he83.mono (gz_mono hH (fz_pick (i := 3) rfl))
        have hL88 := hL87.pick (i := 1) rfl
        replace he72 := he72.mono (gz_mono hH (fz_pick (i := 1) rfl))
        replace he83 := he83.mono (gz_mono hH (fz_pick (i := 1) rfl))
        have hL89 := hL88.pick (i := 3) rfl
        replace he72 := he72.mono (gz_mono hH (fz_pick (i := 3) rfl))
        replace he83 := he83.mono (gz_mono hH (fz_pick (i := 3) rfl))
        have hL90 := hL89.pick (i := 3) rfl
        replace he72 := he72.mono (gz_mono hH (fz_pick (i := 3) rfl))
        replace he83 := he83.mono (gz_mono hH (fz_pick (i := 3) rfl))
        refine At_cut (a0, (List.replicate (((a0.length : Int) - (1 : Int)) + (1 : Int)).toNat (0 : Int)), (List.replicate (((a0.length : Int) - (1 : Int)) + (1 : Int)).toNat (0 : Int)), b82, v0_0, v83, xs83, v72, xs72) (.cons rfl (.cons rfl (.cons rfl (.cons rfl (Sub.nil _))))) ⟨hL90, (h0_0.mono (gz_left hH)), he72, he83, h⟩
    · obtain ⟨hk56, h⟩ := Go.L.chk_some h
      obtain ⟨hk58, h⟩ := Go.L.chk_some h
      refine D_alloc rfl zr50 rfl rfl hL52 ?_
      intro w91 b91 hL91 hle91
      refine D_h2 ?_ ?_
      · refine D_makeE (r := (.int .i64)) (z := (0 : Int)) rfl rfl rfl rfl Try.underlying23 zr3 rfl (fun _ => rfl) rfl hH hL91 hk56 ?_
        intro v92 w92 xs92 hL92 hle92 he92
        refine D_makeE (r := (.int .i64)) (z := (0 : Int)) rfl rfl rfl rfl Try.underlying23 zr3 rfl (fun _ => rfl) rfl hH hL92 hk58 ?_
        intro v93 w93 xs93 hL93 hle93 he93
        replace he92 := he92.mono (gz_mono hH hle93)
        refine D_v (r_build rfl (fun _ => bld50_0_1_2 _ _ (row_one (hL93.at (i := 1) rfl)) _ (row_one (hL93.at (i := 0) rfl)) _)) rfl rfl ?_
        refine D_tail (fun w94 hx94 => ?_)
        have hL95 := hL93.call hx94
        have hle95 := fz_ext hL93 hx94
        replace he92 := he92.mono (gz_mono hH hle95)
        replace he93 := he93.mono (gz_mono hH hle95)
        refine S_storeBN 2 rfl rfl rfl zr50 hL95 rfl rfl (onc h0_0.one (onc (row_one (hL95.at (i := 1) rfl)) (onc (row_one (hL95.at (i := 0) rfl)) on0))) ?_
        intro w96 hL96 hle96
        replace he92 := he92.mono (gz_mono hH hle96)
        replace he93 := he93.mono (gz_mono hH hle96)
        refine S_nil ?_
        have hL97 := hL96.pick (i := 3) rfl
        replace he92 := he92.mono (gz_mono hH (fz_pick (i := 3) rfl))
        replace he93 := he93.mono (gz_mono hH (fz_pick (i := 3) rfl))
        have hL98 := hL97.pick (i := 2) rfl
        replace he92 := he92.mono (gz_mono hH (fz_pick (i := 2) rfl))
        replace he93 := he93.mono (gz_mono hH (fz_pick (i := 2) rfl))
        have hL99 := hL98.pick (i := 2) rfl
        replace he92 := he92.mono (gz_mono hH (fz_pick (i := 2) rfl))
        replace he93 := he93.mono (gz_mono hH (fz_pick (i := 2) rfl))
        have hL100 := hL99.pick (i := 3) rfl
        replace he92 := he92.mono (gz_mono hH (fz_pick (i := 3) rfl))
        replace he93 := he93.mono (gz_mono hH (fz_pick (i := 3) rfl))
        refine At_cut (a0, (List.replicate (((a0.length : Int) - (1 : Int)) + (1 : Int)).toNat (0 : Int)), (List.replicate (((a0.length : Int) - (1 : Int)) + (1 : Int)).toNat (0 : Int)), b91, v0_0, v92, xs92, v93, xs93) (.cons rfl (.cons rfl (.cons rfl (.cons rfl (Sub.nil _))))) ⟨hL100, (h0_0.mono (gz_left hH)), he93, he92, h⟩
      · refine D_makeE (r := (.int .i64)) (z := (0 : Int)) rfl rfl rfl rfl Try.underlying23 zr3 rfl (fun _ => rfl) rfl hH hL91 hk58 ?_
        intro v101 w101 xs101 hL101 hle101 he101
        refine D_makeE (r := (.int .i64)) (z := (0 : Int)) rfl rfl rfl rfl Try.underlying23 zr3 rfl (fun _ => rfl) rfl hH hL101 hk56 ?_
        intro v102 w102 xs102 hL102 hle102 he102
        replace he101 := he101.mono (gz_mono hH hle102)
        refine D_v (r_build rfl (fun _ => bld50_0_1_2 _ _ (row_one (hL102.at (i := 0) rfl)) _ (row_one (hL102.at (i := 1) rfl)) _)) rfl rfl ?_
        refine D_tail (fun w103 hx103 => ?_)
        have hL104 := hL102.call hx103
        have hle104 := fz_ext hL102 hx103
        replace he101 := he101.mono (gz_mono hH hle104)
        replace he102 := he102.mono (gz_mono hH hle104)
        refine S_storeBN 2 rfl rfl rfl zr50 hL104 rfl rfl (onc h0_0.one (onc (row_one (hL104.at (i := 0) rfl)) (onc (row_one (hL104.at (i := 1) rfl)) on0))) ?_
        intro w105 hL105 hle105
        replace he101 := he101.mono (gz_mono hH hle105)
        replace he102 := he102.mono (gz_mono hH hle105)
        refine S_nil ?_
        have hL106 := hL105.pick (i := 3) rfl
        replace he101 := he101.mono (gz_mono hH (fz_pick (i := 3) rfl))
        replace he102 := he102.mono (gz_mono hH (fz_pick (i := 3) rfl))
        have hL107 := hL106.pick (i := 1) rfl
        replace he101 := he101.mono (gz_mono hH (fz_pick (i := 1) rfl))
        replace he102 := he102.mono (gz_mono hH (fz_pick (i := 1) rfl))
        have hL108 := hL107.pick (i := 2) rfl
        replace he101 := he101.mono (gz_mono hH (fz_pick (i := 2) rfl))
        replace he102 := he102.mono (gz_mono hH (fz_pick (i := 2) rfl))
        have hL109 := hL108.pick (i := 3) rfl
        replace he101 := he101.mono (gz_mono hH (fz_pick (i := 3) rfl))
        replace he102 := he102.mono (gz_mono hH (fz_pick (i := 3) rfl))
        refine At_cut (a0, (List.replicate (((a0.length : Int) - (1 : Int)) + (1 : Int)).toNat (0 : Int)), (List.replicate (((a0.length : Int) - (1 : Int)) + (1 : Int)).toNat (0 : Int)), b91, v0_0, v102, xs102, v101, xs101) (.cons rfl (.cons rfl (.cons rfl (.cons rfl (Sub.nil _))))) ⟨hL109, (h0_0.mono (gz_left hH)), he101, he102, h⟩
  · rintro ⟨c44, l46, l48, bjb43, vc44, vl46, xsl46, vl48, xsl48⟩ wr49 ⟨hL49, hfc44, hel48, hel46, h⟩
    refine W_seqr ?_
    refine S_pu 1 rfl ?_
    refine S_seqnil ?_
    refine W_cut (σ := (List Int) × (List Value)) (fun (⟨l139, xsl139⟩ : (List Int) × (List Value)) => [(0, v0_0), (2, .pointer (some ⟨b1, 0, none⟩)), (4, .int .i64 ((a0.length : Int) - (1 : Int))), (5, .pointer (some ⟨bjb43, 0, none⟩))]) (fun (⟨l139, xsl139⟩ : (List Int) × (List Value)) wr => Lcl w [.box bjb43 [vc44, vl46, vl48] 50, .row (vl48) 3 1 (l48).length (xsl48), .row (vl46) 3 1 (l139).length (xsl139), .box b1 [.slice none 0 0, .slice none 0 0, .slice none 0 0] 50] wr ∧ Vec (.int .i64) (gz H w wr [.box bjb43 [vc44, vl46, vl48] 50, .row (vl48) 3 1 (l48).length (xsl48), .row (vl46) 3 1 (l139).length (xsl139), .box b1 [.slice none 0 0, .slice none 0 0, .slice none 0 0] 50]) (vc44) (c44) ∧ Elems (.int .i64) (gz H w wr [.box bjb43 [vc44, vl46, vl48] 50, .row (vl48) 3 1 (l48).length (xsl48), .row (vl46) 3 1 (l139).length (xsl139), .box b1 [.slice none 0 0, .slice none 0 0, .slice none 0 0] 50]) (l48) (xsl48) ∧ Elems (.int .i64) (gz H w wr [.box bjb43 [vc44, vl46, vl48] 50, .row (vl48) 3 1 (l48).length (xsl48), .row (vl46) 3 1 (l139).length (xsl139), .box b1 [.slice none 0 0, .slice none 0 0, .slice none 0 0] 50]) (l139) (xsl139) ∧ (fmindex_fromSymbols_k2 a0 c44 l48) l139 = some r) ?_ ?_
    · refine W_seqr ?_
      refine S_pu 1 rfl ?_
      refine S_seqnil ?_
      refine W_block ?_
      obtain ⟨n170, h⟩ := Go.L.run_some h
      refine W_loop (σ := (List Int) × Int × Int × (List Value) × Nat) (fun (⟨l167, s6_168, s24_169, xsl167, n⟩ : (List Int) × Int × Int × (List Value) × Nat) => [(0, v0_0), (2, .pointer (some ⟨b1, 0, none⟩)), (4, .int .i64 ((a0.length : Int) - (1 : Int))), (5, .pointer (some ⟨bjb43, 0, none⟩)), (6, .int .i64 s6_168), (24, .int .i64 s24_169)]) (fun (⟨l167, s6_168, s24_169, xsl167, n⟩ : (List Int) × Int × Int × (List Value) × Nat) wr => Lcl w [.box bjb43 [vc44, vl46, vl48] 50, .row (vl48) 3 1 (l48).length (xsl48), .row (vl46) 3 1 (l167).length (xsl167), .box b1 [.slice none 0 0, .slice none 0 0, .slice none 0 0] 50] wr ∧ Vec (.int .i64) (gz H w wr [.box bjb43 [vc44, vl46, vl48] 50, .row (vl48) 3 1 (l48).length (xsl48), .row (vl46) 3 1 (l167).length (xsl167), .box b1 [.slice none 0 0, .slice none 0 0, .slice none 0 0] 50]) (vc44) (c44) ∧ Elems (.int .i64) (gz H w wr [.box bjb43 [vc44, vl46, vl48] 50, .row (vl48) 3 1 (l48).length (xsl48), .row (vl46) 3 1 (l167).length (xsl167), .box b1 [.slice none 0 0, .slice none 0 0, .slice none 0 0] 50]) (l48) (xsl48) ∧ Elems (.int .i64) (gz H w wr [.box bjb43 [vc44, vl46, vl48] 50, .row (vl48) 3 1 (l48).length (xsl48), .row (vl46) 3 1 (l167).length (xsl167), .box b1 [.slice none 0 0, .slice none 0 0, .slice none 0 0] 50]) (l167) (xsl167) ∧ Go.L.itr (fmindex_fromSymbols_bl3 a0 c44 l48) n (l167, s6_168, s24_169) = some r) (fun (⟨l167, s6_168, s24_169, xsl167, n⟩ : (List Int) × Int × Int × (List Value) × Nat) => n) (l46, (1 : Int), (0 : Int), xsl46, n170) (.cons rfl (.cons rfl (.cons rfl (.cons rfl (.cons rfl (.cons rfl (Sub.nil _))))))) ⟨hL49, hfc44, hel48, hel46, h⟩ ?_
      rintro ⟨l167, s6_168, s24_169, xsl167, nn170⟩ wr170 ⟨hL170, hf170_0, hel48, hel167, h⟩
      obtain ⟨n170, e170, rfl, h, hm170⟩ := Go.L.itr_some h
      refine W_seqr ?_
      refine S_pu 1 rfl ?_
      refine S_seqnil ?_
      refine W_seq ?_
      refine W_if rfl (fun hc172 => ?_) (fun hc172 => ?_)
      · replace h := Go.L.ite_p hc172 h
        refine W_skip ?_
        refine At_seq ?_
        refine W_cut (σ := (List Int) × Int × (List Value)) (fun (⟨l192, s6_193, xsl192⟩ : (List Int) × Int × (List Value)) => [(0, v0_0), (2, .pointer (some ⟨b1, 0, none⟩)), (4, .int .i64 ((a0.length : Int) - (1 : Int))), (5, .pointer (some ⟨bjb43, 0, none⟩)), (6, .int .i64 s6_193), (24, .int .i64 s24_169)]) (fun (⟨l192, s6_193, xsl192⟩ : (List Int) × Int × (List Value)) wr => Lcl w [.box bjb43 [vc44, vl46, vl48] 50, .row (vl48) 3 1 (l48).length (xsl48), .row (vl46) 3 1 (l192).length (xsl192), .box b1 [.slice none 0 0, .slice none 0 0, .slice none 0 0] 50] wr ∧ Vec (.int .i64) (gz H w wr [.box bjb43 [vc44, vl46, vl48] 50, .row (vl48) 3 1 (l48).length (xsl48), .row (vl46) 3 1 (l192).length (xsl192), .box b1 [.slice none 0 0, .slice none 0 0, .slice none 0 0] 50]) (vc44) (c44) ∧ Elems (.int .i64) (gz H w wr [.box bjb43 [vc44, vl46, vl48] 50, .row (vl48) 3 1 (l48).length (xsl48), .row (vl46) 3 1 (l192).length (xsl192), .box b1 [.slice none 0 0, .slice none 0 0, .slice none 0 0] 50]) (l48) (xsl48) ∧ Elems (.int .i64) (gz H w wr [.box bjb43 [vc44, vl46, vl48] 50, .row (vl48) 3 1 (l48).length (xsl48), .row (vl46) 3 1 (l192).length (xsl192), .box b1 [.slice none 0 0, .slice none 0 0, .slice none 0 0] 50]) (l192) (xsl192) ∧ (fmindex_fromSymbols_k4 s24_169) l192 s6_193 = some e170) ?_ ?_
        · refine W_block ?_
          refine W_seqr ?_
          refine S_pu 2 rfl ?_
          refine S_seqnil ?_
          refine W_seqr ?_
          refine S_pu 1 rfl ?_
          refine S_v (r_len rfl Try.underlying23 h0_0) rfl ?_
          refine S_pu 1 rfl ?_
          refine S_seqnil ?_
          refine W_block ?_
          obtain ⟨n214, h⟩ := Go.L.run_some h
          refine W_loop (σ := (List Int) × Int × Int × (List Value) × Nat) (fun (⟨l211, s6_212, s29_213, xsl211, n⟩ : (List Int) × Int × Int × (List Value) × Nat) => [(0, v0_0), (2, .pointer (some ⟨b1, 0, none⟩)), (4, .int .i64 ((a0.length : Int) - (1 : Int))), (5, .pointer (some ⟨bjb43, 0, none⟩)), (6, .int .i64 s6_212), (7, .int .i64 s24_169), (24, .int .i64 s24_169), (27, v0_0), (28, .int .i64 (a0.length : Int)), (29, .int .i64 s29_213)]) (fun (⟨l211, s6_212, s29_213, xsl211, n⟩ : (List Int) × Int × Int × (List Value) × Nat) wr => Lcl w [.box bjb43 [vc44, vl46, vl48] 50, .row (vl48) 3 1 (l48).length (xsl48), .row (vl46) 3 1 (l211).length (xsl211), .box b1 [.slice none 0 0, .slice none 0 0, .slice none 0 0] 50] wr ∧ Vec (.int .i64) (gz H w wr [.box bjb43 [vc44, vl46, vl48] 50, .row (vl48) 3 1 (l48).length (xsl48), .row (vl46) 3 1 (l211).length (xsl211), .box b1 [.slice none 0 0, .slice none 0 0, .slice none 0 0] 50]) (vc44) (c44) ∧ Elems (.int .i64) (gz H w wr [.box bjb43 [vc44, vl46, vl48] 50, .row (vl48) 3 1 (l48).length (xsl48), .row (vl46) 3 1 (l211).length (xsl211), .box b1 [.slice none 0 0, .slice none 0 0, .slice none 0 0] 50]) (l48) (xsl48) ∧ Elems (.int .i64) (gz H w wr [.box bjb43 [vc44, vl46, vl48] 50, .row (vl48) 3 1 (l48).length (xsl48), .row (vl46) 3 1 (l211).length (xsl211), .box b1 [.slice none 0 0, .slice none 0 0, .slice none 0 0] 50]) (l211) (xsl211) ∧ Go.L.itr (fmindex_fromSymbols_bl5 a0 s24_169) n (l211, s6_212, s29_213) = some e170) (fun (⟨l211, s6_212, s29_213, xsl211, n⟩ : (List Int) × Int × Int × (List Value) × Nat) => n) (l167, s6_168, (0 : Int), xsl167, n214) (.cons rfl (.cons rfl (.cons rfl (.cons rfl (.cons rfl (.cons rfl (.cons rfl (.cons rfl (.cons rfl (.cons rfl (Sub.nil _))))))))))) ⟨hL170, hf170_0, hel48, hel167, h⟩ ?_
          rintro ⟨l211, s6_212, s29_213, xsl211, nn214⟩ wr214 ⟨hL214, hf214_0, hel48, hel211, h⟩
          obtain ⟨n214, e214, rfl, h, hm214⟩ := Go.L.itr_some h
          refine W_seqr ?_
          refine S_pu 1 rfl ?_
          refine S_seqnil ?_
          refine W_seq ?_
          refine W_if rfl (fun hc216 => ?_) (fun hc216 => ?_)
          · replace h := Go.L.ite_p hc216 h
            refine W_skip ?_
            refine At_seq ?_
            refine W_seq ?_
            refine W_block ?_
            refine W_seqr ?_
            refine S_pu 1 rfl ?_
            obtain ⟨hk219, h⟩ := Go.L.chk_some h
            refine S_index rfl rfl Try.underlying23 zr3 h0_0 s29_213.toNat (Int.toNat_of_nonneg hk219.1).symm (idx_lt hk219) rfl ?_
            rintro p218 _ rfl hp218
            refine S_v (r_load1 rfl Try.underlying3 rfl hp218 (hH.trans hL214.arg)) rfl ?_
            refine S_pu 2 rfl ?_
            refine S_seqnil ?_
            refine W_seqr ?_
            refine S_pu 3 rfl ?_
            refine S_seqnil ?_
            refine W_if rfl (fun hc220 => ?_) (fun hc220 => ?_)
            · replace h := Go.L.ite_p hc220 h
              refine W_seqr ?_
              refine S_v (r_field rfl Try.underlying50 rfl zr23 (by decide)) rfl ?_
              refine S_v (r_loadB1 0 rfl Try.underlying23 rfl hL214 rfl rfl) rfl ?_
              refine S_pu 2 rfl ?_
              obtain ⟨hk223, h⟩ := Go.L.chk_some h
              refine S_indexR 2 rfl rfl Try.underlying23 zr3 hL214 rfl s29_213.toNat (Int.toNat_of_nonneg hk223.1).symm (idx_lt hk223) rfl ?_
              intro p222 hp222
              refine S_storeE (z := s6_212) (j := s29_213.toNat) 2 rfl rfl rfl zr3 hH hL214 rfl hel211 hp222 rfl (idx_lt hk223) rfl ?_
              intro w224 xs224 hL224 hle224 he224
              replace hf214_0 := hf214_0.mono (gz_mono hH hle224)
              replace hel48 := hel48.mono (gz_mono hH hle224)
              refine S_seqnil ?_
              refine W_region ?_
              refine S_pu 1 rfl ?_
              obtain ⟨hk225, h⟩ := Go.L.chk_some h
              refine S_v (r_ar64 rfl rfl rfl hk225) rfl ?_
              refine S_pu 1 rfl ?_
              refine S_nil ?_
              refine At_block ?_
              refine At_seq ?_
              refine W_region ?_
              obtain ⟨hk226, h⟩ := Go.L.chk_some h
              refine S_v (r_ar64 rfl rfl rfl hk226) rfl ?_
              refine S_pu 1 rfl ?_
              refine S_nil ?_
              have h := Go.L.Nxt.again h hm214
              refine At_round ((l211.set s29_213.toNat s6_212), (s6_212 + (1 : Int)), (s29_213 + (1 : Int)), xs224, n214) (.cons rfl (.cons rfl (.cons rfl (.cons rfl (.cons rfl (.cons rfl (.cons rfl (.cons rfl (.cons rfl (.cons rfl (Sub.nil _))))))))))) ⟨hL224, hf214_0, hel48, he224, h⟩ (Nat.lt_succ_self _)
            · replace h := Go.L.ite_n hc220 h
              refine W_skip ?_
              refine At_block ?_
              refine At_seq ?_
              refine W_region ?_
              obtain ⟨hk228, h⟩ := Go.L.chk_some h
              refine S_v (r_ar64 rfl rfl rfl hk228) rfl ?_
              refine S_pu 1 rfl ?_
              refine S_nil ?_
              have h := Go.L.Nxt.again h hm214
              refine At_round (l211, s6_212, (s29_213 + (1 : Int)), xsl211, n214) (.cons rfl (.cons rfl (.cons rfl (.cons rfl (.cons rfl (.cons rfl (.cons rfl (.cons rfl (.cons rfl (.cons rfl (Sub.nil _))))))))))) ⟨hL214, hf214_0, hel48, hel211, h⟩ (Nat.lt_succ_self _)
          · replace h := Go.L.ite_n hc216 h
            refine W_exit ?_
            refine At_seq_exit ?_
            refine At_loop_exit ?_
            replace h := Go.L.Nxt.out h hm214
            refine At_exit ?_
            refine At_block ?_
            refine At_cut (l211, s6_212, xsl211) (.cons rfl (.cons rfl (.cons rfl (.cons rfl (.cons rfl (.cons rfl (Sub.nil _))))))) ⟨hL214, hf214_0, hel48, hel211, h⟩
        · rintro ⟨l192, s6_193, xsl192⟩ wr194 ⟨hL194, hf194_0, hel48, hel192, h⟩
          refine W_region ?_
          obtain ⟨hk231, h⟩ := Go.L.chk_some h
          refine S_v (r_ar64 rfl rfl rfl hk231) rfl ?_
          refine S_pu 1 rfl ?_
          refine S_nil ?_
          have h := Go.L.Nxt.again h hm170
          refine At_round (l192, s6_193, (s24_169 + (1 : Int)), xsl192, n170) (.cons rfl (.cons rfl (.cons rfl (.cons rfl (.cons rfl (.cons rfl (Sub.nil _))))))) ⟨hL194, hf194_0, hel48, hel192, h⟩ (Nat.lt_succ_self _)
      · replace h := Go.L.ite_n hc172 h
        refine W_exit ?_
        refine At_seq_exit ?_
        refine At_loop_exit ?_
        replace h := Go.L.Nxt.out h hm170
        refine At_exit ?_
        refine At_cut (l167, xsl167) (.cons rfl (.cons rfl (.cons rfl (.cons rfl (Sub.nil _))))) ⟨hL170, hf170_0, hel48, hel167, h⟩
    · rintro ⟨l139, xsl139⟩ wr140 ⟨hL140, hf140_0, hel48, hel139, h⟩
      refine W_seqr ?_
      refine S_pu 1 rfl ?_
      refine S_seqnil ?_
      refine W_cut (σ := (List Int) × Int × (List Value)) (fun (⟨l253, s10_254, xsl253⟩ : (List Int) × Int × (List Value)) => [(0, v0_0), (2, .pointer (some ⟨b1, 0, none⟩)), (5, .pointer (some ⟨bjb43, 0, none⟩)), (10, .int .i64 s10_254)]) (fun (⟨l253, s10_254, xsl253⟩ : (List Int) × Int × (List Value)) wr => Lcl w [.box bjb43 [vc44, vl46, vl48] 50, .row (vl48) 3 1 (l253).length (xsl253), .row (vl46) 3 1 (l139).length (xsl139), .box b1 [.slice none 0 0, .slice none 0 0, .slice none 0 0] 50] wr ∧ Vec (.int .i64) (gz H w wr [.box bjb43 [vc44, vl46, vl48] 50, .row (vl48) 3 1 (l253).length (xsl253), .row (vl46) 3 1 (l139).length (xsl139), .box b1 [.slice none 0 0, .slice none 0 0, .slice none 0 0] 50]) (vc44) (c44) ∧ Elems (.int .i64) (gz H w wr [.box bjb43 [vc44, vl46, vl48] 50, .row (vl48) 3 1 (l253).length (xsl253), .row (vl46) 3 1 (l139).length (xsl139), .box b1 [.slice none 0 0, .slice none 0 0, .slice none 0 0] 50]) (l253) (xsl253) ∧ Elems (.int .i64) (gz H w wr [.box bjb43 [vc44, vl46, vl48] 50, .row (vl48) 3 1 (l253).length (xsl253), .row (vl46) 3 1 (l139).length (xsl139), .box b1 [.slice none 0 0, .slice none 0 0, .slice none 0 0] 50]) (l139) (xsl139) ∧ (fmindex_fromSymbols_k6 a0 c44 l139) l253 s10_254 = some r) ?_ ?_
      · refine W_seqr ?_
        refine S_pu 2 rfl ?_
        refine S_seqnil ?_
        refine W_block ?_
        obtain ⟨n276, h⟩ := Go.L.run_some h
        refine W_loop (σ := (List Int) × Int × Int × (List Value) × Nat) (fun (⟨l273, s10_274, s11_275, xsl273, n⟩ : (List Int) × Int × Int × (List Value) × Nat) => [(0, v0_0), (2, .pointer (some ⟨b1, 0, none⟩)), (5, .pointer (some ⟨bjb43, 0, none⟩)), (10, .int .i64 s10_274), (11, .int .i64 s11_275)]) (fun (⟨l273, s10_274, s11_275, xsl273, n⟩ : (List Int) × Int × Int × (List Value) × Nat) wr => Lcl w [.box bjb43 [vc44, vl46, vl48] 50, .row (vl48) 3 1 (l273).length (xsl273), .row (vl46) 3 1 (l139).length (xsl139), .box b1 [.slice none 0 0, .slice none 0 0, .slice none 0 0] 50] wr ∧ Vec (.int .i64) (gz H w wr [.box bjb43 [vc44, vl46, vl48] 50, .row (vl48) 3 1 (l273).length (xsl273), .row (vl46) 3 1 (l139).length (xsl139), .box b1 [.slice none 0 0, .slice none 0 0, .slice none 0 0] 50]) (vc44) (c44) ∧ Elems (.int .i64) (gz H w wr [.box bjb43 [vc44, vl46, vl48] 50, .row (vl48) 3 1 (l273).length (xsl273), .row (vl46) 3 1 (l139).length (xsl139), .box b1 [.slice none 0 0, .slice none 0 0, .slice none 0 0] 50]) (l273) (xsl273) ∧ Elems (.int .i64) (gz H w wr [.box bjb43 [vc44, vl46, vl48] 50, .row (vl48) 3 1 (l273).length (xsl273), .row (vl46) 3 1 (l139).length (xsl139), .box b1 [.slice none 0 0, .slice none 0 0, .slice none 0 0] 50]) (l139) (xsl139) ∧ Go.L.itr (fmindex_fromSymbols_bl7 a0 c44 l139) n (l273, s10_274, s11_275) = some r) (fun (⟨l273, s10_274, s11_275, xsl273, n⟩ : (List Int) × Int × Int × (List Value) × Nat) => n) (l48, (0 : Int), ((a0.length : Int) - (1 : Int)), xsl48, n276) (.cons rfl (.cons rfl (.cons rfl (.cons rfl (.cons rfl (Sub.nil _)))))) ⟨hL140, hf140_0, hel48, hel139, h⟩ ?_
        rintro ⟨l273, s10_274, s11_275, xsl273, nn276⟩ wr276 ⟨hL276, hf276_0, hel273, hel139, h⟩
        obtain ⟨n276, e276, rfl, h, hm276⟩ := Go.L.itr_some h
        refine W_seq ?_
        refine W_seqr ?_
        refine S_pu 2 rfl ?_
        refine S_seqnil ?_
        refine W_if rfl (fun hc278 => ?_) (fun hc278 => ?_)
        · replace h := Go.L.ite_p hc278 h
          refine W_skip ?_
          refine At_seq ?_
          refine W_seq ?_
          refine W_block ?_
          refine W_seqr ?_
          refine S_v (r_field rfl Try.underlying50 rfl zr23 (by decide)) rfl ?_
          refine S_v (r_loadB1 0 rfl Try.underlying23 rfl hL276 rfl rfl) rfl ?_
          refine S_pu 2 rfl ?_
          obtain ⟨hk281, h⟩ := Go.L.chk_some h
          refine S_indexR 1 rfl rfl Try.underlying23 zr3 hL276 rfl s10_274.toNat (Int.toNat_of_nonneg hk281.1).symm (idx_lt hk281) rfl ?_
          intro p280 hp280
          refine S_storeE (z := s11_275) (j := s10_274.toNat) 1 rfl rfl rfl zr3 hH hL276 rfl hel273 hp280 rfl (idx_lt hk281) rfl ?_
          intro w282 xs282 hL282 hle282 he282
          replace hf276_0 := hf276_0.mono (gz_mono hH hle282)
          replace hel139 := hel139.mono (gz_mono hH hle282)
          refine S_seqnil ?_
          refine W_seq ?_
          refine W_seqr ?_
          refine S_pu 2 rfl ?_
          obtain ⟨hk284, h⟩ := Go.L.chk_some h
          refine S_index rfl rfl Try.underlying23 zr3 h0_0 s10_274.toNat (Int.toNat_of_nonneg hk284.1).symm (idx_lt hk284) rfl ?_
          rintro p283 _ rfl hp283
          refine S_v (r_load1 rfl Try.underlying3 rfl hp283 (hH.trans hL282.arg)) rfl ?_
          refine S_pu 1 rfl ?_
          refine S_seqnil ?_
          refine W_if rfl (fun hc285 => ?_) (fun hc285 => ?_)
          · replace h := Go.L.ite_p hc285 h
            refine W_seqr ?_
            refine S_v (r_build rfl (fun _ => bld50_z _)) rfl ?_
            refine S_storeBN 3 rfl rfl rfl zr50 hL282 rfl rfl (onc rfl (onc rfl (onc rfl on0))) ?_
            intro w287 hL287 hle287
            replace hf276_0 := hf276_0.mono (gz_mono hH hle287)
            replace hel139 := hel139.mono (gz_mono hH hle287)
            replace he282 := he282.mono (gz_mono hH hle287)
            refine S_pu 1 rfl ?_
            refine S_seqnil ?_
            refine W_ret ?_
            refine At_seq_ret ?_
            refine At_block_ret ?_
            refine At_seq_ret ?_
            refine At_loop_ret ?_
            replace h := Go.L.Nxt.out h hm276
            refine At_block_ret ?_
            refine At_cut_ret ?_
            obtain rfl := Option.some.inj h
            refine At_got2 rfl (.cell rfl Try.underlying50 rfl zr50 (box_ptr (i := 3) hL287 rfl)) (.tmp rfl) ?_
            exact ⟨hL287.ext, _, _, _, rfl, (Vec.nil _ _), OwnH.nil, OwnH.nil⟩
          · replace h := Go.L.ite_n hc285 h
            refine W_skip ?_
            refine At_seq ?_
            refine W_region ?_
            refine S_v (r_field rfl Try.underlying50 rfl zr23 (by decide)) rfl ?_
            refine S_v (r_loadB1 0 rfl Try.underlying23 rfl hL282 rfl rfl) rfl ?_
            refine S_pu 1 rfl ?_
            obtain ⟨hk290, h⟩ := Go.L.chk_some h
            refine S_index rfl rfl Try.underlying23 zr3 (hL282.vecN hH (i := 2) rfl hel139) s10_274.toNat (Int.toNat_of_nonneg hk290.1).symm (idx_lt hk290) rfl ?_
            rintro p289 _ rfl hp289
            refine S_v (r_load1 rfl Try.underlying3 rfl hp289 (Le.refl _)) rfl ?_
            refine S_pu 1 rfl ?_
            refine S_nil ?_
            refine At_block ?_
            refine At_seq ?_
            refine W_region ?_
            refine S_pu 1 rfl ?_
            obtain ⟨hk291, h⟩ := Go.L.chk_some h
            refine S_v (r_ar64 rfl rfl rfl hk291) rfl ?_
            refine S_pu 1 rfl ?_
            refine S_nil ?_
            have h := Go.L.Nxt.again h hm276
            refine At_round ((l273.set s10_274.toNat s11_275), l139.getD s10_274.toNat default, (s11_275 - (1 : Int)), xs282, n276) (.cons rfl (.cons rfl (.cons rfl (.cons rfl (.cons rfl (Sub.nil _)))))) ⟨hL282, hf276_0, he282, hel139, h⟩ (Nat.lt_succ_self _)
        · replace h := Go.L.ite_n hc278 h
          refine W_exit ?_
          refine At_seq_exit ?_
          refine At_loop_exit ?_
          replace h := Go.L.Nxt.out h hm276
          refine At_exit ?_
          refine At_cut (l273, s10_274, xsl273) (.cons rfl (.cons rfl (.cons rfl (.cons rfl (Sub.nil _))))) ⟨hL276, hf276_0, hel273, hel139, h⟩
      · rintro ⟨l253, s10_254, xsl253⟩ wr255 ⟨hL255, hf255_0, hel253, hel139, h⟩
        refine W_seqr ?_
        refine S_v (r_field rfl Try.underlying50 rfl zr23 (by decide)) rfl ?_
        refine S_v (r_loadB1 0 rfl Try.underlying23 rfl hL255 rfl rfl) rfl ?_
        refine S_pu 1 rfl ?_
        obtain ⟨hk295, h⟩ := Go.L.chk_some h
        refine S_indexR 1 rfl rfl Try.underlying23 zr3 hL255 rfl s10_254.toNat (Int.toNat_of_nonneg hk295.1).symm (idx_lt hk295) rfl ?_
        intro p294 hp294
        refine S_storeE (z := (0 : Int)) (j := s10_254.toNat) 1 rfl rfl rfl zr3 hH hL255 rfl hel253 hp294 rfl (idx_lt hk295) rfl ?_
        intro w296 xs296 hL296 hle296 he296
        replace hf255_0 := hf255_0.mono (gz_mono hH hle296)
        replace hel139 := hel139.mono (gz_mono hH hle296)
        refine S_seqnil ?_
        refine W_cut (σ := (List Int) × Bool × Value) (fun (⟨c305, s3_306, vc305⟩ : (List Int) × Bool × Value) => [(2, .pointer (some ⟨b1, 0, none⟩)), (3, .bool s3_306)]) (fun (⟨c305, s3_306, vc305⟩ : (List Int) × Bool × Value) wr => Lcl w [.box bjb43 [vc44, vl46, vl48] 50, .row (vl48) 3 1 ((l253.set s10_254.toNat (0 : Int))).length (xs296), .row (vl46) 3 1 (l139).length (xsl139), .box b1 [vc305, vl46, vl48] 50] wr ∧ Vec (.int .i64) (gz H w wr [.box bjb43 [vc44, vl46, vl48] 50, .row (vl48) 3 1 ((l253.set s10_254.toNat (0 : Int))).length (xs296), .row (vl46) 3 1 (l139).length (xsl139), .box b1 [vc305, vl46, vl48] 50]) (vc44) (c44) ∧ Elems (.int .i64) (gz H w wr [.box bjb43 [vc44, vl46, vl48] 50, .row (vl48) 3 1 ((l253.set s10_254.toNat (0 : Int))).length (xs296), .row (vl46) 3 1 (l139).length (xsl139), .box b1 [vc305, vl46, vl48] 50]) ((l253.set s10_254.toNat (0 : Int))) (xs296) ∧ Elems (.int .i64) (gz H w wr [.box bjb43 [vc44, vl46, vl48] 50, .row (vl48) 3 1 ((l253.set s10_254.toNat (0 : Int))).length (xs296), .row (vl46) 3 1 (l139).length (xsl139), .box b1 [vc305, vl46, vl48] 50]) (l139) (xsl139) ∧ Vec (.int .i64) (gz H w wr [.box bjb43 [vc44, vl46, vl48] 50, .row (vl48) 3 1 ((l253.set s10_254.toNat (0 : Int))).length (xs296), .row (vl46) 3 1 (l139).length (xsl139), .box b1 [vc305, vl46, vl48] 50]) (vc305) (c305) ∧ (fmindex_fromSymbols_k8 l139 l253 s10_254) c305 s3_306 = some r) ?_ ?_
        · refine W_naive mixed rfl (fun w309 hx309 => ?_)
          have hL310 := hL296.call hx309
          have hle310 := fz_ext hL296 hx309
          replace hf255_0 := hf255_0.mono (gz_mono hH hle310)
          replace hel139 := hel139.mono (gz_mono hH hle310)
          replace he296 := he296.mono (gz_mono hH hle310)
          refine N_hoist 1 (np_cut np_body) (by kernel_rfl) rfl (fun _ => RunsAt_pu rfl) rfl ?_
          refine N_hoist 2 (np_cut np_body) (by kernel_rfl) rfl (fun _ => RunsAt_pu rfl) rfl ?_
          obtain ⟨hk312, h⟩ := Go.L.chk_some h
          refine N_index 3 (np_cut np_body) (by kernel_rfl) rfl rfl rfl Try.underlying23 zr3 h0_0 s10_254.toNat (Int.toNat_of_nonneg hk312.1).symm (idx_lt hk312) rfl ?_
          rintro p311 _ rfl hp311
          refine N2 (i := 0) (j := 4) (by kernel_rfl) rfl rfl ?_ ?_
          · refine S_v (r_loadBN 0 rfl Try.underlying50 rfl zr50 hL310 rfl) rfl ?_
            refine N_nil ?_
            refine N2 (i := 4) (j := 6) (by kernel_rfl) rfl rfl ?_ ?_
            · refine S_v (r_load1 rfl Try.underlying3 rfl hp311 (hH.trans hL310.arg)) rfl ?_
              refine N_nil ?_
              refine N_hoist 5 (np_cut np_body) (by kernel_rfl) rfl (fun _ => RunsAt_pu rfl) rfl ?_
              refine N1 (i := 6) (by kernel_rfl) rfl ?_
              refine S_storeBN 3 rfl rfl rfl zr50 hL310 rfl rfl (onc hf255_0.one (onc (row_one (hL310.at (i := 2) rfl)) (onc (row_one (hL310.at (i := 1) rfl)) on0))) ?_
              intro w313 hL313 hle313
              replace hf255_0 := hf255_0.mono (gz_mono hH hle313)
              replace hel139 := hel139.mono (gz_mono hH hle313)
              replace he296 := he296.mono (gz_mono hH hle313)
              refine N_nil ?_
              refine N_hoist 7 (np_cut np_body) (by kernel_rfl) rfl (fun _ => RunsAt_pu rfl) rfl ?_
              refine N_end (by kernel_rfl) ?_
              refine At_cut (c44, decide (a0.getD s10_254.toNat default = (-1 : Int)), vc44) (.cons rfl (.cons rfl (Sub.nil _))) ⟨hL313, hf255_0, he296, hel139, hf255_0, h⟩
            · refine S_storeBN 3 rfl rfl rfl zr50 hL310 rfl rfl (onc hf255_0.one (onc (row_one (hL310.at (i := 2) rfl)) (onc (row_one (hL310.at (i := 1) rfl)) on0))) ?_
              intro w314 hL314 hle314
              replace hf255_0 := hf255_0.mono (gz_mono hH hle314)
              replace hel139 := hel139.mono (gz_mono hH hle314)
              replace he296 := he296.mono (gz_mono hH hle314)
              refine N_nil ?_
              refine N1 (i := 4) (by kernel_rfl) rfl ?_
              refine S_v (r_load1 rfl Try.underlying3 rfl hp311 (hH.trans hL314.arg)) rfl ?_
              refine N_nil ?_
              refine N_hoist 5 (np_cut np_body) (by kernel_rfl) rfl (fun _ => RunsAt_pu rfl) rfl ?_
              refine N_hoist 7 (np_cut np_body) (by kernel_rfl) rfl (fun _ => RunsAt_pu rfl) rfl ?_
              refine N_end (by kernel_rfl) ?_
              refine At_cut (c44, decide (a0.getD s10_254.toNat default = (-1 : Int)), vc44) (.cons rfl (.cons rfl (Sub.nil _))) ⟨hL314, hf255_0, he296, hel139, hf255_0, h⟩
          · refine S_v (r_load1 rfl Try.underlying3 rfl hp311 (hH.trans hL310.arg)) rfl ?_
            refine N_nil ?_
            refine N_hoist 5 (np_cut np_body) (by kernel_rfl) rfl (fun _ => RunsAt_pu rfl) rfl ?_
            refine N1 (i := 0) (by kernel_rfl) rfl ?_
            refine S_v (r_loadBN 0 rfl Try.underlying50 rfl zr50 hL310 rfl) rfl ?_
            refine N_nil ?_
            refine N1 (i := 6) (by kernel_rfl) rfl ?_
            refine S_storeBN 3 rfl rfl rfl zr50 hL310 rfl rfl (onc hf255_0.one (onc (row_one (hL310.at (i := 2) rfl)) (onc (row_one (hL310.at (i := 1) rfl)) on0))) ?_
            intro w315 hL315 hle315
            replace hf255_0 := hf255_0.mono (gz_mono hH hle315)
            replace hel139 := hel139.mono (gz_mono hH hle315)
            replace he296 := he296.mono (gz_mono hH hle315)
            refine N_nil ?_
            refine N_hoist 7 (np_cut np_body) (by kernel_rfl) rfl (fun _ => RunsAt_pu rfl) rfl ?_
            refine N_end (by kernel_rfl) ?_
            refine At_cut (c44, decide (a0.getD s10_254.toNat default = (-1 : Int)), vc44) (.cons rfl (.cons rfl (Sub.nil _))) ⟨hL315, hf255_0, he296, hel139, hf255_0, h⟩
        · rintro ⟨c305, s3_306, vc305⟩ wr307 ⟨hL307, hf307_0, he307_j47, hel139, hfc305, h⟩
          refine W_ret ?_
          obtain rfl := Option.some.inj h
          refine At_got2 rfl (.cell rfl Try.underlying50 rfl zr50 (box_ptr (i := 3) hL307 rfl)) (.tmp rfl) ?_
          exact ⟨hL307.ext, _, _, _, rfl, (hfc305.mono (gz_res hH)), (hL307.ownH hH (i := 2) rfl hel139), (hL307.ownH hH (i := 1) rfl he307_j47)⟩

noncomputable def slices_Clone_int_int (a0 : List Int) : Option ((List Int)) :=
  Go.L.chk (Go.E.Cap 8 (([] : List Int).length + a0.length)) (some ((([] : List Int) ++ a0)))

set_option maxRecDepth 10000 in
theorem slices_Clone_int_int_ok (w : World) (H : PH) (hH : Le H (hp w)) {a0 : List Int} {v0_0 : Value} (h0_0 : Vec (.int .i64) H v0_0 (a0)) {r : (List Int)} (h : slices_Clone_int_int a0 = some r) :
    Ok Try.prog 53 [v0_0] w (fun v w' => Ext w w' ∧ ∃ u0, v = u0 ∧ OwnH 3 (.int .i64) H w w' u0 (r)) := by
  refine Ok_enter (n := 8) [(0, v0_0)] Try.func53 rfl rfl rfl rfl rfl ?_
  have hL := Lcl.start w
  refine W_seqr ?_
  refine S_pu 1 rfl ?_
  refine S_seqnil ?_
  refine W_seq ?_
  refine W_seqr ?_
  refine S_pu 1 rfl ?_
  rcases nil_or h0_0 with ⟨rfl, rfl⟩ | hnn
  · refine S_v (r_nilT rfl rfl Try.underlying23) rfl ?_
    refine S_seqnil ?_
    refine W_true rfl ?_
    refine W_seqr ?_
    refine S_pu 1 rfl ?_
    refine S_seqnil ?_
    refine W_ret ?_
    obtain ⟨_, h⟩ := Go.L.chk_some h
    obtain rfl := Option.some.inj h
    refine At_seq_ret ?_
    refine At_body rfl rfl ?_
    exact ⟨hL.ext, _, rfl, ownNil _ hL hH⟩
  refine S_v (r_nilF rfl rfl Try.underlying23 hnn) rfl ?_
  refine S_seqnil ?_
  refine W_false rfl ?_
  refine W_skip ?_
  refine At_seq ?_
  refine W_seqr ?_
  refine S_litO (r := (.int .i64)) (l := ([] : List Int)) rfl (fun _ => bsl23_0 _) rfl (show 0 ≤ 9223372036854775807 by decide) hH hL .nil ?_
  intro v1 w1 xs1 hL1 hle1 he1
  refine S_pu 1 rfl ?_
  obtain ⟨hk3, h⟩ := Go.L.chk_some h
  refine S_appE (r := (.int .i64)) (l := ([] : List Int)) (m := a0) 0 rfl rfl Try.underlying23 zr3 rfl (by decide) rfl hH hL1 rfl he1 (h0_0.mono (gz_left hH)) hk3 ?_
  intro v2 w2 xs2 hL2 hle2 he2
  refine S_pu 1 rfl ?_
  refine S_seqnil ?_
  refine W_ret ?_
  obtain rfl := Option.some.inj h
  refine At_body rfl rfl ?_
  exact ⟨hL2.ext, _, rfl, (hL2.ownH hH (i := 0) rfl he2)⟩

noncomputable def slices_Clone_byte_byte (a0 : List UInt8) : Option ((List UInt8)) :=
  Go.L.chk (Go.E.Cap 1 (([] : List UInt8).length + a0.length)) (some ((([] : List UInt8) ++ a0)))

set_option maxRecDepth 10000 in
theorem slices_Clone_byte_byte_ok (w : World) (H : PH) (hH : Le H (hp w)) {a0 : List UInt8} {v0_0 : Value} (h0_0 : Vec .byte H v0_0 (a0)) {r : (List UInt8)} (h : slices_Clone_byte_byte a0 = some r) :
    Ok Try.prog 56 [v0_0] w (fun v w' => Ext w w' ∧ ∃ u0, v = u0 ∧ OwnH 5 .byte H w w' u0 (r)) := by
  refine Ok_enter (n := 8) [(0, v0_0)] Try.func56 rfl rfl rfl rfl rfl ?_
  have hL := Lcl.start w
  refine W_seqr ?_
  refine S_pu 1 rfl ?_
  refine S_seqnil ?_
  refine W_seq ?_
  refine W_seqr ?_
  refine S_pu 1 rfl ?_
  rcases nil_or h0_0 with ⟨rfl, rfl⟩ | hnn
  · refine S_v (r_nilT rfl rfl Try.underlying22) rfl ?_
    refine S_seqnil ?_
    refine W_true rfl ?_
    refine W_seqr ?_
    refine S_pu 1 rfl ?_
    refine S_seqnil ?_
    refine W_ret ?_
    obtain ⟨_, h⟩ := Go.L.chk_some h
    obtain rfl := Option.some.inj h
    refine At_seq_ret ?_
    refine At_body rfl rfl ?_
    exact ⟨hL.ext, _, rfl, ownNil _ hL hH⟩
  refine S_v (r_nilF rfl rfl Try.underlying22 hnn) rfl ?_
  refine S_seqnil ?_
  refine W_false rfl ?_
  refine W_skip ?_
  refine At_seq ?_
  refine W_seqr ?_
  refine S_litO (r := .byte) (l := ([] : List UInt8)) rfl (fun _ => bsl22_0 _) rfl (show 0 ≤ 9223372036854775807 by decide) hH hL .nil ?_
  intro v1 w1 xs1 hL1 hle1 he1
  refine S_pu 1 rfl ?_
  obtain ⟨hk3, h⟩ := Go.L.chk_some h
  refine S_appE (r := .byte) (l := ([] : List UInt8)) (m := a0) 0 rfl rfl Try.underlying22 zr5 rfl (by decide) rfl hH hL1 rfl he1 (h0_0.mono (gz_left hH)) hk3 ?_
  intro v2 w2 xs2 hL2 hle2 he2
  refine S_pu 1 rfl ?_
  refine S_seqnil ?_
  refine W_ret ?_
  obtain rfl := Option.some.inj h
  refine At_body rfl rfl ?_
  exact ⟨hL2.ext, _, rfl, (hL2.ownH hH (i := 0) rfl he2)⟩

noncomputable def fmindex_Index_Extract (a0 : ((List Int)) × (List Int) × (List Int)) (a1 : Int) (a2 : Int) : Option ((List UInt8) × (Int × Int)) :=
  if a1 < (0 : Int) then Option.bind (fmindex_fault (4 : Int) (-1 : Int)) (fun x5 => some ([], (x5.1, x5.2))) else Option.bind (fmindex_Index_Length (a0.1, a0.2.1, a0.2.2)) (fun x9 => if x9 < a1 then Option.bind (fmindex_fault (4 : Int) (-1 : Int)) (fun x13 => some ([], (x13.1, x13.2))) else (if a2 < a1 then Option.bind (fmindex_fault (4 : Int) (-2 : Int)) (fun x19 => some ([], (x19.1, x19.2))) else Option.bind (fmindex_Index_Length (a0.1, a0.2.1, a0.2.2)) (fun x23 => if x23 < a2 then Option.bind (fmindex_fault (4 : Int) (-2 : Int)) (fun x27 => some ([], (x27.1, x27.2))) else Option.bind (fmindex_Index_text (a0.1, a0.2.1, a0.2.2)) (fun x31 => Go.L.chk (0 ≤ a1 ∧ a1 ≤ a2 ∧ a2 ≤ (x31.length : Int)) (Option.bind (slices_Clone_byte_byte ((x31.drop a1.toNat).take (a2.toNat - a1.toNat))) (fun x35 => some (x35, ((0 : Int), (0 : Int)))))))))

set_option maxRecDepth 10000 in
theorem fmindex_Index_Extract_ok (w : World) (H : PH) (hH : Le H (hp w)) {a0 : ((List Int)) × (List Int) × (List Int)} {a1 : Int} {a2 : Int} {v0_0 : Value} {v0_1 : Value} {v0_2 : Value} (h0_0 : Vec (.int .i64) H v0_0 (a0.1)) (h0_1 : Vec (.int .i64) H v0_1 (a0.2.1)) (h0_2 : Vec (.int .i64) H v0_2 (a0.2.2)) {r : (List UInt8) × (Int × Int)} (h : fmindex_Index_Extract a0 a1 a2 = some r) :
    Ok Try.prog 36 [.agg #[v0_0, v0_1, v0_2], .int .i64 a1, .int .i64 a2] w (fun v w' => Ext w w' ∧ ∃ u0, v = .tuple #[u0, .agg #[.int .i64 r.2.1, .int .i64 r.2.2]] ∧ OwnH 5 .byte H w w' u0 (r.1)) := by
  refine Ok_enter (n := 34) [(0, .agg #[v0_0, v0_1, v0_2]), (1, .int .i64 a1), (2, .int .i64 a2)] Try.func36 rfl rfl rfl rfl rfl ?_
  have hL := Lcl.start w
  refine W_seqr ?_
  refine S_box (t := 50) rfl rfl rfl hL ?_
  intro w1 b1 hL1 hle1 _
  refine S_pu 1 rfl ?_
  refine S_alloc zr25 rfl rfl hL1 ?_
  intro w2 b2 hL2 hle2 _
  refine S_seqnil ?_
  refine W_seq ?_
  refine W_seqr ?_
  refine S_pu 3 rfl ?_
  refine S_split (s := 10) rfl (fun hg3 => ?_) (fun hg3 => ?_)
  · replace h := Go.L.ite_p (of_decide_eq_true hg3) h
    refine S_unwanted rfl rfl hg3 rfl ?_
    refine S_unwanted rfl rfl hg3 rfl ?_
    refine S_unwanted rfl rfl hg3 rfl ?_
    refine S_unwanted rfl rfl hg3 rfl ?_
    refine S_v (r_pickT rfl hg3 rfl) rfl ?_
    refine S_seqnil ?_
    refine W_true rfl ?_
    refine W_seqr ?_
    obtain ⟨x5, hb5, h⟩ := Go.L.bind_some h
    refine S_callL rfl rfl hL2 (fmindex_fault_ok _ _ (gz_le hH hL2) hb5) ?_
    rintro _ w6 rfl hx6 hL6 hle6
    refine S_pu 1 rfl ?_
    refine S_storeBN 0 rfl rfl rfl zr25 hL6 rfl rfl (onc rfl (onc rfl on0)) ?_
    intro w7 hL7 hle7
    refine S_seqnil ?_
    refine W_ret ?_
    refine At_seq_ret ?_
    obtain rfl := Option.some.inj h
    refine At_got2 rfl (.tmp rfl) (.cell rfl Try.underlying25 rfl zr25 (box_ptr (i := 0) hL7 rfl)) ?_
    exact ⟨hL7.ext, _, rfl, OwnH.nil⟩
  · replace h := Go.L.ite_n (of_decide_eq_false hg3) h
    refine S_guarded rfl rfl hg3 ?_
    refine S_v (RunsAt_pu rfl) rfl ?_
    refine S_guarded rfl rfl hg3 ?_
    refine S_v (r_loadBN 1 rfl Try.underlying50 rfl zr50 hL2 rfl) rfl ?_
    refine S_guarded rfl rfl hg3 ?_
    obtain ⟨x9, hb9, h⟩ := Go.L.bind_some h
    refine S_callL rfl rfl hL2 (fmindex_Index_Length_ok _ _ (gz_le hH hL2) (h0_0.mono (gz_left hH)) (h0_1.mono (gz_left hH)) (h0_2.mono (gz_left hH)) hb9) ?_
    rintro _ w10 rfl hx10 hL10 hle10
    refine S_guarded rfl rfl hg3 ?_
    refine S_v (RunsAt_pu rfl) rfl ?_
    refine S_v (r_pickF rfl hg3 rfl) rfl ?_
    refine S_seqnil ?_
    refine W_if rfl (fun hc11 => ?_) (fun hc11 => ?_)
    · replace h := Go.L.ite_p hc11 h
      refine W_seqr ?_
      obtain ⟨x13, hb13, h⟩ := Go.L.bind_some h
      refine S_callL rfl rfl hL10 (fmindex_fault_ok _ _ (gz_le hH hL10) hb13) ?_
      rintro _ w14 rfl hx14 hL14 hle14
      refine S_pu 1 rfl ?_
      refine S_storeBN 0 rfl rfl rfl zr25 hL14 rfl rfl (onc rfl (onc rfl on0)) ?_
      intro w15 hL15 hle15
      refine S_seqnil ?_
      refine W_ret ?_
      refine At_seq_ret ?_
      obtain rfl := Option.some.inj h
      refine At_got2 rfl (.tmp rfl) (.cell rfl Try.underlying25 rfl zr25 (box_ptr (i := 0) hL15 rfl)) ?_
      exact ⟨hL15.ext, _, rfl, OwnH.nil⟩
    · replace h := Go.L.ite_n hc11 h
      refine W_skip ?_
      refine At_seq ?_
      refine W_seq ?_
      refine W_seqr ?_
      refine S_pu 4 rfl ?_
      refine S_split (s := 20) rfl (fun hg17 => ?_) (fun hg17 => ?_)
      · replace h := Go.L.ite_p (of_decide_eq_true hg17) h
        refine S_unwanted rfl rfl hg17 rfl ?_
        refine S_unwanted rfl rfl hg17 rfl ?_
        refine S_unwanted rfl rfl hg17 rfl ?_
        refine S_unwanted rfl rfl hg17 rfl ?_
        refine S_v (r_pickT rfl hg17 rfl) rfl ?_
        refine S_seqnil ?_
        refine W_true rfl ?_
        refine W_seqr ?_
        obtain ⟨x19, hb19, h⟩ := Go.L.bind_some h
        refine S_callL rfl rfl hL10 (fmindex_fault_ok _ _ (gz_le hH hL10) hb19) ?_
        rintro _ w20 rfl hx20 hL20 hle20
        refine S_pu 1 rfl ?_
        refine S_storeBN 0 rfl rfl rfl zr25 hL20 rfl rfl (onc rfl (onc rfl on0)) ?_
        intro w21 hL21 hle21
        refine S_seqnil ?_
        refine W_ret ?_
        refine At_seq_ret ?_
        obtain rfl := Option.some.inj h
        refine At_got2 rfl (.tmp rfl) (.cell rfl Try.underlying25 rfl zr25 (box_ptr (i := 0) hL21 rfl)) ?_
        exact ⟨hL21.ext, _, rfl, OwnH.nil⟩
      · replace h := Go.L.ite_n (of_decide_eq_false hg17) h
        refine S_guarded rfl rfl hg17 ?_
        refine S_v (RunsAt_pu rfl) rfl ?_
        refine S_guarded rfl rfl hg17 ?_
        refine S_v (r_loadBN 1 rfl Try.underlying50 rfl zr50 hL10 rfl) rfl ?_
        refine S_guarded rfl rfl hg17 ?_
        obtain ⟨x23, hb23, h⟩ := Go.L.bind_some h
        refine S_callL rfl rfl hL10 (fmindex_Index_Length_ok _ _ (gz_le hH hL10) (h0_0.mono (gz_left hH)) (h0_1.mono (gz_left hH)) (h0_2.mono (gz_left hH)) hb23) ?_
        rintro _ w24 rfl hx24 hL24 hle24
        refine S_guarded rfl rfl hg17 ?_
        refine S_v (RunsAt_pu rfl) rfl ?_
        refine S_v (r_pickF rfl hg17 rfl) rfl ?_
        refine S_seqnil ?_
        refine W_if rfl (fun hc25 => ?_) (fun hc25 => ?_)
        · replace h := Go.L.ite_p hc25 h
          refine W_seqr ?_
          obtain ⟨x27, hb27, h⟩ := Go.L.bind_some h
          refine S_callL rfl rfl hL24 (fmindex_fault_ok _ _ (gz_le hH hL24) hb27) ?_
          rintro _ w28 rfl hx28 hL28 hle28
          refine S_pu 1 rfl ?_
          refine S_storeBN 0 rfl rfl rfl zr25 hL28 rfl rfl (onc rfl (onc rfl on0)) ?_
          intro w29 hL29 hle29
          refine S_seqnil ?_
          refine W_ret ?_
          refine At_seq_ret ?_
          obtain rfl := Option.some.inj h
          refine At_got2 rfl (.tmp rfl) (.cell rfl Try.underlying25 rfl zr25 (box_ptr (i := 0) hL29 rfl)) ?_
          exact ⟨hL29.ext, _, rfl, OwnH.nil⟩
        · replace h := Go.L.ite_n hc25 h
          refine W_skip ?_
          refine At_seq ?_
          refine W_seqr ?_
          refine S_v (r_loadBN 1 rfl Try.underlying50 rfl zr50 hL24 rfl) rfl ?_
          obtain ⟨x31, hb31, h⟩ := Go.L.bind_some h
          refine S_callL rfl rfl hL24 (fmindex_Index_text_ok _ _ (gz_le hH hL24) (h0_0.mono (gz_left hH)) (h0_1.mono (gz_left hH)) (h0_2.mono (gz_left hH)) hb31) ?_
          rintro u32_0 w32 ⟨_, rfl, hR32_0⟩ hx32 hL32 hle32
          have hv32_0 := hR32_0.vecG hH hL24 hx32
          refine S_pu 2 rfl ?_
          obtain ⟨hk34, h⟩ := Go.L.chk_some h
          refine S_sliceB rfl rfl rfl Try.underlying22 zr5 hv32_0 hk34 rfl ?_
          intro v33 hv33
          obtain ⟨x35, hb35, h⟩ := Go.L.bind_some h
          refine S_callL rfl rfl hL32 (slices_Clone_byte_byte_ok _ _ (gz_le hH hL32) hv33 hb35) ?_
          rintro u36_0 w36 ⟨_, rfl, hR36_0⟩ hx36 hL36 hle36
          obtain ⟨xs36, hL36, hle36, he36⟩ := hR36_0.take hH hL32 hx36
          replace hv32_0 := hv32_0.mono (gz_mono hH hle36)
          replace hv33 := hv33.mono (gz_mono hH hle36)
          refine S_v (r_build rfl (fun _ => bld25_z _)) rfl ?_
          refine S_pu 1 rfl ?_
          refine S_storeBN 1 rfl rfl rfl zr25 hL36 rfl rfl (onc rfl (onc rfl on0)) ?_
          intro w37 hL37 hle37
          replace hv32_0 := hv32_0.mono (gz_mono hH hle37)
          replace hv33 := hv33.mono (gz_mono hH hle37)
          replace he36 := he36.mono (gz_mono hH hle37)
          refine S_seqnil ?_
          refine W_ret ?_
          obtain rfl := Option.some.inj h
          refine At_got2 rfl (.tmp rfl) (.cell rfl Try.underlying25 rfl zr25 (box_ptr (i := 1) hL37 rfl)) ?_
          exact ⟨hL37.ext, _, rfl, (hL37.ownH hH (i := 0) rfl he36)⟩
end Go.Proofs.Ytmifkdfaaaaicaa
