/- Generated walks: small functions. -/
import Derived.Test.YtmifkdfaaaaicaaFacts
import Derived.KernelRfl
namespace Go.Proofs.Ytmifkdfaaaaicaa
open Go Go.E Go.RowKit
noncomputable def suffix_fault (a0 : Int) (a1 : Int) : Option ((Int × Int)) :=
  some ((a0, a1))

set_option maxRecDepth 10000 in
theorem suffix_fault_ok (w : World) (H : PH) (hH : Le H (hp w)) {a0 : Int} {a1 : Int}   {r : (Int × Int)} (h : suffix_fault a0 a1 = some r) :
    Ok Try.prog 42 [.int .i64 a0, .int .i64 a1] w (fun v w' => Ext w w' ∧ v = .agg #[.int .i64 r.1, .int .i64 r.2]) := by
  refine Ok_enter (n := 8) [(0, .int .i64 a0), (1, .int .i64 a1)] Try.func42 rfl rfl rfl rfl rfl ?_
  have hL := Lcl.start w
  refine W_seqr ?_
  refine S_alloc zr25 rfl rfl hL ?_
  intro w1 b1 hL1 hle1 _
  refine S_seqnil ?_
  refine W_seqr ?_
  refine S_pu 2 rfl ?_
  refine S_v (r_build rfl (fun _ => bld25_0_1 _ _ _)) rfl ?_
  refine S_storeBN 0 rfl rfl rfl zr25 hL1 rfl rfl (onc rfl (onc rfl on0)) ?_
  intro w2 hL2 hle2
  refine S_seqnil ?_
  refine W_ret ?_
  obtain rfl := Option.some.inj h
  refine At_got1 rfl (.cell rfl Try.underlying25 rfl zr25 (box_ptr (i := 0) hL2 rfl)) ?_
  exact ⟨hL2.ext, rfl⟩

noncomputable def suffix_common_k1 (s5_26 : Int) : Option (Int) :=
  some (s5_26)
noncomputable def suffix_common_bl2 (a0 : List UInt8) (a1 : List UInt8) : Int → Option ((Int) ⊕ (Int)) := fun s5_52 =>
  if s5_52 < (a0.length : Int) then if s5_52 < (a1.length : Int) then Go.L.chk (0 ≤ s5_52 ∧ s5_52 < (a0.length : Int)) (Go.L.chk (0 ≤ s5_52 ∧ s5_52 < (a1.length : Int)) (if ((a0.getD s5_52.toNat default).toNat : Int) = ((a1.getD s5_52.toNat default).toNat : Int) then Go.L.chk (Go.L.I64 (s5_52 + (1 : Int))) (some (Sum.inl (s5_52 + (1 : Int)))) else Option.map Sum.inr (suffix_common_k1 s5_52))) else Option.map Sum.inr (suffix_common_k1 s5_52) else Option.map Sum.inr (suffix_common_k1 s5_52)
noncomputable def suffix_common_l2 (a0 : List UInt8) (a1 : List UInt8) (s : Int) : Option (Int) := Go.L.run (suffix_common_bl2 a0 a1) s
noncomputable def suffix_common (a0 : List UInt8) (a1 : List UInt8) : Option (Int) :=
  (suffix_common_l2 a0 a1) (0 : Int)

set_option maxRecDepth 10000 in
theorem suffix_common_ok (w : World) (H : PH) (hH : Le H (hp w)) {a0 : List UInt8} {a1 : List UInt8} {v0_0 : Value} {v1_0 : Value} (h0_0 : Vec .byte H v0_0 (a0)) (h1_0 : Vec .byte H v1_0 (a1)) {r : Int} (h : suffix_common a0 a1 = some r) :
    Ok Try.prog 44 [v0_0, v1_0] w (fun v w' => Ext w w' ∧ v = .int .i64 r) := by
  refine Ok_enter (n := 30) [(0, v0_0), (1, v1_0)] Try.func44 rfl rfl rfl rfl rfl ?_
  have hL := Lcl.start w
  refine W_seqr ?_
  refine S_pu 1 rfl ?_
  refine S_seqnil ?_
  refine W_seqr ?_
  refine S_pu 1 rfl ?_
  refine S_seqnil ?_
  refine W_cut (σ := Int) (fun (s5_26 : Int) => [(5, .int .i64 s5_26)]) (fun (s5_26 : Int) wr => Lcl w [] wr ∧ suffix_common_k1 s5_26 = some r) ?_ ?_
  · refine W_block ?_
    obtain ⟨n53, h⟩ := Go.L.run_some h
    refine W_loop (σ := Int × Nat) (fun (⟨s5_52, n⟩ : Int × Nat) => [(0, v0_0), (1, v1_0), (5, .int .i64 s5_52)]) (fun (⟨s5_52, n⟩ : Int × Nat) wr => Lcl w [] wr ∧ Go.L.itr (suffix_common_bl2 a0 a1) n s5_52 = some r) (fun (⟨s5_52, n⟩ : Int × Nat) => n) ((0 : Int), n53) (.cons rfl (.cons rfl (.cons rfl (Sub.nil _)))) ⟨hL, h⟩ ?_
    rintro ⟨s5_52, nn53⟩ wr53 ⟨hL53, h⟩
    obtain ⟨n53, e53, rfl, h, hm53⟩ := Go.L.itr_some h
    refine W_seq ?_
    refine W_seqd (.q 0 (.q 1 (.q 2 (.q 3 (.q 4 (.q 5 (.q 6 (.q 7 (.q 8 (.q 9 (.q 10 (.q 11 (.q 12 (.q 13 (.q 14 (.q 15 (.q 16 (.q 17 (.q 18 (.q 19 (.q 20 (.tail 21)))))))))))))))))))))) mixed (by kernel_rfl) (fun w55 hx55 => ?_)
    have hL56 := hL53.call hx55
    refine D_pu 2 rfl ?_
    refine D_v (r_len rfl Try.underlying22 h0_0) rfl rfl ?_
    refine D_pu 2 rfl ?_
    refine D_split (s := 10) rfl (fun hg57 => ?_) (fun hg57 => ?_)
    · replace h := Go.L.ite_p (of_decide_eq_true hg57) h
      refine D_vg (RunsAt_pu rfl) rfl rfl rfl rfl hg57 rfl ?_
      refine D_vg (RunsAt_pu rfl) rfl rfl rfl rfl hg57 rfl ?_
      refine D_vg (r_len rfl Try.underlying22 h1_0) rfl rfl rfl rfl hg57 rfl ?_
      refine D_vg (RunsAt_pu rfl) rfl rfl rfl rfl hg57 rfl ?_
      refine D_v (r_pickT rfl hg57 rfl) rfl rfl ?_
      refine D_pu 1 rfl ?_
      refine D_split (s := 16) rfl (fun hg59 => ?_) (fun hg59 => ?_)
      · replace h := Go.L.ite_p (of_decide_eq_true hg59) h
        refine D_vg (RunsAt_pu rfl) rfl rfl rfl rfl hg59 rfl ?_
        refine D_vg (RunsAt_pu rfl) rfl rfl rfl rfl hg59 rfl ?_
        obtain ⟨hk62, h⟩ := Go.L.chk_some h
        refine D_indexg rfl rfl rfl rfl hg59 rfl rfl Try.underlying22 zr5 h0_0 s5_52.toNat (Int.toNat_of_nonneg hk62.1).symm (idx_lt hk62) rfl ?_
        rintro p61 _ rfl hp61
        refine D_vg (r_load1 rfl Try.underlying5 rfl hp61 (hH.trans hL56.arg)) rfl rfl rfl rfl hg59 rfl ?_
        refine D_vg (RunsAt_pu rfl) rfl rfl rfl rfl hg59 rfl ?_
        refine D_vg (RunsAt_pu rfl) rfl rfl rfl rfl hg59 rfl ?_
        obtain ⟨hk64, h⟩ := Go.L.chk_some h
        refine D_indexg rfl rfl rfl rfl hg59 rfl rfl Try.underlying22 zr5 h1_0 s5_52.toNat (Int.toNat_of_nonneg hk64.1).symm (idx_lt hk64) rfl ?_
        rintro p63 _ rfl hp63
        refine D_vg (r_load1 rfl Try.underlying5 rfl hp63 (hH.trans hL56.arg)) rfl rfl rfl rfl hg59 rfl ?_
        refine D_vg (RunsAt_pu rfl) rfl rfl rfl rfl hg59 rfl ?_
        refine D_v (r_pickT rfl hg59 rfl) rfl rfl ?_
        refine D_tail (fun w65 hx65 => ?_)
        have hL66 := hL56.call hx65
        refine S_seqnil ?_
        refine W_if rfl (fun hc67 => ?_) (fun hc67 => ?_)
        · replace h := Go.L.ite_p hc67 h
          refine W_skip ?_
          refine At_seq ?_
          refine W_block ?_
          refine W_region ?_
          refine S_pu 1 rfl ?_
          obtain ⟨hk69, h⟩ := Go.L.chk_some h
          refine S_v (r_ar64 rfl rfl rfl hk69) rfl ?_
          refine S_pu 1 rfl ?_
          refine S_nil ?_
          refine At_block ?_
          have h := Go.L.Nxt.again h hm53
          refine At_round ((s5_52 + (1 : Int)), n53) (.cons rfl (.cons rfl (.cons rfl (Sub.nil _)))) ⟨hL66, h⟩ (Nat.lt_succ_self _)
        · replace h := Go.L.ite_n hc67 h
          refine W_exit ?_
          refine At_seq_exit ?_
          refine At_loop_exit ?_
          replace h := Go.L.Nxt.out h hm53
          refine At_exit ?_
          refine At_cut s5_52 (.cons rfl (Sub.nil _)) ⟨hL66, h⟩
      · replace h := Go.L.ite_n (of_decide_eq_false hg59) h
        refine D_no rfl rfl rfl rfl hg59 rfl ?_
        refine D_no rfl rfl rfl rfl hg59 rfl ?_
        refine D_no rfl rfl rfl rfl hg59 rfl ?_
        refine D_no rfl rfl rfl rfl hg59 rfl ?_
        refine D_no rfl rfl rfl rfl hg59 rfl ?_
        refine D_no rfl rfl rfl rfl hg59 rfl ?_
        refine D_no rfl rfl rfl rfl hg59 rfl ?_
        refine D_no rfl rfl rfl rfl hg59 rfl ?_
        refine D_no rfl rfl rfl rfl hg59 rfl ?_
        refine D_v (r_pickF rfl hg59 rfl) rfl rfl ?_
        refine D_tail (fun w72 hx72 => ?_)
        have hL73 := hL56.call hx72
        refine S_seqnil ?_
        refine W_false rfl ?_
        refine W_exit ?_
        refine At_seq_exit ?_
        refine At_loop_exit ?_
        replace h := Go.L.Nxt.out h hm53
        refine At_exit ?_
        refine At_cut s5_52 (.cons rfl (Sub.nil _)) ⟨hL73, h⟩
    · replace h := Go.L.ite_n (of_decide_eq_false hg57) h
      refine D_no rfl rfl rfl rfl hg57 rfl ?_
      refine D_no rfl rfl rfl rfl hg57 rfl ?_
      refine D_no rfl rfl rfl rfl hg57 rfl ?_
      refine D_no rfl rfl rfl rfl hg57 rfl ?_
      refine D_v (r_pickF rfl hg57 rfl) rfl rfl ?_
      refine D_pu 1 rfl ?_
      refine D_no rfl rfl rfl rfl rfl rfl ?_
      refine D_no rfl rfl rfl rfl rfl rfl ?_
      refine D_no rfl rfl rfl rfl rfl rfl ?_
      refine D_no rfl rfl rfl rfl rfl rfl ?_
      refine D_no rfl rfl rfl rfl rfl rfl ?_
      refine D_no rfl rfl rfl rfl rfl rfl ?_
      refine D_no rfl rfl rfl rfl rfl rfl ?_
      refine D_no rfl rfl rfl rfl rfl rfl ?_
      refine D_no rfl rfl rfl rfl rfl rfl ?_
      refine D_v (r_pickF rfl rfl rfl) rfl rfl ?_
      refine D_tail (fun w75 hx75 => ?_)
      have hL76 := hL56.call hx75
      refine S_seqnil ?_
      refine W_false rfl ?_
      refine W_exit ?_
      refine At_seq_exit ?_
      refine At_loop_exit ?_
      replace h := Go.L.Nxt.out h hm53
      refine At_exit ?_
      refine At_cut s5_52 (.cons rfl (Sub.nil _)) ⟨hL76, h⟩
  · rintro s5_26 wr27 ⟨hL27, h⟩
    refine W_seqr ?_
    refine S_pu 2 rfl ?_
    refine S_seqnil ?_
    refine W_ret ?_
    obtain rfl := Option.some.inj h
    refine At_body rfl rfl ?_
    exact ⟨hL27.ext, rfl⟩

noncomputable def ref3_At (a0 : Int) (a1 : Int) : Option ((Int × Int)) :=
  some ((a0, a1))

set_option maxRecDepth 10000 in
theorem ref3_At_ok (w : World) (H : PH) (hH : Le H (hp w)) {a0 : Int} {a1 : Int}   {r : (Int × Int)} (h : ref3_At a0 a1 = some r) :
    Ok Try.prog 24 [.int .i64 a0, .int .i64 a1] w (fun v w' => Ext w w' ∧ v = .agg #[.int .i64 r.1, .int .i64 r.2]) := by
  refine Ok_enter (n := 8) [(0, .int .i64 a0), (1, .int .i64 a1)] Try.func24 rfl rfl rfl rfl rfl ?_
  have hL := Lcl.start w
  refine W_seqr ?_
  refine S_alloc zr25 rfl rfl hL ?_
  intro w1 b1 hL1 hle1 _
  refine S_seqnil ?_
  refine W_seqr ?_
  refine S_pu 2 rfl ?_
  refine S_v (r_build rfl (fun _ => bld25_0_1 _ _ _)) rfl ?_
  refine S_storeBN 0 rfl rfl rfl zr25 hL1 rfl rfl (onc rfl (onc rfl on0)) ?_
  intro w2 hL2 hle2
  refine S_seqnil ?_
  refine W_ret ?_
  obtain rfl := Option.some.inj h
  refine At_got1 rfl (.cell rfl Try.underlying25 rfl zr25 (box_ptr (i := 0) hL2 rfl)) ?_
  exact ⟨hL2.ext, rfl⟩

noncomputable def law4_textFault (a0 : List UInt8) : Option ((Int × Int)) :=
  if (2048 : Int) < (a0.length : Int) then Option.bind (ref3_At (3 : Int) (-1 : Int)) (fun x4 => some ((x4.1, x4.2))) else some (((0 : Int), (0 : Int)))

set_option maxRecDepth 10000 in
theorem law4_textFault_ok (w : World) (H : PH) (hH : Le H (hp w)) {a0 : List UInt8} {v0_0 : Value} (h0_0 : Vec .byte H v0_0 (a0)) {r : (Int × Int)} (h : law4_textFault a0 = some r) :
    Ok Try.prog 16 [v0_0] w (fun v w' => Ext w w' ∧ v = .agg #[.int .i64 r.1, .int .i64 r.2]) := by
  refine Ok_enter (n := 8) [(0, v0_0)] Try.func16 rfl rfl rfl rfl rfl ?_
  have hL := Lcl.start w
  refine W_seqr ?_
  refine S_alloc zr25 rfl rfl hL ?_
  intro w1 b1 hL1 hle1 _
  refine S_seqnil ?_
  refine W_seq ?_
  refine W_seqr ?_
  refine S_pu 1 rfl ?_
  refine S_v (r_len rfl Try.underlying22 h0_0) rfl ?_
  refine S_pu 1 rfl ?_
  refine S_seqnil ?_
  refine W_if rfl (fun hc2 => ?_) (fun hc2 => ?_)
  · replace h := Go.L.ite_p hc2 h
    refine W_seqr ?_
    obtain ⟨x4, hb4, h⟩ := Go.L.bind_some h
    refine S_callL rfl rfl hL1 (ref3_At_ok _ _ (gz_le hH hL1) hb4) ?_
    rintro _ w5 rfl hx5 hL5 hle5
    refine S_storeBN 0 rfl rfl rfl zr25 hL5 rfl rfl (onc rfl (onc rfl on0)) ?_
    intro w6 hL6 hle6
    refine S_seqnil ?_
    refine W_ret ?_
    refine At_seq_ret ?_
    obtain rfl := Option.some.inj h
    refine At_got1 rfl (.cell rfl Try.underlying25 rfl zr25 (box_ptr (i := 0) hL6 rfl)) ?_
    exact ⟨hL6.ext, rfl⟩
  · replace h := Go.L.ite_n hc2 h
    refine W_skip ?_
    refine At_seq ?_
    refine W_seqr ?_
    refine S_v (r_build rfl (fun _ => bld25_z _)) rfl ?_
    refine S_storeBN 0 rfl rfl rfl zr25 hL1 rfl rfl (onc rfl (onc rfl on0)) ?_
    intro w8 hL8 hle8
    refine S_seqnil ?_
    refine W_ret ?_
    obtain rfl := Option.some.inj h
    refine At_got1 rfl (.cell rfl Try.underlying25 rfl zr25 (box_ptr (i := 0) hL8 rfl)) ?_
    exact ⟨hL8.ext, rfl⟩

noncomputable def ref3_In (a0 : Int) (a1 : Int) (a2 : Int) : Option (Bool) :=
  some (decide ((a1 ≤ a0) ∧ (a0 ≤ a2)))

set_option maxRecDepth 10000 in
theorem ref3_In_ok (w : World) (H : PH) (hH : Le H (hp w)) {a0 : Int} {a1 : Int} {a2 : Int}   {r : Bool} (h : ref3_In a0 a1 a2 = some r) :
    Ok Try.prog 21 [.int .i64 a0, .int .i64 a1, .int .i64 a2] w (fun v w' => Ext w w' ∧ v = .bool r) := by
  refine Ok_enter (n := 15) [(0, .int .i64 a0), (1, .int .i64 a1), (2, .int .i64 a2)] Try.func21 rfl rfl rfl rfl rfl ?_
  have hL := Lcl.start w
  refine W_seqr ?_
  refine S_pu 1 rfl ?_
  refine S_seqnil ?_
  refine W_seqr ?_
  refine S_pu 4 rfl ?_
  refine S_and 3 3 rfl rfl rfl rfl rfl rfl ?_
  refine S_pu 1 rfl ?_
  refine S_seqnil ?_
  refine W_ret ?_
  obtain rfl := Option.some.inj h
  refine At_body rfl rfl ?_
  exact ⟨hL.ext, rfl⟩

noncomputable def ref3_Ints_k1 : Option (Bool) :=
  some (true)
noncomputable def ref3_Ints_bl2 (a0 : List Int) (a1 : List Int) : Int → Option ((Int) ⊕ (Bool)) := fun s5_40 =>
  if s5_40 < (a0.length : Int) then Go.L.chk (0 ≤ s5_40 ∧ s5_40 < (a0.length : Int)) (Go.L.chk (0 ≤ s5_40 ∧ s5_40 < (a1.length : Int)) (if a0.getD s5_40.toNat default = a1.getD s5_40.toNat default then Go.L.chk (Go.L.I64 (s5_40 + (1 : Int))) (some (Sum.inl (s5_40 + (1 : Int)))) else Option.map Sum.inr (some (false)))) else Option.map Sum.inr (ref3_Ints_k1)
noncomputable def ref3_Ints_l2 (a0 : List Int) (a1 : List Int) (s : Int) : Option (Bool) := Go.L.run (ref3_Ints_bl2 a0 a1) s
noncomputable def ref3_Ints (a0 : List Int) (a1 : List Int) : Option (Bool) :=
  if (a0.length : Int) = (a1.length : Int) then (ref3_Ints_l2 a0 a1) (0 : Int) else some (false)

set_option maxRecDepth 10000 in
theorem ref3_Ints_ok (w : World) (H : PH) (hH : Le H (hp w)) {a0 : List Int} {a1 : List Int} {v0_0 : Value} {v1_0 : Value} (h0_0 : Vec (.int .i64) H v0_0 (a0)) (h1_0 : Vec (.int .i64) H v1_0 (a1)) {r : Bool} (h : ref3_Ints a0 a1 = some r) :
    Ok Try.prog 19 [v0_0, v1_0] w (fun v w' => Ext w w' ∧ v = .bool r) := by
  refine Ok_enter (n := 26) [(0, v0_0), (1, v1_0)] Try.func19 rfl rfl rfl rfl rfl ?_
  have hL := Lcl.start w
  refine W_seqr ?_
  refine S_pu 1 rfl ?_
  refine S_seqnil ?_
  refine W_seq ?_
  refine W_seqr ?_
  refine S_pu 1 rfl ?_
  refine S_v (r_len rfl Try.underlying23 h0_0) rfl ?_
  refine S_pu 1 rfl ?_
  refine S_v (r_len rfl Try.underlying23 h1_0) rfl ?_
  refine S_pu 1 rfl ?_
  refine S_seqnil ?_
  refine W_ifn rfl (fun hc1 => ?_) (fun hc1 => ?_)
  · replace h := Go.L.ite_n hc1 h
    refine W_seqr ?_
    refine S_pu 1 rfl ?_
    refine S_seqnil ?_
    refine W_ret ?_
    refine At_seq_ret ?_
    obtain rfl := Option.some.inj h
    refine At_body rfl rfl ?_
    exact ⟨hL.ext, rfl⟩
  · replace h := Go.L.ite_p hc1 h
    refine W_skip ?_
    refine At_seq ?_
    refine W_cut (σ := Unit) (fun (_ : Unit) => []) (fun (_ : Unit) wr => Lcl w [] wr ∧ ref3_Ints_k1 = some r) ?_ ?_
    · refine W_seqr ?_
      refine S_pu 1 rfl ?_
      refine S_seqnil ?_
      refine W_block ?_
      obtain ⟨n41, h⟩ := Go.L.run_some h
      refine W_loop (σ := Int × Nat) (fun (⟨s5_40, n⟩ : Int × Nat) => [(0, v0_0), (1, v1_0), (5, .int .i64 s5_40)]) (fun (⟨s5_40, n⟩ : Int × Nat) wr => Lcl w [] wr ∧ Go.L.itr (ref3_Ints_bl2 a0 a1) n s5_40 = some r) (fun (⟨s5_40, n⟩ : Int × Nat) => n) ((0 : Int), n41) (.cons rfl (.cons rfl (.cons rfl (Sub.nil _)))) ⟨hL, h⟩ ?_
      rintro ⟨s5_40, nn41⟩ wr41 ⟨hL41, h⟩
      obtain ⟨n41, e41, rfl, h, hm41⟩ := Go.L.itr_some h
      refine W_seq ?_
      refine W_seqr ?_
      refine S_pu 2 rfl ?_
      refine S_v (r_len rfl Try.underlying23 h0_0) rfl ?_
      refine S_pu 1 rfl ?_
      refine S_seqnil ?_
      refine W_if rfl (fun hc43 => ?_) (fun hc43 => ?_)
      · replace h := Go.L.ite_p hc43 h
        refine W_skip ?_
        refine At_seq ?_
        refine W_seq ?_
        refine W_block ?_
        refine W_seqd (.q 0 (.q 1 (.q 2 (.q 3 (.q 4 (.q 5 (.q 6 (.q 7 (.q 8 (.tail 9)))))))))) mixed (by kernel_rfl) (fun w45 hx45 => ?_)
        have hL46 := hL41.call hx45
        refine D_pu 2 rfl ?_
        obtain ⟨hk48, h⟩ := Go.L.chk_some h
        refine D_index rfl rfl rfl Try.underlying23 zr3 h0_0 s5_40.toNat (Int.toNat_of_nonneg hk48.1).symm (idx_lt hk48) rfl ?_
        rintro p47 _ rfl hp47
        refine D_v (r_load1 rfl Try.underlying3 rfl hp47 (hH.trans hL46.arg)) rfl rfl ?_
        refine D_pu 2 rfl ?_
        obtain ⟨hk50, h⟩ := Go.L.chk_some h
        refine D_index rfl rfl rfl Try.underlying23 zr3 h1_0 s5_40.toNat (Int.toNat_of_nonneg hk50.1).symm (idx_lt hk50) rfl ?_
        rintro p49 _ rfl hp49
        refine D_v (r_load1 rfl Try.underlying3 rfl hp49 (hH.trans hL46.arg)) rfl rfl ?_
        refine D_pu 1 rfl ?_
        refine D_tail (fun w51 hx51 => ?_)
        have hL52 := hL46.call hx51
        refine S_seqnil ?_
        refine W_ifn rfl (fun hc53 => ?_) (fun hc53 => ?_)
        · replace h := Go.L.ite_n hc53 h
          refine W_seqr ?_
          refine S_pu 1 rfl ?_
          refine S_seqnil ?_
          refine W_ret ?_
          refine At_block_ret ?_
          refine At_seq_ret ?_
          refine At_loop_ret ?_
          replace h := Go.L.Nxt.out h hm41
          refine At_block_ret ?_
          refine At_cut_ret ?_
          obtain rfl := Option.some.inj h
          refine At_body rfl rfl ?_
          exact ⟨hL52.ext, rfl⟩
        · replace h := Go.L.ite_p hc53 h
          refine W_skip ?_
          refine At_block ?_
          refine At_seq ?_
          refine W_region ?_
          refine S_pu 1 rfl ?_
          obtain ⟨hk56, h⟩ := Go.L.chk_some h
          refine S_v (r_ar64 rfl rfl rfl hk56) rfl ?_
          refine S_pu 1 rfl ?_
          refine S_nil ?_
          have h := Go.L.Nxt.again h hm41
          refine At_round ((s5_40 + (1 : Int)), n41) (.cons rfl (.cons rfl (.cons rfl (Sub.nil _)))) ⟨hL52, h⟩ (Nat.lt_succ_self _)
      · replace h := Go.L.ite_n hc43 h
        refine W_exit ?_
        refine At_seq_exit ?_
        refine At_loop_exit ?_
        replace h := Go.L.Nxt.out h hm41
        refine At_exit ?_
        refine At_cut () (Sub.nil _) ⟨hL41, h⟩
    · rintro _ wr22 ⟨hL22, h⟩
      refine W_seqr ?_
      refine S_pu 1 rfl ?_
      refine S_seqnil ?_
      refine W_ret ?_
      obtain rfl := Option.some.inj h
      refine At_body rfl rfl ?_
      exact ⟨hL22.ext, rfl⟩

noncomputable def ref3_SameBytes (a0 : List UInt8) (a1 : List UInt8) : Option (Bool) :=
  some (decide (a0 = a1))

set_option maxRecDepth 10000 in
theorem ref3_SameBytes_ok (w : World) (H : PH) (hH : Le H (hp w)) {a0 : List UInt8} {a1 : List UInt8} {v0_0 : Value} {v1_0 : Value} (h0_0 : Vec .byte H v0_0 (a0)) (h1_0 : Vec .byte H v1_0 (a1)) {r : Bool} (h : ref3_SameBytes a0 a1 = some r) :
    Ok Try.prog 37 [v0_0, v1_0] w (fun v w' => Ext w w' ∧ v = .bool r) := by
  refine Ok_enter (n := 10) [(0, v0_0), (1, v1_0)] Try.func37 rfl rfl rfl rfl rfl ?_
  have hL := Lcl.start w
  refine W_seqr ?_
  refine S_pu 1 rfl ?_
  refine S_seqnil ?_
  refine W_seqr ?_
  refine S_pu 1 rfl ?_
  refine S_v (r_str rfl Try.underlying22 Try.underlying5 Try.underlying9 h0_0 (hH.trans hL.arg)) rfl ?_
  refine S_pu 1 rfl ?_
  refine S_v (r_str rfl Try.underlying22 Try.underlying5 Try.underlying9 h1_0 (hH.trans hL.arg)) rfl ?_
  refine S_v (r_seq rfl rfl) rfl ?_
  refine S_pu 1 rfl ?_
  refine S_seqnil ?_
  refine W_ret ?_
  obtain rfl := Option.some.inj h
  refine At_body rfl rfl ?_
  exact ⟨hL.ext, rfl⟩

noncomputable def ref4_Less (a0 : List UInt8) (a1 : Int) (a2 : Int) : Option (Bool) :=
  Go.L.chk (0 ≤ a1 ∧ a1 ≤ (a0.length : Int)) (Go.L.chk (0 ≤ a2 ∧ a2 ≤ (a0.length : Int)) (some (Op.bytesLess (a0.drop a1.toNat) (a0.drop a2.toNat))))

set_option maxRecDepth 10000 in
theorem ref4_Less_ok (w : World) (H : PH) (hH : Le H (hp w)) {a0 : List UInt8} {a1 : Int} {a2 : Int} {v0_0 : Value} (h0_0 : Vec .byte H v0_0 (a0)) {r : Bool} (h : ref4_Less a0 a1 a2 = some r) :
    Ok Try.prog 22 [v0_0, .int .i64 a1, .int .i64 a2] w (fun v w' => Ext w w' ∧ v = .bool r) := by
  refine Ok_enter (n := 16) [(0, v0_0), (1, .int .i64 a1), (2, .int .i64 a2)] Try.func22 rfl rfl rfl rfl rfl ?_
  have hL := Lcl.start w
  refine W_seqr ?_
  refine S_pu 1 rfl ?_
  refine S_seqnil ?_
  refine W_seqd (.q 0 (.q 1 (.q 2 (.q 3 (.q 4 (.q 5 (.q 6 (.q 7 (.q 8 (.q 9 (.tail 10))))))))))) mixed (by kernel_rfl) (fun w1 hx1 => ?_)
  have hL2 := hL.call hx1
  refine D_pu 2 rfl ?_
  obtain ⟨hk4, h⟩ := Go.L.chk_some h
  refine D_sliceL rfl rfl rfl Try.underlying22 zr5 h0_0 hk4 rfl ?_
  intro v3 hv3
  refine D_v (r_str rfl Try.underlying22 Try.underlying5 Try.underlying9 hv3 (hH.trans hL2.arg)) rfl rfl ?_
  refine D_pu 2 rfl ?_
  obtain ⟨hk6, h⟩ := Go.L.chk_some h
  refine D_sliceL rfl rfl rfl Try.underlying22 zr5 h0_0 hk6 rfl ?_
  intro v5 hv5
  refine D_v (r_str rfl Try.underlying22 Try.underlying5 Try.underlying9 hv5 (hH.trans hL2.arg)) rfl rfl ?_
  refine D_v (r_slt rfl rfl) rfl rfl ?_
  refine D_pu 1 rfl ?_
  refine D_tail (fun w7 hx7 => ?_)
  have hL8 := hL2.call hx7
  refine S_seqnil ?_
  refine W_ret ?_
  obtain rfl := Option.some.inj h
  refine At_body rfl rfl ?_
  exact ⟨hL8.ext, rfl⟩

noncomputable def ref4_Shared_k1 (s7_30 : Int) : Option (Int) :=
  some (s7_30)
noncomputable def ref4_Shared_bl2 (a0 : List UInt8) (a1 : Int) (a2 : Int) : Int → Option ((Int) ⊕ (Int)) := fun s7_60 =>
  Go.L.chk (Go.L.I64 (a1 + s7_60)) (if (a1 + s7_60) < (a0.length : Int) then Go.L.chk (Go.L.I64 (a2 + s7_60)) (if (a2 + s7_60) < (a0.length : Int) then Go.L.chk (Go.L.I64 (a1 + s7_60)) (Go.L.chk (0 ≤ (a1 + s7_60) ∧ (a1 + s7_60) < (a0.length : Int)) (Go.L.chk (Go.L.I64 (a2 + s7_60)) (Go.L.chk (0 ≤ (a2 + s7_60) ∧ (a2 + s7_60) < (a0.length : Int)) (if ((a0.getD ((a1 + s7_60).toNat) default).toNat : Int) = ((a0.getD ((a2 + s7_60).toNat) default).toNat : Int) then Go.L.chk (Go.L.I64 (s7_60 + (1 : Int))) (some (Sum.inl (s7_60 + (1 : Int)))) else Option.map Sum.inr (ref4_Shared_k1 s7_60))))) else Option.map Sum.inr (ref4_Shared_k1 s7_60)) else Option.map Sum.inr (ref4_Shared_k1 s7_60))
noncomputable def ref4_Shared_l2 (a0 : List UInt8) (a1 : Int) (a2 : Int) (s : Int) : Option (Int) := Go.L.run (ref4_Shared_bl2 a0 a1 a2) s
noncomputable def ref4_Shared (a0 : List UInt8) (a1 : Int) (a2 : Int) : Option (Int) :=
  (ref4_Shared_l2 a0 a1 a2) (0 : Int)

set_option maxRecDepth 10000 in
theorem ref4_Shared_ok (w : World) (H : PH) (hH : Le H (hp w)) {a0 : List UInt8} {a1 : Int} {a2 : Int} {v0_0 : Value} (h0_0 : Vec .byte H v0_0 (a0)) {r : Int} (h : ref4_Shared a0 a1 a2 = some r) :
    Ok Try.prog 20 [v0_0, .int .i64 a1, .int .i64 a2] w (fun v w' => Ext w w' ∧ v = .int .i64 r) := by
  refine Ok_enter (n := 40) [(0, v0_0), (1, .int .i64 a1), (2, .int .i64 a2)] Try.func20 rfl rfl rfl rfl rfl ?_
  have hL := Lcl.start w
  refine W_seqr ?_
  refine S_pu 1 rfl ?_
  refine S_seqnil ?_
  refine W_seqr ?_
  refine S_pu 1 rfl ?_
  refine S_seqnil ?_
  refine W_cut (σ := Int) (fun (s7_30 : Int) => [(7, .int .i64 s7_30)]) (fun (s7_30 : Int) wr => Lcl w [] wr ∧ ref4_Shared_k1 s7_30 = some r) ?_ ?_
  · refine W_block ?_
    obtain ⟨n61, h⟩ := Go.L.run_some h
    refine W_loop (σ := Int × Nat) (fun (⟨s7_60, n⟩ : Int × Nat) => [(0, v0_0), (1, .int .i64 a1), (2, .int .i64 a2), (7, .int .i64 s7_60)]) (fun (⟨s7_60, n⟩ : Int × Nat) wr => Lcl w [] wr ∧ Go.L.itr (ref4_Shared_bl2 a0 a1 a2) n s7_60 = some r) (fun (⟨s7_60, n⟩ : Int × Nat) => n) ((0 : Int), n61) (.cons rfl (.cons rfl (.cons rfl (.cons rfl (Sub.nil _))))) ⟨hL, h⟩ ?_
    rintro ⟨s7_60, nn61⟩ wr61 ⟨hL61, h⟩
    obtain ⟨n61, e61, rfl, h, hm61⟩ := Go.L.itr_some h
    refine W_seq ?_
    refine W_seqd (.q 0 (.q 1 (.q 2 (.q 3 (.q 4 (.q 5 (.q 6 (.q 7 (.q 8 (.q 9 (.q 10 (.q 11 (.q 12 (.q 13 (.q 14 (.q 15 (.q 16 (.q 17 (.q 18 (.q 19 (.q 20 (.q 21 (.q 22 (.q 23 (.q 24 (.q 25 (.q 26 (.q 27 (.q 28 (.tail 29)))))))))))))))))))))))))))))) mixed (by kernel_rfl) (fun w63 hx63 => ?_)
    have hL64 := hL61.call hx63
    refine D_pu 2 rfl ?_
    obtain ⟨hk65, h⟩ := Go.L.chk_some h
    refine D_v (r_ar64 rfl rfl rfl hk65) rfl rfl ?_
    refine D_pu 1 rfl ?_
    refine D_v (r_len rfl Try.underlying22 h0_0) rfl rfl ?_
    refine D_pu 2 rfl ?_
    refine D_split (s := 14) rfl (fun hg66 => ?_) (fun hg66 => ?_)
    · replace h := Go.L.ite_p (of_decide_eq_true hg66) h
      refine D_vg (RunsAt_pu rfl) rfl rfl rfl rfl hg66 rfl ?_
      refine D_vg (RunsAt_pu rfl) rfl rfl rfl rfl hg66 rfl ?_
      obtain ⟨hk68, h⟩ := Go.L.chk_some h
      refine D_vg (r_ar64 rfl rfl rfl hk68) rfl rfl rfl rfl hg66 rfl ?_
      refine D_vg (RunsAt_pu rfl) rfl rfl rfl rfl hg66 rfl ?_
      refine D_vg (r_len rfl Try.underlying22 h0_0) rfl rfl rfl rfl hg66 rfl ?_
      refine D_vg (RunsAt_pu rfl) rfl rfl rfl rfl hg66 rfl ?_
      refine D_v (r_pickT rfl hg66 rfl) rfl rfl ?_
      refine D_pu 1 rfl ?_
      refine D_split (s := 22) rfl (fun hg69 => ?_) (fun hg69 => ?_)
      · replace h := Go.L.ite_p (of_decide_eq_true hg69) h
        refine D_vg (RunsAt_pu rfl) rfl rfl rfl rfl hg69 rfl ?_
        refine D_vg (RunsAt_pu rfl) rfl rfl rfl rfl hg69 rfl ?_
        refine D_vg (RunsAt_pu rfl) rfl rfl rfl rfl hg69 rfl ?_
        obtain ⟨hk71, h⟩ := Go.L.chk_some h
        refine D_vg (r_ar64 rfl rfl rfl hk71) rfl rfl rfl rfl hg69 rfl ?_
        obtain ⟨hk73, h⟩ := Go.L.chk_some h
        refine D_indexg rfl rfl rfl rfl hg69 rfl rfl Try.underlying22 zr5 h0_0 ((a1 + s7_60).toNat) (Int.toNat_of_nonneg hk73.1).symm (idx_lt hk73) rfl ?_
        rintro p72 _ rfl hp72
        refine D_vg (r_load1 rfl Try.underlying5 rfl hp72 (hH.trans hL64.arg)) rfl rfl rfl rfl hg69 rfl ?_
        refine D_vg (RunsAt_pu rfl) rfl rfl rfl rfl hg69 rfl ?_
        refine D_vg (RunsAt_pu rfl) rfl rfl rfl rfl hg69 rfl ?_
        refine D_vg (RunsAt_pu rfl) rfl rfl rfl rfl hg69 rfl ?_
        obtain ⟨hk74, h⟩ := Go.L.chk_some h
        refine D_vg (r_ar64 rfl rfl rfl hk74) rfl rfl rfl rfl hg69 rfl ?_
        obtain ⟨hk76, h⟩ := Go.L.chk_some h
        refine D_indexg rfl rfl rfl rfl hg69 rfl rfl Try.underlying22 zr5 h0_0 ((a2 + s7_60).toNat) (Int.toNat_of_nonneg hk76.1).symm (idx_lt hk76) rfl ?_
        rintro p75 _ rfl hp75
        refine D_vg (r_load1 rfl Try.underlying5 rfl hp75 (hH.trans hL64.arg)) rfl rfl rfl rfl hg69 rfl ?_
        refine D_vg (RunsAt_pu rfl) rfl rfl rfl rfl hg69 rfl ?_
        refine D_v (r_pickT rfl hg69 rfl) rfl rfl ?_
        refine D_tail (fun w77 hx77 => ?_)
        have hL78 := hL64.call hx77
        refine S_seqnil ?_
        refine W_if rfl (fun hc79 => ?_) (fun hc79 => ?_)
        · replace h := Go.L.ite_p hc79 h
          refine W_skip ?_
          refine At_seq ?_
          refine W_block ?_
          refine W_region ?_
          refine S_pu 1 rfl ?_
          obtain ⟨hk81, h⟩ := Go.L.chk_some h
          refine S_v (r_ar64 rfl rfl rfl hk81) rfl ?_
          refine S_pu 1 rfl ?_
          refine S_nil ?_
          refine At_block ?_
          have h := Go.L.Nxt.again h hm61
          refine At_round ((s7_60 + (1 : Int)), n61) (.cons rfl (.cons rfl (.cons rfl (.cons rfl (Sub.nil _))))) ⟨hL78, h⟩ (Nat.lt_succ_self _)
        · replace h := Go.L.ite_n hc79 h
          refine W_exit ?_
          refine At_seq_exit ?_
          refine At_loop_exit ?_
          replace h := Go.L.Nxt.out h hm61
          refine At_exit ?_
          refine At_cut s7_60 (.cons rfl (Sub.nil _)) ⟨hL78, h⟩
      · replace h := Go.L.ite_n (of_decide_eq_false hg69) h
        refine D_no rfl rfl rfl rfl hg69 rfl ?_
        refine D_no rfl rfl rfl rfl hg69 rfl ?_
        refine D_no rfl rfl rfl rfl hg69 rfl ?_
        refine D_no rfl rfl rfl rfl hg69 rfl ?_
        refine D_no rfl rfl rfl rfl hg69 rfl ?_
        refine D_no rfl rfl rfl rfl hg69 rfl ?_
        refine D_no rfl rfl rfl rfl hg69 rfl ?_
        refine D_no rfl rfl rfl rfl hg69 rfl ?_
        refine D_no rfl rfl rfl rfl hg69 rfl ?_
        refine D_no rfl rfl rfl rfl hg69 rfl ?_
        refine D_no rfl rfl rfl rfl hg69 rfl ?_
        refine D_no rfl rfl rfl rfl hg69 rfl ?_
        refine D_no rfl rfl rfl rfl hg69 rfl ?_
        refine D_v (r_pickF rfl hg69 rfl) rfl rfl ?_
        refine D_tail (fun w84 hx84 => ?_)
        have hL85 := hL64.call hx84
        refine S_seqnil ?_
        refine W_false rfl ?_
        refine W_exit ?_
        refine At_seq_exit ?_
        refine At_loop_exit ?_
        replace h := Go.L.Nxt.out h hm61
        refine At_exit ?_
        refine At_cut s7_60 (.cons rfl (Sub.nil _)) ⟨hL85, h⟩
    · replace h := Go.L.ite_n (of_decide_eq_false hg66) h
      refine D_no rfl rfl rfl rfl hg66 rfl ?_
      refine D_no rfl rfl rfl rfl hg66 rfl ?_
      refine D_no rfl rfl rfl rfl hg66 rfl ?_
      refine D_no rfl rfl rfl rfl hg66 rfl ?_
      refine D_no rfl rfl rfl rfl hg66 rfl ?_
      refine D_no rfl rfl rfl rfl hg66 rfl ?_
      refine D_v (r_pickF rfl hg66 rfl) rfl rfl ?_
      refine D_pu 1 rfl ?_
      refine D_no rfl rfl rfl rfl rfl rfl ?_
      refine D_no rfl rfl rfl rfl rfl rfl ?_
      refine D_no rfl rfl rfl rfl rfl rfl ?_
      refine D_no rfl rfl rfl rfl rfl rfl ?_
      refine D_no rfl rfl rfl rfl rfl rfl ?_
      refine D_no rfl rfl rfl rfl rfl rfl ?_
      refine D_no rfl rfl rfl rfl rfl rfl ?_
      refine D_no rfl rfl rfl rfl rfl rfl ?_
      refine D_no rfl rfl rfl rfl rfl rfl ?_
      refine D_no rfl rfl rfl rfl rfl rfl ?_
      refine D_no rfl rfl rfl rfl rfl rfl ?_
      refine D_no rfl rfl rfl rfl rfl rfl ?_
      refine D_no rfl rfl rfl rfl rfl rfl ?_
      refine D_v (r_pickF rfl rfl rfl) rfl rfl ?_
      refine D_tail (fun w87 hx87 => ?_)
      have hL88 := hL64.call hx87
      refine S_seqnil ?_
      refine W_false rfl ?_
      refine W_exit ?_
      refine At_seq_exit ?_
      refine At_loop_exit ?_
      replace h := Go.L.Nxt.out h hm61
      refine At_exit ?_
      refine At_cut s7_60 (.cons rfl (Sub.nil _)) ⟨hL88, h⟩
  · rintro s7_30 wr31 ⟨hL31, h⟩
    refine W_seqr ?_
    refine S_pu 2 rfl ?_
    refine S_seqnil ?_
    refine W_ret ?_
    obtain rfl := Option.some.inj h
    refine At_body rfl rfl ?_
    exact ⟨hL31.ext, rfl⟩

noncomputable def ref4_Begins (a0 : List UInt8) (a1 : Int) (a2 : List UInt8) : Option (Bool) :=
  Go.L.chk (Go.L.I64 (a1 + (a2.length : Int))) (if (a1 + (a2.length : Int)) ≤ (a0.length : Int) then Go.L.chk (Go.L.I64 (a1 + (a2.length : Int))) (Go.L.chk (0 ≤ a1 ∧ a1 ≤ (a1 + (a2.length : Int)) ∧ (a1 + (a2.length : Int)) ≤ (a0.length : Int)) (Option.bind (ref3_SameBytes ((a0.drop a1.toNat).take ((a1 + (a2.length : Int)).toNat - a1.toNat)) a2) (fun x7 => some (x7)))) else some (false))

set_option maxRecDepth 10000 in
theorem ref4_Begins_ok (w : World) (H : PH) (hH : Le H (hp w)) {a0 : List UInt8} {a1 : Int} {a2 : List UInt8} {v0_0 : Value} {v2_0 : Value} (h0_0 : Vec .byte H v0_0 (a0)) (h2_0 : Vec .byte H v2_0 (a2)) {r : Bool} (h : ref4_Begins a0 a1 a2 = some r) :
    Ok Try.prog 26 [v0_0, .int .i64 a1, v2_0] w (fun v w' => Ext w w' ∧ v = .bool r) := by
  refine Ok_enter (n := 25) [(0, v0_0), (1, .int .i64 a1), (2, v2_0)] Try.func26 rfl rfl rfl rfl rfl ?_
  have hL := Lcl.start w
  refine W_seqr ?_
  refine S_pu 1 rfl ?_
  refine S_seqnil ?_
  refine W_seqr ?_
  refine S_pu 2 rfl ?_
  refine S_v (r_len rfl Try.underlying22 h2_0) rfl ?_
  obtain ⟨hk1, h⟩ := Go.L.chk_some h
  refine S_v (r_ar64 rfl rfl rfl hk1) rfl ?_
  refine S_pu 1 rfl ?_
  refine S_v (r_len rfl Try.underlying22 h0_0) rfl ?_
  refine S_pu 2 rfl ?_
  refine S_split (s := 14) rfl (fun hg2 => ?_) (fun hg2 => ?_)
  · replace h := Go.L.ite_p (of_decide_eq_true hg2) h
    refine S_guarded rfl rfl hg2 ?_
    refine S_v (RunsAt_pu rfl) rfl ?_
    refine S_guarded rfl rfl hg2 ?_
    refine S_v (RunsAt_pu rfl) rfl ?_
    refine S_guarded rfl rfl hg2 ?_
    refine S_v (RunsAt_pu rfl) rfl ?_
    refine S_guarded rfl rfl hg2 ?_
    refine S_v (RunsAt_pu rfl) rfl ?_
    refine S_guarded rfl rfl hg2 ?_
    refine S_v (r_len rfl Try.underlying22 h2_0) rfl ?_
    refine S_guarded rfl rfl hg2 ?_
    obtain ⟨hk4, h⟩ := Go.L.chk_some h
    refine S_v (r_ar64 rfl rfl rfl hk4) rfl ?_
    refine S_guarded rfl rfl hg2 ?_
    obtain ⟨hk6, h⟩ := Go.L.chk_some h
    refine S_sliceB rfl rfl rfl Try.underlying22 zr5 h0_0 hk6 rfl ?_
    intro v5 hv5
    refine S_guarded rfl rfl hg2 ?_
    refine S_v (RunsAt_pu rfl) rfl ?_
    refine S_guarded rfl rfl hg2 ?_
    obtain ⟨x7, hb7, h⟩ := Go.L.bind_some h
    refine S_callL rfl rfl hL (ref3_SameBytes_ok _ _ (gz_le hH hL) (hv5.mono (gz_left hH)) (h2_0.mono (gz_left hH)) hb7) ?_
    rintro _ w8 rfl hx8 hL8 hle8
    refine S_v (r_pickT rfl hg2 rfl) rfl ?_
    refine S_pu 1 rfl ?_
    refine S_seqnil ?_
    refine W_ret ?_
    obtain rfl := Option.some.inj h
    refine At_body rfl rfl ?_
    exact ⟨hL8.ext, rfl⟩
  · replace h := Go.L.ite_n (of_decide_eq_false hg2) h
    refine S_unwanted rfl rfl hg2 rfl ?_
    refine S_unwanted rfl rfl hg2 rfl ?_
    refine S_unwanted rfl rfl hg2 rfl ?_
    refine S_unwanted rfl rfl hg2 rfl ?_
    refine S_unwanted rfl rfl hg2 rfl ?_
    refine S_unwanted rfl rfl hg2 rfl ?_
    refine S_unwanted rfl rfl hg2 rfl ?_
    refine S_unwanted rfl rfl hg2 rfl ?_
    refine S_unwanted rfl rfl hg2 rfl ?_
    refine S_v (r_pickF rfl hg2 rfl) rfl ?_
    refine S_pu 1 rfl ?_
    refine S_seqnil ?_
    refine W_ret ?_
    obtain rfl := Option.some.inj h
    refine At_body rfl rfl ?_
    exact ⟨hL.ext, rfl⟩

noncomputable def ref4_Order_k3 (s4_110 : Int) (l160 : List Int) : Option (((List Int) × Int) ⊕ ((List Int))) :=
  Go.L.chk (Go.L.I64 (s4_110 + (1 : Int))) (some (Sum.inl (l160, (s4_110 + (1 : Int)))))
noncomputable def ref4_Order_bl4 (a0 : List UInt8) (s4_110 : Int) : (List Int) × Int → Option (((List Int) × Int) ⊕ (((List Int) × Int) ⊕ ((List Int)))) := fun ⟨l206, s5_207⟩ =>
  if (0 : Int) < s5_207 then Go.L.chk (0 ≤ s5_207 ∧ s5_207 < (l206.length : Int)) (Go.L.chk (Go.L.I64 (s5_207 - (1 : Int))) (Go.L.chk (0 ≤ (s5_207 - (1 : Int)) ∧ (s5_207 - (1 : Int)) < (l206.length : Int)) (Option.bind (ref4_Less a0 (l206.getD s5_207.toNat default) (l206.getD ((s5_207 - (1 : Int)).toNat) default)) (fun x219 => if x219 then Go.L.chk (Go.L.I64 (s5_207 - (1 : Int))) (Go.L.chk (Go.L.I64 (s5_207 - (1 : Int))) (Go.L.chk (0 ≤ (s5_207 - (1 : Int)) ∧ (s5_207 - (1 : Int)) < (l206.length : Int)) (Go.L.chk (0 ≤ s5_207 ∧ s5_207 < (l206.length : Int)) (Go.L.chk (0 ≤ s5_207 ∧ s5_207 < (l206.length : Int)) (Go.L.chk (0 ≤ (s5_207 - (1 : Int)) ∧ (s5_207 - (1 : Int)) < ((l206.set s5_207.toNat (l206.getD ((s5_207 - (1 : Int)).toNat) default)).length : Int)) (Go.L.chk (Go.L.I64 (s5_207 - (1 : Int))) (some (Sum.inl (((l206.set s5_207.toNat (l206.getD ((s5_207 - (1 : Int)).toNat) default)).set ((s5_207 - (1 : Int)).toNat) (l206.getD s5_207.toNat default)), (s5_207 - (1 : Int))))))))))) else Option.map Sum.inr ((ref4_Order_k3 s4_110) l206))))) else Option.map Sum.inr ((ref4_Order_k3 s4_110) l206)
noncomputable def ref4_Order_l4 (a0 : List UInt8) (s4_110 : Int) (s : (List Int) × Int) : Option (((List Int) × Int) ⊕ ((List Int))) := Go.L.run (ref4_Order_bl4 a0 s4_110) s
noncomputable def ref4_Order_k1 (l55 : List Int) : Option ((List Int)) :=
  some (l55)
noncomputable def ref4_Order_bl2 (a0 : List UInt8) : (List Int) × Int → Option (((List Int) × Int) ⊕ ((List Int))) := fun ⟨l109, s4_110⟩ =>
  if s4_110 < (a0.length : Int) then Go.L.chk (Go.E.Cap 8 (l109.length + ([s4_110]).length)) (Go.L.chk (Go.L.I64 (((l109 ++ [s4_110]).length : Int) - (1 : Int))) ((ref4_Order_l4 a0 s4_110) ((l109 ++ [s4_110]), (((l109 ++ [s4_110]).length : Int) - (1 : Int))))) else Option.map Sum.inr (ref4_Order_k1 l109)
noncomputable def ref4_Order_l2 (a0 : List UInt8) (s : (List Int) × Int) : Option ((List Int)) := Go.L.run (ref4_Order_bl2 a0) s
noncomputable def ref4_Order (a0 : List UInt8) : Option ((List Int)) :=
  (ref4_Order_l2 a0) (([] : List Int), (0 : Int))

set_option maxRecDepth 10000 in
theorem ref4_Order_ok (w : World) (H : PH) (hH : Le H (hp w)) {a0 : List UInt8} {v0_0 : Value} (h0_0 : Vec .byte H v0_0 (a0)) {r : (List Int)} (h : ref4_Order a0 = some r) :
    Ok Try.prog 18 [v0_0] w (fun v w' => Ext w w' ∧ ∃ u0, v = u0 ∧ OwnH 3 (.int .i64) H w w' u0 (r)) := by
  refine Ok_enter (n := 53) [(0, v0_0)] Try.func18 rfl rfl rfl rfl rfl ?_
  have hL := Lcl.start w
  refine W_seqr ?_
  refine S_pu 1 rfl ?_
  refine S_seqnil ?_
  refine W_seqr ?_
  refine S_pu 1 rfl ?_
  obtain ⟨hL1, hle1, he1⟩ := row_nilE (.int .i64) H 3 hL
  refine S_seqnil ?_
  refine W_cut (σ := (List Int) × Value × (List Value)) (fun (⟨l55, vl55, xsl55⟩ : (List Int) × Value × (List Value)) => [(3, vl55)]) (fun (⟨l55, vl55, xsl55⟩ : (List Int) × Value × (List Value)) wr => Lcl w [.row (vl55) 3 1 (l55).length (xsl55)] wr ∧ Elems (.int .i64) (gz H w wr [.row (vl55) 3 1 (l55).length (xsl55)]) (l55) (xsl55) ∧ ref4_Order_k1 l55 = some r) ?_ ?_
  · refine W_seqr ?_
    refine S_pu 1 rfl ?_
    refine S_seqnil ?_
    refine W_block ?_
    obtain ⟨n111, h⟩ := Go.L.run_some h
    refine W_loop (σ := (List Int) × Int × Value × (List Value) × Nat) (fun (⟨l109, s4_110, vl109, xsl109, n⟩ : (List Int) × Int × Value × (List Value) × Nat) => [(0, v0_0), (3, vl109), (4, .int .i64 s4_110)]) (fun (⟨l109, s4_110, vl109, xsl109, n⟩ : (List Int) × Int × Value × (List Value) × Nat) wr => Lcl w [.row (vl109) 3 1 (l109).length (xsl109)] wr ∧ Elems (.int .i64) (gz H w wr [.row (vl109) 3 1 (l109).length (xsl109)]) (l109) (xsl109) ∧ Go.L.itr (ref4_Order_bl2 a0) n (l109, s4_110) = some r) (fun (⟨l109, s4_110, vl109, xsl109, n⟩ : (List Int) × Int × Value × (List Value) × Nat) => n) (([] : List Int), (0 : Int), .slice none 0 0, [], n111) (.cons rfl (.cons rfl (.cons rfl (Sub.nil _)))) ⟨hL1, he1, h⟩ ?_
    rintro ⟨l109, s4_110, vl109, xsl109, nn111⟩ wr111 ⟨hL111, hel109, h⟩
    obtain ⟨n111, e111, rfl, h, hm111⟩ := Go.L.itr_some h
    refine W_seq ?_
    refine W_seqr ?_
    refine S_pu 2 rfl ?_
    refine S_v (r_len rfl Try.underlying22 h0_0) rfl ?_
    refine S_pu 1 rfl ?_
    refine S_seqnil ?_
    refine W_if rfl (fun hc113 => ?_) (fun hc113 => ?_)
    · replace h := Go.L.ite_p hc113 h
      refine W_skip ?_
      refine At_seq ?_
      refine W_cut (σ := (List Int) × Value × (List Value)) (fun (⟨l160, vl160, xsl160⟩ : (List Int) × Value × (List Value)) => [(0, v0_0), (3, vl160), (4, .int .i64 s4_110)]) (fun (⟨l160, vl160, xsl160⟩ : (List Int) × Value × (List Value)) wr => Lcl w [.row (vl160) 3 1 (l160).length (xsl160)] wr ∧ Elems (.int .i64) (gz H w wr [.row (vl160) 3 1 (l160).length (xsl160)]) (l160) (xsl160) ∧ (ref4_Order_k3 s4_110) l160 = some e111) ?_ ?_
      · refine W_block ?_
        refine W_seqr ?_
        refine S_pu 2 rfl ?_
        refine S_litE (r := (.int .i64)) (l := [s4_110]) rfl (fun _ => bsl23_1 _ _) rfl (show 1 ≤ 9223372036854775807 by decide) hH hL111 (.c1 rfl .nil) ?_
        intro v163 w163 hx163 hL163 hle163 hv163
        replace hel109 := hel109.mono (gz_mono hH hle163)
        obtain ⟨hk165, h⟩ := Go.L.chk_some h
        refine S_appE (r := (.int .i64)) (l := l109) (m := [s4_110]) 0 rfl rfl Try.underlying23 zr3 rfl (by decide) rfl hH hL163 rfl hel109 hv163 hk165 ?_
        intro v164 w164 xs164 hL164 hle164 he164
        replace hv163 := hv163.mono (gz_mono hH hle164)
        refine S_pu 1 rfl ?_
        refine S_seqnil ?_
        refine W_seqr ?_
        refine S_pu 1 rfl ?_
        refine S_v (r_lenR (i := 0) rfl Try.underlying23 hL164 rfl) rfl ?_
        obtain ⟨hk166, h⟩ := Go.L.chk_some h
        refine S_v (r_ar64 rfl rfl rfl hk166) rfl ?_
        refine S_pu 1 rfl ?_
        refine S_seqnil ?_
        refine W_block ?_
        obtain ⟨n208, h⟩ := Go.L.run_some h
        refine W_loop (σ := (List Int) × Int × (List Value) × Nat) (fun (⟨l206, s5_207, xsl206, n⟩ : (List Int) × Int × (List Value) × Nat) => [(0, v0_0), (3, v164), (4, .int .i64 s4_110), (5, .int .i64 s5_207)]) (fun (⟨l206, s5_207, xsl206, n⟩ : (List Int) × Int × (List Value) × Nat) wr => Lcl w [.row (v164) 3 1 (l206).length (xsl206)] wr ∧ Elems (.int .i64) (gz H w wr [.row (v164) 3 1 (l206).length (xsl206)]) (l206) (xsl206) ∧ Go.L.itr (ref4_Order_bl4 a0 s4_110) n (l206, s5_207) = some e111) (fun (⟨l206, s5_207, xsl206, n⟩ : (List Int) × Int × (List Value) × Nat) => n) ((l109 ++ [s4_110]), (((l109 ++ [s4_110]).length : Int) - (1 : Int)), xs164, n208) (.cons rfl (.cons rfl (.cons rfl (.cons rfl (Sub.nil _))))) ⟨hL164, he164, h⟩ ?_
        rintro ⟨l206, s5_207, xsl206, nn208⟩ wr208 ⟨hL208, hel206, h⟩
        obtain ⟨n208, e208, rfl, h, hm208⟩ := Go.L.itr_some h
        refine W_seq ?_
        refine W_seqd (.q 0 (.q 1 (.q 2 (.q 3 (.q 4 (.q 5 (.q 6 (.q 7 (.q 8 (.q 9 (.q 10 (.q 11 (.q 12 (.q 13 (.q 14 (.tail 15)))))))))))))))) mixed (by kernel_rfl) (fun w210 hx210 => ?_)
        have hL211 := hL208.call hx210
        have hle211 := fz_ext hL208 hx210
        replace hel206 := hel206.mono (gz_mono hH hle211)
        refine D_pu 3 rfl ?_
        refine D_split (s := 21) rfl (fun hg212 => ?_) (fun hg212 => ?_)
        · replace h := Go.L.ite_p (of_decide_eq_true hg212) h
          refine D_vg (RunsAt_pu rfl) rfl rfl rfl rfl hg212 rfl ?_
          refine D_vg (RunsAt_pu rfl) rfl rfl rfl rfl hg212 rfl ?_
          refine D_vg (RunsAt_pu rfl) rfl rfl rfl rfl hg212 rfl ?_
          obtain ⟨hk215, h⟩ := Go.L.chk_some h
          refine D_indexg rfl rfl rfl rfl hg212 rfl rfl Try.underlying23 zr3 (hL211.vecN hH (i := 0) rfl hel206) s5_207.toNat (Int.toNat_of_nonneg hk215.1).symm (idx_lt hk215) rfl ?_
          rintro p214 _ rfl hp214
          refine D_vg (r_load1 rfl Try.underlying3 rfl hp214 (Le.refl _)) rfl rfl rfl rfl hg212 rfl ?_
          refine D_vg (RunsAt_pu rfl) rfl rfl rfl rfl hg212 rfl ?_
          refine D_vg (RunsAt_pu rfl) rfl rfl rfl rfl hg212 rfl ?_
          obtain ⟨hk216, h⟩ := Go.L.chk_some h
          refine D_vg (r_ar64 rfl rfl rfl hk216) rfl rfl rfl rfl hg212 rfl ?_
          obtain ⟨hk218, h⟩ := Go.L.chk_some h
          refine D_indexg rfl rfl rfl rfl hg212 rfl rfl Try.underlying23 zr3 (hL211.vecN hH (i := 0) rfl hel206) ((s5_207 - (1 : Int)).toNat) (Int.toNat_of_nonneg hk218.1).symm (idx_lt hk218) rfl ?_
          rintro p217 _ rfl hp217
          refine D_vg (r_load1 rfl Try.underlying3 rfl hp217 (Le.refl _)) rfl rfl rfl rfl hg212 rfl ?_
          obtain ⟨x219, hb219, h⟩ := Go.L.bind_some h
          refine D_callg rfl rfl rfl rfl hg212 rfl rfl (fun w220 hx220 => ref4_Less_ok _ _ (Le.refl _) ((h0_0.mono (hH.trans hL211.arg)).mono hx220.le) hb219) ?_
          refine D_v (r_pickT rfl hg212 rfl) rfl rfl ?_
          refine D_tail (fun w221 hx221 => ?_)
          have hL222 := hL211.call hx221
          have hle222 := fz_ext hL211 hx221
          replace hel206 := hel206.mono (gz_mono hH hle222)
          refine S_seqnil ?_
          refine W_cond rfl (fun hc223 => ?_) (fun hc223 => ?_)
          · replace h := Go.L.ite_t hc223 h
            refine W_skip ?_
            refine At_seq ?_
            refine W_seq ?_
            refine W_block ?_
            refine W_naive mixed rfl (fun w225 hx225 => ?_)
            have hL226 := hL222.call hx225
            have hle226 := fz_ext hL222 hx225
            replace hel206 := hel206.mono (gz_mono hH hle226)
            refine N_hoist 0 (np_block (np_seq (np_loop (np_block (np_block (np_cut (np_loop (np_block (np_cut np_body))))))))) (by kernel_rfl) rfl (fun _ => RunsAt_pu rfl) rfl ?_
            refine N_hoist 1 (np_block (np_seq (np_loop (np_block (np_block (np_cut (np_loop (np_block (np_cut np_body))))))))) (by kernel_rfl) rfl (fun _ => RunsAt_pu rfl) rfl ?_
            refine N_hoist 2 (np_block (np_seq (np_loop (np_block (np_block (np_cut (np_loop (np_block (np_cut np_body))))))))) (by kernel_rfl) rfl (fun _ => RunsAt_pu rfl) rfl ?_
            refine N_hoist 3 (np_block (np_seq (np_loop (np_block (np_block (np_cut (np_loop (np_block (np_cut np_body))))))))) (by kernel_rfl) rfl (fun _ => RunsAt_pu rfl) rfl ?_
            obtain ⟨hk227, h⟩ := Go.L.chk_some h
            refine N_hoist 4 (np_block (np_seq (np_loop (np_block (np_block (np_cut (np_loop (np_block (np_cut np_body))))))))) (by kernel_rfl) rfl (fun _ => r_ar64 rfl rfl rfl hk227) rfl ?_
            refine N_hoist 5 (np_block (np_seq (np_loop (np_block (np_block (np_cut (np_loop (np_block (np_cut np_body))))))))) (by kernel_rfl) rfl (fun _ => RunsAt_pu rfl) rfl ?_
            refine N_hoist 6 (np_block (np_seq (np_loop (np_block (np_block (np_cut (np_loop (np_block (np_cut np_body))))))))) (by kernel_rfl) rfl (fun _ => RunsAt_pu rfl) rfl ?_
            obtain ⟨hk228, h⟩ := Go.L.chk_some h
            refine N_hoist 7 (np_block (np_seq (np_loop (np_block (np_block (np_cut (np_loop (np_block (np_cut np_body))))))))) (by kernel_rfl) rfl (fun _ => r_ar64 rfl rfl rfl hk228) rfl ?_
            obtain ⟨hk230, h⟩ := Go.L.chk_some h
            refine N_index 8 (np_block (np_seq (np_loop (np_block (np_block (np_cut (np_loop (np_block (np_cut np_body))))))))) (by kernel_rfl) rfl rfl rfl Try.underlying23 zr3 (hL226.vecN hH (i := 0) rfl hel206) ((s5_207 - (1 : Int)).toNat) (Int.toNat_of_nonneg hk230.1).symm (idx_lt hk230) rfl ?_
            rintro p229 _ rfl hp229
            refine N_hoist 10 (np_block (np_seq (np_loop (np_block (np_block (np_cut (np_loop (np_block (np_cut np_body))))))))) (by kernel_rfl) rfl (fun _ => RunsAt_pu rfl) rfl ?_
            refine N_hoist 11 (np_block (np_seq (np_loop (np_block (np_block (np_cut (np_loop (np_block (np_cut np_body))))))))) (by kernel_rfl) rfl (fun _ => RunsAt_pu rfl) rfl ?_
            obtain ⟨hk232, h⟩ := Go.L.chk_some h
            refine N_index 12 (np_block (np_seq (np_loop (np_block (np_block (np_cut (np_loop (np_block (np_cut np_body))))))))) (by kernel_rfl) rfl rfl rfl Try.underlying23 zr3 (hL226.vecN hH (i := 0) rfl hel206) s5_207.toNat (Int.toNat_of_nonneg hk232.1).symm (idx_lt hk232) rfl ?_
            rintro p231 _ rfl hp231
            refine N2 (i := 9) (j := 13) (by kernel_rfl) rfl rfl ?_ ?_
            · refine S_v (r_load1 rfl Try.underlying3 rfl hp229 (Le.refl _)) rfl ?_
              refine N_nil ?_
              refine N1 (i := 13) (by kernel_rfl) rfl ?_
              refine S_v (r_load1 rfl Try.underlying3 rfl hp231 (Le.refl _)) rfl ?_
              refine N_nil ?_
              obtain ⟨hk234, h⟩ := Go.L.chk_some h
              refine N_indexR 14 0 (np_block (np_seq (np_loop (np_block (np_block (np_cut (np_loop (np_block (np_cut np_body))))))))) (by kernel_rfl) rfl rfl rfl Try.underlying23 zr3 hL226 rfl s5_207.toNat (Int.toNat_of_nonneg hk234.1).symm (idx_lt hk234) rfl ?_
              intro p233 hp233
              refine N1 (i := 15) (by kernel_rfl) rfl ?_
              refine S_storeE (z := l206.getD ((s5_207 - (1 : Int)).toNat) default) (j := s5_207.toNat) 0 rfl rfl rfl zr3 hH hL226 rfl hel206 hp233 rfl (idx_lt hk234) rfl ?_
              intro w235 xs235 hL235 hle235 he235
              refine N_nil ?_
              obtain ⟨hk237, h⟩ := Go.L.chk_some h
              refine N_indexR 16 0 (np_block (np_seq (np_loop (np_block (np_block (np_cut (np_loop (np_block (np_cut np_body))))))))) (by kernel_rfl) rfl rfl rfl Try.underlying23 zr3 hL235 rfl ((s5_207 - (1 : Int)).toNat) (Int.toNat_of_nonneg hk237.1).symm (idx_lt hk237) rfl ?_
              intro p236 hp236
              refine N1 (i := 17) (by kernel_rfl) rfl ?_
              refine S_storeE (z := l206.getD s5_207.toNat default) (j := (s5_207 - (1 : Int)).toNat) 0 rfl rfl rfl zr3 hH hL235 rfl he235 hp236 rfl (idx_lt hk237) rfl ?_
              intro w238 xs238 hL238 hle238 he238
              refine N_nil ?_
              refine N_end (by kernel_rfl) ?_
              refine At_block ?_
              refine At_seq ?_
              refine W_region ?_
              refine S_pu 1 rfl ?_
              obtain ⟨hk239, h⟩ := Go.L.chk_some h
              refine S_v (r_ar64 rfl rfl rfl hk239) rfl ?_
              refine S_pu 1 rfl ?_
              refine S_nil ?_
              have h := Go.L.Nxt.again h hm208
              refine At_round (((l206.set s5_207.toNat (l206.getD ((s5_207 - (1 : Int)).toNat) default)).set ((s5_207 - (1 : Int)).toNat) (l206.getD s5_207.toNat default)), (s5_207 - (1 : Int)), xs238, n208) (.cons rfl (.cons rfl (.cons rfl (.cons rfl (Sub.nil _))))) ⟨hL238, he238, h⟩ (Nat.lt_succ_self _)
            · obtain ⟨hk234, h⟩ := Go.L.chk_some h
              obtain ⟨hk237, h⟩ := Go.L.chk_some h
              obtain ⟨hk239, h⟩ := Go.L.chk_some h
              refine S_v (r_load1 rfl Try.underlying3 rfl hp231 (Le.refl _)) rfl ?_
              refine N_nil ?_
              refine N1 (i := 9) (by kernel_rfl) rfl ?_
              refine S_v (r_load1 rfl Try.underlying3 rfl hp229 (Le.refl _)) rfl ?_
              refine N_nil ?_
              refine N_indexR 14 0 (np_block (np_seq (np_loop (np_block (np_block (np_cut (np_loop (np_block (np_cut np_body))))))))) (by kernel_rfl) rfl rfl rfl Try.underlying23 zr3 hL226 rfl s5_207.toNat (Int.toNat_of_nonneg hk234.1).symm (idx_lt hk234) rfl ?_
              intro p240 hp240
              refine N1 (i := 15) (by kernel_rfl) rfl ?_
              refine S_storeE (z := l206.getD ((s5_207 - (1 : Int)).toNat) default) (j := s5_207.toNat) 0 rfl rfl rfl zr3 hH hL226 rfl hel206 hp240 rfl (idx_lt hk234) rfl ?_
              intro w241 xs241 hL241 hle241 he241
              refine N_nil ?_
              refine N_indexR 16 0 (np_block (np_seq (np_loop (np_block (np_block (np_cut (np_loop (np_block (np_cut np_body))))))))) (by kernel_rfl) rfl rfl rfl Try.underlying23 zr3 hL241 rfl ((s5_207 - (1 : Int)).toNat) (Int.toNat_of_nonneg hk237.1).symm (idx_lt hk237) rfl ?_
              intro p242 hp242
              refine N1 (i := 17) (by kernel_rfl) rfl ?_
              refine S_storeE (z := l206.getD s5_207.toNat default) (j := (s5_207 - (1 : Int)).toNat) 0 rfl rfl rfl zr3 hH hL241 rfl he241 hp242 rfl (idx_lt hk237) rfl ?_
              intro w243 xs243 hL243 hle243 he243
              refine N_nil ?_
              refine N_end (by kernel_rfl) ?_
              refine At_block ?_
              refine At_seq ?_
              refine W_region ?_
              refine S_pu 1 rfl ?_
              refine S_v (r_ar64 rfl rfl rfl hk239) rfl ?_
              refine S_pu 1 rfl ?_
              refine S_nil ?_
              have h := Go.L.Nxt.again h hm208
              refine At_round (((l206.set s5_207.toNat (l206.getD ((s5_207 - (1 : Int)).toNat) default)).set ((s5_207 - (1 : Int)).toNat) (l206.getD s5_207.toNat default)), (s5_207 - (1 : Int)), xs243, n208) (.cons rfl (.cons rfl (.cons rfl (.cons rfl (Sub.nil _))))) ⟨hL243, he243, h⟩ (Nat.lt_succ_self _)
          · replace h := Go.L.ite_f hc223 h
            refine W_exit ?_
            refine At_seq_exit ?_
            refine At_loop_exit ?_
            replace h := Go.L.Nxt.out h hm208
            refine At_exit ?_
            refine At_block ?_
            refine At_cut (l206, v164, xsl206) (.cons rfl (.cons rfl (.cons rfl (Sub.nil _)))) ⟨hL222, hel206, h⟩
        · replace h := Go.L.ite_n (of_decide_eq_false hg212) h
          refine D_no rfl rfl rfl rfl hg212 rfl ?_
          refine D_no rfl rfl rfl rfl hg212 rfl ?_
          refine D_no rfl rfl rfl rfl hg212 rfl ?_
          refine D_no rfl rfl rfl rfl hg212 rfl ?_
          refine D_no rfl rfl rfl rfl hg212 rfl ?_
          refine D_no rfl rfl rfl rfl hg212 rfl ?_
          refine D_no rfl rfl rfl rfl hg212 rfl ?_
          refine D_no rfl rfl rfl rfl hg212 rfl ?_
          refine D_no rfl rfl rfl rfl hg212 rfl ?_
          refine D_no rfl rfl rfl rfl hg212 rfl ?_
          refine D_no rfl rfl rfl rfl hg212 rfl ?_
          refine D_v (r_pickF rfl hg212 rfl) rfl rfl ?_
          refine D_tail (fun w246 hx246 => ?_)
          have hL247 := hL211.call hx246
          have hle247 := fz_ext hL211 hx246
          replace hel206 := hel206.mono (gz_mono hH hle247)
          refine S_seqnil ?_
          refine W_false rfl ?_
          refine W_exit ?_
          refine At_seq_exit ?_
          refine At_loop_exit ?_
          replace h := Go.L.Nxt.out h hm208
          refine At_exit ?_
          refine At_block ?_
          refine At_cut (l206, v164, xsl206) (.cons rfl (.cons rfl (.cons rfl (Sub.nil _)))) ⟨hL247, hel206, h⟩
      · rintro ⟨l160, vl160, xsl160⟩ wr161 ⟨hL161, hel160, h⟩
        refine W_region ?_
        refine S_pu 1 rfl ?_
        obtain ⟨hk249, h⟩ := Go.L.chk_some h
        refine S_v (r_ar64 rfl rfl rfl hk249) rfl ?_
        refine S_pu 1 rfl ?_
        refine S_nil ?_
        have h := Go.L.Nxt.again h hm111
        refine At_round (l160, (s4_110 + (1 : Int)), vl160, xsl160, n111) (.cons rfl (.cons rfl (.cons rfl (Sub.nil _)))) ⟨hL161, hel160, h⟩ (Nat.lt_succ_self _)
    · replace h := Go.L.ite_n hc113 h
      refine W_exit ?_
      refine At_seq_exit ?_
      refine At_loop_exit ?_
      replace h := Go.L.Nxt.out h hm111
      refine At_exit ?_
      refine At_cut (l109, vl109, xsl109) (.cons rfl (Sub.nil _)) ⟨hL111, hel109, h⟩
  · rintro ⟨l55, vl55, xsl55⟩ wr56 ⟨hL56, hel55, h⟩
    refine W_seqr ?_
    refine S_pu 2 rfl ?_
    refine S_seqnil ?_
    refine W_ret ?_
    obtain rfl := Option.some.inj h
    refine At_body rfl rfl ?_
    exact ⟨hL56.ext, _, rfl, (hL56.ownH hH (i := 0) rfl hel55)⟩

noncomputable def ref4_Range_k1 (s6_28 : Int) (s7_29 : Int) : Option (Int × Int) :=
  Go.L.chk (Go.L.I64 (s6_28 + s7_29)) (some (s6_28, (s6_28 + s7_29)))
noncomputable def ref4_Range_bl2 (a0 : List UInt8) (a1 : List UInt8) : Int × Int × Int → Option ((Int × Int × Int) ⊕ (Int × Int)) := fun ⟨s6_55, s7_56, s8_57⟩ =>
  if s8_57 < (a0.length : Int) then Option.bind (ref4_Begins a0 s8_57 a1) (fun x62 => if x62 then Go.L.chk (Go.L.I64 (s7_56 + (1 : Int))) (Go.L.chk (Go.L.I64 (s8_57 + (1 : Int))) (some (Sum.inl (s6_55, (s7_56 + (1 : Int)), (s8_57 + (1 : Int)))))) else Go.L.chk (0 ≤ s8_57 ∧ s8_57 ≤ (a0.length : Int)) (if Op.bytesLess (a0.drop s8_57.toNat) a1 then Go.L.chk (Go.L.I64 (s6_55 + (1 : Int))) (Go.L.chk (Go.L.I64 (s8_57 + (1 : Int))) (some (Sum.inl ((s6_55 + (1 : Int)), s7_56, (s8_57 + (1 : Int)))))) else Go.L.chk (Go.L.I64 (s8_57 + (1 : Int))) (some (Sum.inl (s6_55, s7_56, (s8_57 + (1 : Int))))))) else Option.map Sum.inr (ref4_Range_k1 s6_55 s7_56)
noncomputable def ref4_Range_l2 (a0 : List UInt8) (a1 : List UInt8) (s : Int × Int × Int) : Option (Int × Int) := Go.L.run (ref4_Range_bl2 a0 a1) s
noncomputable def ref4_Range (a0 : List UInt8) (a1 : List UInt8) : Option (Int × Int) :=
  (ref4_Range_l2 a0 a1) ((0 : Int), (0 : Int), (0 : Int))

set_option maxRecDepth 10000 in
theorem ref4_Range_ok (w : World) (H : PH) (hH : Le H (hp w)) {a0 : List UInt8} {a1 : List UInt8} {v0_0 : Value} {v1_0 : Value} (h0_0 : Vec .byte H v0_0 (a0)) (h1_0 : Vec .byte H v1_0 (a1)) {r : Int × Int} (h : ref4_Range a0 a1 = some r) :
    Ok Try.prog 25 [v0_0, v1_0] w (fun v w' => Ext w w' ∧ v = .tuple #[.int .i64 r.1, .int .i64 r.2]) := by
  refine Ok_enter (n := 34) [(0, v0_0), (1, v1_0)] Try.func25 rfl rfl rfl rfl rfl ?_
  have hL := Lcl.start w
  refine W_seqr ?_
  refine S_pu 2 rfl ?_
  refine S_seqnil ?_
  refine W_seqr ?_
  refine S_pu 2 rfl ?_
  refine S_seqnil ?_
  refine W_cut (σ := Int × Int) (fun (⟨s6_28, s7_29⟩ : Int × Int) => [(6, .int .i64 s6_28), (7, .int .i64 s7_29)]) (fun (⟨s6_28, s7_29⟩ : Int × Int) wr => Lcl w [] wr ∧ ref4_Range_k1 s6_28 s7_29 = some r) ?_ ?_
  · refine W_seqr ?_
    refine S_pu 1 rfl ?_
    refine S_seqnil ?_
    refine W_block ?_
    obtain ⟨n58, h⟩ := Go.L.run_some h
    refine W_loop (σ := Int × Int × Int × Nat) (fun (⟨s6_55, s7_56, s8_57, n⟩ : Int × Int × Int × Nat) => [(0, v0_0), (1, v1_0), (6, .int .i64 s6_55), (7, .int .i64 s7_56), (8, .int .i64 s8_57)]) (fun (⟨s6_55, s7_56, s8_57, n⟩ : Int × Int × Int × Nat) wr => Lcl w [] wr ∧ Go.L.itr (ref4_Range_bl2 a0 a1) n (s6_55, s7_56, s8_57) = some r) (fun (⟨s6_55, s7_56, s8_57, n⟩ : Int × Int × Int × Nat) => n) ((0 : Int), (0 : Int), (0 : Int), n58) (.cons rfl (.cons rfl (.cons rfl (.cons rfl (.cons rfl (Sub.nil _)))))) ⟨hL, h⟩ ?_
    rintro ⟨s6_55, s7_56, s8_57, nn58⟩ wr58 ⟨hL58, h⟩
    obtain ⟨n58, e58, rfl, h, hm58⟩ := Go.L.itr_some h
    refine W_seq ?_
    refine W_seqr ?_
    refine S_pu 2 rfl ?_
    refine S_v (r_len rfl Try.underlying22 h0_0) rfl ?_
    refine S_pu 1 rfl ?_
    refine S_seqnil ?_
    refine W_if rfl (fun hc60 => ?_) (fun hc60 => ?_)
    · replace h := Go.L.ite_p hc60 h
      refine W_skip ?_
      refine At_seq ?_
      refine W_seq ?_
      refine W_block ?_
      refine W_seqr ?_
      refine S_pu 3 rfl ?_
      obtain ⟨x62, hb62, h⟩ := Go.L.bind_some h
      refine S_callL rfl rfl hL58 (ref4_Begins_ok _ _ (gz_le hH hL58) (h0_0.mono (gz_left hH)) (h1_0.mono (gz_left hH)) hb62) ?_
      rintro _ w63 rfl hx63 hL63 hle63
      refine S_seqnil ?_
      refine W_cond rfl (fun hc64 => ?_) (fun hc64 => ?_)
      · replace h := Go.L.ite_t hc64 h
        refine W_region ?_
        refine S_pu 1 rfl ?_
        obtain ⟨hk66, h⟩ := Go.L.chk_some h
        refine S_v (r_ar64 rfl rfl rfl hk66) rfl ?_
        refine S_pu 1 rfl ?_
        refine S_nil ?_
        refine At_block ?_
        refine At_seq ?_
        refine W_region ?_
        refine S_pu 1 rfl ?_
        obtain ⟨hk67, h⟩ := Go.L.chk_some h
        refine S_v (r_ar64 rfl rfl rfl hk67) rfl ?_
        refine S_pu 1 rfl ?_
        refine S_nil ?_
        have h := Go.L.Nxt.again h hm58
        refine At_round (s6_55, (s7_56 + (1 : Int)), (s8_57 + (1 : Int)), n58) (.cons rfl (.cons rfl (.cons rfl (.cons rfl (.cons rfl (Sub.nil _)))))) ⟨hL63, h⟩ (Nat.lt_succ_self _)
      · replace h := Go.L.ite_f hc64 h
        refine W_seqd (.q 0 (.q 1 (.q 2 (.q 3 (.q 4 (.q 5 (.q 6 (.tail 7)))))))) mixed (by kernel_rfl) (fun w69 hx69 => ?_)
        have hL70 := hL63.call hx69
        refine D_pu 2 rfl ?_
        obtain ⟨hk72, h⟩ := Go.L.chk_some h
        refine D_sliceL rfl rfl rfl Try.underlying22 zr5 h0_0 hk72 rfl ?_
        intro v71 hv71
        refine D_v (r_str rfl Try.underlying22 Try.underlying5 Try.underlying9 hv71 (hH.trans hL70.arg)) rfl rfl ?_
        refine D_pu 1 rfl ?_
        refine D_v (r_str rfl Try.underlying22 Try.underlying5 Try.underlying9 h1_0 (hH.trans hL70.arg)) rfl rfl ?_
        refine D_v (r_slt rfl rfl) rfl rfl ?_
        refine D_tail (fun w73 hx73 => ?_)
        have hL74 := hL70.call hx73
        refine S_seqnil ?_
        refine W_cond rfl (fun hc75 => ?_) (fun hc75 => ?_)
        · replace h := Go.L.ite_t hc75 h
          refine W_region ?_
          refine S_pu 1 rfl ?_
          obtain ⟨hk77, h⟩ := Go.L.chk_some h
          refine S_v (r_ar64 rfl rfl rfl hk77) rfl ?_
          refine S_pu 1 rfl ?_
          refine S_nil ?_
          refine At_block ?_
          refine At_seq ?_
          refine W_region ?_
          refine S_pu 1 rfl ?_
          obtain ⟨hk78, h⟩ := Go.L.chk_some h
          refine S_v (r_ar64 rfl rfl rfl hk78) rfl ?_
          refine S_pu 1 rfl ?_
          refine S_nil ?_
          have h := Go.L.Nxt.again h hm58
          refine At_round ((s6_55 + (1 : Int)), s7_56, (s8_57 + (1 : Int)), n58) (.cons rfl (.cons rfl (.cons rfl (.cons rfl (.cons rfl (Sub.nil _)))))) ⟨hL74, h⟩ (Nat.lt_succ_self _)
        · replace h := Go.L.ite_f hc75 h
          refine W_skip ?_
          refine At_block ?_
          refine At_seq ?_
          refine W_region ?_
          refine S_pu 1 rfl ?_
          obtain ⟨hk80, h⟩ := Go.L.chk_some h
          refine S_v (r_ar64 rfl rfl rfl hk80) rfl ?_
          refine S_pu 1 rfl ?_
          refine S_nil ?_
          have h := Go.L.Nxt.again h hm58
          refine At_round (s6_55, s7_56, (s8_57 + (1 : Int)), n58) (.cons rfl (.cons rfl (.cons rfl (.cons rfl (.cons rfl (Sub.nil _)))))) ⟨hL74, h⟩ (Nat.lt_succ_self _)
    · replace h := Go.L.ite_n hc60 h
      refine W_exit ?_
      refine At_seq_exit ?_
      refine At_loop_exit ?_
      replace h := Go.L.Nxt.out h hm58
      refine At_exit ?_
      refine At_cut (s6_55, s7_56) (.cons rfl (.cons rfl (Sub.nil _))) ⟨hL58, h⟩
  · rintro ⟨s6_28, s7_29⟩ wr30 ⟨hL30, h⟩
    refine W_seqr ?_
    refine S_pu 3 rfl ?_
    obtain ⟨hk83, h⟩ := Go.L.chk_some h
    refine S_v (r_ar64 rfl rfl rfl hk83) rfl ?_
    refine S_pu 2 rfl ?_
    refine S_seqnil ?_
    refine W_ret ?_
    obtain rfl := Option.some.inj h
    refine At_body rfl rfl ?_
    exact ⟨hL30.ext, rfl⟩

noncomputable def ref4_Twice_k3 (s6_61 : Int) (s4_84 : Int) (s5_85 : Int) : Option ((Int × Int × Int) ⊕ (Int × Int)) :=
  Go.L.chk (Go.L.I64 (s6_61 + (1 : Int))) (some (Sum.inl (s4_84, s5_85, (s6_61 + (1 : Int)))))
noncomputable def ref4_Twice_bl4 (a0 : List UInt8) (s6_61 : Int) : Int × Int × Int → Option ((Int × Int × Int) ⊕ ((Int × Int × Int) ⊕ (Int × Int))) := fun ⟨s4_102, s5_103, s7_104⟩ =>
  if s7_104 < (a0.length : Int) then Option.bind (ref4_Shared a0 s6_61 s7_104) (fun x109 => if s5_103 < x109 then Option.bind (ref4_Shared a0 s6_61 s7_104) (fun x113 => Go.L.chk (Go.L.I64 (s7_104 + (1 : Int))) (some (Sum.inl (s6_61, x113, (s7_104 + (1 : Int)))))) else Go.L.chk (Go.L.I64 (s7_104 + (1 : Int))) (some (Sum.inl (s4_102, s5_103, (s7_104 + (1 : Int)))))) else Option.map Sum.inr ((ref4_Twice_k3 s6_61) s4_102 s5_103)
noncomputable def ref4_Twice_l4 (a0 : List UInt8) (s6_61 : Int) (s : Int × Int × Int) : Option ((Int × Int × Int) ⊕ (Int × Int)) := Go.L.run (ref4_Twice_bl4 a0 s6_61) s
noncomputable def ref4_Twice_k1 (s4_30 : Int) (s5_31 : Int) : Option (Int × Int) :=
  some (s4_30, s5_31)
noncomputable def ref4_Twice_bl2 (a0 : List UInt8) : Int × Int × Int → Option ((Int × Int × Int) ⊕ (Int × Int)) := fun ⟨s4_59, s5_60, s6_61⟩ =>
  if s6_61 < (a0.length : Int) then Go.L.chk (Go.L.I64 (s6_61 + (1 : Int))) ((ref4_Twice_l4 a0 s6_61) (s4_59, s5_60, (s6_61 + (1 : Int)))) else Option.map Sum.inr (ref4_Twice_k1 s4_59 s5_60)
noncomputable def ref4_Twice_l2 (a0 : List UInt8) (s : Int × Int × Int) : Option (Int × Int) := Go.L.run (ref4_Twice_bl2 a0) s
noncomputable def ref4_Twice (a0 : List UInt8) : Option (Int × Int) :=
  (ref4_Twice_l2 a0) ((0 : Int), (0 : Int), (0 : Int))

set_option maxRecDepth 10000 in
theorem ref4_Twice_ok (w : World) (H : PH) (hH : Le H (hp w)) {a0 : List UInt8} {v0_0 : Value} (h0_0 : Vec .byte H v0_0 (a0)) {r : Int × Int} (h : ref4_Twice a0 = some r) :
    Ok Try.prog 28 [v0_0] w (fun v w' => Ext w w' ∧ v = .tuple #[.int .i64 r.1, .int .i64 r.2]) := by
  refine Ok_enter (n := 35) [(0, v0_0)] Try.func28 rfl rfl rfl rfl rfl ?_
  have hL := Lcl.start w
  refine W_seqr ?_
  refine S_pu 2 rfl ?_
  refine S_seqnil ?_
  refine W_seqr ?_
  refine S_pu 2 rfl ?_
  refine S_seqnil ?_
  refine W_cut (σ := Int × Int) (fun (⟨s4_30, s5_31⟩ : Int × Int) => [(4, .int .i64 s4_30), (5, .int .i64 s5_31)]) (fun (⟨s4_30, s5_31⟩ : Int × Int) wr => Lcl w [] wr ∧ ref4_Twice_k1 s4_30 s5_31 = some r) ?_ ?_
  · refine W_seqr ?_
    refine S_pu 1 rfl ?_
    refine S_seqnil ?_
    refine W_block ?_
    obtain ⟨n62, h⟩ := Go.L.run_some h
    refine W_loop (σ := Int × Int × Int × Nat) (fun (⟨s4_59, s5_60, s6_61, n⟩ : Int × Int × Int × Nat) => [(0, v0_0), (4, .int .i64 s4_59), (5, .int .i64 s5_60), (6, .int .i64 s6_61)]) (fun (⟨s4_59, s5_60, s6_61, n⟩ : Int × Int × Int × Nat) wr => Lcl w [] wr ∧ Go.L.itr (ref4_Twice_bl2 a0) n (s4_59, s5_60, s6_61) = some r) (fun (⟨s4_59, s5_60, s6_61, n⟩ : Int × Int × Int × Nat) => n) ((0 : Int), (0 : Int), (0 : Int), n62) (.cons rfl (.cons rfl (.cons rfl (.cons rfl (Sub.nil _))))) ⟨hL, h⟩ ?_
    rintro ⟨s4_59, s5_60, s6_61, nn62⟩ wr62 ⟨hL62, h⟩
    obtain ⟨n62, e62, rfl, h, hm62⟩ := Go.L.itr_some h
    refine W_seq ?_
    refine W_seqr ?_
    refine S_pu 2 rfl ?_
    refine S_v (r_len rfl Try.underlying22 h0_0) rfl ?_
    refine S_pu 1 rfl ?_
    refine S_seqnil ?_
    refine W_if rfl (fun hc64 => ?_) (fun hc64 => ?_)
    · replace h := Go.L.ite_p hc64 h
      refine W_skip ?_
      refine At_seq ?_
      refine W_cut (σ := Int × Int) (fun (⟨s4_84, s5_85⟩ : Int × Int) => [(0, v0_0), (4, .int .i64 s4_84), (5, .int .i64 s5_85), (6, .int .i64 s6_61)]) (fun (⟨s4_84, s5_85⟩ : Int × Int) wr => Lcl w [] wr ∧ (ref4_Twice_k3 s6_61) s4_84 s5_85 = some e62) ?_ ?_
      · refine W_block ?_
        refine W_seqr ?_
        refine S_pu 1 rfl ?_
        obtain ⟨hk88, h⟩ := Go.L.chk_some h
        refine S_v (r_ar64 rfl rfl rfl hk88) rfl ?_
        refine S_pu 1 rfl ?_
        refine S_seqnil ?_
        refine W_block ?_
        obtain ⟨n105, h⟩ := Go.L.run_some h
        refine W_loop (σ := Int × Int × Int × Nat) (fun (⟨s4_102, s5_103, s7_104, n⟩ : Int × Int × Int × Nat) => [(0, v0_0), (4, .int .i64 s4_102), (5, .int .i64 s5_103), (6, .int .i64 s6_61), (7, .int .i64 s7_104)]) (fun (⟨s4_102, s5_103, s7_104, n⟩ : Int × Int × Int × Nat) wr => Lcl w [] wr ∧ Go.L.itr (ref4_Twice_bl4 a0 s6_61) n (s4_102, s5_103, s7_104) = some e62) (fun (⟨s4_102, s5_103, s7_104, n⟩ : Int × Int × Int × Nat) => n) (s4_59, s5_60, (s6_61 + (1 : Int)), n105) (.cons rfl (.cons rfl (.cons rfl (.cons rfl (.cons rfl (Sub.nil _)))))) ⟨hL62, h⟩ ?_
        rintro ⟨s4_102, s5_103, s7_104, nn105⟩ wr105 ⟨hL105, h⟩
        obtain ⟨n105, e105, rfl, h, hm105⟩ := Go.L.itr_some h
        refine W_seq ?_
        refine W_seqr ?_
        refine S_pu 2 rfl ?_
        refine S_v (r_len rfl Try.underlying22 h0_0) rfl ?_
        refine S_pu 1 rfl ?_
        refine S_seqnil ?_
        refine W_if rfl (fun hc107 => ?_) (fun hc107 => ?_)
        · replace h := Go.L.ite_p hc107 h
          refine W_skip ?_
          refine At_seq ?_
          refine W_seq ?_
          refine W_block ?_
          refine W_seqr ?_
          refine S_pu 3 rfl ?_
          obtain ⟨x109, hb109, h⟩ := Go.L.bind_some h
          refine S_callL rfl rfl hL105 (ref4_Shared_ok _ _ (gz_le hH hL105) (h0_0.mono (gz_left hH)) hb109) ?_
          rintro _ w110 rfl hx110 hL110 hle110
          refine S_pu 2 rfl ?_
          refine S_seqnil ?_
          refine W_if rfl (fun hc111 => ?_) (fun hc111 => ?_)
          · replace h := Go.L.ite_p hc111 h
            refine W_seqr ?_
            refine S_pu 2 rfl ?_
            refine S_seqnil ?_
            refine W_region ?_
            refine S_pu 3 rfl ?_
            obtain ⟨x113, hb113, h⟩ := Go.L.bind_some h
            refine S_callL rfl rfl hL110 (ref4_Shared_ok _ _ (gz_le hH hL110) (h0_0.mono (gz_left hH)) hb113) ?_
            rintro _ w114 rfl hx114 hL114 hle114
            refine S_pu 1 rfl ?_
            refine S_nil ?_
            refine At_block ?_
            refine At_seq ?_
            refine W_region ?_
            refine S_pu 1 rfl ?_
            obtain ⟨hk115, h⟩ := Go.L.chk_some h
            refine S_v (r_ar64 rfl rfl rfl hk115) rfl ?_
            refine S_pu 1 rfl ?_
            refine S_nil ?_
            have h := Go.L.Nxt.again h hm105
            refine At_round (s6_61, x113, (s7_104 + (1 : Int)), n105) (.cons rfl (.cons rfl (.cons rfl (.cons rfl (.cons rfl (Sub.nil _)))))) ⟨hL114, h⟩ (Nat.lt_succ_self _)
          · replace h := Go.L.ite_n hc111 h
            refine W_skip ?_
            refine At_block ?_
            refine At_seq ?_
            refine W_region ?_
            refine S_pu 1 rfl ?_
            obtain ⟨hk117, h⟩ := Go.L.chk_some h
            refine S_v (r_ar64 rfl rfl rfl hk117) rfl ?_
            refine S_pu 1 rfl ?_
            refine S_nil ?_
            have h := Go.L.Nxt.again h hm105
            refine At_round (s4_102, s5_103, (s7_104 + (1 : Int)), n105) (.cons rfl (.cons rfl (.cons rfl (.cons rfl (.cons rfl (Sub.nil _)))))) ⟨hL110, h⟩ (Nat.lt_succ_self _)
        · replace h := Go.L.ite_n hc107 h
          refine W_exit ?_
          refine At_seq_exit ?_
          refine At_loop_exit ?_
          replace h := Go.L.Nxt.out h hm105
          refine At_exit ?_
          refine At_block ?_
          refine At_cut (s4_102, s5_103) (.cons rfl (.cons rfl (.cons rfl (.cons rfl (Sub.nil _))))) ⟨hL105, h⟩
      · rintro ⟨s4_84, s5_85⟩ wr86 ⟨hL86, h⟩
        refine W_region ?_
        refine S_pu 1 rfl ?_
        obtain ⟨hk120, h⟩ := Go.L.chk_some h
        refine S_v (r_ar64 rfl rfl rfl hk120) rfl ?_
        refine S_pu 1 rfl ?_
        refine S_nil ?_
        have h := Go.L.Nxt.again h hm62
        refine At_round (s4_84, s5_85, (s6_61 + (1 : Int)), n62) (.cons rfl (.cons rfl (.cons rfl (.cons rfl (Sub.nil _))))) ⟨hL86, h⟩ (Nat.lt_succ_self _)
    · replace h := Go.L.ite_n hc64 h
      refine W_exit ?_
      refine At_seq_exit ?_
      refine At_loop_exit ?_
      replace h := Go.L.Nxt.out h hm62
      refine At_exit ?_
      refine At_cut (s4_59, s5_60) (.cons rfl (.cons rfl (Sub.nil _))) ⟨hL62, h⟩
  · rintro ⟨s4_30, s5_31⟩ wr32 ⟨hL32, h⟩
    refine W_seqr ?_
    refine S_pu 4 rfl ?_
    refine S_seqnil ?_
    refine W_ret ?_
    obtain rfl := Option.some.inj h
    refine At_body rfl rfl ?_
    exact ⟨hL32.ext, rfl⟩

noncomputable def bytes_Compare (a0 : List UInt8) (a1 : List UInt8) : Option (Int) :=
  some ((Lib.compareBytes a0 a1))

set_option maxRecDepth 10000 in
theorem bytes_Compare_ok (w : World) (H : PH) (hH : Le H (hp w)) {a0 : List UInt8} {a1 : List UInt8} {v0_0 : Value} {v1_0 : Value} (h0_0 : Vec .byte H v0_0 (a0)) (h1_0 : Vec .byte H v1_0 (a1)) {r : Int} (h : bytes_Compare a0 a1 = some r) :
    Ok Try.prog 47 [v0_0, v1_0] w (fun v w' => Ext w w' ∧ v = .int .i64 r) := by
  refine Ok_enter (n := 8) [(0, v0_0), (1, v1_0)] Try.func47 rfl rfl rfl rfl rfl ?_
  have hL := Lcl.start w
  refine W_seqr ?_
  refine S_pu 1 rfl ?_
  refine S_seqnil ?_
  refine W_seqr ?_
  refine S_pu 2 rfl ?_
  refine S_v (r_bcmp Try.func63 rfl rfl (by kernel_rfl) (by kernel_rfl) rfl rfl h0_0 (hH.trans hL.arg) h1_0 (hH.trans hL.arg)) rfl ?_
  refine S_pu 1 rfl ?_
  refine S_seqnil ?_
  refine W_ret ?_
  obtain rfl := Option.some.inj h
  refine At_body rfl rfl ?_
  exact ⟨hL.ext, rfl⟩

noncomputable def bytes_Equal (a0 : List UInt8) (a1 : List UInt8) : Option (Bool) :=
  some (decide (a0 = a1))

set_option maxRecDepth 10000 in
theorem bytes_Equal_ok (w : World) (H : PH) (hH : Le H (hp w)) {a0 : List UInt8} {a1 : List UInt8} {v0_0 : Value} {v1_0 : Value} (h0_0 : Vec .byte H v0_0 (a0)) (h1_0 : Vec .byte H v1_0 (a1)) {r : Bool} (h : bytes_Equal a0 a1 = some r) :
    Ok Try.prog 60 [v0_0, v1_0] w (fun v w' => Ext w w' ∧ v = .bool r) := by
  refine Ok_enter (n := 10) [(0, v0_0), (1, v1_0)] Try.func60 rfl rfl rfl rfl rfl ?_
  have hL := Lcl.start w
  refine W_seqr ?_
  refine S_pu 1 rfl ?_
  refine S_seqnil ?_
  refine W_seqr ?_
  refine S_pu 1 rfl ?_
  refine S_v (r_str rfl Try.underlying22 Try.underlying5 Try.underlying9 h0_0 (hH.trans hL.arg)) rfl ?_
  refine S_pu 1 rfl ?_
  refine S_v (r_str rfl Try.underlying22 Try.underlying5 Try.underlying9 h1_0 (hH.trans hL.arg)) rfl ?_
  refine S_v (r_seq rfl rfl) rfl ?_
  refine S_pu 1 rfl ?_
  refine S_seqnil ?_
  refine W_ret ?_
  obtain rfl := Option.some.inj h
  refine At_body rfl rfl ?_
  exact ⟨hL.ext, rfl⟩

noncomputable def bytes_HasPrefix (a0 : List UInt8) (a1 : List UInt8) : Option (Bool) :=
  if (a1.length : Int) ≤ (a0.length : Int) then Go.L.chk (0 ≤ (a1.length : Int) ∧ (a1.length : Int) ≤ (a0.length : Int)) (Option.bind (bytes_Equal (a0.take (a1.length : Int).toNat) a1) (fun x5 => some (x5))) else some (false)

set_option maxRecDepth 10000 in
theorem bytes_HasPrefix_ok (w : World) (H : PH) (hH : Le H (hp w)) {a0 : List UInt8} {a1 : List UInt8} {v0_0 : Value} {v1_0 : Value} (h0_0 : Vec .byte H v0_0 (a0)) (h1_0 : Vec .byte H v1_0 (a1)) {r : Bool} (h : bytes_HasPrefix a0 a1 = some r) :
    Ok Try.prog 46 [v0_0, v1_0] w (fun v w' => Ext w w' ∧ v = .bool r) := by
  refine Ok_enter (n := 18) [(0, v0_0), (1, v1_0)] Try.func46 rfl rfl rfl rfl rfl ?_
  have hL := Lcl.start w
  refine W_seqr ?_
  refine S_pu 1 rfl ?_
  refine S_seqnil ?_
  refine W_seqr ?_
  refine S_pu 1 rfl ?_
  refine S_v (r_len rfl Try.underlying22 h0_0) rfl ?_
  refine S_pu 1 rfl ?_
  refine S_v (r_len rfl Try.underlying22 h1_0) rfl ?_
  refine S_pu 2 rfl ?_
  refine S_split (s := 10) rfl (fun hg1 => ?_) (fun hg1 => ?_)
  · replace h := Go.L.ite_p (of_decide_eq_true hg1) h
    refine S_guarded rfl rfl hg1 ?_
    refine S_v (RunsAt_pu rfl) rfl ?_
    refine S_guarded rfl rfl hg1 ?_
    refine S_v (RunsAt_pu rfl) rfl ?_
    refine S_guarded rfl rfl hg1 ?_
    refine S_v (r_len rfl Try.underlying22 h1_0) rfl ?_
    refine S_guarded rfl rfl hg1 ?_
    obtain ⟨hk4, h⟩ := Go.L.chk_some h
    refine S_sliceH rfl rfl Try.underlying22 zr5 h0_0 hk4 rfl ?_
    intro v3 hv3
    refine S_guarded rfl rfl hg1 ?_
    refine S_v (RunsAt_pu rfl) rfl ?_
    refine S_guarded rfl rfl hg1 ?_
    obtain ⟨x5, hb5, h⟩ := Go.L.bind_some h
    refine S_callL rfl rfl hL (bytes_Equal_ok _ _ (gz_le hH hL) (hv3.mono (gz_left hH)) (h1_0.mono (gz_left hH)) hb5) ?_
    rintro _ w6 rfl hx6 hL6 hle6
    refine S_v (r_pickT rfl hg1 rfl) rfl ?_
    refine S_pu 1 rfl ?_
    refine S_seqnil ?_
    refine W_ret ?_
    obtain rfl := Option.some.inj h
    refine At_body rfl rfl ?_
    exact ⟨hL6.ext, rfl⟩
  · replace h := Go.L.ite_n (of_decide_eq_false hg1) h
    refine S_unwanted rfl rfl hg1 rfl ?_
    refine S_unwanted rfl rfl hg1 rfl ?_
    refine S_unwanted rfl rfl hg1 rfl ?_
    refine S_unwanted rfl rfl hg1 rfl ?_
    refine S_unwanted rfl rfl hg1 rfl ?_
    refine S_unwanted rfl rfl hg1 rfl ?_
    refine S_v (r_pickF rfl hg1 rfl) rfl ?_
    refine S_pu 1 rfl ?_
    refine S_seqnil ?_
    refine W_ret ?_
    obtain rfl := Option.some.inj h
    refine At_body rfl rfl ?_
    exact ⟨hL.ext, rfl⟩

noncomputable def suffix_array_1 (a0 : Int) (a1 : Int) (c0 : List UInt8) : Option (Int) :=
  Go.L.chk (0 ≤ a0 ∧ a0 ≤ (c0.length : Int)) (Go.L.chk (0 ≤ a1 ∧ a1 ≤ (c0.length : Int)) (Option.bind (bytes_Compare (c0.drop a0.toNat) (c0.drop a1.toNat)) (fun x7 => some (x7))))

set_option maxRecDepth 10000 in
theorem suffix_array_1_ok (w : World) (H : PH) (hH : Le H (hp w)) {a0 : Int} {a1 : Int} {c0 : List UInt8} {vc0_0 : Value} {p0 : Addr} (hc0_0 : Vec .byte H vc0_0 (c0)) (hp0 : PtrTo H p0 [vc0_0]) {r : Int} (h : suffix_array_1 a0 a1 c0 = some r) :
    Ok Try.prog 62 [.int .i64 a0, .int .i64 a1, .pointer (some p0)] w (fun v w' => Ext w w' ∧ v = .int .i64 r) := by
  refine Ok_enter (n := 13) [(0, .int .i64 a0), (1, .int .i64 a1), (2, .pointer (some p0))] Try.func62 rfl rfl rfl rfl rfl ?_
  have hL := Lcl.start w
  refine W_seqr ?_
  refine S_pu 1 rfl ?_
  refine S_seqnil ?_
  refine W_seqd (.q 0 (.q 1 (.q 2 (.q 3 (.q 4 (.q 5 (.q 6 (.q 7 (.tail 8))))))))) mixed (by kernel_rfl) (fun w1 hx1 => ?_)
  have hL2 := hL.call hx1
  refine D_v (r_load1 rfl Try.underlying22 rfl hp0 (hH.trans hL2.arg)) rfl rfl ?_
  refine D_pu 1 rfl ?_
  obtain ⟨hk4, h⟩ := Go.L.chk_some h
  refine D_sliceL rfl rfl rfl Try.underlying22 zr5 hc0_0 hk4 rfl ?_
  intro v3 hv3
  refine D_v (r_load1 rfl Try.underlying22 rfl hp0 (hH.trans hL2.arg)) rfl rfl ?_
  refine D_pu 1 rfl ?_
  obtain ⟨hk6, h⟩ := Go.L.chk_some h
  refine D_sliceL rfl rfl rfl Try.underlying22 zr5 hc0_0 hk6 rfl ?_
  intro v5 hv5
  obtain ⟨x7, hb7, h⟩ := Go.L.bind_some h
  refine D_call rfl rfl rfl (fun w8 hx8 => bytes_Compare_ok _ _ (Le.refl _) ((hv3.mono (hH.trans hL2.arg)).mono hx8.le) ((hv5.mono (hH.trans hL2.arg)).mono hx8.le) hb7) ?_
  refine D_pu 1 rfl ?_
  refine D_tail (fun w9 hx9 => ?_)
  have hL10 := hL2.call hx9
  refine S_seqnil ?_
  refine W_ret ?_
  obtain rfl := Option.some.inj h
  refine At_body rfl rfl ?_
  exact ⟨hL10.ext, rfl⟩

noncomputable def slices_Max_int_int_k2 (s3_23 : Int) : Option (Int) :=
  some (s3_23)
noncomputable def slices_Max_int_int_bl3 (a0 : List Int) : Int × Int → Option ((Int × Int) ⊕ (Int)) := fun ⟨s3_33, s4_34⟩ =>
  if s4_34 < (a0.length : Int) then Go.L.chk (0 ≤ s4_34 ∧ s4_34 < (a0.length : Int)) (Go.L.chk (Go.L.I64 (s4_34 + (1 : Int))) (some (Sum.inl ((max s3_33 (a0.getD s4_34.toNat default)), (s4_34 + (1 : Int)))))) else Option.map Sum.inr (slices_Max_int_int_k2 s3_33)
noncomputable def slices_Max_int_int_l3 (a0 : List Int) (s : Int × Int) : Option (Int) := Go.L.run (slices_Max_int_int_bl3 a0) s
noncomputable def slices_Max_int_int_k1 (a0 : List Int) : Option (Int) :=
  Go.L.chk (0 ≤ (0 : Int) ∧ (0 : Int) < (a0.length : Int)) ((slices_Max_int_int_l3 a0) (a0.getD ((0 : Int).toNat) default, (1 : Int)))
noncomputable def slices_Max_int_int (a0 : List Int) : Option (Int) :=
  if (a0.length : Int) < (1 : Int) then none else (slices_Max_int_int_k1 a0)

set_option maxRecDepth 10000 in
theorem slices_Max_int_int_ok (w : World) (H : PH) (hH : Le H (hp w)) {a0 : List Int} {v0_0 : Value} (h0_0 : Vec (.int .i64) H v0_0 (a0)) {r : Int} (h : slices_Max_int_int a0 = some r) :
    Ok Try.prog 48 [v0_0] w (fun v w' => Ext w w' ∧ v = .int .i64 r) := by
  refine Ok_enter (n := 25) [(0, v0_0)] Try.func48 rfl rfl rfl rfl rfl ?_
  have hL := Lcl.start w
  refine W_seqr ?_
  refine S_pu 1 rfl ?_
  refine S_seqnil ?_
  refine W_cut (σ := Unit) (fun (_ : Unit) => [(0, v0_0)]) (fun (_ : Unit) wr => Lcl w [] wr ∧ (slices_Max_int_int_k1 a0) = some r) ?_ ?_
  · refine W_seqr ?_
    refine S_pu 1 rfl ?_
    refine S_v (r_len rfl Try.underlying23 h0_0) rfl ?_
    refine S_pu 1 rfl ?_
    refine S_seqnil ?_
    refine W_if rfl (fun hc7 => ?_) (fun hc7 => ?_)
    · replace h := Go.L.ite_p hc7 h
      refine W_region ?_
      cases h
    · replace h := Go.L.ite_n hc7 h
      refine W_skip ?_
      refine At_cut () (.cons rfl (Sub.nil _)) ⟨hL, h⟩
  · rintro _ wr5 ⟨hL5, h⟩
    refine W_seqr ?_
    refine S_pu 1 rfl ?_
    obtain ⟨hk12, h⟩ := Go.L.chk_some h
    refine S_index rfl rfl Try.underlying23 zr3 h0_0 ((0 : Int).toNat) (Int.toNat_of_nonneg hk12.1).symm (idx_lt hk12) rfl ?_
    rintro p11 _ rfl hp11
    refine S_v (r_load1 rfl Try.underlying3 rfl hp11 (hH.trans hL5.arg)) rfl ?_
    refine S_pu 1 rfl ?_
    refine S_seqnil ?_
    refine W_cut (σ := Int) (fun (s3_23 : Int) => [(3, .int .i64 s3_23)]) (fun (s3_23 : Int) wr => Lcl w [] wr ∧ slices_Max_int_int_k2 s3_23 = some r) ?_ ?_
    · refine W_seqr ?_
      refine S_pu 1 rfl ?_
      refine S_seqnil ?_
      refine W_block ?_
      obtain ⟨n35, h⟩ := Go.L.run_some h
      refine W_loop (σ := Int × Int × Nat) (fun (⟨s3_33, s4_34, n⟩ : Int × Int × Nat) => [(0, v0_0), (3, .int .i64 s3_33), (4, .int .i64 s4_34)]) (fun (⟨s3_33, s4_34, n⟩ : Int × Int × Nat) wr => Lcl w [] wr ∧ Go.L.itr (slices_Max_int_int_bl3 a0) n (s3_33, s4_34) = some r) (fun (⟨s3_33, s4_34, n⟩ : Int × Int × Nat) => n) (a0.getD ((0 : Int).toNat) default, (1 : Int), n35) (.cons rfl (.cons rfl (.cons rfl (Sub.nil _)))) ⟨hL5, h⟩ ?_
      rintro ⟨s3_33, s4_34, nn35⟩ wr35 ⟨hL35, h⟩
      obtain ⟨n35, e35, rfl, h, hm35⟩ := Go.L.itr_some h
      refine W_seq ?_
      refine W_seqr ?_
      refine S_pu 2 rfl ?_
      refine S_v (r_len rfl Try.underlying23 h0_0) rfl ?_
      refine S_pu 1 rfl ?_
      refine S_seqnil ?_
      refine W_if rfl (fun hc37 => ?_) (fun hc37 => ?_)
      · replace h := Go.L.ite_p hc37 h
        refine W_skip ?_
        refine At_seq ?_
        refine W_seq ?_
        refine W_block ?_
        refine W_region ?_
        refine S_pu 3 rfl ?_
        obtain ⟨hk40, h⟩ := Go.L.chk_some h
        refine S_index rfl rfl Try.underlying23 zr3 h0_0 s4_34.toNat (Int.toNat_of_nonneg hk40.1).symm (idx_lt hk40) rfl ?_
        rintro p39 _ rfl hp39
        refine S_v (r_load1 rfl Try.underlying3 rfl hp39 (hH.trans hL35.arg)) rfl ?_
        refine S_v (r_max rfl rfl) rfl ?_
        refine S_pu 1 rfl ?_
        refine S_nil ?_
        refine At_block ?_
        refine At_seq ?_
        refine W_region ?_
        refine S_pu 1 rfl ?_
        obtain ⟨hk41, h⟩ := Go.L.chk_some h
        refine S_v (r_ar64 rfl rfl rfl hk41) rfl ?_
        refine S_pu 1 rfl ?_
        refine S_nil ?_
        have h := Go.L.Nxt.again h hm35
        refine At_round ((max s3_33 (a0.getD s4_34.toNat default)), (s4_34 + (1 : Int)), n35) (.cons rfl (.cons rfl (.cons rfl (Sub.nil _)))) ⟨hL35, h⟩ (Nat.lt_succ_self _)
      · replace h := Go.L.ite_n hc37 h
        refine W_exit ?_
        refine At_seq_exit ?_
        refine At_loop_exit ?_
        replace h := Go.L.Nxt.out h hm35
        refine At_exit ?_
        refine At_cut s3_33 (.cons rfl (Sub.nil _)) ⟨hL35, h⟩
    · rintro s3_23 wr24 ⟨hL24, h⟩
      refine W_seqr ?_
      refine S_pu 2 rfl ?_
      refine S_seqnil ?_
      refine W_ret ?_
      obtain rfl := Option.some.inj h
      refine At_body rfl rfl ?_
      exact ⟨hL24.ext, rfl⟩

noncomputable def law4_abab : Option ((List UInt8)) :=
  Go.L.chk ([(97 : UInt8), (98 : UInt8), (97 : UInt8), (98 : UInt8)] ≠ []) (some ([(97 : UInt8), (98 : UInt8), (97 : UInt8), (98 : UInt8)]))

set_option maxRecDepth 10000 in
theorem law4_abab_ok (w : World) (H : PH) (hH : Le H (hp w))    {r : (List UInt8)} (h : law4_abab = some r) :
    Ok Try.prog 45 [] w (fun v w' => Ext w w' ∧ ∃ u0, v = u0 ∧ Vec .byte (un H (nw w w')) u0 (r)) := by
  refine Ok_enter (n := 3) [] Try.func45 rfl rfl rfl rfl rfl ?_
  have hL := Lcl.start w
  refine W_seqr ?_
  refine S_pu 1 rfl ?_
  refine S_seqnil ?_
  refine W_seqr ?_
  refine S_litO (r := .byte) (l := [(97 : UInt8), (98 : UInt8), (97 : UInt8), (98 : UInt8)]) rfl (fun _ => bsl22_4 _ _ _ _ _) rfl (show 4 ≤ 9223372036854775807 by decide) hH hL (.c1 rfl (.c1 rfl (.c1 rfl (.c1 rfl .nil)))) ?_
  intro v1 w1 xs1 hL1 hle1 he1
  obtain ⟨hk3, h⟩ := Go.L.chk_some h
  refine S_cvB 0 rfl Try.underlying22 Try.underlying5 rfl hH hL1 rfl he1 hk3 ?_
  intro w2 hL2 hle2 hv2
  refine S_pu 1 rfl ?_
  refine S_seqnil ?_
  refine W_ret ?_
  obtain rfl := Option.some.inj h
  refine At_body rfl rfl ?_
  exact ⟨hL2.ext, _, rfl, (hv2.mono (gz_res hH))⟩
end Go.Proofs.Ytmifkdfaaaaicaa
