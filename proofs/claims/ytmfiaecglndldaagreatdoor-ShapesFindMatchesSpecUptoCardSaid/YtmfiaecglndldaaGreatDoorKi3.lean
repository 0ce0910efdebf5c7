/- Texts of a claim, merged. -/
import Derived.Test.YtmfiaecglndldaaGreatDoorKi2
import Derived.KernelRfl
set_option linter.unusedVariables false
set_option linter.unusedSimpArgs false
section
namespace Go.Proofs.YtmfiaecglndldaaGreatDoor
open Go Go.E Go.RowKit
set_option maxHeartbeats 1000000
set_option maxRecDepth 10000
open _root_.Go.Proofs.Tryz
noncomputable def ref3_In (a0 : Int) (a1 : Int) (a2 : Int) : Option (Bool) :=
 some (decide ((a1 ≤ a0) ∧ (a0 ≤ a2)))
theorem ref3_In_ok (w : World) (H : PH) (_hH : Le H (hp w)) {a0 : Int} {a1 : Int} {a2 : Int}   {r : Bool} (h : ref3_In a0 a1 a2 = some r) :
  Ok Tryz.prog 20 [.int .i64 a0, .int .i64 a1, .int .i64 a2] w (fun v w' => Ext w w' ∧ v = .bool r) := by
 refine Ok_enter (n := 15) [(0, .int .i64 a0), (1, .int .i64 a1), (2, .int .i64 a2)] func20 rfl rfl rfl rfl rfl ?_;have hL := Lcl.start w;refine W_pz 1 rfl ?_;refine W_p 4 rfl ?_;refine S_and 3 3 rfl rfl rfl rfl rfl rfl ?_;refine S_pz 1 rfl ?_;refine W_ret ?_;obtain rfl := Option.some.inj h;refine At_body rfl rfl ?_;exact ⟨hL.ext, rfl⟩
noncomputable def ref3_At (a0 : Int) (a1 : Int) : Option ((Int × Int)) :=
 some ((a0, a1))
theorem ref3_At_ok (w : World) (H : PH) (_hH : Le H (hp w)) {a0 : Int} {a1 : Int}   {r : (Int × Int)} (h : ref3_At a0 a1 = some r) :
  Ok Tryz.prog 16 [.int .i64 a0, .int .i64 a1] w (fun v w' => Ext w w' ∧ v = .agg #[.int .i64 r.1, .int .i64 r.2]) := by
 refine Ok_enter (n := 8) [(0, .int .i64 a0), (1, .int .i64 a1)] func16 rfl rfl rfl rfl rfl ?_;have hL := Lcl.start w;refine W_seqr ?_;refine S_alloc zr23 rfl rfl hL ?_;intro w1 b1 hL1 hle1 _;refine S_seqnil ?_;refine W_p 2 rfl ?_;refine S_v (r_build rfl (fun _ => bld23_0_1 _ _ _)) rfl ?_;refine S_storeBN 0 rfl rfl rfl zr23 hL1 rfl rfl (onc rfl (onc rfl on0)) ?_;intro w2 hL2 hle2;refine S_seqnil ?_;refine W_ret ?_;obtain rfl := Option.some.inj h;refine At_got1 rfl (.cell rfl underlying23 rfl zr23 (box_ptr (i := 0) hL2 rfl)) ?_;exact ⟨hL2.ext, rfl⟩
noncomputable def ref3_Ints_k1 : Option (Bool) :=
 some (true)
noncomputable def ref3_Ints_bl2 (a0 : List Int) (a1 : List Int) : Int → Option ((Int) ⊕ (Bool)) := fun s5_40 =>
 if s5_40 < (a0.length : Int) then Go.L.chk (0 ≤ s5_40 ∧ s5_40 < (a0.length : Int)) (Go.L.chk (0 ≤ s5_40 ∧ s5_40 < (a1.length : Int)) (if a0.getD s5_40.toNat default = a1.getD s5_40.toNat default then Go.L.chk (Go.L.I64 (s5_40 + (1 : Int))) (some (Sum.inl (s5_40 + (1 : Int)))) else Option.map Sum.inr (some (false)))) else Option.map Sum.inr (ref3_Ints_k1)
noncomputable def ref3_Ints_l2 (a0 : List Int) (a1 : List Int) (s : Int) : Option (Bool) := Go.L.run (ref3_Ints_bl2 a0 a1) s
noncomputable def ref3_Ints (a0 : List Int) (a1 : List Int) : Option (Bool) :=
 if (a0.length : Int) = (a1.length : Int) then (ref3_Ints_l2 a0 a1) (0 : Int) else some (false)
theorem ref3_Ints_ok (w : World) (H : PH) (hH : Le H (hp w)) {a0 : List Int} {a1 : List Int} {v0_0 : Value} {v1_0 : Value} (h0_0 : Vec (.int .i64) H v0_0 (a0)) (h1_0 : Vec (.int .i64) H v1_0 (a1)) {r : Bool} (h : ref3_Ints a0 a1 = some r) :
  Ok Tryz.prog 34 [v0_0, v1_0] w (fun v w' => Ext w w' ∧ v = .bool r) := by
 refine Ok_enter (n := 26) [(0, v0_0), (1, v1_0)] func34 rfl rfl rfl rfl rfl ?_;have hL := Lcl.start w;refine W_pz 1 rfl ?_;refine W_seq ?_;refine W_p 1 rfl ?_;refine S_v (r_len rfl underlying52 h0_0) rfl ?_;refine S_pu 1 rfl ?_;refine S_v (r_len rfl underlying52 h1_0) rfl ?_;refine S_pz 1 rfl ?_;refine W_ifn rfl (fun hc1 => ?_) (fun hc1 => ?_)
 ·replace h := Go.L.ite_n hc1 h;refine W_pz 1 rfl ?_;refine W_ret ?_;refine At_seq_ret ?_;obtain rfl := Option.some.inj h;refine At_body rfl rfl ?_;exact ⟨hL.ext, rfl⟩
 ·replace h := Go.L.ite_p hc1 h;refine W_skip ?_;refine At_seq ?_;refine W_cut (σ := Unit) (fun (_ : Unit) => []) (fun (_ : Unit) wr => Lcl w [] wr ∧ ref3_Ints_k1 = some r) ?_ ?_
  ·refine W_pz 1 rfl ?_;refine W_block ?_;obtain ⟨n41, h⟩ := Go.L.run_some h;refine W_loop (σ := Int × Nat) (fun ⟨s5_40, n⟩ => [(0, v0_0), (1, v1_0), (5, .int .i64 s5_40)]) (fun ⟨s5_40, n⟩ wr => Lcl w [] wr ∧ Go.L.itr (ref3_Ints_bl2 a0 a1) n s5_40 = some r) (fun ⟨s5_40, n⟩ => n) ((0 : Int), n41) (.cons rfl (.cons rfl (.cons rfl (Sub.nil _)))) ⟨hL, h⟩ ?_;rintro ⟨s5_40, nn41⟩ wr41 ⟨hL41, h⟩;obtain ⟨n41, e41, rfl, h, hm41⟩ := Go.L.itr_some h;refine W_seq ?_;refine W_p 2 rfl ?_;refine S_v (r_len rfl underlying52 h0_0) rfl ?_;refine S_pz 1 rfl ?_;refine W_if rfl (fun hc43 => ?_) (fun hc43 => ?_)
   ·replace h := Go.L.ite_p hc43 h;refine W_skip ?_;refine At_seq ?_;refine W_seq ?_;refine W_block ?_;refine W_seqd (.q 0 (.q 1 (.q 2 (.q 3 (.q 4 (.q 5 (.q 6 (.q 7 (.q 8 (.tail 9)))))))))) mixed (by kernel_rfl) (fun w45 hx45 => ?_);have hL46 := hL41.call hx45;refine D_pu 2 rfl ?_;obtain ⟨hk48, h⟩ := Go.L.chk_some h;refine D_index rfl rfl rfl underlying52 zr3 h0_0 s5_40.toNat (Int.toNat_of_nonneg hk48.1).symm (idx_lt hk48) rfl ?_;rintro p47 _ rfl hp47;refine D_v (r_load1 rfl underlying3 rfl hp47 (hH.trans hL46.arg)) rfl rfl ?_;refine D_pu 2 rfl ?_;obtain ⟨hk50, h⟩ := Go.L.chk_some h;refine D_index rfl rfl rfl underlying52 zr3 h1_0 s5_40.toNat (Int.toNat_of_nonneg hk50.1).symm (idx_lt hk50) rfl ?_;rintro p49 _ rfl hp49;refine D_v (r_load1 rfl underlying3 rfl hp49 (hH.trans hL46.arg)) rfl rfl ?_;refine D_pu 1 rfl ?_;refine D_tail (fun w51 hx51 => ?_);have hL52 := hL46.call hx51;refine S_seqnil ?_;refine W_ifn rfl (fun hc53 => ?_) (fun hc53 => ?_)
    ·replace h := Go.L.ite_n hc53 h;refine W_pz 1 rfl ?_;refine W_ret ?_;refine At_block_ret ?_;refine At_seq_ret ?_;refine At_loop_ret ?_;replace h := Go.L.Nxt.out h hm41;refine At_block_ret ?_;refine At_cut_ret ?_;obtain rfl := Option.some.inj h;refine At_body rfl rfl ?_;exact ⟨hL52.ext, rfl⟩
    ·replace h := Go.L.ite_p hc53 h;refine W_skip ?_;refine At_block ?_;refine At_seq ?_;refine W_region ?_;refine S_pu 1 rfl ?_;obtain ⟨hk56, h⟩ := Go.L.chk_some h;refine S_v (r_ar64 rfl rfl rfl hk56) rfl ?_;refine S_pu 1 rfl ?_;refine S_nil ?_;have h := Go.L.Nxt.again h hm41;refine At_round ((s5_40 + (1 : Int)), n41) (.cons rfl (.cons rfl (.cons rfl (Sub.nil _)))) ⟨hL52, h⟩ (Nat.lt_succ_self _)
   ·replace h := Go.L.ite_n hc43 h;refine W_exit ?_;refine At_seq_exit ?_;refine At_loop_exit ?_;replace h := Go.L.Nxt.out h hm41;refine At_exit ?_;refine At_cut () (Sub.nil _) ⟨hL41, h⟩
  ·rintro _ wr22 ⟨hL22, h⟩;refine W_pz 1 rfl ?_;refine W_ret ?_;obtain rfl := Option.some.inj h;refine At_body rfl rfl ?_;exact ⟨hL22.ext, rfl⟩
noncomputable def ref4_NameOk_k1 (a0 : List UInt8) : Option (Bool) :=
 Option.bind (ref3_In (a0.length : Int) (1 : Int) (32 : Int)) (fun x104 => some (x104))
noncomputable def ref4_NameOk_bl2 (a0 : List UInt8) : Int → Option ((Int) ⊕ (Bool)) := fun s3_69 =>
 if s3_69 < (a0.length : Int) then Go.L.chk (0 ≤ s3_69 ∧ s3_69 < (a0.length : Int)) (Option.bind (ref3_In ((a0.getD s3_69.toNat default).toNat : Int) (97 : Int) (122 : Int)) (fun x75 => if !x75 then if s3_69 = (0 : Int) then Option.map Sum.inr (some (false)) else Option.bind (ref3_In ((a0.getD s3_69.toNat default).toNat : Int) (48 : Int) (57 : Int)) (fun x82 => if !x82 then if ((a0.getD s3_69.toNat default).toNat : Int) = (45 : Int) then Go.L.chk (Go.L.I64 (s3_69 + (1 : Int))) (some (Sum.inl (s3_69 + (1 : Int)))) else if ((a0.getD s3_69.toNat default).toNat : Int) = (95 : Int) then Go.L.chk (Go.L.I64 (s3_69 + (1 : Int))) (some (Sum.inl (s3_69 + (1 : Int)))) else if ((a0.getD s3_69.toNat default).toNat : Int) = (46 : Int) then Go.L.chk (Go.L.I64 (s3_69 + (1 : Int))) (some (Sum.inl (s3_69 + (1 : Int)))) else Option.map Sum.inr (some (false)) else Go.L.chk (Go.L.I64 (s3_69 + (1 : Int))) (some (Sum.inl (s3_69 + (1 : Int))))) else Go.L.chk (Go.L.I64 (s3_69 + (1 : Int))) (some (Sum.inl (s3_69 + (1 : Int)))))) else Option.map Sum.inr ((ref4_NameOk_k1 a0))
noncomputable def ref4_NameOk_l2 (a0 : List UInt8) (s : Int) : Option (Bool) := Go.L.run (ref4_NameOk_bl2 a0) s
noncomputable def ref4_NameOk (a0 : List UInt8) : Option (Bool) :=
 (ref4_NameOk_l2 a0) (0 : Int)
theorem ref4_NameOk_ok (w : World) (H : PH) (hH : Le H (hp w)) {a0 : List UInt8}   {r : Bool} (h : ref4_NameOk a0 = some r) :
  Ok Tryz.prog 49 [.string ⟨(a0).toArray⟩] w (fun v w' => Ext w w' ∧ v = .bool r) := by
 refine Ok_enter (n := 42) [(0, .string ⟨(a0).toArray⟩)] func49 rfl rfl rfl rfl rfl ?_;have hL := Lcl.start w;refine W_pz 1 rfl ?_;refine W_cut (σ := Unit) (fun (_ : Unit) => [(0, .string ⟨(a0).toArray⟩)]) (fun (_ : Unit) wr => Lcl w [] wr ∧ (ref4_NameOk_k1 a0) = some r) ?_ ?_
 ·refine W_pz 1 rfl ?_;refine W_block ?_;obtain ⟨n70, h⟩ := Go.L.run_some h;refine W_loop (σ := Int × Nat) (fun ⟨s3_69, n⟩ => [(0, .string ⟨(a0).toArray⟩), (3, .int .i64 s3_69)]) (fun ⟨s3_69, n⟩ wr => Lcl w [] wr ∧ Go.L.itr (ref4_NameOk_bl2 a0) n s3_69 = some r) (fun ⟨s3_69, n⟩ => n) ((0 : Int), n70) (.cons rfl (.cons rfl (Sub.nil _))) ⟨hL, h⟩ ?_;rintro ⟨s3_69, nn70⟩ wr70 ⟨hL70, h⟩;obtain ⟨n70, e70, rfl, h, hm70⟩ := Go.L.itr_some h;refine W_seq ?_;refine W_p 2 rfl ?_;refine S_v (r_lenS rfl underlying9) rfl ?_;refine S_pz 1 rfl ?_;refine W_if rfl (fun hc72 => ?_) (fun hc72 => ?_)
  ·replace h := Go.L.ite_p hc72 h;refine W_skip ?_;refine At_seq ?_;refine W_seq ?_;refine W_block ?_;refine W_p 2 rfl ?_;obtain ⟨hk74, h⟩ := Go.L.chk_some h;refine S_v (r_sidx rfl rfl underlying9 hk74) rfl ?_;refine S_v (r_conv underlying5 underlying3 rfl (conv_8_64 _)) rfl ?_;refine S_pz 1 rfl ?_;refine W_p 1 rfl ?_;obtain ⟨x75, hb75, h⟩ := Go.L.bind_some h;refine S_callL rfl rfl hL70 (ref3_In_ok _ _ (gz_le hH hL70) hb75) ?_;rintro _ w76 rfl hx76 hL76 hle76;refine S_pu 2 rfl ?_;refine S_split (s := 18) rfl (fun hg77 => ?_) (fun hg77 => ?_)
   ·replace h := Go.L.ite_t hg77 h;refine S_guarded rfl rfl hg77 ?_;refine S_v (RunsAt_pu rfl) rfl ?_;refine S_guarded rfl rfl hg77 ?_;refine S_v (RunsAt_pu rfl) rfl ?_;refine S_guarded rfl rfl hg77 ?_;refine S_v (RunsAt_pu rfl) rfl ?_;refine S_split (s := 21) rfl (fun hg79 => ?_) (fun hg79 => ?_)
    ·replace h := Go.L.ite_p (of_decide_eq_true hg79) h
     iterate 4 refine S_unwanted rfl rfl hg79 rfl ?_
     iterate 2 refine S_unwanted2 rfl rfl rfl ?_
     iterate 2 refine S_unwanted rfl rfl hg79 rfl ?_
     iterate 2 refine S_unwanted2 rfl rfl rfl ?_
     iterate 2 refine S_unwanted rfl rfl hg79 rfl ?_
     iterate 2 refine S_unwanted2 rfl rfl rfl ?_
     refine S_unwanted rfl rfl hg79 rfl ?_;refine S_guarded rfl rfl hg77 ?_;refine S_v (r_pickT rfl hg79 rfl) rfl ?_;refine S_v (r_pickT rfl hg77 rfl) rfl ?_;refine S_seqnil ?_;refine W_true rfl ?_;refine W_pz 1 rfl ?_;refine W_ret ?_;refine At_block_ret ?_;refine At_seq_ret ?_;refine At_loop_ret ?_;replace h := Go.L.Nxt.out h hm70;refine At_block_ret ?_;refine At_cut_ret ?_;obtain rfl := Option.some.inj h;refine At_body rfl rfl ?_;exact ⟨hL76.ext, rfl⟩
    ·replace h := Go.L.ite_n (of_decide_eq_false hg79) h;refine S_guarded rfl rfl hg79 ?_;refine S_v (RunsAt_pu rfl) rfl ?_;refine S_guarded rfl rfl hg79 ?_;obtain ⟨x82, hb82, h⟩ := Go.L.bind_some h;refine S_callL rfl rfl hL76 (ref3_In_ok _ _ (gz_le hH hL76) hb82) ?_;rintro _ w83 rfl hx83 hL83 hle83;refine S_guarded rfl rfl hg79 ?_;refine S_v (RunsAt_pu rfl) rfl ?_;refine S_guarded rfl rfl hg79 ?_;refine S_v (RunsAt_pu rfl) rfl ?_;refine S_split (s := 25) rfl (fun hg84 => ?_) (fun hg84 => ?_)
     ·replace h := Go.L.ite_t hg84 h;refine S_guarded rfl rfl hg84 ?_;refine S_v (RunsAt_pu rfl) rfl ?_;refine S_guarded rfl rfl hg84 ?_;refine S_v (RunsAt_pu rfl) rfl ?_;refine S_guarded rfl rfl hg79 ?_;refine S_v (r_pickT rfl hg84 rfl) rfl ?_;refine S_guarded rfl rfl hg79 ?_;refine S_v (RunsAt_pu rfl) rfl ?_;refine S_split (s := 29) rfl (fun hg86 => ?_) (fun hg86 => ?_)
      ·replace h := Go.L.ite_n (not_dec_t hg86) h;refine S_guarded rfl rfl hg86 ?_;refine S_v (RunsAt_pu rfl) rfl ?_;refine S_guarded rfl rfl hg86 ?_;refine S_v (RunsAt_pu rfl) rfl ?_;refine S_guarded rfl rfl hg79 ?_;refine S_v (r_pickT rfl hg86 rfl) rfl ?_;refine S_guarded rfl rfl hg79 ?_;refine S_v (RunsAt_pu rfl) rfl ?_;refine S_split (s := 33) rfl (fun hg88 => ?_) (fun hg88 => ?_)
       ·replace h := Go.L.ite_n (not_dec_t hg88) h;refine S_guarded rfl rfl hg88 ?_;refine S_v (RunsAt_pu rfl) rfl ?_;refine S_guarded rfl rfl hg88 ?_;refine S_v (RunsAt_pu rfl) rfl ?_;refine S_guarded rfl rfl hg79 ?_;refine S_v (r_pickT rfl hg88 rfl) rfl ?_;refine S_guarded rfl rfl hg77 ?_;refine S_v (r_pickF rfl hg79 rfl) rfl ?_;refine S_v (r_pickT rfl hg77 rfl) rfl ?_;refine S_seqnil ?_;refine W_ifn rfl (fun hc90 => ?_) (fun hc90 => ?_)
        ·replace h := Go.L.ite_n hc90 h;refine W_pz 1 rfl ?_;refine W_ret ?_;refine At_block_ret ?_;refine At_seq_ret ?_;refine At_loop_ret ?_;replace h := Go.L.Nxt.out h hm70;refine At_block_ret ?_;refine At_cut_ret ?_;obtain rfl := Option.some.inj h;refine At_body rfl rfl ?_;exact ⟨hL83.ext, rfl⟩
        ·replace h := Go.L.ite_p hc90 h;refine W_skip ?_;refine At_block ?_;refine At_seq ?_;refine W_region ?_;refine S_pu 1 rfl ?_;obtain ⟨hk93, h⟩ := Go.L.chk_some h;refine S_v (r_ar64 rfl rfl rfl hk93) rfl ?_;refine S_pu 1 rfl ?_;refine S_nil ?_;have h := Go.L.Nxt.again h hm70;refine At_round ((s3_69 + (1 : Int)), n70) (.cons rfl (.cons rfl (Sub.nil _))) ⟨hL83, h⟩ (Nat.lt_succ_self _)
       ·replace h := Go.L.ite_p (not_dec_f hg88) h
        iterate 2 refine S_unwanted rfl rfl hg88 rfl ?_
        refine S_guarded rfl rfl hg79 ?_;refine S_v (r_pickF rfl hg88 rfl) rfl ?_;refine S_guarded rfl rfl hg77 ?_;refine S_v (r_pickF rfl hg79 rfl) rfl ?_;refine S_v (r_pickT rfl hg77 rfl) rfl ?_;refine S_seqnil ?_;refine W_false rfl ?_;refine W_skip ?_;refine At_block ?_;refine At_seq ?_;refine W_region ?_;refine S_pu 1 rfl ?_;obtain ⟨hk95, h⟩ := Go.L.chk_some h;refine S_v (r_ar64 rfl rfl rfl hk95) rfl ?_;refine S_pu 1 rfl ?_;refine S_nil ?_;have h := Go.L.Nxt.again h hm70;refine At_round ((s3_69 + (1 : Int)), n70) (.cons rfl (.cons rfl (Sub.nil _))) ⟨hL83, h⟩ (Nat.lt_succ_self _)
      ·replace h := Go.L.ite_p (not_dec_f hg86) h
       iterate 2 refine S_unwanted rfl rfl hg86 rfl ?_
       refine S_guarded rfl rfl hg79 ?_;refine S_v (r_pickF rfl hg86 rfl) rfl ?_;refine S_guarded rfl rfl hg79 ?_;refine S_v (RunsAt_pu rfl) rfl ?_
       iterate 2 refine S_unwanted rfl rfl rfl rfl ?_
       refine S_guarded rfl rfl hg79 ?_;refine S_v (r_pickF rfl rfl rfl) rfl ?_;refine S_guarded rfl rfl hg77 ?_;refine S_v (r_pickF rfl hg79 rfl) rfl ?_;refine S_v (r_pickT rfl hg77 rfl) rfl ?_;refine S_seqnil ?_;refine W_false rfl ?_;refine W_skip ?_;refine At_block ?_;refine At_seq ?_;refine W_region ?_;refine S_pu 1 rfl ?_;obtain ⟨hk97, h⟩ := Go.L.chk_some h;refine S_v (r_ar64 rfl rfl rfl hk97) rfl ?_;refine S_pu 1 rfl ?_;refine S_nil ?_;have h := Go.L.Nxt.again h hm70;refine At_round ((s3_69 + (1 : Int)), n70) (.cons rfl (.cons rfl (Sub.nil _))) ⟨hL83, h⟩ (Nat.lt_succ_self _)
     ·replace h := Go.L.ite_f hg84 h
      iterate 2 refine S_unwanted rfl rfl hg84 rfl ?_
      refine S_guarded rfl rfl hg79 ?_;refine S_v (r_pickF rfl hg84 rfl) rfl ?_;refine S_guarded rfl rfl hg79 ?_;refine S_v (RunsAt_pu rfl) rfl ?_
      iterate 2 refine S_unwanted rfl rfl rfl rfl ?_
      refine S_guarded rfl rfl hg79 ?_;refine S_v (r_pickF rfl rfl rfl) rfl ?_;refine S_guarded rfl rfl hg79 ?_;refine S_v (RunsAt_pu rfl) rfl ?_
      iterate 2 refine S_unwanted rfl rfl rfl rfl ?_
      refine S_guarded rfl rfl hg79 ?_;refine S_v (r_pickF rfl rfl rfl) rfl ?_;refine S_guarded rfl rfl hg77 ?_;refine S_v (r_pickF rfl hg79 rfl) rfl ?_;refine S_v (r_pickT rfl hg77 rfl) rfl ?_;refine S_seqnil ?_;refine W_false rfl ?_;refine W_skip ?_;refine At_block ?_;refine At_seq ?_;refine W_region ?_;refine S_pu 1 rfl ?_;obtain ⟨hk99, h⟩ := Go.L.chk_some h;refine S_v (r_ar64 rfl rfl rfl hk99) rfl ?_;refine S_pu 1 rfl ?_;refine S_nil ?_;have h := Go.L.Nxt.again h hm70;refine At_round ((s3_69 + (1 : Int)), n70) (.cons rfl (.cons rfl (Sub.nil _))) ⟨hL83, h⟩ (Nat.lt_succ_self _)
   ·replace h := Go.L.ite_f hg77 h
    iterate 3 refine S_unwanted rfl rfl hg77 rfl ?_
    iterate 15 refine S_unwanted2 rfl rfl rfl ?_
    refine S_unwanted rfl rfl hg77 rfl ?_;refine S_v (r_pickF rfl hg77 rfl) rfl ?_;refine S_seqnil ?_;refine W_false rfl ?_;refine W_skip ?_;refine At_block ?_;refine At_seq ?_;refine W_region ?_;refine S_pu 1 rfl ?_;obtain ⟨hk101, h⟩ := Go.L.chk_some h;refine S_v (r_ar64 rfl rfl rfl hk101) rfl ?_;refine S_pu 1 rfl ?_;refine S_nil ?_;have h := Go.L.Nxt.again h hm70;refine At_round ((s3_69 + (1 : Int)), n70) (.cons rfl (.cons rfl (Sub.nil _))) ⟨hL76, h⟩ (Nat.lt_succ_self _)
  ·replace h := Go.L.ite_n hc72 h;refine W_exit ?_;refine At_seq_exit ?_;refine At_loop_exit ?_;replace h := Go.L.Nxt.out h hm70;refine At_exit ?_;refine At_cut () (.cons rfl (Sub.nil _)) ⟨hL70, h⟩
 ·rintro _ wr35 ⟨hL35, h⟩;refine W_p 1 rfl ?_;refine S_v (r_lenS rfl underlying9) rfl ?_;obtain ⟨x104, hb104, h⟩ := Go.L.bind_some h;refine S_callL rfl rfl hL35 (ref3_In_ok _ _ (gz_le hH hL35) hb104) ?_;rintro _ w105 rfl hx105 hL105 hle105;refine S_pz 1 rfl ?_;refine W_ret ?_;obtain rfl := Option.some.inj h;refine At_body rfl rfl ?_;exact ⟨hL105.ext, rfl⟩
noncomputable def ref4_Steps_k1 (l34 : List (List UInt8)) : Option ((List (List UInt8))) :=
 some (l34)
noncomputable def ref4_Steps_bl2 (a0 : List UInt8) : (List (List UInt8)) × Int × Int → Option (((List (List UInt8)) × Int × Int) ⊕ ((List (List UInt8)))) := fun ⟨l63, s4_64, s5_65⟩ =>
 if s5_65 ≤ (a0.length : Int) then (if s5_65 = (a0.length : Int) then Go.L.chk (0 ≤ s4_64 ∧ s4_64 ≤ s5_65 ∧ s5_65 ≤ (a0.length : Int)) (Go.L.chk (Go.E.Cap 16 (l63.length + ([((a0.drop s4_64.toNat).take (s5_65.toNat - s4_64.toNat))]).length)) (Go.L.chk (Go.L.I64 (s5_65 + (1 : Int))) (Go.L.chk (Go.L.I64 (s5_65 + (1 : Int))) (some (Sum.inl ((l63 ++ [((a0.drop s4_64.toNat).take (s5_65.toNat - s4_64.toNat))]), (s5_65 + (1 : Int)), (s5_65 + (1 : Int)))))))) else Go.L.chk (0 ≤ s5_65 ∧ s5_65 < (a0.length : Int)) (if ((a0.getD s5_65.toNat default).toNat : Int) = 47 then Go.L.chk (0 ≤ s4_64 ∧ s4_64 ≤ s5_65 ∧ s5_65 ≤ (a0.length : Int)) (Go.L.chk (Go.E.Cap 16 (l63.length + ([((a0.drop s4_64.toNat).take (s5_65.toNat - s4_64.toNat))]).length)) (Go.L.chk (Go.L.I64 (s5_65 + (1 : Int))) (Go.L.chk (Go.L.I64 (s5_65 + (1 : Int))) (some (Sum.inl ((l63 ++ [((a0.drop s4_64.toNat).take (s5_65.toNat - s4_64.toNat))]), (s5_65 + (1 : Int)), (s5_65 + (1 : Int)))))))) else Go.L.chk (Go.L.I64 (s5_65 + (1 : Int))) (some (Sum.inl (l63, s4_64, (s5_65 + (1 : Int))))))) else Option.map Sum.inr (ref4_Steps_k1 l63)
noncomputable def ref4_Steps_l2 (a0 : List UInt8) (s : (List (List UInt8)) × Int × Int) : Option ((List (List UInt8))) := Go.L.run (ref4_Steps_bl2 a0) s
noncomputable def ref4_Steps (a0 : List UInt8) : Option ((List (List UInt8))) :=
 if a0 = ([] : List UInt8) then some ([]) else (ref4_Steps_l2 a0) (([] : List (List UInt8)), (0 : Int), (0 : Int))
theorem ref4_Steps_ok (w : World) (H : PH) (hH : Le H (hp w)) {a0 : List UInt8}   {r : (List (List UInt8))} (h : ref4_Steps a0 = some r) :
  Ok Tryz.prog 18 [.string ⟨(a0).toArray⟩] w (fun v w' => Ext w w' ∧ ∃ u0, v = u0 ∧ OwnH 9 .st H w w' u0 (r)) := by
 refine Ok_enter (n := 34) [(0, .string ⟨(a0).toArray⟩)] func18 rfl rfl rfl rfl rfl ?_;have hL := Lcl.start w;refine W_pz 1 rfl ?_;refine W_seq ?_;refine W_p 1 rfl ?_;refine S_v (r_seq rfl rfl) rfl ?_;refine S_seqnil ?_;refine W_if rfl (fun hc1 => ?_) (fun hc1 => ?_)
 ·replace h := Go.L.ite_p hc1 h;refine W_pz 1 rfl ?_;refine W_ret ?_;refine At_seq_ret ?_;obtain rfl := Option.some.inj h;refine At_body rfl rfl ?_;exact ⟨hL.ext, _, rfl, OwnH.nil⟩
 ·replace h := Go.L.ite_n hc1 h;refine W_skip ?_;refine At_seq ?_;refine W_p 1 rfl ?_;obtain ⟨hL4, hle4, he4⟩ := row_nilE .st H 9 hL;refine S_seqnil ?_;refine W_pz 1 rfl ?_;refine W_cut (σ := (List (List UInt8)) × Value × (List Value)) (fun ⟨l34, vl34, xsl34⟩ => [(3, vl34)]) (fun ⟨l34, vl34, xsl34⟩ wr => InO w [.row (vl34) 9 1 (l34).length (xsl34)] wr fun Oz => Elems .st (gz H w wr Oz) (l34) (xsl34) ∧ ref4_Steps_k1 l34 = some r) ?_ ?_
  ·refine W_pz 1 rfl ?_;refine W_block ?_;obtain ⟨n66, h⟩ := Go.L.run_some h;refine W_loop (σ := (List (List UInt8)) × Int × Int × Value × (List Value) × Nat) (fun ⟨l63, s4_64, s5_65, vl63, xsl63, n⟩ => [(0, .string ⟨(a0).toArray⟩), (3, vl63), (4, .int .i64 s4_64), (5, .int .i64 s5_65)]) (fun ⟨l63, s4_64, s5_65, vl63, xsl63, n⟩ wr => InO w [.row (vl63) 9 1 (l63).length (xsl63)] wr fun Oz => Elems .st (gz H w wr Oz) (l63) (xsl63) ∧ Go.L.itr (ref4_Steps_bl2 a0) n (l63, s4_64, s5_65) = some r) (fun ⟨l63, s4_64, s5_65, vl63, xsl63, n⟩ => n) (([] : List (List UInt8)), (0 : Int), (0 : Int), .slice none 0 0, [], n66) (.cons rfl (.cons rfl (.cons rfl (.cons rfl (Sub.nil _))))) ⟨hL4, he4, h⟩ ?_;rintro ⟨l63, s4_64, s5_65, vl63, xsl63, nn66⟩ wr66 ⟨hL66, hel63, h⟩;obtain ⟨n66, e66, rfl, h, hm66⟩ := Go.L.itr_some h;refine W_seq ?_;refine W_p 2 rfl ?_;refine S_v (r_lenS rfl underlying9) rfl ?_;refine S_pz 1 rfl ?_;refine W_if rfl (fun hc68 => ?_) (fun hc68 => ?_)
   ·replace h := Go.L.ite_p hc68 h;refine W_skip ?_;refine At_seq ?_;refine W_seq ?_;refine W_block ?_;refine W_p 2 rfl ?_;refine S_v (r_lenS rfl underlying9) rfl ?_;refine S_pu 2 rfl ?_;refine S_split (s := 18) rfl (fun hg70 => ?_) (fun hg70 => ?_)
    ·replace h := Go.L.ite_p (of_decide_eq_true hg70) h
     iterate 4 refine S_unwanted rfl rfl hg70 rfl ?_
     refine S_v (r_pickT rfl hg70 rfl) rfl ?_;refine S_seqnil ?_;refine W_true rfl ?_;refine W_p 4 rfl ?_;obtain ⟨hk73, h⟩ := Go.L.chk_some h;refine S_v (r_sslB rfl rfl rfl underlying9 hk73) rfl ?_;refine S_litE (r := .st) (l := [((a0.drop s4_64.toNat).take (s5_65.toNat - s4_64.toNat))]) rfl (fun _ => bsl30_1 _ rfl _) rfl (show 1 ≤ 9223372036854775807 by decide) hH hL66 (.c1 rfl .nil) ?_;intro v74 w74 hx74 hL74 hle74 hv74;replace hel63 := hel63.mono (gz_mono hH hle74);obtain ⟨hk76, h⟩ := Go.L.chk_some h;refine S_appE (r := .st) (l := l63) (m := [((a0.drop s4_64.toNat).take (s5_65.toNat - s4_64.toNat))]) 0 rfl rfl underlying30 zr9 rfl (by decide) rfl hH hL74 rfl hel63 hv74 hk76 ?_;intro v75 w75 xs75 hL75 hle75 he75;replace hv74 := hv74.mono (gz_mono hH hle75);refine S_pz 1 rfl ?_;refine W_region ?_;refine S_pu 1 rfl ?_;obtain ⟨hk77, h⟩ := Go.L.chk_some h;refine S_v (r_ar64 rfl rfl rfl hk77) rfl ?_;refine S_pu 1 rfl ?_;refine S_nil ?_;refine At_block ?_;refine At_seq ?_;refine W_region ?_;refine S_pu 1 rfl ?_;obtain ⟨hk78, h⟩ := Go.L.chk_some h;refine S_v (r_ar64 rfl rfl rfl hk78) rfl ?_;refine S_pu 1 rfl ?_;refine S_nil ?_;have h := Go.L.Nxt.again h hm66;refine At_round ((l63 ++ [((a0.drop s4_64.toNat).take (s5_65.toNat - s4_64.toNat))]), (s5_65 + (1 : Int)), (s5_65 + (1 : Int)), v75, xs75, n66) (.cons rfl (.cons rfl (.cons rfl (.cons rfl (Sub.nil _))))) ⟨hL75, he75, h⟩ (Nat.lt_succ_self _)
    ·replace h := Go.L.ite_n (of_decide_eq_false hg70) h;refine S_guarded rfl rfl hg70 ?_;refine S_v (RunsAt_pu rfl) rfl ?_;refine S_guarded rfl rfl hg70 ?_;refine S_v (RunsAt_pu rfl) rfl ?_;refine S_guarded rfl rfl hg70 ?_;obtain ⟨hk80, h⟩ := Go.L.chk_some h;refine S_v (r_sidx rfl rfl underlying9 hk80) rfl ?_;refine S_guarded rfl rfl hg70 ?_;refine S_v (RunsAt_pu rfl) rfl ?_;refine S_v (r_pickF rfl hg70 rfl) rfl ?_;refine S_seqnil ?_;refine W_if rfl (fun hc81 => ?_) (fun hc81 => ?_)
     ·replace h := Go.L.ite_p hc81 h;refine W_p 4 rfl ?_;obtain ⟨hk84, h⟩ := Go.L.chk_some h;refine S_v (r_sslB rfl rfl rfl underlying9 hk84) rfl ?_;refine S_litE (r := .st) (l := [((a0.drop s4_64.toNat).take (s5_65.toNat - s4_64.toNat))]) rfl (fun _ => bsl30_1 _ rfl _) rfl (show 1 ≤ 9223372036854775807 by decide) hH hL66 (.c1 rfl .nil) ?_;intro v85 w85 hx85 hL85 hle85 hv85;replace hel63 := hel63.mono (gz_mono hH hle85);obtain ⟨hk87, h⟩ := Go.L.chk_some h;refine S_appE (r := .st) (l := l63) (m := [((a0.drop s4_64.toNat).take (s5_65.toNat - s4_64.toNat))]) 0 rfl rfl underlying30 zr9 rfl (by decide) rfl hH hL85 rfl hel63 hv85 hk87 ?_;intro v86 w86 xs86 hL86 hle86 he86;replace hv85 := hv85.mono (gz_mono hH hle86);refine S_pz 1 rfl ?_;refine W_region ?_;refine S_pu 1 rfl ?_;obtain ⟨hk88, h⟩ := Go.L.chk_some h;refine S_v (r_ar64 rfl rfl rfl hk88) rfl ?_;refine S_pu 1 rfl ?_;refine S_nil ?_;refine At_block ?_;refine At_seq ?_;refine W_region ?_;refine S_pu 1 rfl ?_;obtain ⟨hk89, h⟩ := Go.L.chk_some h;refine S_v (r_ar64 rfl rfl rfl hk89) rfl ?_;refine S_pu 1 rfl ?_;refine S_nil ?_;have h := Go.L.Nxt.again h hm66;refine At_round ((l63 ++ [((a0.drop s4_64.toNat).take (s5_65.toNat - s4_64.toNat))]), (s5_65 + (1 : Int)), (s5_65 + (1 : Int)), v86, xs86, n66) (.cons rfl (.cons rfl (.cons rfl (.cons rfl (Sub.nil _))))) ⟨hL86, he86, h⟩ (Nat.lt_succ_self _)
     ·replace h := Go.L.ite_n hc81 h;refine W_skip ?_;refine At_block ?_;refine At_seq ?_;refine W_region ?_;refine S_pu 1 rfl ?_;obtain ⟨hk91, h⟩ := Go.L.chk_some h;refine S_v (r_ar64 rfl rfl rfl hk91) rfl ?_;refine S_pu 1 rfl ?_;refine S_nil ?_;have h := Go.L.Nxt.again h hm66;refine At_round (l63, s4_64, (s5_65 + (1 : Int)), vl63, xsl63, n66) (.cons rfl (.cons rfl (.cons rfl (.cons rfl (Sub.nil _))))) ⟨hL66, hel63, h⟩ (Nat.lt_succ_self _)
   ·replace h := Go.L.ite_n hc68 h;refine W_exit ?_;refine At_seq_exit ?_;refine At_loop_exit ?_;replace h := Go.L.Nxt.out h hm66;refine At_exit ?_;refine At_cut (l63, vl63, xsl63) (.cons rfl (Sub.nil _)) ⟨hL66, hel63, h⟩
  ·rintro ⟨l34, vl34, xsl34⟩ wr35 ⟨hL35, hel34, h⟩;refine W_pz 2 rfl ?_;refine W_ret ?_;obtain rfl := Option.some.inj h;refine At_body rfl rfl ?_;exact ⟨hL35.ext, _, rfl, (hL35.ownH hH (i := 0) rfl hel34)⟩
noncomputable def ref4_Wrong_k1 : Option (Int) :=
 some ((-1 : Int))
noncomputable def ref4_Wrong_bl2 (a1 : Bool) (x1 : (List (List UInt8))) : Int × Int → Option ((Int × Int) ⊕ (Int)) := fun ⟨s6_106, s7_107⟩ =>
 if s7_107 < (x1.length : Int) then Go.L.chk (0 ≤ s7_107 ∧ s7_107 < (x1.length : Int)) (Option.bind (ref4_NameOk (x1.getD s7_107.toNat default)) (fun x114 => if !x114 then Go.L.chk (0 ≤ s7_107 ∧ s7_107 < (x1.length : Int)) (if x1.getD s7_107.toNat default = ([35] : List UInt8) then Go.L.chk (0 ≤ s7_107 ∧ s7_107 < (x1.length : Int)) (Go.L.chk (Go.L.I64 (s6_106 + ((x1.getD s7_107.toNat default).length : Int))) (Go.L.chk (Go.L.I64 ((s6_106 + ((x1.getD s7_107.toNat default).length : Int)) + (1 : Int))) (Go.L.chk (Go.L.I64 (s7_107 + (1 : Int))) (some (Sum.inl (((s6_106 + ((x1.getD s7_107.toNat default).length : Int)) + (1 : Int)), (s7_107 + (1 : Int)))))))) else if a1 then Go.L.chk (0 ≤ s7_107 ∧ s7_107 < (x1.length : Int)) (if x1.getD s7_107.toNat default = ([42] : List UInt8) then Go.L.chk (0 ≤ s7_107 ∧ s7_107 < (x1.length : Int)) (Go.L.chk (Go.L.I64 (s6_106 + ((x1.getD s7_107.toNat default).length : Int))) (Go.L.chk (Go.L.I64 ((s6_106 + ((x1.getD s7_107.toNat default).length : Int)) + (1 : Int))) (Go.L.chk (Go.L.I64 (s7_107 + (1 : Int))) (some (Sum.inl (((s6_106 + ((x1.getD s7_107.toNat default).length : Int)) + (1 : Int)), (s7_107 + (1 : Int)))))))) else Go.L.chk (0 ≤ s7_107 ∧ s7_107 < (x1.length : Int)) (if x1.getD s7_107.toNat default = ([42, 42] : List UInt8) then Go.L.chk (0 ≤ s7_107 ∧ s7_107 < (x1.length : Int)) (Go.L.chk (Go.L.I64 (s6_106 + ((x1.getD s7_107.toNat default).length : Int))) (Go.L.chk (Go.L.I64 ((s6_106 + ((x1.getD s7_107.toNat default).length : Int)) + (1 : Int))) (Go.L.chk (Go.L.I64 (s7_107 + (1 : Int))) (some (Sum.inl (((s6_106 + ((x1.getD s7_107.toNat default).length : Int)) + (1 : Int)), (s7_107 + (1 : Int)))))))) else Option.map Sum.inr (some (s6_106)))) else Option.map Sum.inr (some (s6_106))) else Go.L.chk (0 ≤ s7_107 ∧ s7_107 < (x1.length : Int)) (Go.L.chk (Go.L.I64 (s6_106 + ((x1.getD s7_107.toNat default).length : Int))) (Go.L.chk (Go.L.I64 ((s6_106 + ((x1.getD s7_107.toNat default).length : Int)) + (1 : Int))) (Go.L.chk (Go.L.I64 (s7_107 + (1 : Int))) (some (Sum.inl (((s6_106 + ((x1.getD s7_107.toNat default).length : Int)) + (1 : Int)), (s7_107 + (1 : Int)))))))))) else Option.map Sum.inr (ref4_Wrong_k1)
noncomputable def ref4_Wrong_l2 (a1 : Bool) (x1 : (List (List UInt8))) (s : Int × Int) : Option (Int) := Go.L.run (ref4_Wrong_bl2 a1 x1) s
noncomputable def ref4_Wrong (a0 : List UInt8) (a1 : Bool) : Option (Int) :=
 Option.bind (ref4_Steps a0) (fun x1 => (ref4_Wrong_l2 a1 x1) ((0 : Int), (0 : Int)))
theorem ref4_Wrong_ok (w : World) (H : PH) (hH : Le H (hp w)) {a0 : List UInt8} {a1 : Bool}   {r : Int} (h : ref4_Wrong a0 a1 = some r) :
  Ok Tryz.prog 17 [.string ⟨(a0).toArray⟩, .bool a1] w (fun v w' => Ext w w' ∧ v = .int .i64 r) := by
 refine Ok_enter (n := 56) [(0, .string ⟨(a0).toArray⟩), (1, .bool a1)] func17 rfl rfl rfl rfl rfl ?_;have hL := Lcl.start w;refine W_pz 1 rfl ?_;refine W_p 1 rfl ?_;obtain ⟨x1, hb1, h⟩ := Go.L.bind_some h;refine S_callL rfl rfl hL (ref4_Steps_ok _ _ (gz_le hH hL) hb1) ?_;rintro u2_0 w2 ⟨_, rfl, hR2_0⟩ hx2 hL2 hle2;have hv2_0 := hR2_0.vecG hH hL hx2;refine S_pz 1 rfl ?_;refine W_pz 1 rfl ?_;refine W_cut (σ := Unit) (fun (_ : Unit) => []) (fun (_ : Unit) wr => Lcl w [] wr ∧ ref4_Wrong_k1 = some r) ?_ ?_
 ·refine W_pz 1 rfl ?_;refine W_block ?_;obtain ⟨n108, h⟩ := Go.L.run_some h;refine W_loop (σ := Int × Int × Nat) (fun ⟨s6_106, s7_107, n⟩ => [(1, .bool a1), (5, u2_0), (6, .int .i64 s6_106), (7, .int .i64 s7_107)]) (fun ⟨s6_106, s7_107, n⟩ wr => InO w [] wr fun Oz => Vec .st (gz H w wr Oz) (u2_0) (x1) ∧ Go.L.itr (ref4_Wrong_bl2 a1 x1) n (s6_106, s7_107) = some r) (fun ⟨s6_106, s7_107, n⟩ => n) ((0 : Int), (0 : Int), n108) (.cons rfl (.cons rfl (.cons rfl (.cons rfl (Sub.nil _))))) ⟨hL2, hv2_0, h⟩ ?_;rintro ⟨s6_106, s7_107, nn108⟩ wr108 ⟨hL108, hf108_0, h⟩;obtain ⟨n108, e108, rfl, h, hm108⟩ := Go.L.itr_some h;refine W_seq ?_;refine W_p 2 rfl ?_;refine S_v (r_len rfl underlying30 hf108_0) rfl ?_;refine S_pz 1 rfl ?_;refine W_if rfl (fun hc110 => ?_) (fun hc110 => ?_)
  ·replace h := Go.L.ite_p hc110 h;refine W_skip ?_;refine At_seq ?_;refine W_seq ?_;refine W_block ?_;refine W_seq ?_;refine W_p 2 rfl ?_;obtain ⟨hk113, h⟩ := Go.L.chk_some h;refine S_index rfl rfl underlying30 zr9 hf108_0 s7_107.toNat (Int.toNat_of_nonneg hk113.1).symm (idx_lt hk113) rfl ?_;rintro p112 _ rfl hp112;refine S_v (r_load1 rfl underlying9 rfl hp112 (gz_le hH hL108)) rfl ?_;obtain ⟨x114, hb114, h⟩ := Go.L.bind_some h;refine S_callL rfl rfl hL108 (ref4_NameOk_ok _ _ (gz_le hH hL108) hb114) ?_;rintro _ w115 rfl hx115 hL115 hle115;replace hf108_0 := hf108_0.mono (gz_mono hH hle115);replace hp112 := hp112.mono (gz_mono hH hle115);refine S_pu 2 rfl ?_;refine S_split (s := 22) rfl (fun hg116 => ?_) (fun hg116 => ?_)
   ·replace h := Go.L.ite_t hg116 h;refine S_guarded rfl rfl hg116 ?_;refine S_v (RunsAt_pu rfl) rfl ?_;refine S_guarded rfl rfl hg116 ?_;refine S_v (RunsAt_pu rfl) rfl ?_;refine S_guarded rfl rfl hg116 ?_;obtain ⟨hk119, h⟩ := Go.L.chk_some h;refine S_index rfl rfl underlying30 zr9 hf108_0 s7_107.toNat (Int.toNat_of_nonneg hk119.1).symm (idx_lt hk119) rfl ?_;rintro p118 _ rfl hp118;refine S_guarded rfl rfl hg116 ?_;refine S_v (r_load1 rfl underlying9 rfl hp118 (gz_le hH hL115)) rfl ?_;refine S_guarded rfl rfl hg116 ?_;refine S_v (r_sne rfl rfl) rfl ?_;refine S_v (r_pickT rfl hg116 rfl) rfl ?_;refine S_pu 1 rfl ?_;refine S_split (s := 29) rfl (fun hg120 => ?_) (fun hg120 => ?_)
    ·replace h := Go.L.ite_n (not_dec_t hg120) h;refine S_guarded rfl rfl hg120 ?_;refine S_v (RunsAt_pu rfl) rfl ?_;refine S_guarded rfl rfl hg120 ?_;refine S_v (RunsAt_pu rfl) rfl ?_;refine S_split (s := 31) rfl (fun hg122 => ?_) (fun hg122 => ?_)
     ·replace h := Go.L.ite_t hg122 h;refine S_guarded rfl rfl hg122 ?_;refine S_v (RunsAt_pu rfl) rfl ?_;refine S_guarded rfl rfl hg122 ?_;refine S_v (RunsAt_pu rfl) rfl ?_;refine S_guarded rfl rfl hg122 ?_;obtain ⟨hk125, h⟩ := Go.L.chk_some h;refine S_index rfl rfl underlying30 zr9 hf108_0 s7_107.toNat (Int.toNat_of_nonneg hk125.1).symm (idx_lt hk125) rfl ?_;rintro p124 _ rfl hp124;refine S_guarded rfl rfl hg122 ?_;refine S_v (r_load1 rfl underlying9 rfl hp124 (gz_le hH hL115)) rfl ?_;refine S_guarded rfl rfl hg122 ?_;refine S_v (r_seq rfl rfl) rfl ?_;refine S_guarded rfl rfl hg122 ?_;refine S_v (RunsAt_pu rfl) rfl ?_;refine S_split (s := 37) rfl (fun hg126 => ?_) (fun hg126 => ?_)
      ·replace h := Go.L.ite_p (of_decide_eq_true hg126) h
       iterate 5 refine S_unwanted rfl rfl hg126 rfl ?_
       refine S_guarded rfl rfl hg122 ?_;refine S_v (r_pickT rfl hg126 rfl) rfl ?_;refine S_guarded rfl rfl hg120 ?_;refine S_v (r_pickT rfl hg122 rfl) rfl ?_;refine S_guarded rfl rfl hg120 ?_;refine S_v (RunsAt_pu rfl) rfl ?_;refine S_v (r_pickT rfl hg120 rfl) rfl ?_;refine S_seqnil ?_;refine W_false rfl ?_;refine W_skip ?_;refine At_seq ?_;refine W_region ?_;refine S_pu 3 rfl ?_;obtain ⟨hk129, h⟩ := Go.L.chk_some h;refine S_index rfl rfl underlying30 zr9 hf108_0 s7_107.toNat (Int.toNat_of_nonneg hk129.1).symm (idx_lt hk129) rfl ?_;rintro p128 _ rfl hp128;refine S_v (r_load1 rfl underlying9 rfl hp128 (gz_le hH hL115)) rfl ?_;refine S_v (r_lenS rfl underlying9) rfl ?_;obtain ⟨hk130, h⟩ := Go.L.chk_some h;refine S_v (r_ar64 rfl rfl rfl hk130) rfl ?_;obtain ⟨hk131, h⟩ := Go.L.chk_some h;refine S_v (r_ar64 rfl rfl rfl hk131) rfl ?_;refine S_pu 1 rfl ?_;refine S_nil ?_;refine At_block ?_;refine At_seq ?_;refine W_region ?_;refine S_pu 1 rfl ?_;obtain ⟨hk132, h⟩ := Go.L.chk_some h;refine S_v (r_ar64 rfl rfl rfl hk132) rfl ?_;refine S_pu 1 rfl ?_;refine S_nil ?_;have h := Go.L.Nxt.again h hm108;refine At_round (((s6_106 + ((x1.getD s7_107.toNat default).length : Int)) + (1 : Int)), (s7_107 + (1 : Int)), n108) (.cons rfl (.cons rfl (.cons rfl (.cons rfl (Sub.nil _))))) ⟨hL115, hf108_0, h⟩ (Nat.lt_succ_self _)
      ·replace h := Go.L.ite_n (of_decide_eq_false hg126) h;refine S_guarded rfl rfl hg126 ?_;refine S_v (RunsAt_pu rfl) rfl ?_;refine S_guarded rfl rfl hg126 ?_;refine S_v (RunsAt_pu rfl) rfl ?_;refine S_guarded rfl rfl hg126 ?_;obtain ⟨hk135, h⟩ := Go.L.chk_some h;refine S_index rfl rfl underlying30 zr9 hf108_0 s7_107.toNat (Int.toNat_of_nonneg hk135.1).symm (idx_lt hk135) rfl ?_;rintro p134 _ rfl hp134;refine S_guarded rfl rfl hg126 ?_;refine S_v (r_load1 rfl underlying9 rfl hp134 (gz_le hH hL115)) rfl ?_;refine S_guarded rfl rfl hg126 ?_;refine S_v (r_seq rfl rfl) rfl ?_;refine S_guarded rfl rfl hg122 ?_;refine S_v (r_pickF rfl hg126 rfl) rfl ?_;refine S_guarded rfl rfl hg120 ?_;refine S_v (r_pickT rfl hg122 rfl) rfl ?_;refine S_guarded rfl rfl hg120 ?_;refine S_v (RunsAt_pu rfl) rfl ?_;refine S_v (r_pickT rfl hg120 rfl) rfl ?_;refine S_seqnil ?_;refine W_ifn rfl (fun hc136 => ?_) (fun hc136 => ?_)
       ·replace h := Go.L.ite_n hc136 h;refine W_pz 2 rfl ?_;refine W_ret ?_;refine At_seq_ret ?_;refine At_block_ret ?_;refine At_seq_ret ?_;refine At_loop_ret ?_;replace h := Go.L.Nxt.out h hm108;refine At_block_ret ?_;refine At_cut_ret ?_;obtain rfl := Option.some.inj h;refine At_body rfl rfl ?_;exact ⟨hL115.ext, rfl⟩
       ·replace h := Go.L.ite_p hc136 h;refine W_skip ?_;refine At_seq ?_;refine W_region ?_;refine S_pu 3 rfl ?_;obtain ⟨hk140, h⟩ := Go.L.chk_some h;refine S_index rfl rfl underlying30 zr9 hf108_0 s7_107.toNat (Int.toNat_of_nonneg hk140.1).symm (idx_lt hk140) rfl ?_;rintro p139 _ rfl hp139;refine S_v (r_load1 rfl underlying9 rfl hp139 (gz_le hH hL115)) rfl ?_;refine S_v (r_lenS rfl underlying9) rfl ?_;obtain ⟨hk141, h⟩ := Go.L.chk_some h;refine S_v (r_ar64 rfl rfl rfl hk141) rfl ?_;obtain ⟨hk142, h⟩ := Go.L.chk_some h;refine S_v (r_ar64 rfl rfl rfl hk142) rfl ?_;refine S_pu 1 rfl ?_;refine S_nil ?_;refine At_block ?_;refine At_seq ?_;refine W_region ?_;refine S_pu 1 rfl ?_;obtain ⟨hk143, h⟩ := Go.L.chk_some h;refine S_v (r_ar64 rfl rfl rfl hk143) rfl ?_;refine S_pu 1 rfl ?_;refine S_nil ?_;have h := Go.L.Nxt.again h hm108;refine At_round (((s6_106 + ((x1.getD s7_107.toNat default).length : Int)) + (1 : Int)), (s7_107 + (1 : Int)), n108) (.cons rfl (.cons rfl (.cons rfl (.cons rfl (Sub.nil _))))) ⟨hL115, hf108_0, h⟩ (Nat.lt_succ_self _)
     ·replace h := Go.L.ite_f hg122 h
      iterate 6 refine S_unwanted rfl rfl hg122 rfl ?_
      iterate 5 refine S_unwanted2 rfl rfl rfl ?_
      refine S_unwanted rfl rfl hg122 rfl ?_;refine S_guarded rfl rfl hg120 ?_;refine S_v (r_pickF rfl hg122 rfl) rfl ?_;refine S_guarded rfl rfl hg120 ?_;refine S_v (RunsAt_pu rfl) rfl ?_;refine S_v (r_pickT rfl hg120 rfl) rfl ?_;refine S_seqnil ?_;refine W_true rfl ?_;refine W_pz 2 rfl ?_;refine W_ret ?_;refine At_seq_ret ?_;refine At_block_ret ?_;refine At_seq_ret ?_;refine At_loop_ret ?_;replace h := Go.L.Nxt.out h hm108;refine At_block_ret ?_;refine At_cut_ret ?_;obtain rfl := Option.some.inj h;refine At_body rfl rfl ?_;exact ⟨hL115.ext, rfl⟩
    ·replace h := Go.L.ite_p (not_dec_f hg120) h
     iterate 2 refine S_unwanted rfl rfl hg120 rfl ?_
     iterate 12 refine S_unwanted2 rfl rfl rfl ?_
     iterate 2 refine S_unwanted rfl rfl hg120 rfl ?_
     refine S_v (r_pickF rfl hg120 rfl) rfl ?_;refine S_seqnil ?_;refine W_false rfl ?_;refine W_skip ?_;refine At_seq ?_;refine W_region ?_;refine S_pu 3 rfl ?_;obtain ⟨hk147, h⟩ := Go.L.chk_some h;refine S_index rfl rfl underlying30 zr9 hf108_0 s7_107.toNat (Int.toNat_of_nonneg hk147.1).symm (idx_lt hk147) rfl ?_;rintro p146 _ rfl hp146;refine S_v (r_load1 rfl underlying9 rfl hp146 (gz_le hH hL115)) rfl ?_;refine S_v (r_lenS rfl underlying9) rfl ?_;obtain ⟨hk148, h⟩ := Go.L.chk_some h;refine S_v (r_ar64 rfl rfl rfl hk148) rfl ?_;obtain ⟨hk149, h⟩ := Go.L.chk_some h;refine S_v (r_ar64 rfl rfl rfl hk149) rfl ?_;refine S_pu 1 rfl ?_;refine S_nil ?_;refine At_block ?_;refine At_seq ?_;refine W_region ?_;refine S_pu 1 rfl ?_;obtain ⟨hk150, h⟩ := Go.L.chk_some h;refine S_v (r_ar64 rfl rfl rfl hk150) rfl ?_;refine S_pu 1 rfl ?_;refine S_nil ?_;have h := Go.L.Nxt.again h hm108;refine At_round (((s6_106 + ((x1.getD s7_107.toNat default).length : Int)) + (1 : Int)), (s7_107 + (1 : Int)), n108) (.cons rfl (.cons rfl (.cons rfl (.cons rfl (Sub.nil _))))) ⟨hL115, hf108_0, h⟩ (Nat.lt_succ_self _)
   ·replace h := Go.L.ite_f hg116 h
    iterate 5 refine S_unwanted rfl rfl hg116 rfl ?_
    refine S_v (r_pickF rfl hg116 rfl) rfl ?_;refine S_pu 1 rfl ?_
    iterate 2 refine S_unwanted rfl rfl rfl rfl ?_
    iterate 12 refine S_unwanted2 rfl rfl rfl ?_
    iterate 2 refine S_unwanted rfl rfl rfl rfl ?_
    refine S_v (r_pickF rfl rfl rfl) rfl ?_;refine S_seqnil ?_;refine W_false rfl ?_;refine W_skip ?_;refine At_seq ?_;refine W_region ?_;refine S_pu 3 rfl ?_;obtain ⟨hk153, h⟩ := Go.L.chk_some h;refine S_index rfl rfl underlying30 zr9 hf108_0 s7_107.toNat (Int.toNat_of_nonneg hk153.1).symm (idx_lt hk153) rfl ?_;rintro p152 _ rfl hp152;refine S_v (r_load1 rfl underlying9 rfl hp152 (gz_le hH hL115)) rfl ?_;refine S_v (r_lenS rfl underlying9) rfl ?_;obtain ⟨hk154, h⟩ := Go.L.chk_some h;refine S_v (r_ar64 rfl rfl rfl hk154) rfl ?_;obtain ⟨hk155, h⟩ := Go.L.chk_some h;refine S_v (r_ar64 rfl rfl rfl hk155) rfl ?_;refine S_pu 1 rfl ?_;refine S_nil ?_;refine At_block ?_;refine At_seq ?_;refine W_region ?_;refine S_pu 1 rfl ?_;obtain ⟨hk156, h⟩ := Go.L.chk_some h;refine S_v (r_ar64 rfl rfl rfl hk156) rfl ?_;refine S_pu 1 rfl ?_;refine S_nil ?_;have h := Go.L.Nxt.again h hm108;refine At_round (((s6_106 + ((x1.getD s7_107.toNat default).length : Int)) + (1 : Int)), (s7_107 + (1 : Int)), n108) (.cons rfl (.cons rfl (.cons rfl (.cons rfl (Sub.nil _))))) ⟨hL115, hf108_0, h⟩ (Nat.lt_succ_self _)
  ·replace h := Go.L.ite_n hc110 h;refine W_exit ?_;refine At_seq_exit ?_;refine At_loop_exit ?_;replace h := Go.L.Nxt.out h hm108;refine At_exit ?_;refine At_cut () (Sub.nil _) ⟨hL108, h⟩
 ·rintro _ wr55 ⟨hL55, h⟩;refine W_pz 1 rfl ?_;refine W_ret ?_;obtain rfl := Option.some.inj h;refine At_body rfl rfl ?_;exact ⟨hL55.ext, rfl⟩
noncomputable def ref4_PatternFault (a0 : List UInt8) : Option ((Int × Int)) :=
 if (64 : Int) < (a0.length : Int) then Option.bind (ref3_At (3 : Int) (-1 : Int)) (fun x4 => some ((x4.1, x4.2))) else Option.bind (ref4_Wrong a0 true) (fun x8 => if (0 : Int) ≤ x8 then Option.bind (ref4_Wrong a0 true) (fun x12 => Option.bind (ref3_At (1 : Int) x12) (fun x14 => some ((x14.1, x14.2)))) else some (((0 : Int), (0 : Int))))
theorem ref4_PatternFault_ok (w : World) (H : PH) (hH : Le H (hp w)) {a0 : List UInt8}   {r : (Int × Int)} (h : ref4_PatternFault a0 = some r) :
  Ok Tryz.prog 13 [.string ⟨(a0).toArray⟩] w (fun v w' => Ext w w' ∧ v = .agg #[.int .i64 r.1, .int .i64 r.2]) := by
 refine Ok_enter (n := 14) [(0, .string ⟨(a0).toArray⟩)] func13 rfl rfl rfl rfl rfl ?_;have hL := Lcl.start w;refine W_seqr ?_;refine S_alloc zr23 rfl rfl hL ?_;intro w1 b1 hL1 hle1 _;refine S_seqnil ?_;refine W_seq ?_;refine W_p 1 rfl ?_;refine S_v (r_lenS rfl underlying9) rfl ?_;refine S_pz 1 rfl ?_;refine W_if rfl (fun hc2 => ?_) (fun hc2 => ?_)
 ·replace h := Go.L.ite_p hc2 h;refine W_seqr ?_;obtain ⟨x4, hb4, h⟩ := Go.L.bind_some h;refine S_callL rfl rfl hL1 (ref3_At_ok _ _ (gz_le hH hL1) hb4) ?_;rintro _ w5 rfl hx5 hL5 hle5;refine S_storeBN 0 rfl rfl rfl zr23 hL5 rfl rfl (onc rfl (onc rfl on0)) ?_;intro w6 hL6 hle6;refine S_seqnil ?_;refine W_ret ?_;refine At_seq_ret ?_;obtain rfl := Option.some.inj h;refine At_got1 rfl (.cell rfl underlying23 rfl zr23 (box_ptr (i := 0) hL6 rfl)) ?_;exact ⟨hL6.ext, rfl⟩
 ·replace h := Go.L.ite_n hc2 h;refine W_skip ?_;refine At_seq ?_;refine W_seq ?_;refine W_p 1 rfl ?_;obtain ⟨x8, hb8, h⟩ := Go.L.bind_some h;refine S_callL rfl rfl hL1 (ref4_Wrong_ok _ _ (gz_le hH hL1) hb8) ?_;rintro _ w9 rfl hx9 hL9 hle9;refine S_pz 1 rfl ?_;refine W_if rfl (fun hc10 => ?_) (fun hc10 => ?_)
  ·replace h := Go.L.ite_p hc10 h;refine W_p 1 rfl ?_;obtain ⟨x12, hb12, h⟩ := Go.L.bind_some h;refine S_callL rfl rfl hL9 (ref4_Wrong_ok _ _ (gz_le hH hL9) hb12) ?_;rintro _ w13 rfl hx13 hL13 hle13;obtain ⟨x14, hb14, h⟩ := Go.L.bind_some h;refine S_callL rfl rfl hL13 (ref3_At_ok _ _ (gz_le hH hL13) hb14) ?_;rintro _ w15 rfl hx15 hL15 hle15;refine S_storeBN 0 rfl rfl rfl zr23 hL15 rfl rfl (onc rfl (onc rfl on0)) ?_;intro w16 hL16 hle16;refine S_seqnil ?_;refine W_ret ?_;refine At_seq_ret ?_;obtain rfl := Option.some.inj h;refine At_got1 rfl (.cell rfl underlying23 rfl zr23 (box_ptr (i := 0) hL16 rfl)) ?_;exact ⟨hL16.ext, rfl⟩
  ·replace h := Go.L.ite_n hc10 h;refine W_skip ?_;refine At_seq ?_;refine W_seqr ?_;refine S_v (r_build rfl (fun _ => bld23_z _)) rfl ?_;refine S_storeBN 0 rfl rfl rfl zr23 hL9 rfl rfl (onc rfl (onc rfl on0)) ?_;intro w18 hL18 hle18;refine S_seqnil ?_;refine W_ret ?_;obtain rfl := Option.some.inj h;refine At_got1 rfl (.cell rfl underlying23 rfl zr23 (box_ptr (i := 0) hL18 rfl)) ?_;exact ⟨hL18.ext, rfl⟩
noncomputable def ref4_Fits_body_k2 : Option (Bool) :=
 some (false)
noncomputable def ref4_Fits_body_bl3 (a0 : List (List UInt8)) (a1 : List (List UInt8)) (self : (List (List UInt8)) → (List (List UInt8)) → Option (Bool)) : Int → Option ((Int) ⊕ (Bool)) := fun s5_76 =>
 if s5_76 ≤ (a1.length : Int) then Go.L.chk (0 ≤ (1 : Int) ∧ (1 : Int) ≤ (a0.length : Int)) (Go.L.chk (0 ≤ s5_76 ∧ s5_76 ≤ (a1.length : Int)) (Option.bind (self (a0.drop (1 : Int).toNat) (a1.drop s5_76.toNat)) (fun x87 => if x87 then Option.map Sum.inr (some (true)) else Go.L.chk (Go.L.I64 (s5_76 + (1 : Int))) (some (Sum.inl (s5_76 + (1 : Int))))))) else Option.map Sum.inr (ref4_Fits_body_k2)
noncomputable def ref4_Fits_body_l3 (a0 : List (List UInt8)) (a1 : List (List UInt8)) (self : (List (List UInt8)) → (List (List UInt8)) → Option (Bool)) (s : Int) : Option (Bool) := Go.L.run (ref4_Fits_body_bl3 a0 a1 self) s
noncomputable def ref4_Fits_body_k1 (a0 : List (List UInt8)) (a1 : List (List UInt8)) (self : (List (List UInt8)) → (List (List UInt8)) → Option (Bool)) : Option (Bool) :=
 if (0 : Int) < (a1.length : Int) then Go.L.chk (0 ≤ (0 : Int) ∧ (0 : Int) < (a0.length : Int)) (if a0.getD ((0 : Int).toNat) default = ([42] : List UInt8) then Go.L.chk (0 ≤ (1 : Int) ∧ (1 : Int) ≤ (a0.length : Int)) (Go.L.chk (0 ≤ (1 : Int) ∧ (1 : Int) ≤ (a1.length : Int)) (Option.bind (self (a0.drop (1 : Int).toNat) (a1.drop (1 : Int).toNat)) (fun x111 => some (x111)))) else Go.L.chk (0 ≤ (0 : Int) ∧ (0 : Int) < (a0.length : Int)) (Go.L.chk (0 ≤ (0 : Int) ∧ (0 : Int) < (a1.length : Int)) (if a0.getD ((0 : Int).toNat) default = a1.getD ((0 : Int).toNat) default then Go.L.chk (0 ≤ (1 : Int) ∧ (1 : Int) ≤ (a0.length : Int)) (Go.L.chk (0 ≤ (1 : Int) ∧ (1 : Int) ≤ (a1.length : Int)) (Option.bind (self (a0.drop (1 : Int).toNat) (a1.drop (1 : Int).toNat)) (fun x126 => some (x126)))) else some (false)))) else some (false)
noncomputable def ref4_Fits_body (self : (List (List UInt8)) → (List (List UInt8)) → Option (Bool)) (a0 : List (List UInt8)) (a1 : List (List UInt8)) : Option (Bool) :=
 if (a0.length : Int) = (0 : Int) then some (decide ((a1.length : Int) = (0 : Int))) else Go.L.chk (0 ≤ (0 : Int) ∧ (0 : Int) < (a0.length : Int)) (if a0.getD ((0 : Int).toNat) default = ([42, 42] : List UInt8) then (ref4_Fits_body_l3 a0 a1 self) (0 : Int) else (ref4_Fits_body_k1 a0 a1 self))
noncomputable def ref4_Fits_n : Nat → (List (List UInt8)) → (List (List UInt8)) → Option (Bool)
 | 0 => fun _ _ => none
 | n + 1 => ref4_Fits_body (ref4_Fits_n n)
noncomputable def ref4_Fits : (List (List UInt8)) → (List (List UInt8)) → Option (Bool) := ref4_Fits_n 1000
theorem ref4_Fits_body_ok (self : (List (List UInt8)) → (List (List UInt8)) → Option (Bool)) (hself : ∀ (w : World) (H : PH) (hH : Le H (hp w)) {a0 : List (List UInt8)} {a1 : List (List UInt8)} {v0_0 : Value} {v1_0 : Value} (h0_0 : Vec .st H v0_0 (a0)) (h1_0 : Vec .st H v1_0 (a1)) {r : Bool} (h : self a0 a1 = some r), Ok Tryz.prog 50 [v0_0, v1_0] w (fun v w' => Ext w w' ∧ v = .bool r)) (w : World) (H : PH) (hH : Le H (hp w)) {a0 : List (List UInt8)} {a1 : List (List UInt8)} {v0_0 : Value} {v1_0 : Value} (h0_0 : Vec .st H v0_0 (a0)) (h1_0 : Vec .st H v1_0 (a1)) {r : Bool} (h : ref4_Fits_body self a0 a1 = some r) :
  Ok Tryz.prog 50 [v0_0, v1_0] w (fun v w' => Ext w w' ∧ v = .bool r) := by
 refine Ok_enter (n := 53) [(0, v0_0), (1, v1_0)] func50 rfl rfl rfl rfl rfl ?_;have hL := Lcl.start w;refine W_pz 1 rfl ?_;refine W_seq ?_;refine W_p 1 rfl ?_;refine S_v (r_len rfl underlying30 h0_0) rfl ?_;refine S_pz 1 rfl ?_;refine W_if rfl (fun hc1 => ?_) (fun hc1 => ?_)
 ·replace h := Go.L.ite_p hc1 h;refine W_p 1 rfl ?_;refine S_v (r_len rfl underlying30 h1_0) rfl ?_;refine S_pz 2 rfl ?_;refine W_ret ?_;refine At_seq_ret ?_;obtain rfl := Option.some.inj h;refine At_body rfl rfl ?_;exact ⟨hL.ext, rfl⟩
 ·replace h := Go.L.ite_n hc1 h;refine W_skip ?_;refine At_seq ?_;refine W_cut (σ := Unit) (fun (_ : Unit) => [(0, v0_0), (1, v1_0)]) (fun (_ : Unit) wr => Lcl w [] wr ∧ (ref4_Fits_body_k1 a0 a1 self) = some r) ?_ ?_
  ·refine W_p 1 rfl ?_;obtain ⟨hk33, h⟩ := Go.L.chk_some h;refine S_index rfl rfl underlying30 zr9 h0_0 ((0 : Int).toNat) (Int.toNat_of_nonneg hk33.1).symm (idx_lt hk33) rfl ?_;rintro p32 _ rfl hp32;refine S_v (r_load1 rfl underlying9 rfl hp32 (hH.trans hL.arg)) rfl ?_;refine S_v (r_seq rfl rfl) rfl ?_;refine S_seqnil ?_;refine W_if rfl (fun hc34 => ?_) (fun hc34 => ?_)
   ·replace h := Go.L.ite_p hc34 h;refine W_cut (σ := Unit) (fun (_ : Unit) => []) (fun (_ : Unit) wr => Lcl w [] wr ∧ ref4_Fits_body_k2 = some r) ?_ ?_
    ·refine W_pz 1 rfl ?_;refine W_block ?_;obtain ⟨n77, h⟩ := Go.L.run_some h;refine W_loop (σ := Int × Nat) (fun ⟨s5_76, n⟩ => [(0, v0_0), (1, v1_0), (5, .int .i64 s5_76)]) (fun ⟨s5_76, n⟩ wr => Lcl w [] wr ∧ Go.L.itr (ref4_Fits_body_bl3 a0 a1 self) n s5_76 = some r) (fun ⟨s5_76, n⟩ => n) ((0 : Int), n77) (.cons rfl (.cons rfl (.cons rfl (Sub.nil _)))) ⟨hL, h⟩ ?_;rintro ⟨s5_76, nn77⟩ wr77 ⟨hL77, h⟩;obtain ⟨n77, e77, rfl, h, hm77⟩ := Go.L.itr_some h;refine W_seq ?_;refine W_p 2 rfl ?_;refine S_v (r_len rfl underlying30 h1_0) rfl ?_;refine S_pz 1 rfl ?_;refine W_if rfl (fun hc79 => ?_) (fun hc79 => ?_)
     ·replace h := Go.L.ite_p hc79 h;refine W_skip ?_;refine At_seq ?_;refine W_seq ?_;refine W_block ?_;refine W_seqd (.q 0 (.q 1 (.q 2 (.q 3 (.q 4 (.q 5 (.tail 6))))))) mixed (by kernel_rfl) (fun w81 hx81 => ?_);have hL82 := hL77.call hx81;refine D_pu 1 rfl ?_;obtain ⟨hk84, h⟩ := Go.L.chk_some h;refine D_sliceL rfl rfl rfl underlying30 zr9 h0_0 hk84 rfl ?_;intro v83 hv83;refine D_pu 2 rfl ?_;obtain ⟨hk86, h⟩ := Go.L.chk_some h;refine D_sliceL rfl rfl rfl underlying30 zr9 h1_0 hk86 rfl ?_;intro v85 hv85;obtain ⟨x87, hb87, h⟩ := Go.L.bind_some h;refine D_call rfl rfl rfl (fun w88 hx88 => hself _ _ (Le.refl _) ((hv83.mono (hH.trans hL82.arg)).mono hx88.le) ((hv85.mono (hH.trans hL82.arg)).mono hx88.le) hb87) ?_;refine D_tail (fun w89 hx89 => ?_);have hL90 := hL82.call hx89;refine S_seqnil ?_;refine W_cond rfl (fun hc91 => ?_) (fun hc91 => ?_)
      ·replace h := Go.L.ite_t hc91 h;refine W_pz 1 rfl ?_;refine W_ret ?_;refine At_block_ret ?_;refine At_seq_ret ?_;refine At_loop_ret ?_;replace h := Go.L.Nxt.out h hm77;refine At_block_ret ?_
       iterate 2 refine At_cut_ret ?_
       obtain rfl := Option.some.inj h;refine At_body rfl rfl ?_;exact ⟨hL90.ext, rfl⟩
      ·replace h := Go.L.ite_f hc91 h;refine W_skip ?_;refine At_block ?_;refine At_seq ?_;refine W_region ?_;refine S_pu 1 rfl ?_;obtain ⟨hk94, h⟩ := Go.L.chk_some h;refine S_v (r_ar64 rfl rfl rfl hk94) rfl ?_;refine S_pu 1 rfl ?_;refine S_nil ?_;have h := Go.L.Nxt.again h hm77;refine At_round ((s5_76 + (1 : Int)), n77) (.cons rfl (.cons rfl (.cons rfl (Sub.nil _)))) ⟨hL90, h⟩ (Nat.lt_succ_self _)
     ·replace h := Go.L.ite_n hc79 h;refine W_exit ?_;refine At_seq_exit ?_;refine At_loop_exit ?_;replace h := Go.L.Nxt.out h hm77;refine At_exit ?_;refine At_cut () (Sub.nil _) ⟨hL77, h⟩
    ·rintro _ wr56 ⟨hL56, h⟩;refine W_pz 1 rfl ?_;refine W_ret ?_;refine At_cut_ret ?_;obtain rfl := Option.some.inj h;refine At_body rfl rfl ?_;exact ⟨hL56.ext, rfl⟩
   ·replace h := Go.L.ite_n hc34 h;refine W_skip ?_;refine At_cut () (.cons rfl (.cons rfl (Sub.nil _))) ⟨hL, h⟩
  ·rintro _ wr30 ⟨hL30, h⟩;refine W_seqd (.q 0 (.q 1 (.q 2 (.q 3 (.q 4 (.q 5 (.q 6 (.q 7 (.q 8 (.q 9 (.q 10 (.q 11 (.q 12 (.q 13 (.q 14 (.q 15 (.q 16 (.q 17 (.q 18 (.q 19 (.q 20 (.q 21 (.q 22 (.q 23 (.q 24 (.q 25 (.tail 26))))))))))))))))))))))))))) mixed (by kernel_rfl) (fun w99 hx99 => ?_);have hL100 := hL30.call hx99;refine D_pu 1 rfl ?_;refine D_v (r_len rfl underlying30 h1_0) rfl rfl ?_;refine D_pu 2 rfl ?_;refine D_split (s := 31) rfl (fun hg101 => ?_) (fun hg101 => ?_)
   ·replace h := Go.L.ite_p (of_decide_eq_true hg101) h;refine D_vg (RunsAt_pu rfl) rfl rfl rfl rfl hg101 rfl ?_;obtain ⟨hk104, h⟩ := Go.L.chk_some h;refine D_indexg rfl rfl rfl rfl hg101 rfl rfl underlying30 zr9 h0_0 ((0 : Int).toNat) (Int.toNat_of_nonneg hk104.1).symm (idx_lt hk104) rfl ?_;rintro p103 _ rfl hp103;refine D_vg (r_load1 rfl underlying9 rfl hp103 (hH.trans hL100.arg)) rfl rfl rfl rfl hg101 rfl ?_;refine D_vg (r_seq rfl rfl) rfl rfl rfl rfl hg101 rfl ?_;refine D_vg (RunsAt_pu rfl) rfl rfl rfl rfl hg101 rfl ?_;refine D_split (s := 36) rfl (fun hg105 => ?_) (fun hg105 => ?_)
    ·replace h := Go.L.ite_p (of_decide_eq_true hg105) h
     iterate 7 refine D_no rfl rfl rfl rfl hg105 rfl ?_
     refine D_vg (r_pickT rfl hg105 rfl) rfl rfl rfl rfl hg101 rfl ?_;refine D_v (r_pickT rfl hg101 rfl) rfl rfl ?_;refine D_pu 1 rfl ?_;refine D_vg (RunsAt_pu rfl) rfl rfl rfl rfl rfl rfl ?_;obtain ⟨hk108, h⟩ := Go.L.chk_some h;refine D_sliceLg rfl rfl rfl rfl rfl rfl rfl underlying30 zr9 h0_0 hk108 rfl ?_;intro v107 hv107;refine D_vg (RunsAt_pu rfl) rfl rfl rfl rfl rfl rfl ?_;obtain ⟨hk110, h⟩ := Go.L.chk_some h;refine D_sliceLg rfl rfl rfl rfl rfl rfl rfl underlying30 zr9 h1_0 hk110 rfl ?_;intro v109 hv109;obtain ⟨x111, hb111, h⟩ := Go.L.bind_some h;refine D_callg rfl rfl rfl rfl rfl rfl rfl (fun w112 hx112 => hself _ _ (Le.refl _) ((hv107.mono (hH.trans hL100.arg)).mono hx112.le) ((hv109.mono (hH.trans hL100.arg)).mono hx112.le) hb111) ?_;refine D_v (r_pickT rfl rfl rfl) rfl rfl ?_;refine D_pu 1 rfl ?_;refine D_tail (fun w113 hx113 => ?_);have hL114 := hL100.call hx113;refine S_seqnil ?_;refine W_ret ?_;obtain rfl := Option.some.inj h;refine At_body rfl rfl ?_;exact ⟨hL114.ext, rfl⟩
    ·replace h := Go.L.ite_n (of_decide_eq_false hg105) h;refine D_vg (RunsAt_pu rfl) rfl rfl rfl rfl hg105 rfl ?_;obtain ⟨hk117, h⟩ := Go.L.chk_some h;refine D_indexg rfl rfl rfl rfl hg105 rfl rfl underlying30 zr9 h0_0 ((0 : Int).toNat) (Int.toNat_of_nonneg hk117.1).symm (idx_lt hk117) rfl ?_;rintro p116 _ rfl hp116;refine D_vg (r_load1 rfl underlying9 rfl hp116 (hH.trans hL100.arg)) rfl rfl rfl rfl hg105 rfl ?_;refine D_vg (RunsAt_pu rfl) rfl rfl rfl rfl hg105 rfl ?_;obtain ⟨hk119, h⟩ := Go.L.chk_some h;refine D_indexg rfl rfl rfl rfl hg105 rfl rfl underlying30 zr9 h1_0 ((0 : Int).toNat) (Int.toNat_of_nonneg hk119.1).symm (idx_lt hk119) rfl ?_;rintro p118 _ rfl hp118;refine D_vg (r_load1 rfl underlying9 rfl hp118 (hH.trans hL100.arg)) rfl rfl rfl rfl hg105 rfl ?_;refine D_vg (r_seq rfl rfl) rfl rfl rfl rfl hg105 rfl ?_;refine D_vg (r_pickF rfl hg105 rfl) rfl rfl rfl rfl hg101 rfl ?_;refine D_v (r_pickT rfl hg101 rfl) rfl rfl ?_;refine D_pu 1 rfl ?_;refine D_split (s := 46) rfl (fun hg120 => ?_) (fun hg120 => ?_)
     ·replace h := Go.L.ite_p (of_decide_eq_true hg120) h;refine D_vg (RunsAt_pu rfl) rfl rfl rfl rfl hg120 rfl ?_;obtain ⟨hk123, h⟩ := Go.L.chk_some h;refine D_sliceLg rfl rfl rfl rfl hg120 rfl rfl underlying30 zr9 h0_0 hk123 rfl ?_;intro v122 hv122;refine D_vg (RunsAt_pu rfl) rfl rfl rfl rfl hg120 rfl ?_;obtain ⟨hk125, h⟩ := Go.L.chk_some h;refine D_sliceLg rfl rfl rfl rfl hg120 rfl rfl underlying30 zr9 h1_0 hk125 rfl ?_;intro v124 hv124;obtain ⟨x126, hb126, h⟩ := Go.L.bind_some h;refine D_callg rfl rfl rfl rfl hg120 rfl rfl (fun w127 hx127 => hself _ _ (Le.refl _) ((hv122.mono (hH.trans hL100.arg)).mono hx127.le) ((hv124.mono (hH.trans hL100.arg)).mono hx127.le) hb126) ?_;refine D_v (r_pickT rfl hg120 rfl) rfl rfl ?_;refine D_pu 1 rfl ?_;refine D_tail (fun w128 hx128 => ?_);have hL129 := hL100.call hx128;refine S_seqnil ?_;refine W_ret ?_;obtain rfl := Option.some.inj h;refine At_body rfl rfl ?_;exact ⟨hL129.ext, rfl⟩
     ·replace h := Go.L.ite_n (of_decide_eq_false hg120) h
      iterate 5 refine D_no rfl rfl rfl rfl hg120 rfl ?_
      refine D_v (r_pickF rfl hg120 rfl) rfl rfl ?_;refine D_pu 1 rfl ?_;refine D_tail (fun w131 hx131 => ?_);have hL132 := hL100.call hx131;refine S_seqnil ?_;refine W_ret ?_;obtain rfl := Option.some.inj h;refine At_body rfl rfl ?_;exact ⟨hL132.ext, rfl⟩
   ·replace h := Go.L.ite_n (of_decide_eq_false hg101) h
    iterate 5 refine D_no rfl rfl rfl rfl hg101 rfl ?_
    iterate 7 refine D_no2 rfl rfl rfl rfl rfl ?_
    refine D_no rfl rfl rfl rfl hg101 rfl ?_;refine D_v (r_pickF rfl hg101 rfl) rfl rfl ?_;refine D_pu 1 rfl ?_
    iterate 5 refine D_no rfl rfl rfl rfl rfl rfl ?_
    refine D_v (r_pickF rfl rfl rfl) rfl rfl ?_;refine D_pu 1 rfl ?_;refine D_tail (fun w134 hx134 => ?_);have hL135 := hL100.call hx134;refine S_seqnil ?_;refine W_ret ?_;obtain rfl := Option.some.inj h;refine At_body rfl rfl ?_;exact ⟨hL135.ext, rfl⟩
theorem ref4_Fits_n_ok (n : Nat) : ∀ (w : World) (H : PH) (hH : Le H (hp w)) {a0 : List (List UInt8)} {a1 : List (List UInt8)} {v0_0 : Value} {v1_0 : Value} (h0_0 : Vec .st H v0_0 (a0)) (h1_0 : Vec .st H v1_0 (a1)) {r : Bool} (h : ref4_Fits_n n a0 a1 = some r), Ok Tryz.prog 50 [v0_0, v1_0] w (fun v w' => Ext w w' ∧ v = .bool r) := by
 induction n with
 | zero => intros; rename_i h; cases h
 | succ n ih => exact @ref4_Fits_body_ok (ref4_Fits_n n) ih
theorem ref4_Fits_ok (w : World) (H : PH) (hH : Le H (hp w)) {a0 : List (List UInt8)} {a1 : List (List UInt8)} {v0_0 : Value} {v1_0 : Value} (h0_0 : Vec .st H v0_0 (a0)) (h1_0 : Vec .st H v1_0 (a1)) {r : Bool} (h : ref4_Fits a0 a1 = some r) : Ok Tryz.prog 50 [v0_0, v1_0] w (fun v w' => Ext w w' ∧ v = .bool r) := ref4_Fits_n_ok 1000 w H hH h0_0 h1_0 h
noncomputable def ref4_Matches_k1 (a1 : List UInt8) (l43 : List (List UInt8)) : Option (Bool) :=
 Option.bind (ref4_Steps a1) (fun x124 => Option.bind (ref4_Fits l43 x124) (fun x126 => some (x126)))
noncomputable def ref4_Matches_bl2 (a1 : List UInt8) (x1 : (List (List UInt8))) : (List (List UInt8)) × Int → Option (((List (List UInt8)) × Int) ⊕ (Bool)) := fun ⟨l83, s7_84⟩ =>
 if s7_84 < (x1.length : Int) then Go.L.chk (0 ≤ s7_84 ∧ s7_84 < (x1.length : Int)) (if x1.getD s7_84.toNat default = ([42, 42] : List UInt8) then if (l83.length : Int) = (0 : Int) then Go.L.chk (0 ≤ s7_84 ∧ s7_84 < (x1.length : Int)) (Go.L.chk (Go.E.Cap 16 (l83.length + ([x1.getD s7_84.toNat default]).length)) (Go.L.chk (Go.L.I64 (s7_84 + (1 : Int))) (some (Sum.inl ((l83 ++ [x1.getD s7_84.toNat default]), (s7_84 + (1 : Int))))))) else Go.L.chk (Go.L.I64 ((l83.length : Int) - (1 : Int))) (Go.L.chk (0 ≤ ((l83.length : Int) - (1 : Int)) ∧ ((l83.length : Int) - (1 : Int)) < (l83.length : Int)) (if l83.getD (((l83.length : Int) - (1 : Int)).toNat) default = ([42, 42] : List UInt8) then Go.L.chk (Go.L.I64 (s7_84 + (1 : Int))) (some (Sum.inl (l83, (s7_84 + (1 : Int))))) else Go.L.chk (0 ≤ s7_84 ∧ s7_84 < (x1.length : Int)) (Go.L.chk (Go.E.Cap 16 (l83.length + ([x1.getD s7_84.toNat default]).length)) (Go.L.chk (Go.L.I64 (s7_84 + (1 : Int))) (some (Sum.inl ((l83 ++ [x1.getD s7_84.toNat default]), (s7_84 + (1 : Int))))))))) else Go.L.chk (0 ≤ s7_84 ∧ s7_84 < (x1.length : Int)) (Go.L.chk (Go.E.Cap 16 (l83.length + ([x1.getD s7_84.toNat default]).length)) (Go.L.chk (Go.L.I64 (s7_84 + (1 : Int))) (some (Sum.inl ((l83 ++ [x1.getD s7_84.toNat default]), (s7_84 + (1 : Int)))))))) else Option.map Sum.inr ((ref4_Matches_k1 a1) l83)
noncomputable def ref4_Matches_l2 (a1 : List UInt8) (x1 : (List (List UInt8))) (s : (List (List UInt8)) × Int) : Option (Bool) := Go.L.run (ref4_Matches_bl2 a1 x1) s
noncomputable def ref4_Matches (a0 : List UInt8) (a1 : List UInt8) : Option (Bool) :=
 Option.bind (ref4_Steps a0) (fun x1 => (ref4_Matches_l2 a1 x1) (([] : List (List UInt8)), (0 : Int)))
theorem ref4_Matches_ok (w : World) (H : PH) (hH : Le H (hp w)) {a0 : List UInt8} {a1 : List UInt8}   {r : Bool} (h : ref4_Matches a0 a1 = some r) :
  Ok Tryz.prog 19 [.string ⟨(a0).toArray⟩, .string ⟨(a1).toArray⟩] w (fun v w' => Ext w w' ∧ v = .bool r) := by
 refine Ok_enter (n := 46) [(0, .string ⟨(a0).toArray⟩), (1, .string ⟨(a1).toArray⟩)] func19 rfl rfl rfl rfl rfl ?_;have hL := Lcl.start w;refine W_pz 1 rfl ?_;refine W_p 1 rfl ?_;obtain ⟨x1, hb1, h⟩ := Go.L.bind_some h;refine S_callL rfl rfl hL (ref4_Steps_ok _ _ (gz_le hH hL) hb1) ?_;rintro u2_0 w2 ⟨_, rfl, hR2_0⟩ hx2 hL2 hle2;have hv2_0 := hR2_0.vecG hH hL hx2;refine S_pz 1 rfl ?_;refine W_p 1 rfl ?_;obtain ⟨hL3, hle3, he3⟩ := row_nilE .st H 9 hL2;replace hv2_0 := hv2_0.mono (gz_mono hH hle3);refine S_seqnil ?_;refine W_cut (σ := (List (List UInt8)) × Value × (List Value)) (fun ⟨l43, vl43, xsl43⟩ => [(1, .string ⟨(a1).toArray⟩), (6, vl43)]) (fun ⟨l43, vl43, xsl43⟩ wr => InO w [.row (vl43) 9 1 (l43).length (xsl43)] wr fun Oz => Elems .st (gz H w wr Oz) (l43) (xsl43) ∧ (ref4_Matches_k1 a1) l43 = some r) ?_ ?_
 ·refine W_pz 1 rfl ?_;refine W_block ?_;obtain ⟨n85, h⟩ := Go.L.run_some h;refine W_loop (σ := (List (List UInt8)) × Int × Value × (List Value) × Nat) (fun ⟨l83, s7_84, vl83, xsl83, n⟩ => [(1, .string ⟨(a1).toArray⟩), (5, u2_0), (6, vl83), (7, .int .i64 s7_84)]) (fun ⟨l83, s7_84, vl83, xsl83, n⟩ wr => InO w [.row (vl83) 9 1 (l83).length (xsl83)] wr fun Oz => Vec .st (gz H w wr Oz) (u2_0) (x1) ∧ Elems .st (gz H w wr Oz) (l83) (xsl83) ∧ Go.L.itr (ref4_Matches_bl2 a1 x1) n (l83, s7_84) = some r) (fun ⟨l83, s7_84, vl83, xsl83, n⟩ => n) (([] : List (List UInt8)), (0 : Int), .slice none 0 0, [], n85) (.cons rfl (.cons rfl (.cons rfl (.cons rfl (Sub.nil _))))) ⟨hL3, hv2_0, he3, h⟩ ?_;rintro ⟨l83, s7_84, vl83, xsl83, nn85⟩ wr85 ⟨hL85, hf85_0, hel83, h⟩;obtain ⟨n85, e85, rfl, h, hm85⟩ := Go.L.itr_some h;refine W_seq ?_;refine W_p 2 rfl ?_;refine S_v (r_len rfl underlying30 hf85_0) rfl ?_;refine S_pz 1 rfl ?_;refine W_if rfl (fun hc87 => ?_) (fun hc87 => ?_)
  ·replace h := Go.L.ite_p hc87 h;refine W_skip ?_;refine At_seq ?_;refine W_seq ?_;refine W_block ?_;refine W_p 2 rfl ?_;obtain ⟨hk90, h⟩ := Go.L.chk_some h;refine S_index rfl rfl underlying30 zr9 hf85_0 s7_84.toNat (Int.toNat_of_nonneg hk90.1).symm (idx_lt hk90) rfl ?_;rintro p89 _ rfl hp89;refine S_v (r_load1 rfl underlying9 rfl hp89 (gz_le hH hL85)) rfl ?_;refine S_v (r_sne rfl rfl) rfl ?_;refine S_pu 1 rfl ?_;refine S_split (s := 21) rfl (fun hg91 => ?_) (fun hg91 => ?_)
   ·replace h := Go.L.ite_n (not_dec_t hg91) h
    iterate 3 refine S_unwanted rfl rfl hg91 rfl ?_
    refine S_v (r_pickT rfl hg91 rfl) rfl ?_;refine S_pu 1 rfl ?_
    iterate 7 refine S_unwanted rfl rfl rfl rfl ?_
    refine S_v (r_pickT rfl rfl rfl) rfl ?_;refine S_seqnil ?_;refine W_true rfl ?_;refine W_region ?_;refine S_pu 3 rfl ?_;obtain ⟨hk94, h⟩ := Go.L.chk_some h;refine S_index rfl rfl underlying30 zr9 hf85_0 s7_84.toNat (Int.toNat_of_nonneg hk94.1).symm (idx_lt hk94) rfl ?_;rintro p93 _ rfl hp93;refine S_v (r_load1 rfl underlying9 rfl hp93 (gz_le hH hL85)) rfl ?_;refine S_litE (r := .st) (l := [x1.getD s7_84.toNat default]) rfl (fun _ => bsl30_1 _ rfl _) rfl (show 1 ≤ 9223372036854775807 by decide) hH hL85 (.c1 rfl .nil) ?_;intro v95 w95 hx95 hL95 hle95 hv95;replace hf85_0 := hf85_0.mono (gz_mono hH hle95);replace hel83 := hel83.mono (gz_mono hH hle95);replace hp93 := hp93.mono (gz_mono hH hle95);obtain ⟨hk97, h⟩ := Go.L.chk_some h;refine S_appE (r := .st) (l := l83) (m := [x1.getD s7_84.toNat default]) 0 rfl rfl underlying30 zr9 rfl (by decide) rfl hH hL95 rfl hel83 hv95 hk97 ?_;intro v96 w96 xs96 hL96 hle96 he96;replace hf85_0 := hf85_0.mono (gz_mono hH hle96);replace hp93 := hp93.mono (gz_mono hH hle96);replace hv95 := hv95.mono (gz_mono hH hle96);refine S_pu 1 rfl ?_;refine S_nil ?_;refine At_block ?_;refine At_seq ?_;refine W_region ?_;refine S_pu 1 rfl ?_;obtain ⟨hk98, h⟩ := Go.L.chk_some h;refine S_v (r_ar64 rfl rfl rfl hk98) rfl ?_;refine S_pu 1 rfl ?_;refine S_nil ?_;have h := Go.L.Nxt.again h hm85
    refine At_round ((l83 ++ [x1.getD s7_84.toNat default]), (s7_84 + (1 : Int)), v96, xs96, n85) (.cons rfl (.cons rfl (.cons rfl (.cons rfl (Sub.nil _))))) ⟨hL96, hf85_0, he96, h⟩ (Nat.lt_succ_self _)
   ·replace h := Go.L.ite_p (not_dec_f hg91) h;refine S_guarded rfl rfl hg91 ?_;refine S_v (RunsAt_pu rfl) rfl ?_;refine S_guarded rfl rfl hg91 ?_;refine S_v (r_lenR (i := 0) rfl underlying30 hL85 rfl) rfl ?_;refine S_guarded rfl rfl hg91 ?_;refine S_v (RunsAt_pu rfl) rfl ?_;refine S_v (r_pickF rfl hg91 rfl) rfl ?_;refine S_pu 1 rfl ?_;refine S_split (s := 26) rfl (fun hg100 => ?_) (fun hg100 => ?_)
    ·replace h := Go.L.ite_p (of_decide_eq_true hg100) h
     iterate 7 refine S_unwanted rfl rfl hg100 rfl ?_
     refine S_v (r_pickT rfl hg100 rfl) rfl ?_;refine S_seqnil ?_;refine W_true rfl ?_;refine W_region ?_;refine S_pu 3 rfl ?_;obtain ⟨hk103, h⟩ := Go.L.chk_some h;refine S_index rfl rfl underlying30 zr9 hf85_0 s7_84.toNat (Int.toNat_of_nonneg hk103.1).symm (idx_lt hk103) rfl ?_;rintro p102 _ rfl hp102;refine S_v (r_load1 rfl underlying9 rfl hp102 (gz_le hH hL85)) rfl ?_;refine S_litE (r := .st) (l := [x1.getD s7_84.toNat default]) rfl (fun _ => bsl30_1 _ rfl _) rfl (show 1 ≤ 9223372036854775807 by decide) hH hL85 (.c1 rfl .nil) ?_;intro v104 w104 hx104 hL104 hle104 hv104;replace hf85_0 := hf85_0.mono (gz_mono hH hle104);replace hel83 := hel83.mono (gz_mono hH hle104);replace hp102 := hp102.mono (gz_mono hH hle104);obtain ⟨hk106, h⟩ := Go.L.chk_some h;refine S_appE (r := .st) (l := l83) (m := [x1.getD s7_84.toNat default]) 0 rfl rfl underlying30 zr9 rfl (by decide) rfl hH hL104 rfl hel83 hv104 hk106 ?_;intro v105 w105 xs105 hL105 hle105 he105;replace hf85_0 := hf85_0.mono (gz_mono hH hle105);replace hp102 := hp102.mono (gz_mono hH hle105);replace hv104 := hv104.mono (gz_mono hH hle105);refine S_pu 1 rfl ?_;refine S_nil ?_;refine At_block ?_;refine At_seq ?_;refine W_region ?_;refine S_pu 1 rfl ?_;obtain ⟨hk107, h⟩ := Go.L.chk_some h;refine S_v (r_ar64 rfl rfl rfl hk107) rfl ?_;refine S_pu 1 rfl ?_;refine S_nil ?_;have h := Go.L.Nxt.again h hm85
     refine At_round ((l83 ++ [x1.getD s7_84.toNat default]), (s7_84 + (1 : Int)), v105, xs105, n85) (.cons rfl (.cons rfl (.cons rfl (.cons rfl (Sub.nil _))))) ⟨hL105, hf85_0, he105, h⟩ (Nat.lt_succ_self _)
    ·replace h := Go.L.ite_n (of_decide_eq_false hg100) h;refine S_guarded rfl rfl hg100 ?_;refine S_v (RunsAt_pu rfl) rfl ?_;refine S_guarded rfl rfl hg100 ?_;refine S_v (RunsAt_pu rfl) rfl ?_;refine S_guarded rfl rfl hg100 ?_;refine S_v (r_lenR (i := 0) rfl underlying30 hL85 rfl) rfl ?_;refine S_guarded rfl rfl hg100 ?_;obtain ⟨hk109, h⟩ := Go.L.chk_some h;refine S_v (r_ar64 rfl rfl rfl hk109) rfl ?_;refine S_guarded rfl rfl hg100 ?_;obtain ⟨hk111, h⟩ := Go.L.chk_some h;refine S_index rfl rfl underlying30 zr9 (hL85.vecN hH (i := 0) rfl hel83) (((l83.length : Int) - (1 : Int)).toNat) (Int.toNat_of_nonneg hk111.1).symm (idx_lt hk111) rfl ?_;rintro p110 _ rfl hp110;refine S_guarded rfl rfl hg100 ?_;refine S_v (r_load1 rfl underlying9 rfl hp110 (Le.refl _)) rfl ?_;refine S_guarded rfl rfl hg100 ?_;refine S_v (r_sne rfl rfl) rfl ?_;refine S_v (r_pickF rfl hg100 rfl) rfl ?_;refine S_seqnil ?_;refine W_ifn rfl (fun hc112 => ?_) (fun hc112 => ?_)
     ·replace h := Go.L.ite_n hc112 h;refine W_region ?_;refine S_pu 3 rfl ?_;obtain ⟨hk115, h⟩ := Go.L.chk_some h;refine S_index rfl rfl underlying30 zr9 hf85_0 s7_84.toNat (Int.toNat_of_nonneg hk115.1).symm (idx_lt hk115) rfl ?_;rintro p114 _ rfl hp114;refine S_v (r_load1 rfl underlying9 rfl hp114 (gz_le hH hL85)) rfl ?_;refine S_litE (r := .st) (l := [x1.getD s7_84.toNat default]) rfl (fun _ => bsl30_1 _ rfl _) rfl (show 1 ≤ 9223372036854775807 by decide) hH hL85 (.c1 rfl .nil) ?_;intro v116 w116 hx116 hL116 hle116 hv116;replace hf85_0 := hf85_0.mono (gz_mono hH hle116);replace hel83 := hel83.mono (gz_mono hH hle116);replace hp114 := hp114.mono (gz_mono hH hle116);obtain ⟨hk118, h⟩ := Go.L.chk_some h;refine S_appE (r := .st) (l := l83) (m := [x1.getD s7_84.toNat default]) 0 rfl rfl underlying30 zr9 rfl (by decide) rfl hH hL116 rfl hel83 hv116 hk118 ?_;intro v117 w117 xs117 hL117 hle117 he117;replace hf85_0 := hf85_0.mono (gz_mono hH hle117);replace hp114 := hp114.mono (gz_mono hH hle117);replace hv116 := hv116.mono (gz_mono hH hle117);refine S_pu 1 rfl ?_;refine S_nil ?_;refine At_block ?_;refine At_seq ?_;refine W_region ?_;refine S_pu 1 rfl ?_;obtain ⟨hk119, h⟩ := Go.L.chk_some h;refine S_v (r_ar64 rfl rfl rfl hk119) rfl ?_;refine S_pu 1 rfl ?_;refine S_nil ?_;have h := Go.L.Nxt.again h hm85
      refine At_round ((l83 ++ [x1.getD s7_84.toNat default]), (s7_84 + (1 : Int)), v117, xs117, n85) (.cons rfl (.cons rfl (.cons rfl (.cons rfl (Sub.nil _))))) ⟨hL117, hf85_0, he117, h⟩ (Nat.lt_succ_self _)
     ·replace h := Go.L.ite_p hc112 h;refine W_skip ?_;refine At_block ?_;refine At_seq ?_;refine W_region ?_;refine S_pu 1 rfl ?_;obtain ⟨hk121, h⟩ := Go.L.chk_some h;refine S_v (r_ar64 rfl rfl rfl hk121) rfl ?_;refine S_pu 1 rfl ?_;refine S_nil ?_;have h := Go.L.Nxt.again h hm85;refine At_round (l83, (s7_84 + (1 : Int)), vl83, xsl83, n85) (.cons rfl (.cons rfl (.cons rfl (.cons rfl (Sub.nil _))))) ⟨hL85, hf85_0, hel83, h⟩ (Nat.lt_succ_self _)
  ·replace h := Go.L.ite_n hc87 h;refine W_exit ?_;refine At_seq_exit ?_;refine At_loop_exit ?_;replace h := Go.L.Nxt.out h hm85;refine At_exit ?_;refine At_cut (l83, vl83, xsl83) (.cons rfl (.cons rfl (Sub.nil _))) ⟨hL85, hel83, h⟩
 ·rintro ⟨l43, vl43, xsl43⟩ wr44 ⟨hL44, hel43, h⟩;refine W_p 2 rfl ?_;obtain ⟨x124, hb124, h⟩ := Go.L.bind_some h;refine S_callL rfl rfl hL44 (ref4_Steps_ok _ _ (gz_le hH hL44) hb124) ?_;rintro u125_0 w125 ⟨_, rfl, hR125_0⟩ hx125 hL125 hle125;have hv125_0 := hR125_0.vecG hH hL44 hx125;replace hel43 := hel43.mono (gz_mono hH hle125);obtain ⟨x126, hb126, h⟩ := Go.L.bind_some h;refine S_callL rfl rfl hL125 (ref4_Fits_ok _ _ (Le.refl _) (hL125.vecN hH (i := 0) rfl hel43) (hv125_0.mono (gz_le hH hL125)) hb126) ?_;rintro _ w127 rfl hx127 hL127 hle127;replace hel43 := hel43.mono (gz_mono hH hle127);replace hv125_0 := hv125_0.mono (gz_mono hH hle127);refine S_pz 1 rfl ?_;refine W_ret ?_;obtain rfl := Option.some.inj h;refine At_body rfl rfl ?_;exact ⟨hL127.ext, rfl⟩
noncomputable def ref4_Texts_k1 : Option (Bool) :=
 some (true)
noncomputable def ref4_Texts_bl2 (a0 : List (List UInt8)) (a1 : List (List UInt8)) : Int → Option ((Int) ⊕ (Bool)) := fun s5_40 =>
 if s5_40 < (a0.length : Int) then Go.L.chk (0 ≤ s5_40 ∧ s5_40 < (a0.length : Int)) (Go.L.chk (0 ≤ s5_40 ∧ s5_40 < (a1.length : Int)) (if a0.getD s5_40.toNat default = a1.getD s5_40.toNat default then Go.L.chk (Go.L.I64 (s5_40 + (1 : Int))) (some (Sum.inl (s5_40 + (1 : Int)))) else Option.map Sum.inr (some (false)))) else Option.map Sum.inr (ref4_Texts_k1)
noncomputable def ref4_Texts_l2 (a0 : List (List UInt8)) (a1 : List (List UInt8)) (s : Int) : Option (Bool) := Go.L.run (ref4_Texts_bl2 a0 a1) s
noncomputable def ref4_Texts (a0 : List (List UInt8)) (a1 : List (List UInt8)) : Option (Bool) :=
 if (a0.length : Int) = (a1.length : Int) then (ref4_Texts_l2 a0 a1) (0 : Int) else some (false)
theorem ref4_Texts_ok (w : World) (H : PH) (hH : Le H (hp w)) {a0 : List (List UInt8)} {a1 : List (List UInt8)} {v0_0 : Value} {v1_0 : Value} (h0_0 : Vec .st H v0_0 (a0)) (h1_0 : Vec .st H v1_0 (a1)) {r : Bool} (h : ref4_Texts a0 a1 = some r) :
  Ok Tryz.prog 23 [v0_0, v1_0] w (fun v w' => Ext w w' ∧ v = .bool r) := by
 refine Ok_enter (n := 26) [(0, v0_0), (1, v1_0)] func23 rfl rfl rfl rfl rfl ?_;have hL := Lcl.start w;refine W_pz 1 rfl ?_;refine W_seq ?_;refine W_p 1 rfl ?_;refine S_v (r_len rfl underlying30 h0_0) rfl ?_;refine S_pu 1 rfl ?_;refine S_v (r_len rfl underlying30 h1_0) rfl ?_;refine S_pz 1 rfl ?_;refine W_ifn rfl (fun hc1 => ?_) (fun hc1 => ?_)
 ·replace h := Go.L.ite_n hc1 h;refine W_pz 1 rfl ?_;refine W_ret ?_;refine At_seq_ret ?_;obtain rfl := Option.some.inj h;refine At_body rfl rfl ?_;exact ⟨hL.ext, rfl⟩
 ·replace h := Go.L.ite_p hc1 h;refine W_skip ?_;refine At_seq ?_;refine W_cut (σ := Unit) (fun (_ : Unit) => []) (fun (_ : Unit) wr => Lcl w [] wr ∧ ref4_Texts_k1 = some r) ?_ ?_
  ·refine W_pz 1 rfl ?_;refine W_block ?_;obtain ⟨n41, h⟩ := Go.L.run_some h;refine W_loop (σ := Int × Nat) (fun ⟨s5_40, n⟩ => [(0, v0_0), (1, v1_0), (5, .int .i64 s5_40)]) (fun ⟨s5_40, n⟩ wr => Lcl w [] wr ∧ Go.L.itr (ref4_Texts_bl2 a0 a1) n s5_40 = some r) (fun ⟨s5_40, n⟩ => n) ((0 : Int), n41) (.cons rfl (.cons rfl (.cons rfl (Sub.nil _)))) ⟨hL, h⟩ ?_;rintro ⟨s5_40, nn41⟩ wr41 ⟨hL41, h⟩;obtain ⟨n41, e41, rfl, h, hm41⟩ := Go.L.itr_some h;refine W_seq ?_;refine W_p 2 rfl ?_;refine S_v (r_len rfl underlying30 h0_0) rfl ?_;refine S_pz 1 rfl ?_;refine W_if rfl (fun hc43 => ?_) (fun hc43 => ?_)
   ·replace h := Go.L.ite_p hc43 h;refine W_skip ?_;refine At_seq ?_;refine W_seq ?_;refine W_block ?_;refine W_seqd (.q 0 (.q 1 (.q 2 (.q 3 (.q 4 (.q 5 (.q 6 (.q 7 (.q 8 (.tail 9)))))))))) mixed (by kernel_rfl) (fun w45 hx45 => ?_);have hL46 := hL41.call hx45;refine D_pu 2 rfl ?_;obtain ⟨hk48, h⟩ := Go.L.chk_some h;refine D_index rfl rfl rfl underlying30 zr9 h0_0 s5_40.toNat (Int.toNat_of_nonneg hk48.1).symm (idx_lt hk48) rfl ?_;rintro p47 _ rfl hp47;refine D_v (r_load1 rfl underlying9 rfl hp47 (hH.trans hL46.arg)) rfl rfl ?_;refine D_pu 2 rfl ?_;obtain ⟨hk50, h⟩ := Go.L.chk_some h;refine D_index rfl rfl rfl underlying30 zr9 h1_0 s5_40.toNat (Int.toNat_of_nonneg hk50.1).symm (idx_lt hk50) rfl ?_;rintro p49 _ rfl hp49;refine D_v (r_load1 rfl underlying9 rfl hp49 (hH.trans hL46.arg)) rfl rfl ?_;refine D_v (r_sne rfl rfl) rfl rfl ?_;refine D_tail (fun w51 hx51 => ?_);have hL52 := hL46.call hx51;refine S_seqnil ?_;refine W_ifn rfl (fun hc53 => ?_) (fun hc53 => ?_)
    ·replace h := Go.L.ite_n hc53 h;refine W_pz 1 rfl ?_;refine W_ret ?_;refine At_block_ret ?_;refine At_seq_ret ?_;refine At_loop_ret ?_;replace h := Go.L.Nxt.out h hm41;refine At_block_ret ?_;refine At_cut_ret ?_;obtain rfl := Option.some.inj h;refine At_body rfl rfl ?_;exact ⟨hL52.ext, rfl⟩
    ·replace h := Go.L.ite_p hc53 h;refine W_skip ?_;refine At_block ?_;refine At_seq ?_;refine W_region ?_;refine S_pu 1 rfl ?_;obtain ⟨hk56, h⟩ := Go.L.chk_some h;refine S_v (r_ar64 rfl rfl rfl hk56) rfl ?_;refine S_pu 1 rfl ?_;refine S_nil ?_;have h := Go.L.Nxt.again h hm41;refine At_round ((s5_40 + (1 : Int)), n41) (.cons rfl (.cons rfl (.cons rfl (Sub.nil _)))) ⟨hL52, h⟩ (Nat.lt_succ_self _)
   ·replace h := Go.L.ite_n hc43 h;refine W_exit ?_;refine At_seq_exit ?_;refine At_loop_exit ?_;replace h := Go.L.Nxt.out h hm41;refine At_exit ?_;refine At_cut () (Sub.nil _) ⟨hL41, h⟩
  ·rintro _ wr22 ⟨hL22, h⟩;refine W_pz 1 rfl ?_;refine W_ret ?_;obtain rfl := Option.some.inj h;refine At_body rfl rfl ?_;exact ⟨hL22.ext, rfl⟩
noncomputable def law4_number (a0 : Int) : Option (Go.L.Pv) :=
 some ((Go.L.Pv.mk (1 : Int) a0 ([]) ([]) ([])))
theorem law4_number_ok (w : World) (H : PH) (_hH : Le H (hp w)) {a0 : Int}   {r : Go.L.Pv} (h : law4_number a0 = some r) :
  Ok Tryz.prog 46 [.int .i64 a0] w (fun v w' => Ext w w' ∧ ∃ u0 u1 u2, v = .agg #[.int .i64 r.f.1, .int .i64 r.f.2.1, u0, u1, u2] ∧ OwnH 5 .byte H w w' u0 (r.f.2.2.1) ∧ OwnH 9 .st H w w' u1 (r.f.2.2.2.1) ∧ OwnH 38 .tree H w w' u2 (r.f.2.2.2.2)) := by
 refine Ok_enter (n := 5) [(0, .int .i64 a0)] func46 rfl rfl rfl rfl rfl ?_;have hL := Lcl.start w;refine W_seqr ?_;refine S_alloc zr38 rfl rfl hL ?_;intro w1 b1 hL1 hle1 _;refine S_seqnil ?_;refine W_p 1 rfl ?_;refine S_v (r_build rfl (fun _ => bld38_0_1 _ _ _)) rfl ?_;refine S_storeBN 0 rfl rfl rfl zr38 hL1 rfl rfl (onc rfl (onc rfl (onc rfl (onc rfl (onc rfl on0))))) ?_;intro w2 hL2 hle2;refine S_seqnil ?_;refine W_ret ?_;obtain rfl := Option.some.inj h;refine At_got1 rfl (.cell rfl underlying38 rfl zr38 (box_ptr (i := 0) hL2 rfl)) ?_;exact ⟨hL2.ext, _, _, _, rfl, OwnH.nil, OwnH.nil, OwnH.nil⟩
noncomputable def law4_record (a0 : Int) : Option (Go.L.Pv) :=
 Option.bind (law4_number a0) (fun x3 => some ((Go.L.Pv.mk (4 : Int) (0 : Int) ([]) ([([97] : List UInt8)]) ([x3]))))
theorem law4_record_ok (w : World) (H : PH) (hH : Le H (hp w)) {a0 : Int}   {r : Go.L.Pv} (h : law4_record a0 = some r) :
  Ok Tryz.prog 45 [.int .i64 a0] w (fun v w' => Ext w w' ∧ ∃ u0 u1 u2, v = .agg #[.int .i64 r.f.1, .int .i64 r.f.2.1, u0, u1, u2] ∧ OwnH 5 .byte H w w' u0 (r.f.2.2.1) ∧ Vec .st (un H (nw w w')) u1 (r.f.2.2.2.1) ∧ Vec .tree (un H (nw w w')) u2 (r.f.2.2.2.2)) := by
 refine Ok_enter (n := 8) [(0, .int .i64 a0)] func45 rfl rfl rfl rfl rfl ?_;have hL := Lcl.start w;refine W_seqr ?_;refine S_alloc zr38 rfl rfl hL ?_;intro w1 b1 hL1 hle1 _;refine S_seqnil ?_;refine W_seqr ?_;refine S_litE (r := .st) (l := [([97] : List UInt8)]) rfl (fun _ => bsl30_1 _ rfl _) rfl (show 1 ≤ 9223372036854775807 by decide) hH hL1 (.c1 rfl .nil) ?_;intro v2 w2 hx2 hL2 hle2 hv2;refine S_pu 1 rfl ?_;obtain ⟨x3, hb3, h⟩ := Go.L.bind_some h;refine S_callL rfl rfl hL2 (law4_number_ok _ _ (gz_le hH hL2) hb3) ?_;rintro _ w4 ⟨u4_0, u4_1, u4_2, rfl, hR4_0, hR4_1, hR4_2⟩ hx4 hL4 hle4;have hv4_0 := hR4_0.vecG hH hL2 hx4;have hv4_1 := hR4_1.vecG hH hL2 hx4;have hv4_2 := hR4_2.vecG hH hL2 hx4;replace hv2 := hv2.mono (gz_mono hH hle4);refine S_litE (r := .tree) (l := [x3]) rfl (fun _ => bsl36_1 _ _ _ _ _ _) rfl (show 1 ≤ 9223372036854775807 by decide) hH hL4 (.c5 (Go.E.Rp.tree_close ⟨_, _, rfl, rfl, ⟨_, _, rfl, rfl, ⟨_, _, rfl, ⟨_, rfl, hv4_0⟩, ⟨_, _, rfl, ⟨_, rfl, hv4_1⟩, ⟨_, rfl, hv4_2⟩⟩⟩⟩⟩) .nil) ?_;intro v5 w5 hx5 hL5 hle5 hv5;replace hv2 := hv2.mono (gz_mono hH hle5);replace hv4_0 := hv4_0.mono (gz_mono hH hle5);replace hv4_1 := hv4_1.mono (gz_mono hH hle5);replace hv4_2 := hv4_2.mono (gz_mono hH hle5);refine S_v (r_build rfl (fun _ => bld38_0_3_4 _ _ hv2.one _ hv5.one _)) rfl ?_;refine S_storeBN 0 rfl rfl rfl zr38 hL5 rfl rfl (onc rfl (onc rfl (onc rfl (onc hv2.one (onc hv5.one on0))))) ?_;intro w6 hL6 hle6;replace hv2 := hv2.mono (gz_mono hH hle6)
 replace hv4_0 := hv4_0.mono (gz_mono hH hle6);replace hv4_1 := hv4_1.mono (gz_mono hH hle6);replace hv4_2 := hv4_2.mono (gz_mono hH hle6);replace hv5 := hv5.mono (gz_mono hH hle6);refine S_seqnil ?_;refine W_ret ?_;obtain rfl := Option.some.inj h;refine At_got1 rfl (.cell rfl underlying38 rfl zr38 (box_ptr (i := 0) hL6 rfl)) ?_;exact ⟨hL6.ext, _, _, _, rfl, OwnH.nil, (hv2.mono (gz_res hH)), (hv5.mono (gz_res hH))⟩
end Go.Proofs.YtmfiaecglndldaaGreatDoor
end
section
namespace Go.L
/-- The parts between slashes, the first one behind some letters. -/
def pcs : List UInt8 → List UInt8 → List (List UInt8)
  | cur, [] => [cur]
  | cur, c :: s => if c = 47 then cur :: pcs [] s else pcs (cur ++ [c]) s
theorem pcs_cur : ∀ (s cur : List UInt8), pcs cur s = (cur ++ (pcs [] s).headD []) :: (pcs [] s).tail
  | [], cur => by simp [pcs]
  | c :: s, cur => by
    unfold pcs
    by_cases h : c = 47
    · rw [if_pos h, if_pos h]; simp
    · rw [if_neg h, if_neg h, pcs_cur s (cur ++ [c]), pcs_cur s ([] ++ [c])];simp
theorem pcs_len : ∀ (s cur : List UInt8), (pcs cur s).length ≤ s.length + 1
  | [], _ => by simp [pcs]
  | c :: s, cur => by
    unfold pcs
    split
    · have := pcs_len s []; simp only [List.length_cons]; omega
    · have := pcs_len s (cur ++ [c]); simp only [List.length_cons]; omega
/-- The bytes of steps, each with a slash. -/
def tot : List (List UInt8) → Nat
  | [] => 0
  | x :: l => x.length + 1 + tot l
theorem pcs_tot : ∀ (s cur : List UInt8), tot (pcs cur s) = cur.length + s.length + 1
  | [], cur => by simp [pcs, tot]
  | c :: s, cur => by
    unfold pcs
    split
    · unfold tot; rw [pcs_tot s []]; simp only [List.length_cons, List.length_nil]; omega
    · rw [pcs_tot s]; simp only [List.length_append, List.length_cons, List.length_nil]; omega
theorem splitK_pcs : ∀ s : List UInt8, Lib.splitK [47] 0 (s.count 47) s = pcs [] s
  | [] => rfl
  | c :: s => by
    have ih := splitK_pcs s
    have hi : Lib.index (c :: s) [47] = if c == 47 then 0 else if Lib.index s [47] == -1 then -1 else Lib.index s [47] + 1 := by
      rw [Lib.index_one, Lib.index_one]; rfl
    by_cases h : c = 47
    · subst h;rw [List.count_cons_self];unfold Lib.splitK pcs;rw [hi];simp [ih]
    · have hb : (c == 47) = false := by simpa using h
      rw [List.count_cons_of_ne (fun e => h e)]
      have hp : pcs [] (c :: s) = ([c] ++ (pcs [] s).headD []) :: (pcs [] s).tail := by
        conv => lhs; unfold pcs
        rw [if_neg h, pcs_cur s ([] ++ [c])]; rfl
      rw [hp, ← ih]
      cases hk : s.count 47 with
      | zero => rfl
      | succ k =>
        unfold Lib.splitK;rw [hi, hb]
        by_cases h1 : (Lib.index s [47] == -1) = true
        · simp [h1]
        · have hge : -1 ≤ Lib.index s [47] := Lib.index_ge s [47];have h2 : 0 ≤ Lib.index s [47] := by have : Lib.index s [47] ≠ -1 := fun e => h1 (by simp [e]); omega
          obtain ⟨i, hi2⟩ := Int.eq_ofNat_of_zero_le h2;have h3 : ((i : Int) + 1 == -1) = false := by simp; omega
          have h4 : ((i : Int) == -1) = false := by simp
          rw [hi2] at h1 ⊢;simp [h3, h4, show ((i : Int) + 1).toNat = i + 1 by omega]
/-- The steps of a path or pattern. -/
def sl (s : List UInt8) : List (List UInt8) := if s = [] then [] else pcs [] s
theorem sl_len (s : List UInt8) : (sl s).length ≤ s.length + 1 := by unfold sl; split; simp; exact pcs_len s []
theorem sl_tot (s : List UInt8) : tot (sl s) ≤ s.length + 1 := by unfold sl; split; simp [tot]; rw [pcs_tot]; simp
theorem tot_mem : ∀ {l : List (List UInt8)} {x : List UInt8}, x ∈ l → x.length < tot l
  | y :: l, x, h => by
    unfold tot
    rcases List.mem_cons.1 h with rfl | h
    · omega
    · have := tot_mem h; omega
/-- A letter of a name. -/
def nch (c : UInt8) : Bool := decide ((97 ≤ c.toNat ∧ c.toNat ≤ 122) ∨ (48 ≤ c.toNat ∧ c.toNat ≤ 57) ∨ c.toNat = 45 ∨ c.toNat = 95 ∨ c.toNat = 46)
/-- A name. -/
def nok (s : List UInt8) : Bool := decide (1 ≤ s.length ∧ s.length ≤ 32 ∧ 97 ≤ (s.getD 0 default).toNat ∧ (s.getD 0 default).toNat ≤ 122) && s.all nch
/-- The place of the first wrong step, or -1. -/
def wr (w : Bool) : Int → List (List UInt8) → Int
  | _, [] => -1
  | a, x :: l => if (nok x || decide (x = [35]) || (w && (decide (x = [42]) || decide (x = [42, 42])))) = true then wr w (a + x.length + 1) l else a
theorem drop_cons {α : Type} [Inhabited α] {l : List α} {i : Nat} (h : i < l.length) : l.drop i = l.getD i default :: l.drop (i + 1) := by
  rw [List.drop_eq_getElem_cons h]; simp [List.getD_eq_getElem?_getD, List.getElem?_eq_getElem h]
theorem getD_mem {α : Type} [Inhabited α] {l : List α} {i : Nat} (h : i < l.length) : l.getD i default ∈ l := by
  rw [List.getD_eq_getElem?_getD, List.getElem?_eq_getElem h]; exact List.getElem_mem h
end Go.L
namespace Go.Proofs.YtmfiaecglndldaaGreatDoor
open Go Go.L
theorem steps_eq {s : List UInt8} (h : s.length < 4294967281) : shapes_steps s = some (sl s) := by
  unfold shapes_steps sl
  by_cases hs : s = []
  · rw [if_pos hs, if_pos hs]
  · rw [if_neg hs, if_neg hs];unfold strings_Split genSplitL;rw [chk_pos ⟨h, rfl, rfl, rfl⟩]
    show some (pieces s) = some (pcs [] s)
    unfold pieces Lib.split;rw [Lib.count_one, splitK_pcs]
theorem ref_steps_run {s : List UInt8} (hs : s.length ≤ 1000000000000) : ∀ (d i f : Nat) (L : List (List UInt8)), i + d = s.length → f ≤ i → L.length ≤ i →
    Go.L.run (ref4_Steps_bl2 s) (L, (f : Int), (i : Int)) = some (L ++ pcs ((s.drop f).take (i - f)) (s.drop i)) := by
  intro d
  induction d with
  | zero =>
    intro i f L hi hf hL
    have e1 : ref4_Steps_bl2 s (L, (f : Int), (i : Int)) = some (.inl (L ++ [(s.drop f).take (i - f)], ((i + 1 : Nat) : Int), ((i + 1 : Nat) : Int))) := by
      unfold ref4_Steps_bl2;simp only [Int.toNat_natCast];rw [if_pos (by omega), if_pos (by omega), chk_pos (by omega), chk_pos (by unfold Go.E.Cap; simp; omega), chk_pos (by unfold I64; omega), chk_pos (by unfold I64; omega)]
      rfl
    rw [run_inl e1, run_inr (m := some (L ++ [(s.drop f).take (i - f)]))]
    · rw [List.drop_eq_nil_of_le (by omega : s.length ≤ i)]; rfl
    · unfold ref4_Steps_bl2;dsimp only;rw [if_neg (by omega)]
      rfl
  | succ d ih =>
    intro i f L hi hf hL;have hil : i < s.length := by omega
    have hd := drop_cons hil
    by_cases hc : s.getD i default = 47
    · have e1 : ref4_Steps_bl2 s (L, (f : Int), (i : Int)) = some (.inl (L ++ [(s.drop f).take (i - f)], ((i + 1 : Nat) : Int), ((i + 1 : Nat) : Int))) := by
        unfold ref4_Steps_bl2;simp only [Int.toNat_natCast];rw [if_pos (by omega), if_neg (by omega), chk_pos (by omega), if_pos (by rw [hc]; rfl), chk_pos (by omega), chk_pos (by unfold Go.E.Cap; simp; omega), chk_pos (by unfold I64; omega), chk_pos (by unfold I64; omega)]
        rfl
      rw [run_inl e1, ih (i + 1) (i + 1) _ (by omega) (Nat.le_refl _) (by simp; omega), hd]
      conv => rhs; unfold pcs
      rw [if_pos hc, Nat.sub_self, List.take_zero, List.append_assoc]
      rfl
    · have e1 : ref4_Steps_bl2 s (L, (f : Int), (i : Int)) = some (.inl (L, (f : Int), ((i + 1 : Nat) : Int))) := by
        unfold ref4_Steps_bl2;simp only [Int.toNat_natCast];rw [if_pos (by omega), if_neg (by omega), chk_pos (by omega), if_neg (fun e => hc (UInt8.toNat.inj (show (s.getD i default).toNat = 47 by omega))), chk_pos (by unfold I64; omega)]
        rfl
      rw [run_inl e1, ih (i + 1) f _ (by omega) (by omega) (by omega), hd]
      conv => rhs; unfold pcs
      rw [if_neg hc]
      congr 2
      rw [show i + 1 - f = (i - f) + 1 by omega, List.take_add_one, List.getElem?_drop, show f + (i - f) = i by omega, List.getElem?_eq_getElem hil];simp [List.getD_eq_getElem?_getD, List.getElem?_eq_getElem hil]
theorem ref_steps {s : List UInt8} (hs : s.length ≤ 1000000000000) : ref4_Steps s = some (sl s) := by
  unfold ref4_Steps sl
  split
  · rfl
  · have := ref_steps_run hs s.length 0 0 [] (by omega) (Nat.le_refl _) (Nat.le_refl _);exact this
/-! ### Names -/
theorem nameok_run {s : List UInt8} (hs : s.length ≤ 1000000000000) : ∀ (d i : Nat), i + d = s.length → 1 ≤ i → Go.L.run (ref4_NameOk_bl2 s) (i : Int) = some ((s.drop i).all nch && decide (1 ≤ s.length ∧ s.length ≤ 32)) := by
  intro d
  induction d with
  | zero =>
    intro i hi h1;refine run_inr ?_;unfold ref4_NameOk_bl2 ref4_NameOk_k1 ref3_In;rw [if_neg (by omega), List.drop_eq_nil_of_le (by omega : s.length ≤ i)];simp only [Option.bind_some, Option.map_some, List.all_nil, Bool.true_and]
    congr 2
    rw [decide_eq_decide];omega
  | succ d ih =>
    intro i hi h1;have hil : i < s.length := by omega
    rw [drop_cons hil, List.all_cons]
    have hstep : ref4_NameOk_bl2 s (i : Int) = if nch (s.getD i default) then some (.inl ((i + 1 : Nat) : Int)) else some (.inr false) := by
      unfold ref4_NameOk_bl2 ref3_In nch;rw [if_pos (by omega), chk_pos (by omega), Int.toNat_natCast];have hk : I64 ((i : Int) + 1) := by unfold I64; omega
      have hz : ¬ ((i : Int) = 0) := by omega
      simp only [Option.bind_some, chk_pos hk, if_neg hz];generalize (s.getD i default).toNat = c;have e1 : (decide ((97 : Int) ≤ (c : Int) ∧ (c : Int) ≤ 122)) = decide (97 ≤ c ∧ c ≤ 122) := by rw [decide_eq_decide]; omega
      have e2 : (decide ((48 : Int) ≤ (c : Int) ∧ (c : Int) ≤ 57)) = decide (48 ≤ c ∧ c ≤ 57) := by rw [decide_eq_decide]; omega
      rw [e1, e2]
      by_cases k1 : 97 ≤ c ∧ c ≤ 122
      · simp [k1]
      · by_cases k2 : 48 ≤ c ∧ c ≤ 57
        · simp [k1, k2]
        · by_cases k3 : c = 45
          · subst k3; simp
          · by_cases k4 : c = 95
            · subst k4; simp
            · by_cases k5 : c = 46
              · subst k5; simp
              · have k3' : ¬ ((c : Int) = 45) := by omega
                have k4' : ¬ ((c : Int) = 95) := by omega
                have k5' : ¬ ((c : Int) = 46) := by omega
                simp [k1, k2, k3, k4, k5, k3', k4', k5']
    by_cases hn : nch (s.getD i default) = true
    · rw [if_pos hn] at hstep;rw [run_inl hstep, ih (i + 1) (by omega) (by omega), hn, Bool.true_and]
    · rw [if_neg hn] at hstep;have hn' : nch (s.getD i default) = false := by simpa using hn
      rw [run_inr (m := some false) hstep, hn', Bool.false_and, Bool.false_and]
theorem nameok_eq {s : List UInt8} (hs : s.length ≤ 1000000000000) : ref4_NameOk s = some (nok s) := by
  unfold ref4_NameOk ref4_NameOk_l2
  by_cases h0 : s = []
  · subst h0;refine run_inr ?_
    rfl
  · have hl : 0 < s.length := List.length_pos_iff.2 h0;have hd : s = s.getD 0 default :: s.drop 1 := by have := drop_cons hl; simpa using this
    by_cases hc : 97 ≤ (s.getD 0 default).toNat ∧ (s.getD 0 default).toNat ≤ 122
    · have e1 : ref4_NameOk_bl2 s (0 : Int) = some (.inl ((1 : Nat) : Int)) := by
        unfold ref4_NameOk_bl2 ref3_In;rw [if_pos (by omega), chk_pos (by omega)];simp only [Option.bind_some, Int.toNat_zero];have hh : (decide ((97 : Int) ≤ ((s.getD 0 default).toNat : Int) ∧ ((s.getD 0 default).toNat : Int) ≤ 122)) = true := by rw [decide_eq_true_eq]; omega
        rw [hh, if_neg (by decide), chk_pos (by unfold I64; omega)]
        rfl
      rw [run_inl e1, nameok_run hs (s.length - 1) 1 (by omega) (Nat.le_refl _)];unfold nok;have hn : nch (s.getD 0 default) = true := by unfold nch; rw [decide_eq_true_eq]; exact .inl hc
      have ha : s.all nch = (s.drop 1).all nch := by conv => lhs; rw [hd, List.all_cons, hn, Bool.true_and]
      rw [ha, Bool.and_comm]
      congr 2
      rw [decide_eq_decide]
      constructor
      · intro h; exact ⟨h.1, h.2, hc.1, hc.2⟩
      · intro h; exact ⟨h.1, h.2.1⟩
    · have e1 : ref4_NameOk_bl2 s (0 : Int) = some (.inr false) := by
        unfold ref4_NameOk_bl2 ref3_In;rw [if_pos (by omega), chk_pos (by omega)];simp only [Option.bind_some, Int.toNat_zero];have hh : (decide ((97 : Int) ≤ ((s.getD 0 default).toNat : Int) ∧ ((s.getD 0 default).toNat : Int) ≤ 122)) = false := by rw [decide_eq_false_iff_not]; omega
        rw [hh]
        rfl
      rw [run_inr (m := some false) e1];unfold nok;rw [show (decide (1 ≤ s.length ∧ s.length ≤ 32 ∧ 97 ≤ (s.getD 0 default).toNat ∧ (s.getD 0 default).toNat ≤ 122)) = false by rw [decide_eq_false_iff_not]; intro h; exact hc ⟨h.2.2.1, h.2.2.2⟩]
      rfl
theorem get_bang (l : List UInt8) (k : Nat) : ((ByteArray.mk l.toArray).get! k).toNat = (l.getD k default).toNat := by
  simp [ByteArray.get!, List.getD_eq_getElem?_getD, getElem!_def]
  cases l[k]? <;> rfl
theorem dec_low {l : List UInt8} {p : Nat} (h : (l.getD p default).toNat < 128) : Utf8.decode ⟨l.toArray⟩ p = ((l.getD p default).toNat, 1) := by
  unfold Utf8.decode;simp only [Nat.add_zero, get_bang];rw [if_pos h]
theorem dec_high {l : List UInt8} {p : Nat} (h : ¬ (l.getD p default).toNat < 128) : 128 ≤ (Utf8.decode ⟨l.toArray⟩ p).1 := by
  unfold Utf8.decode;simp only [Nat.add_zero, get_bang];rw [if_neg h]
  split
  · split
    · rename_i h2; simpa using h2
    · decide
  · split
    · split
      · rename_i h2; simp only [ge_iff_le, Bool.and_eq_true, decide_eq_true_eq] at h2; show 128 ≤ _; omega
      · decide
    · split
      · split
        · rename_i h2; simp only [ge_iff_le, Bool.and_eq_true, decide_eq_true_eq] at h2; show 128 ≤ _; omega
        · decide
      · decide
theorem badR_nch (c : UInt8) : badR c.toNat = !(nch c) := by
  unfold badR nch;generalize c.toNat = n;rw [Bool.eq_iff_iff];simp;omega
theorem cf_run {a : List UInt8} : ∀ (f p : Nat), a.length ≤ p + f → (0 ≤ Lib.idxFuncFrom badR true ⟨a.toArray⟩ f p ↔ (a.drop p).all nch = false)
  | 0, p, h => by
    rw [List.drop_eq_nil_of_le (by omega)];simp [Lib.idxFuncFrom]
  | f + 1, p, h => by
    have hsz : (ByteArray.mk a.toArray).size = a.length := by simp [ByteArray.size]
    unfold Lib.idxFuncFrom;rw [hsz]
    by_cases hp : p < a.length
    · rw [if_pos hp, drop_cons hp, List.all_cons]
      by_cases hc : (a.getD p default).toNat < 128
      · rw [dec_low hc];simp only [badR_nch]
        by_cases hn : nch (a.getD p default) = true
        · rw [hn, if_neg (by decide), Bool.true_and];exact cf_run f (p + 1) (by omega)
        · have hn' : nch (a.getD p default) = false := by simpa using hn
          rw [hn', if_pos (by decide)];simp
      · have hb : badR (Utf8.decode ⟨a.toArray⟩ p).1 = true := by
          have := dec_high hc;unfold badR;simp;omega
        have hn : nch (a.getD p default) = false := by
          unfold nch;rw [decide_eq_false_iff_not];omega
        rw [hb, if_pos rfl, hn];simp
    · rw [if_neg hp, List.drop_eq_nil_of_le (by omega)];simp
theorem nameCF_eq (a : List UInt8) : nameCF a = some (!(a.all nch)) := by
  unfold nameCF Lib.idxFunc
  congr 1
  have := cf_run (a := a) (ByteArray.mk a.toArray).size 0 (by simp [ByteArray.size]);rw [List.drop_zero] at this;rw [Bool.eq_iff_iff, decide_eq_true_eq, this];simp
theorem name_eq (s : List UInt8) : value_Name s = some (nok s) := by
  unfold value_Name nok
  by_cases h0 : s = []
  · subst h0; rfl
  · have hl : 0 < s.length := List.length_pos_iff.2 h0;rw [if_neg h0]
    by_cases h1 : (32 : Int) < (s.length : Int)
    · rw [if_pos h1, show decide (1 ≤ s.length ∧ s.length ≤ 32 ∧ 97 ≤ (s.getD 0 default).toNat ∧ (s.getD 0 default).toNat ≤ 122) = false by rw [decide_eq_false_iff_not]; omega]
      rfl
    · rw [if_neg h1, chk_pos (by omega), Int.toNat_zero]
      by_cases h2 : ((s.getD 0 default).toNat : Int) < 97
      · rw [if_pos h2, show decide (1 ≤ s.length ∧ s.length ≤ 32 ∧ 97 ≤ (s.getD 0 default).toNat ∧ (s.getD 0 default).toNat ≤ 122) = false by rw [decide_eq_false_iff_not]; omega]
        rfl
      · rw [if_neg h2, chk_pos (by omega)]
        by_cases h3 : 122 < ((s.getD 0 default).toNat : Int)
        · rw [if_pos h3, show decide (1 ≤ s.length ∧ s.length ≤ 32 ∧ 97 ≤ (s.getD 0 default).toNat ∧ (s.getD 0 default).toNat ≤ 122) = false by rw [decide_eq_false_iff_not]; omega]
          rfl
        · rw [if_neg h3, nameCF_eq, show decide (1 ≤ s.length ∧ s.length ≤ 32 ∧ 97 ≤ (s.getD 0 default).toNat ∧ (s.getD 0 default).toNat ≤ 122) = true by rw [decide_eq_true_eq]; omega];simp
/-! ### Checks -/
theorem wrong_run {w : Bool} {l : List (List UInt8)} (hl : tot l ≤ 1000000000000) : ∀ (d i a : Nat), i + d = l.length → a + tot (l.drop i) ≤ 2000000000000 →
    Go.L.run (ref4_Wrong_bl2 w l) ((a : Int), (i : Int)) = some (wr w (a : Int) (l.drop i)) := by
  intro d
  induction d with
  | zero =>
    intro i a hi ha;rw [List.drop_eq_nil_of_le (by omega)];refine run_inr ?_;unfold ref4_Wrong_bl2;dsimp only;rw [if_neg (by omega)]
    rfl
  | succ d ih =>
    intro i a hi ha;have hil : i < l.length := by omega
    have hlt : l.length ≤ 1000000000000 := by
      have : ∀ m : List (List UInt8), m.length ≤ tot m := fun m => by
        induction m with
        | nil => exact Nat.zero_le _
        | cons x m ih => simp only [List.length_cons, tot]; omega
      exact Nat.le_trans (this l) hl
    have hx := tot_mem (getD_mem hil);rw [drop_cons hil] at ha ⊢;unfold wr;unfold tot at ha;generalize hX : l.getD i default = x at *;have hk1 : I64 ((a : Int) + (x.length : Int)) := by unfold I64; omega
    have hk2 : I64 ((a : Int) + (x.length : Int) + 1) := by unfold I64; omega
    have hk3 : I64 ((i : Int) + 1) := by unfold I64; omega
    have hk0 : 0 ≤ (i : Int) ∧ (i : Int) < (l.length : Int) := by omega
    have hgo : Go.L.run (ref4_Wrong_bl2 w l) ((a : Int) + (x.length : Int) + 1, (i : Int) + 1) = some (wr w ((a : Int) + (x.length : Int) + 1) (l.drop (i + 1))) := by
      have := ih (i + 1) (a + x.length + 1) (by omega) (by omega)
      simpa using this
    have hb : ref4_Wrong_bl2 w l ((a : Int), (i : Int)) = if (nok x || decide (x = [35]) || (w && (decide (x = [42]) || decide (x = [42, 42])))) = true then some (.inl ((a : Int) + (x.length : Int) + 1, (i : Int) + 1)) else some (.inr (a : Int)) := by
      unfold ref4_Wrong_bl2;simp only [Int.toNat_natCast, hX];rw [if_pos (by omega), chk_pos hk0, nameok_eq (by omega)];simp only [Option.bind_some, chk_pos hk0, chk_pos hk1, chk_pos hk2, chk_pos hk3]
      cases hn : nok x <;> by_cases h1 : x = [35] <;> cases w <;> by_cases h2 : x = [42] <;> by_cases h3 : x = [42, 42] <;> simp_all
    by_cases hc : (nok x || decide (x = [35]) || (w && (decide (x = [42]) || decide (x = [42, 42])))) = true
    · rw [if_pos hc] at hb ⊢;rw [run_inl hb, hgo]
    · rw [if_neg hc] at hb ⊢;exact run_inr (m := some (a : Int)) hb
theorem wrong_eq {s : List UInt8} (hs : s.length ≤ 100000000000) (w : Bool) : ref4_Wrong s w = some (wr w 0 (sl s)) := by
  unfold ref4_Wrong;rw [ref_steps (by omega), Option.bind_some];have h1 := sl_tot s;have := wrong_run (w := w) (l := sl s) (by omega) (sl s).length 0 0 (by omega) (by simp; omega);rw [List.drop_zero] at this;exact this
/-- The fault of a pattern. -/
def pf (s : List UInt8) : Int × Int := if 64 < s.length then (3, -1) else if 0 ≤ wr true 0 (sl s) then (1, wr true 0 (sl s)) else (0, 0)
theorem pfault_eq (s : List UInt8) : ref4_PatternFault s = some (pf s) := by
  unfold ref4_PatternFault pf
  by_cases h : 64 < s.length
  · rw [if_pos (by omega), if_pos h]; rfl
  · rw [if_neg (by omega), if_neg h, wrong_eq (by omega)];simp only [Option.bind_some]
    split <;> rfl
theorem check_run {l : List (List UInt8)} (hl : tot l ≤ 1000000000000) : ∀ (d i a : Nat), i + d = l.length → a + tot (l.drop i) ≤ 2000000000000 →
    Go.L.run (shapes_Check_bl2 l) ((a : Int), (i : Int)) = some (if 0 ≤ wr true (a : Int) (l.drop i) then (1, wr true (a : Int) (l.drop i)) else (0, 0)) := by
  intro d
  induction d with
  | zero =>
    intro i a hi ha;rw [List.drop_eq_nil_of_le (by omega)];refine run_inr ?_;unfold shapes_Check_bl2;dsimp only;rw [if_neg (by omega)]
    rfl
  | succ d ih =>
    intro i a hi ha;have hil : i < l.length := by omega
    have hlt : l.length ≤ 1000000000000 := by
      have : ∀ m : List (List UInt8), m.length ≤ tot m := fun m => by
        induction m with
        | nil => exact Nat.zero_le _
        | cons x m ih => simp only [List.length_cons, tot]; omega
      exact Nat.le_trans (this l) hl
    have hx := tot_mem (getD_mem hil);rw [drop_cons hil] at ha ⊢;unfold wr;unfold tot at ha;generalize hX : l.getD i default = x at *;have hk1 : I64 ((x.length : Int) + 1) := by unfold I64; omega
    have hk2 : I64 ((a : Int) + ((x.length : Int) + 1)) := by unfold I64; omega
    have hk3 : I64 ((i : Int) + 1) := by unfold I64; omega
    have hk0 : 0 ≤ (i : Int) ∧ (i : Int) < (l.length : Int) := by omega
    have hgo : Go.L.run (shapes_Check_bl2 l) ((a : Int) + ((x.length : Int) + 1), (i : Int) + 1) = some (if 0 ≤ wr true ((a : Int) + (x.length : Int) + 1) (l.drop (i + 1)) then (1, wr true ((a : Int) + (x.length : Int) + 1) (l.drop (i + 1))) else (0, 0)) := by
      have := ih (i + 1) (a + x.length + 1) (by omega) (by omega);rw [show ((a : Int) + ((x.length : Int) + 1)) = ((a + x.length + 1 : Nat) : Int) by omega, show ((a : Int) + (x.length : Int) + 1) = ((a + x.length + 1 : Nat) : Int) by omega];exact this
    have hb : shapes_Check_bl2 l ((a : Int), (i : Int)) = if (nok x || decide (x = [35]) || (true && (decide (x = [42]) || decide (x = [42, 42])))) = true then some (.inl ((a : Int) + ((x.length : Int) + 1), (i : Int) + 1)) else some (.inr (1, (a : Int))) := by
      unfold shapes_Check_bl2;simp only [Int.toNat_natCast, hX];rw [if_pos (by omega), chk_pos hk0, name_eq];simp only [Option.bind_some, chk_pos hk1, chk_pos hk2, chk_pos hk3]
      cases hn : nok x <;> by_cases h1 : x = [35] <;> by_cases h2 : x = [42] <;> by_cases h3 : x = [42, 42] <;> simp_all [shapes_fault]
    by_cases hc : (nok x || decide (x = [35]) || (true && (decide (x = [42]) || decide (x = [42, 42])))) = true
    · rw [if_pos hc] at hb ⊢;rw [run_inl hb, hgo]
    · rw [if_neg hc] at hb ⊢;rw [if_pos (by omega)];exact run_inr (m := some (1, (a : Int))) hb
theorem check_eq (s : List UInt8) : shapes_Check s = some (pf s) := by
  unfold shapes_Check pf
  by_cases h : 64 < s.length
  · rw [if_pos (by omega), if_pos h]; rfl
  · rw [if_neg (by omega), if_neg h, steps_eq (by omega), Option.bind_some];have h1 := sl_tot s;have := check_run (l := sl s) (by omega) (sl s).length 0 0 (by omega) (by simp; omega);rw [List.drop_zero] at this;exact this
end Go.Proofs.YtmfiaecglndldaaGreatDoor
end
section
namespace Go.L
/-- Some end of a list has a property. -/
def sufAny {α : Type} (f : List α → Bool) : List α → Bool
  | [] => f []
  | y :: q => f (y :: q) || sufAny f q
/-- Whether steps match those of a pattern. -/
def fits : List (List UInt8) → List (List UInt8) → Bool
  | [], q => decide (q.length = 0)
  | x :: p, q => if x = [42, 42] then sufAny (fun r => fits p r) q else match q with
    | [] => false
    | y :: q' => (decide (x = [42]) || decide (x = y)) && fits p q'
/-- A step that is kept: not a second one of two steps "**". -/
def kp (l : List (List UInt8)) (j : Nat) : Bool := decide (j = 0 ∨ ¬ (l.getD j default = [42, 42] ∧ l.getD (j - 1) default = [42, 42]))
def kept (l : List (List UInt8)) (m : Nat) : List (List UInt8) := ((List.range m).filter (kp l)).map fun j => l.getD j default
theorem kept_succ (l : List (List UInt8)) (m : Nat) : kept l (m + 1) = kept l m ++ if kp l m then [l.getD m default] else [] := by
  unfold kept;rw [List.range_succ, List.filter_append, List.map_append]
  congr 1
  by_cases h : kp l m = true <;> simp [h]
theorem kept_len (l : List (List UInt8)) (m : Nat) : (kept l m).length ≤ m := by
  unfold kept; rw [List.length_map]; exact Nat.le_trans (List.length_filter_le _ _) (by simp)
theorem kept_all {l : List (List UInt8)} {m : Nat} (hm : m ≤ l.length) (h : ∀ j, j < m → kp l j = true) : kept l m = l.take m := by
  induction m with
  | zero => rfl
  | succ m ih =>
    rw [kept_succ, ih (by omega) (fun j hj => h j (by omega)), h m (by omega), if_pos rfl, List.take_add_one, List.getElem?_eq_getElem (by omega : m < l.length)];simp [List.getD_eq_getElem?_getD, List.getElem?_eq_getElem (by omega : m < l.length)]
theorem kept_last (l : List (List UInt8)) : ∀ m, kept l (m + 1) ≠ [] ∧ ((kept l (m + 1)).getD ((kept l (m + 1)).length - 1) default = [42, 42] ↔ l.getD m default = [42, 42])
  | 0 => by
    have : kept l 1 = [l.getD 0 default] := by rw [kept_succ]; rfl
    exact ⟨by rw [this]; simp, by rw [this]; exact Iff.rfl⟩
  | m + 1 => by
    obtain ⟨h1, h2⟩ := kept_last l m;rw [kept_succ]
    by_cases hk : kp l (m + 1) = true
    · rw [if_pos hk];refine ⟨by simp, ?_⟩;simp
    · rw [if_neg hk, List.append_nil];refine ⟨h1, h2.trans ?_⟩;unfold kp at hk;simp only [Nat.add_sub_cancel, decide_eq_true_eq, not_or, Decidable.not_not] at hk;exact ⟨fun _ => hk.2.1, fun _ => hk.2.2⟩
end Go.L
namespace Go.Proofs.YtmfiaecglndldaaGreatDoor
open Go Go.L
theorem suf_run {self : List (List UInt8) → List (List UInt8) → Option Bool} {p q : List (List UInt8)} {x : List UInt8} (hq : q.length ≤ 1000000000000) (hs : ∀ r : List (List UInt8), r.length ≤ q.length → self p r = some (fits p r)) :
    ∀ (d i : Nat), i + d = q.length → Go.L.run (shapes_match_body_bl3 (x :: p) q self) (i : Int) = some (sufAny (fun r => fits p r) (q.drop i)) := by
  have hend : Go.L.run (shapes_match_body_bl3 (x :: p) q self) ((q.length + 1 : Nat) : Int) = some false := by
    refine run_inr (m := some false) ?_;unfold shapes_match_body_bl3 shapes_match_body_k2;rw [if_neg (by omega)]
  have hb : ∀ i : Nat, i ≤ q.length → shapes_match_body_bl3 (x :: p) q self (i : Int) = if fits p (q.drop i) then some (.inr true) else some (.inl ((i + 1 : Nat) : Int)) := by
    intro i hi;unfold shapes_match_body_bl3;have h1 : ((x :: p).drop (1 : Int).toNat) = p := rfl;rw [if_pos (by omega), chk_pos (by simp only [List.length_cons]; omega), chk_pos (by omega), h1, Int.toNat_natCast, hs _ (by simp), Option.bind_some, chk_pos (by unfold I64; omega)]
    rfl
  intro d
  induction d with
  | zero =>
    intro i hi;obtain rfl : i = q.length := by omega
    have h := hb q.length (Nat.le_refl _);rw [List.drop_eq_nil_of_le (Nat.le_refl _)] at h ⊢;unfold sufAny
    by_cases hf : fits p [] = true
    · rw [if_pos hf] at h;rw [run_inr (m := some true) h, hf]
    · rw [if_neg hf] at h;rw [run_inl h, hend]
      simpa using hf
  | succ d ih =>
    intro i hi;have h := hb i (by omega);rw [drop_cons (by omega : i < q.length)] at h ⊢;unfold sufAny
    by_cases hf : fits p (q.getD i default :: q.drop (i + 1)) = true
    · rw [if_pos hf] at h;rw [run_inr (m := some true) h, hf]
      rfl
    · rw [if_neg hf] at h;rw [run_inl h, ih (i + 1) (by omega)];have : fits p (q.getD i default :: q.drop (i + 1)) = false := by simpa using hf
      rw [this, Bool.false_or]
theorem match_n : ∀ (p : List (List UInt8)) (n : Nat) (q : List (List UInt8)), p.length < n → q.length ≤ 1000000000000 → shapes_match_n n p q = some (fits p q)
  | [], 0, _, h, _ => by simp at h
  | _ :: _, 0, _, h, _ => by simp at h
  | [], n + 1, q, _, hq => by
    show shapes_match_body (shapes_match_n n) [] q = _
    unfold shapes_match_body fits;rw [if_pos (show ((([] : List (List UInt8)).length : Nat) : Int) = 0 from rfl)]
    congr 1
    rw [decide_eq_decide];omega
  | x :: p, n + 1, q, hp, hq => by
    show shapes_match_body (shapes_match_n n) (x :: p) q = _
    have ih : ∀ r : List (List UInt8), r.length ≤ q.length → shapes_match_n n p r = some (fits p r) := fun r hr => match_n p n r (by simp at hp; omega) (by omega);unfold shapes_match_body fits;have hg : (x :: p).getD ((0 : Int).toNat) default = x := rfl;rw [if_neg (by simp only [List.length_cons]; omega), chk_pos (by simp only [List.length_cons]; omega), hg]
    by_cases hx : x = [42, 42]
    · rw [if_pos hx, if_pos hx, chk_pos (by unfold I64; omega)];exact suf_run (x := x) hq ih q.length 0 (by omega)
    · rw [if_neg hx, if_neg hx];unfold shapes_match_body_k1
      cases q with
      | nil => rfl
      | cons y q' =>
        have h1 : (0 : Int) < ((y :: q').length : Int) := by simp only [List.length_cons]; omega
        have h2 : (0 : Int) ≤ 0 ∧ (0 : Int) < ((x :: p).length : Int) := by simp only [List.length_cons]; omega
        have h3 : (0 : Int) ≤ 1 ∧ (1 : Int) ≤ ((x :: p).length : Int) := by simp only [List.length_cons]; omega
        have h4 : (0 : Int) ≤ 1 ∧ (1 : Int) ≤ ((y :: q').length : Int) := by simp only [List.length_cons]; omega
        have h5 : (0 : Int) ≤ 0 ∧ (0 : Int) < ((y :: q').length : Int) := by simp only [List.length_cons]; omega
        have e1 : (x :: p).drop (1 : Int).toNat = p := rfl;have e2 : (y :: q').drop (1 : Int).toNat = q' := rfl;have e3 : (y :: q').getD ((0 : Int).toNat) default = y := rfl;rw [if_pos h1];simp only [chk_pos h2, chk_pos h3, chk_pos h4, chk_pos h5, hg, e1, e2, e3, ih q' (by simp), Option.bind_some]
        by_cases h6 : x = [42]
        · rw [if_pos h6]; simp [h6]
        · rw [if_neg h6]
          by_cases h7 : x = y <;> simp [h6, h7]
theorem rsuf_run {self : List (List UInt8) → List (List UInt8) → Option Bool} {p q : List (List UInt8)} {x : List UInt8} (hq : q.length ≤ 1000000000000) (hs : ∀ r : List (List UInt8), r.length ≤ q.length → self p r = some (fits p r)) :
    ∀ (d i : Nat), i + d = q.length → Go.L.run (ref4_Fits_body_bl3 (x :: p) q self) (i : Int) = some (sufAny (fun r => fits p r) (q.drop i)) := by
  have hend : Go.L.run (ref4_Fits_body_bl3 (x :: p) q self) ((q.length + 1 : Nat) : Int) = some false := by
    refine run_inr (m := some false) ?_;unfold ref4_Fits_body_bl3 ref4_Fits_body_k2;rw [if_neg (by omega)]
  have hb : ∀ i : Nat, i ≤ q.length → ref4_Fits_body_bl3 (x :: p) q self (i : Int) = if fits p (q.drop i) then some (.inr true) else some (.inl ((i + 1 : Nat) : Int)) := by
    intro i hi;unfold ref4_Fits_body_bl3;have h1 : ((x :: p).drop (1 : Int).toNat) = p := rfl;rw [if_pos (by omega), chk_pos (by simp only [List.length_cons]; omega), chk_pos (by omega), h1, Int.toNat_natCast, hs _ (by simp), Option.bind_some, chk_pos (by unfold I64; omega)]
    rfl
  intro d
  induction d with
  | zero =>
    intro i hi;obtain rfl : i = q.length := by omega
    have h := hb q.length (Nat.le_refl _);rw [List.drop_eq_nil_of_le (Nat.le_refl _)] at h ⊢;unfold sufAny
    by_cases hf : fits p [] = true
    · rw [if_pos hf] at h;rw [run_inr (m := some true) h, hf]
    · rw [if_neg hf] at h;rw [run_inl h, hend]
      simpa using hf
  | succ d ih =>
    intro i hi;have h := hb i (by omega);rw [drop_cons (by omega : i < q.length)] at h ⊢;unfold sufAny
    by_cases hf : fits p (q.getD i default :: q.drop (i + 1)) = true
    · rw [if_pos hf] at h;rw [run_inr (m := some true) h, hf]
      rfl
    · rw [if_neg hf] at h;rw [run_inl h, ih (i + 1) (by omega)];have : fits p (q.getD i default :: q.drop (i + 1)) = false := by simpa using hf
      rw [this, Bool.false_or]
theorem fits_n : ∀ (p : List (List UInt8)) (n : Nat) (q : List (List UInt8)), p.length < n → q.length ≤ 1000000000000 → ref4_Fits_n n p q = some (fits p q)
  | [], 0, _, h, _ => by simp at h
  | _ :: _, 0, _, h, _ => by simp at h
  | [], n + 1, q, _, hq => by
    show ref4_Fits_body (ref4_Fits_n n) [] q = _
    unfold ref4_Fits_body fits;rw [if_pos (show ((([] : List (List UInt8)).length : Nat) : Int) = 0 from rfl)]
    congr 1
    rw [decide_eq_decide];omega
  | x :: p, n + 1, q, hp, hq => by
    show ref4_Fits_body (ref4_Fits_n n) (x :: p) q = _
    have ih : ∀ r : List (List UInt8), r.length ≤ q.length → ref4_Fits_n n p r = some (fits p r) := fun r hr => fits_n p n r (by simp at hp; omega) (by omega);unfold ref4_Fits_body fits;have hg : (x :: p).getD ((0 : Int).toNat) default = x := rfl;rw [if_neg (by simp only [List.length_cons]; omega), chk_pos (by simp only [List.length_cons]; omega), hg]
    by_cases hx : x = [42, 42]
    · rw [if_pos hx, if_pos hx];exact rsuf_run (x := x) hq ih q.length 0 (by omega)
    · rw [if_neg hx, if_neg hx];unfold ref4_Fits_body_k1
      cases q with
      | nil => rfl
      | cons y q' =>
        have h1 : (0 : Int) < ((y :: q').length : Int) := by simp only [List.length_cons]; omega
        have h2 : (0 : Int) ≤ 0 ∧ (0 : Int) < ((x :: p).length : Int) := by simp only [List.length_cons]; omega
        have h3 : (0 : Int) ≤ 1 ∧ (1 : Int) ≤ ((x :: p).length : Int) := by simp only [List.length_cons]; omega
        have h4 : (0 : Int) ≤ 1 ∧ (1 : Int) ≤ ((y :: q').length : Int) := by simp only [List.length_cons]; omega
        have h5 : (0 : Int) ≤ 0 ∧ (0 : Int) < ((y :: q').length : Int) := by simp only [List.length_cons]; omega
        have e1 : (x :: p).drop (1 : Int).toNat = p := rfl;have e2 : (y :: q').drop (1 : Int).toNat = q' := rfl;have e3 : (y :: q').getD ((0 : Int).toNat) default = y := rfl;rw [if_pos h1];simp only [chk_pos h2, chk_pos h3, chk_pos h4, chk_pos h5, hg, e1, e2, e3, ih q' (by simp), Option.bind_some]
        by_cases h6 : x = [42]
        · rw [if_pos h6]; simp [h6]
        · rw [if_neg h6]
          by_cases h7 : x = y <;> simp [h6, h7]
theorem m1_eq (a b : List UInt8) : shapes_matches_1 a b = some (decide (a = [42, 42] ∧ b = [42, 42])) := by
  unfold shapes_matches_1
  by_cases h : a = [42, 42] <;> simp [h]
/-- The steps of a pattern, of some steps "**" in a row one. -/
def col (l : List (List UInt8)) : List (List UInt8) := kept l l.length
theorem col_len (l : List (List UInt8)) : (col l).length ≤ l.length := kept_len l l.length
theorem cf_in {l : List (List UInt8)} (hl : l.length ≤ 1000000000000) {k0 : Nat} (h0 : 1 ≤ k0) (hk : k0 < l.length) (hall : ∀ j, j < k0 → kp l j = true) (hno : kp l k0 = false) :
    slices_CompactFunc_string_string_l5 (k0 : Int) (l, (k0 : Int), (1 : Int)) = some (.inr (col l)) := by
  unfold slices_CompactFunc_string_string_l5;refine run_inv (fun s => ∃ (m : List (List UInt8)) (k k2 : Nat), s = (m, (k : Int), (k2 : Int)) ∧ m.length = l.length ∧ m.drop (k0 + k2 - 1) = l.drop (k0 + k2 - 1) ∧ m.take k = kept l (k0 + k2) ∧ k = (kept l (k0 + k2)).length ∧ k ≤ k0 + k2 - 1 ∧ 1 ≤ k2 ∧ k0 + k2 ≤ l.length) (fun s => l.length - s.2.2.toNat) ?_ ?_
  · rintro _ ⟨m, k, k2, rfl, hm, hd, ht, hkl, hkk, h2, hle⟩;have hdl : (m.drop k0).length = l.length - k0 := by rw [List.length_drop, hm]
    by_cases hc : k0 + k2 < l.length
    · left
      have g1 : (m.drop k0).getD k2 default = l.getD (k0 + k2) default := by
        have : (m.drop (k0 + k2 - 1))[1]? = (l.drop (k0 + k2 - 1))[1]? := by rw [hd]
        rw [List.getElem?_drop, List.getElem?_drop, show k0 + k2 - 1 + 1 = k0 + k2 by omega] at this;rw [List.getD_eq_getElem?_getD, List.getD_eq_getElem?_getD, List.getElem?_drop, this]
      have g2 : (m.drop k0).getD (k2 - 1) default = l.getD (k0 + k2 - 1) default := by
        have : (m.drop (k0 + k2 - 1))[0]? = (l.drop (k0 + k2 - 1))[0]? := by rw [hd]
        rw [List.getElem?_drop, List.getElem?_drop, Nat.add_zero] at this;rw [List.getD_eq_getElem?_getD, List.getD_eq_getElem?_getD, List.getElem?_drop, show k0 + (k2 - 1) = k0 + k2 - 1 by omega, this]
      have hks := kept_succ l (k0 + k2)
      by_cases hp : kp l (k0 + k2) = true
      · refine ⟨(m.set k (l.getD (k0 + k2) default), ((k + 1 : Nat) : Int), ((k2 + 1 : Nat) : Int)), ?_, ⟨_, k + 1, k2 + 1, rfl, by rw [List.length_set, hm], ?_, ?_, ?_, by omega, by omega, by omega⟩, by simp only [Int.toNat_natCast]; omega⟩
        · unfold slices_CompactFunc_string_string_bl5;dsimp only;rw [Int.toNat_natCast, if_pos (by omega), chk_pos (by omega), chk_pos (by unfold I64; omega), chk_pos (by omega), Int.toNat_natCast, show ((k2 : Int) - 1).toNat = k2 - 1 by omega, g1, g2, m1_eq, Option.bind_some]
          have hx : decide (l.getD (k0 + k2) default = [42, 42] ∧ l.getD (k0 + k2 - 1) default = [42, 42]) = false := by
            unfold kp at hp;rw [decide_eq_true_eq] at hp;rw [decide_eq_false_iff_not]
            rcases hp with hp | hp
            · omega
            · exact hp
          rw [hx, if_pos (by decide), chk_pos (by omega), chk_pos (by omega), chk_pos (by unfold I64; omega), chk_pos (by unfold I64; omega), Int.toNat_natCast]
          rfl
        · rw [show k0 + (k2 + 1) - 1 = k0 + k2 by omega, List.drop_set_of_lt (by omega)];have : (m.drop (k0 + k2 - 1)).drop 1 = (l.drop (k0 + k2 - 1)).drop 1 := by rw [hd]
          rwa [List.drop_drop, List.drop_drop, show k0 + k2 - 1 + 1 = k0 + k2 by omega] at this
        · rw [show k0 + (k2 + 1) = k0 + k2 + 1 by omega, hks, if_pos hp, List.take_add_one, List.take_set_of_le (Nat.le_refl _), ht, List.getElem?_set_self (by omega)]
          rfl
        · rw [show k0 + (k2 + 1) = k0 + k2 + 1 by omega, hks, if_pos hp, List.length_append, ← hkl]; rfl
      · have hp' : kp l (k0 + k2) = false := by simpa using hp
        refine ⟨(m, (k : Int), ((k2 + 1 : Nat) : Int)), ?_, ⟨m, k, k2 + 1, rfl, hm, ?_, ?_, ?_, by omega, by omega, by omega⟩, by simp only [Int.toNat_natCast]; omega⟩
        · unfold slices_CompactFunc_string_string_bl5;dsimp only;rw [Int.toNat_natCast, if_pos (by omega), chk_pos (by omega), chk_pos (by unfold I64; omega), chk_pos (by omega), Int.toNat_natCast, show ((k2 : Int) - 1).toNat = k2 - 1 by omega, g1, g2, m1_eq, Option.bind_some]
          have hx : decide (l.getD (k0 + k2) default = [42, 42] ∧ l.getD (k0 + k2 - 1) default = [42, 42]) = true := by
            unfold kp at hp';rw [decide_eq_false_iff_not] at hp';rw [decide_eq_true_eq];exact Decidable.not_not.1 (fun hh => hp' (.inr hh))
          rw [hx, if_neg (by decide), chk_pos (by unfold I64; omega)]
          rfl
        · rw [show k0 + (k2 + 1) - 1 = k0 + k2 by omega];have : (m.drop (k0 + k2 - 1)).drop 1 = (l.drop (k0 + k2 - 1)).drop 1 := by rw [hd]
          rwa [List.drop_drop, List.drop_drop, show k0 + k2 - 1 + 1 = k0 + k2 by omega] at this
        · rw [show k0 + (k2 + 1) = k0 + k2 + 1 by omega, hks, hp']
          simpa using ht
        · rw [show k0 + (k2 + 1) = k0 + k2 + 1 by omega, hks, hp']
          simpa using hkl
    · right
      have he : k0 + k2 = l.length := by omega
      unfold slices_CompactFunc_string_string_bl5 slices_CompactFunc_string_string_k4;dsimp only;rw [Int.toNat_natCast, if_neg (by omega), Int.toNat_natCast, chk_pos (by omega), chk_pos (by simp; omega)]
      congr 1
      have htl : (m.take k).length = k := by rw [List.length_take]; omega
      rw [show (m.take k ++ List.replicate (m.length - k) ([] : List UInt8)).take k = m.take k by rw [List.take_append_of_le_length (by omega), List.take_of_length_le (by omega)], ht, he]
      rfl
  · have hks := kept_succ l k0;have hka := kept_all (l := l) (m := k0) (by omega) hall;refine ⟨l, k0, 1, rfl, rfl, rfl, ?_, ?_, by omega, by omega, by omega⟩
    · rw [hks, hno, hka]; simp
    · rw [hks, hno, hka]; simp; omega
theorem cf_out {l : List (List UInt8)} (hl : l.length ≤ 1000000000000) : ∀ (d k : Nat), k + d = l.length → 1 ≤ k → (∀ j, j < k → kp l j = true) → Go.L.run slices_CompactFunc_string_string_bl2 (l, (k : Int)) = some (col l) := by
  intro d
  induction d with
  | zero =>
    intro k hk h1 hall;refine run_inr (m := some (col l)) ?_;unfold slices_CompactFunc_string_string_bl2 slices_CompactFunc_string_string_k1;dsimp only;rw [if_neg (by omega)];unfold col;rw [kept_all (Nat.le_refl _) (fun j hj => hall j (by omega)), List.take_length]
  | succ d ih =>
    intro k hk h1 hall
    by_cases hp : kp l k = true
    · have hb : slices_CompactFunc_string_string_bl2 (l, (k : Int)) = some (.inl (l, ((k + 1 : Nat) : Int))) := by
        unfold slices_CompactFunc_string_string_bl2;dsimp only;rw [if_pos (by omega), chk_pos (by omega), chk_pos (by unfold I64; omega), chk_pos (by omega), Int.toNat_natCast, show ((k : Int) - 1).toNat = k - 1 by omega, m1_eq, Option.bind_some]
        have hx : decide (l.getD k default = [42, 42] ∧ l.getD (k - 1) default = [42, 42]) = false := by
          unfold kp at hp;rw [decide_eq_true_eq] at hp;rw [decide_eq_false_iff_not]
          rcases hp with hp | hp
          · omega
          · exact hp
        rw [hx, if_neg (by decide)];unfold slices_CompactFunc_string_string_k3;rw [chk_pos (by unfold I64; omega)]
        rfl
      rw [run_inl hb];refine ih (k + 1) (by omega) (by omega) (fun j hj => ?_)
      rcases Nat.lt_succ_iff_lt_or_eq.1 hj with h | rfl
      · exact hall j h
      · exact hp
    · have hp' : kp l k = false := by simpa using hp
      refine run_inr (m := some (col l)) ?_;unfold slices_CompactFunc_string_string_bl2;dsimp only;rw [if_pos (by omega), chk_pos (by omega), chk_pos (by unfold I64; omega), chk_pos (by omega), Int.toNat_natCast, show ((k : Int) - 1).toNat = k - 1 by omega, m1_eq, Option.bind_some]
      have hx : decide (l.getD k default = [42, 42] ∧ l.getD (k - 1) default = [42, 42]) = true := by
        unfold kp at hp';rw [decide_eq_false_iff_not] at hp';rw [decide_eq_true_eq];exact Decidable.not_not.1 (fun hh => hp' (.inr hh))
      rw [hx, if_pos rfl, chk_pos (by omega), cf_in hl h1 (by omega) hall hp']
      rfl
theorem cfunc_eq {l : List (List UInt8)} (hl : l.length ≤ 1000000000000) : slices_CompactFunc_string_string l = some (col l) := by
  unfold slices_CompactFunc_string_string
  have h0 : ∀ j, j < 1 → kp l j = true := fun j hj => by
    have : j = 0 := by omega
    subst this;unfold kp; simp
  by_cases h : (l.length : Int) < 2
  · rw [if_pos h];unfold col;rw [kept_all (Nat.le_refl _) (fun j hj => h0 j (by omega)), List.take_length]
  · rw [if_neg h];exact cf_out hl (l.length - 1) 1 (by omega) (Nat.le_refl _) h0
theorem rmatch_eq {a b : List UInt8} (ha : a.length < 900) (hb : b.length ≤ 100000000000) : ref4_Matches a b = some (fits (col (sl a)) (sl b)) := by
  unfold ref4_Matches;have hla := sl_len a;have hlb := sl_len b;rw [ref_steps (by omega), Option.bind_some];unfold ref4_Matches_l2;generalize hX : sl a = l at *;have hk0 : kept l 0 = [] := rfl;refine run_count (fun i => (kept l i, ((i : Nat) : Int))) l.length (fun i hi => ?_) ?_ 0 (Nat.zero_le _)
  · have hkl := kept_len l i;unfold ref4_Matches_bl2;simp only [Int.toNat_natCast];have hc : Go.E.Cap 16 ((kept l i).length + [l.getD i default].length) := by unfold Go.E.Cap; simp; omega
    have h64 : I64 ((i : Int) + 1) := by unfold I64; omega
    have hin : 0 ≤ (i : Int) ∧ (i : Int) < (l.length : Int) := by omega
    rw [if_pos (by omega), chk_pos hin];simp only [chk_pos hc, chk_pos h64, chk_pos hin]
    cases i with
    | zero =>
      have hkk : kp l 0 = true := by unfold kp; simp
      rw [kept_succ, hkk, if_pos rfl]
      by_cases hx : l.getD 0 default = [42, 42]
      · rw [if_pos hx, if_pos (by rw [hk0]; rfl)]; rfl
      · rw [if_neg hx]; rfl
    | succ m =>
      obtain ⟨k1, k2⟩ := kept_last l m;have k3 : 0 < (kept l (m + 1)).length := List.length_pos_iff.2 k1;rw [kept_succ l (m + 1)];have hnat : (((kept l (m + 1)).length : Int) - 1).toNat = (kept l (m + 1)).length - 1 := by omega
      by_cases hx : l.getD (m + 1) default = [42, 42]
      · rw [if_pos hx, if_neg (by omega), chk_pos (by unfold I64; omega), chk_pos (by omega), hnat]
        by_cases hy : l.getD m default = [42, 42]
        · have hkk : kp l (m + 1) = false := by unfold kp; rw [decide_eq_false_iff_not]; simp only [Nat.add_sub_cancel]; rintro (h | h); omega; exact h ⟨hx, hy⟩
          rw [if_pos (k2.2 hy), hkk];simp
        · have hkk : kp l (m + 1) = true := by unfold kp; rw [decide_eq_true_eq]; exact .inr (fun h => hy h.2)
          rw [if_neg (fun h => hy (k2.1 h)), hkk]
          rfl
      · have hkk : kp l (m + 1) = true := by unfold kp; rw [decide_eq_true_eq]; exact .inr (fun h => hx h.1)
        rw [if_neg hx, hkk]
        rfl
  · unfold ref4_Matches_bl2 ref4_Matches_k1;dsimp only;rw [if_neg (by omega), ref_steps (by omega), Option.bind_some]
    congr 1
    have := col_len l;have hf : ref4_Fits (kept l l.length) (sl b) = some (fits (col l) (sl b)) := fits_n (col l) 1000 (sl b) (by omega) (by omega);rw [hf]
    rfl
theorem matches_eq {a b : List UInt8} (ha : a.length < 900) (hb : b.length < 4294967281) : shapes_matches a b = some (fits (col (sl a)) (sl b)) := by
  unfold shapes_matches;have hla := sl_len a;have hlb := sl_len b;have := col_len (sl a);rw [steps_eq (by omega), Option.bind_some, cfunc_eq (by omega), Option.bind_some, steps_eq (by omega), Option.bind_some];have hf : shapes_match (col (sl a)) (sl b) = some (fits (col (sl a)) (sl b)) := match_n (col (sl a)) 1000 (sl b) (by omega) (by omega);rw [hf]
  rfl
theorem pf_zero (a : List UInt8) : (pf a).1 = 0 → pf a = (0, 0) ∧ a.length ≤ 64 := by
  unfold pf
  split
  · intro h; simp at h
  · split
    · intro h; simp at h
    · intro _; exact ⟨rfl, by omega⟩
end Go.Proofs.YtmfiaecglndldaaGreatDoor
end
section
namespace Go.Proofs.YtmfiaecglndldaaGreatDoor
open Go Go.E Go.RowKit
set_option maxHeartbeats 1000000
set_option maxRecDepth 10000
open _root_.Go.Proofs.Tryz
noncomputable def slices_Index_int_int_k1 : Option (Int) :=
 some ((-1 : Int))
noncomputable def slices_Index_int_int_bl2 (a0 : List Int) (a1 : Int) : Int → Option ((Int) ⊕ (Int)) := fun s8_25 =>
 if s8_25 < (a0.length : Int) then Go.L.chk (0 ≤ s8_25 ∧ s8_25 < (a0.length : Int)) (if a1 = a0.getD s8_25.toNat default then Option.map Sum.inr (some (s8_25)) else Go.L.chk (Go.L.I64 (s8_25 + (1 : Int))) (some (Sum.inl (s8_25 + (1 : Int))))) else Option.map Sum.inr (slices_Index_int_int_k1)
noncomputable def slices_Index_int_int_l2 (a0 : List Int) (a1 : Int) (s : Int) : Option (Int) := Go.L.run (slices_Index_int_int_bl2 a0 a1) s
noncomputable def slices_Index_int_int (a0 : List Int) (a1 : Int) : Option (Int) :=
 (slices_Index_int_int_l2 a0 a1) (0 : Int)
theorem slices_Index_int_int_ok (w : World) (H : PH) (hH : Le H (hp w)) {a0 : List Int} {a1 : Int} {v0_0 : Value} (h0_0 : Vec (.int .i64) H v0_0 (a0)) {r : Int} (h : slices_Index_int_int a0 a1 = some r) :
  Ok Tryz.prog 175 [v0_0, .int .i64 a1] w (fun v w' => Ext w w' ∧ v = .int .i64 r) := by
 refine Ok_enter (n := 19) [(0, v0_0), (1, .int .i64 a1)] func175 rfl rfl rfl rfl rfl ?_;have hL := Lcl.start w;refine W_pz 1 rfl ?_;refine W_cut (σ := Unit) (fun (_ : Unit) => []) (fun (_ : Unit) wr => Lcl w [] wr ∧ slices_Index_int_int_k1 = some r) ?_ ?_
 ·refine W_p 1 rfl ?_;refine S_v (r_len rfl underlying52 h0_0) rfl ?_;refine S_pz 1 rfl ?_;refine W_block ?_;obtain ⟨n26, h⟩ := Go.L.run_some h;refine W_loop (σ := Int × Nat) (fun ⟨s8_25, n⟩ => [(0, v0_0), (1, .int .i64 a1), (7, .int .i64 (a0.length : Int)), (8, .int .i64 s8_25)]) (fun ⟨s8_25, n⟩ wr => Lcl w [] wr ∧ Go.L.itr (slices_Index_int_int_bl2 a0 a1) n s8_25 = some r) (fun ⟨s8_25, n⟩ => n) ((0 : Int), n26) (.cons rfl (.cons rfl (.cons rfl (.cons rfl (Sub.nil _))))) ⟨hL, h⟩ ?_;rintro ⟨s8_25, nn26⟩ wr26 ⟨hL26, h⟩;obtain ⟨n26, e26, rfl, h, hm26⟩ := Go.L.itr_some h;refine W_pz 1 rfl ?_;refine W_seq ?_;refine W_if rfl (fun hc28 => ?_) (fun hc28 => ?_)
  ·replace h := Go.L.ite_p hc28 h;refine W_skip ?_;refine At_seq ?_;refine W_seq ?_;refine W_block ?_;refine W_pz 2 rfl ?_;refine W_p 3 rfl ?_;obtain ⟨hk31, h⟩ := Go.L.chk_some h;refine S_index rfl rfl underlying52 zr3 h0_0 s8_25.toNat (Int.toNat_of_nonneg hk31.1).symm (idx_lt hk31) rfl ?_;rintro p30 _ rfl hp30;refine S_v (r_load1 rfl underlying3 rfl hp30 (hH.trans hL26.arg)) rfl ?_;refine S_pz 1 rfl ?_;refine W_if rfl (fun hc32 => ?_) (fun hc32 => ?_)
   ·replace h := Go.L.ite_p hc32 h;refine W_pz 2 rfl ?_;refine W_ret ?_;refine At_block_ret ?_;refine At_seq_ret ?_;refine At_loop_ret ?_;replace h := Go.L.Nxt.out h hm26;refine At_block_ret ?_;refine At_cut_ret ?_;obtain rfl := Option.some.inj h;refine At_body rfl rfl ?_;exact ⟨hL26.ext, rfl⟩
   ·replace h := Go.L.ite_n hc32 h;refine W_skip ?_;refine At_block ?_;refine At_seq ?_;refine W_region ?_;obtain ⟨hk35, h⟩ := Go.L.chk_some h;refine S_v (r_ar64 rfl rfl rfl hk35) rfl ?_;refine S_pu 1 rfl ?_;refine S_nil ?_;have h := Go.L.Nxt.again h hm26;refine At_round ((s8_25 + (1 : Int)), n26) (.cons rfl (.cons rfl (.cons rfl (.cons rfl (Sub.nil _))))) ⟨hL26, h⟩ (Nat.lt_succ_self _)
  ·replace h := Go.L.ite_n hc28 h;refine W_exit ?_;refine At_seq_exit ?_;refine At_loop_exit ?_;replace h := Go.L.Nxt.out h hm26;refine At_exit ?_;refine At_cut () (Sub.nil _) ⟨hL26, h⟩
 ·rintro _ wr13 ⟨hL13, h⟩;refine W_pz 1 rfl ?_;refine W_ret ?_;obtain rfl := Option.some.inj h;refine At_body rfl rfl ?_;exact ⟨hL13.ext, rfl⟩
noncomputable def slices_Contains_int_int (a0 : List Int) (a1 : Int) : Option (Bool) :=
 Option.bind (slices_Index_int_int a0 a1) (fun x1 => some (decide ((0 : Int) ≤ x1)))
theorem slices_Contains_int_int_ok (w : World) (H : PH) (hH : Le H (hp w)) {a0 : List Int} {a1 : Int} {v0_0 : Value} (h0_0 : Vec (.int .i64) H v0_0 (a0)) {r : Bool} (h : slices_Contains_int_int a0 a1 = some r) :
  Ok Tryz.prog 153 [v0_0, .int .i64 a1] w (fun v w' => Ext w w' ∧ v = .bool r) := by
 refine Ok_enter (n := 9) [(0, v0_0), (1, .int .i64 a1)] func153 rfl rfl rfl rfl rfl ?_;have hL := Lcl.start w;refine W_pz 1 rfl ?_;refine W_p 2 rfl ?_;obtain ⟨x1, hb1, h⟩ := Go.L.bind_some h;refine S_callL rfl rfl hL (slices_Index_int_int_ok _ _ (gz_le hH hL) (h0_0.mono (gz_left hH)) hb1) ?_;rintro _ w2 rfl hx2 hL2 hle2;refine S_pz 2 rfl ?_;refine W_ret ?_;obtain rfl := Option.some.inj h;refine At_body rfl rfl ?_;exact ⟨hL2.ext, rfl⟩
noncomputable def slices_Index_string_string_k1 : Option (Int) :=
 some ((-1 : Int))
noncomputable def slices_Index_string_string_bl2 (a0 : List (List UInt8)) (a1 : List UInt8) : Int → Option ((Int) ⊕ (Int)) := fun s8_25 =>
 if s8_25 < (a0.length : Int) then Go.L.chk (0 ≤ s8_25 ∧ s8_25 < (a0.length : Int)) (if a1 = a0.getD s8_25.toNat default then Option.map Sum.inr (some (s8_25)) else Go.L.chk (Go.L.I64 (s8_25 + (1 : Int))) (some (Sum.inl (s8_25 + (1 : Int))))) else Option.map Sum.inr (slices_Index_string_string_k1)
noncomputable def slices_Index_string_string_l2 (a0 : List (List UInt8)) (a1 : List UInt8) (s : Int) : Option (Int) := Go.L.run (slices_Index_string_string_bl2 a0 a1) s
noncomputable def slices_Index_string_string (a0 : List (List UInt8)) (a1 : List UInt8) : Option (Int) :=
 (slices_Index_string_string_l2 a0 a1) (0 : Int)
theorem slices_Index_string_string_ok (w : World) (H : PH) (hH : Le H (hp w)) {a0 : List (List UInt8)} {a1 : List UInt8} {v0_0 : Value} (h0_0 : Vec .st H v0_0 (a0)) {r : Int} (h : slices_Index_string_string a0 a1 = some r) :
  Ok Tryz.prog 176 [v0_0, .string ⟨(a1).toArray⟩] w (fun v w' => Ext w w' ∧ v = .int .i64 r) := by
 refine Ok_enter (n := 19) [(0, v0_0), (1, .string ⟨(a1).toArray⟩)] func176 rfl rfl rfl rfl rfl ?_;have hL := Lcl.start w;refine W_pz 1 rfl ?_;refine W_cut (σ := Unit) (fun (_ : Unit) => []) (fun (_ : Unit) wr => Lcl w [] wr ∧ slices_Index_string_string_k1 = some r) ?_ ?_
 ·refine W_p 1 rfl ?_;refine S_v (r_len rfl underlying30 h0_0) rfl ?_;refine S_pz 1 rfl ?_;refine W_block ?_;obtain ⟨n26, h⟩ := Go.L.run_some h;refine W_loop (σ := Int × Nat) (fun ⟨s8_25, n⟩ => [(0, v0_0), (1, .string ⟨(a1).toArray⟩), (7, .int .i64 (a0.length : Int)), (8, .int .i64 s8_25)]) (fun ⟨s8_25, n⟩ wr => Lcl w [] wr ∧ Go.L.itr (slices_Index_string_string_bl2 a0 a1) n s8_25 = some r) (fun ⟨s8_25, n⟩ => n) ((0 : Int), n26) (.cons rfl (.cons rfl (.cons rfl (.cons rfl (Sub.nil _))))) ⟨hL, h⟩ ?_;rintro ⟨s8_25, nn26⟩ wr26 ⟨hL26, h⟩;obtain ⟨n26, e26, rfl, h, hm26⟩ := Go.L.itr_some h;refine W_pz 1 rfl ?_;refine W_seq ?_;refine W_if rfl (fun hc28 => ?_) (fun hc28 => ?_)
  ·replace h := Go.L.ite_p hc28 h;refine W_skip ?_;refine At_seq ?_;refine W_seq ?_;refine W_block ?_;refine W_pz 2 rfl ?_;refine W_p 3 rfl ?_;obtain ⟨hk31, h⟩ := Go.L.chk_some h;refine S_index rfl rfl underlying30 zr9 h0_0 s8_25.toNat (Int.toNat_of_nonneg hk31.1).symm (idx_lt hk31) rfl ?_;rintro p30 _ rfl hp30;refine S_v (r_load1 rfl underlying9 rfl hp30 (hH.trans hL26.arg)) rfl ?_;refine S_v (r_seq rfl rfl) rfl ?_;refine S_seqnil ?_;refine W_if rfl (fun hc32 => ?_) (fun hc32 => ?_)
   ·replace h := Go.L.ite_p hc32 h;refine W_pz 2 rfl ?_;refine W_ret ?_;refine At_block_ret ?_;refine At_seq_ret ?_;refine At_loop_ret ?_;replace h := Go.L.Nxt.out h hm26;refine At_block_ret ?_;refine At_cut_ret ?_;obtain rfl := Option.some.inj h;refine At_body rfl rfl ?_;exact ⟨hL26.ext, rfl⟩
   ·replace h := Go.L.ite_n hc32 h;refine W_skip ?_;refine At_block ?_;refine At_seq ?_;refine W_region ?_;obtain ⟨hk35, h⟩ := Go.L.chk_some h;refine S_v (r_ar64 rfl rfl rfl hk35) rfl ?_;refine S_pu 1 rfl ?_;refine S_nil ?_;have h := Go.L.Nxt.again h hm26;refine At_round ((s8_25 + (1 : Int)), n26) (.cons rfl (.cons rfl (.cons rfl (.cons rfl (Sub.nil _))))) ⟨hL26, h⟩ (Nat.lt_succ_self _)
  ·replace h := Go.L.ite_n hc28 h;refine W_exit ?_;refine At_seq_exit ?_;refine At_loop_exit ?_;replace h := Go.L.Nxt.out h hm26;refine At_exit ?_;refine At_cut () (Sub.nil _) ⟨hL26, h⟩
 ·rintro _ wr13 ⟨hL13, h⟩;refine W_pz 1 rfl ?_;refine W_ret ?_;obtain rfl := Option.some.inj h;refine At_body rfl rfl ?_;exact ⟨hL13.ext, rfl⟩
noncomputable def slices_Contains_string_string (a0 : List (List UInt8)) (a1 : List UInt8) : Option (Bool) :=
 Option.bind (slices_Index_string_string a0 a1) (fun x1 => some (decide ((0 : Int) ≤ x1)))
theorem slices_Contains_string_string_ok (w : World) (H : PH) (hH : Le H (hp w)) {a0 : List (List UInt8)} {a1 : List UInt8} {v0_0 : Value} (h0_0 : Vec .st H v0_0 (a0)) {r : Bool} (h : slices_Contains_string_string a0 a1 = some r) :
  Ok Tryz.prog 155 [v0_0, .string ⟨(a1).toArray⟩] w (fun v w' => Ext w w' ∧ v = .bool r) := by
 refine Ok_enter (n := 9) [(0, v0_0), (1, .string ⟨(a1).toArray⟩)] func155 rfl rfl rfl rfl rfl ?_;have hL := Lcl.start w;refine W_pz 1 rfl ?_;refine W_p 2 rfl ?_;obtain ⟨x1, hb1, h⟩ := Go.L.bind_some h;refine S_callL rfl rfl hL (slices_Index_string_string_ok _ _ (gz_le hH hL) (h0_0.mono (gz_left hH)) hb1) ?_;rintro _ w2 rfl hx2 hL2 hle2;refine S_pz 2 rfl ?_;refine W_ret ?_;obtain rfl := Option.some.inj h;refine At_body rfl rfl ?_;exact ⟨hL2.ext, rfl⟩
noncomputable def value_checkNode_1 (a0 : List Int) (a1 : Go.L.Pv) : Option (Bool × Go.L.Pv) :=
 Option.bind (slices_Contains_int_int a0 a1.f.1) (fun x2 => some (x2, a1))
theorem value_checkNode_1_fr {w0 w : World} {H : PH} (hH : Le H (hp w0)) {O : List Res} {a0 : List Int} {a1 : Go.L.Pv} {va0 : Value} {ba1 : Nat} {va1_2 : Value} {va1_3 : Value} {va1_4 : Value} (hL : Lcl w0 (HAppend.hAppend ([.box ba1 [.int .i64 a1.f.1, .int .i64 a1.f.2.1, va1_2, va1_3, va1_4] 38] : List Res) O) w) (ha0 : Vec (.int .i64) (gz H w0 w (HAppend.hAppend ([.box ba1 [.int .i64 a1.f.1, .int .i64 a1.f.2.1, va1_2, va1_3, va1_4] 38] : List Res) O)) va0 (a0)) (ha1_2 : Vec .byte (gz H w0 w (HAppend.hAppend ([.box ba1 [.int .i64 a1.f.1, .int .i64 a1.f.2.1, va1_2, va1_3, va1_4] 38] : List Res) O)) va1_2 (a1.f.2.2.1)) (ha1_3 : Vec .st (gz H w0 w (HAppend.hAppend ([.box ba1 [.int .i64 a1.f.1, .int .i64 a1.f.2.1, va1_2, va1_3, va1_4] 38] : List Res) O)) va1_3 (a1.f.2.2.2.1)) (ha1_4 : Vec .tree (gz H w0 w (HAppend.hAppend ([.box ba1 [.int .i64 a1.f.1, .int .i64 a1.f.2.1, va1_2, va1_3, va1_4] 38] : List Res) O)) va1_4 (a1.f.2.2.2.2)) {r : Bool × Go.L.Pv} (h : value_checkNode_1 a0 a1 = some r) :
  Ok Tryz.prog 152 [va0, .pointer (some ⟨ba1, 0, none⟩)] w (fun v w' => ∃ (u3 : Value) (u4 : Value) (u5 : Value), v = .bool r.1 ∧ Lcl w0 (HAppend.hAppend ([.box ba1 [.int .i64 r.2.f.1, .int .i64 r.2.f.2.1, u3, u4, u5] 38] : List Res) O) w' ∧ Le (fz w (HAppend.hAppend ([.box ba1 [.int .i64 a1.f.1, .int .i64 a1.f.2.1, va1_2, va1_3, va1_4] 38] : List Res) O)) (fz w' (HAppend.hAppend ([.box ba1 [.int .i64 r.2.f.1, .int .i64 r.2.f.2.1, u3, u4, u5] 38] : List Res) O)) ∧ Vec .byte (gz H w0 w' (HAppend.hAppend ([.box ba1 [.int .i64 r.2.f.1, .int .i64 r.2.f.2.1, u3, u4, u5] 38] : List Res) O)) u3 (r.2.f.2.2.1) ∧ Vec .st (gz H w0 w' (HAppend.hAppend ([.box ba1 [.int .i64 r.2.f.1, .int .i64 r.2.f.2.1, u3, u4, u5] 38] : List Res) O)) u4 (r.2.f.2.2.2.1) ∧ Vec .tree (gz H w0 w' (HAppend.hAppend ([.box ba1 [.int .i64 r.2.f.1, .int .i64 r.2.f.2.1, u3, u4, u5] 38] : List Res) O)) u5 (r.2.f.2.2.2.2)) := by
 refine Ok_enter (n := 8) [(0, va0), (1, .pointer (some ⟨ba1, 0, none⟩))] func152 rfl rfl rfl rfl rfl ?_;have hT := Le.refl (fz w (HAppend.hAppend ([.box ba1 [.int .i64 a1.f.1, .int .i64 a1.f.2.1, va1_2, va1_3, va1_4] 38] : List Res) O));have hG1 := hL.rG H;refine W_pz 1 rfl ?_;refine W_p 1 rfl ?_;refine S_v (r_field rfl underlying38 rfl zr3 (by decide)) rfl ?_;refine S_v (r_loadB1 0 rfl underlying3 rfl hL rfl rfl) rfl ?_;obtain ⟨x2, hb2, h⟩ := Go.L.bind_some h;refine S_callL rfl rfl hL (slices_Contains_int_int_ok _ _ (gz_le hH hL) (ha0.mono hG1) hb2) ?_;rintro _ w3 rfl hx3 hL3 hle3;replace hG1 := hG1.trans (gz_mono hH hle3);replace hT := hT.trans hle3;refine S_pz 1 rfl ?_;refine W_ret ?_;obtain rfl := Option.some.inj h;refine At_body rfl rfl ?_;exact ⟨va1_2, va1_3, va1_4, rfl, hL3, hT, (ha1_2.mono hG1), (ha1_3.mono hG1), (ha1_4.mono hG1)⟩
noncomputable def value_checkNode_k5 : Option (Int) :=
 some ((0 : Int))
noncomputable def value_checkNode_bl6 (c87 : List (List UInt8)) : Int → Option ((Int) ⊕ (Int)) := fun s76_257 =>
 if s76_257 < (c87.length : Int) then Go.L.chk (0 ≤ s76_257 ∧ s76_257 < (c87.length : Int)) (Go.L.chk (0 ≤ s76_257 ∧ s76_257 ≤ (c87.length : Int)) (Option.bind (slices_Contains_string_string (c87.take s76_257.toNat) (c87.getD s76_257.toNat default)) (fun x267 => if x267 then Option.map Sum.inr (some ((8 : Int))) else Go.L.chk (Go.L.I64 (s76_257 + (1 : Int))) (some (Sum.inl (s76_257 + (1 : Int))))))) else Option.map Sum.inr (value_checkNode_k5)
noncomputable def value_checkNode_l6 (c87 : List (List UInt8)) (s : Int) : Option (Int) := Go.L.run (value_checkNode_bl6 c87) s
noncomputable def value_checkNode_k1 (_c84 : Int) (_c85 : Int) (_c86 : List UInt8) (c87 : List (List UInt8)) (c88 : List Go.L.Pv) (s12_89 : Bool) : Option (Int) :=
 if s12_89 then some ((6 : Int)) else (if (600 : Int) < (c88.length : Int) then some ((14 : Int)) else Option.bind (conf_checkNode_2 c87) (fun x205 => if x205 then some ((7 : Int)) else (value_checkNode_l6 c87) (0 : Int)))
noncomputable def value_checkNode_k4 (c154 : Int) (c155 : Int) (c156 : List UInt8) (c157 : List (List UInt8)) (c158 : List Go.L.Pv) (s12_159 : Bool) : Option (Int) :=
 if s12_159 then value_checkNode_k1 c154 c155 c156 c157 c158 s12_159 else (if (0 : Int) < (c158.length : Int) then Option.bind (value_checkNode_1 ([(3 : Int), (4 : Int)]) (Go.L.Pv.mk c154 c155 c156 c157 c158)) (fun x177 => if !x177.1 then value_checkNode_k1 x177.2.f.1 x177.2.f.2.1 x177.2.f.2.2.1 x177.2.f.2.2.2.1 x177.2.f.2.2.2.2 (!x177.1) else Option.bind (value_checkNode_1 ([(4 : Int)]) x177.2) (fun x184 => if x184.1 then value_checkNode_k1 x184.2.f.1 x184.2.f.2.1 x184.2.f.2.2.1 x184.2.f.2.2.2.1 x184.2.f.2.2.2.2 (!decide ((x184.2.f.2.2.2.1.length : Int) = (x184.2.f.2.2.2.2.length : Int))) else value_checkNode_k1 x184.2.f.1 x184.2.f.2.1 x184.2.f.2.2.1 x184.2.f.2.2.2.1 x184.2.f.2.2.2.2 false)) else Option.bind (value_checkNode_1 ([(4 : Int)]) (Go.L.Pv.mk c154 c155 c156 c157 c158)) (fun x191 => if x191.1 then value_checkNode_k1 x191.2.f.1 x191.2.f.2.1 x191.2.f.2.2.1 x191.2.f.2.2.2.1 x191.2.f.2.2.2.2 (!decide ((x191.2.f.2.2.2.1.length : Int) = (x191.2.f.2.2.2.2.length : Int))) else value_checkNode_k1 x191.2.f.1 x191.2.f.2.1 x191.2.f.2.2.1 x191.2.f.2.2.2.1 x191.2.f.2.2.2.2 false))
noncomputable def value_checkNode_k3 (c127 : Int) (c128 : Int) (c129 : List UInt8) (c130 : List (List UInt8)) (c131 : List Go.L.Pv) (s12_132 : Bool) : Option (Int) :=
 if s12_132 then value_checkNode_k1 c127 c128 c129 c130 c131 s12_132 else (if (0 : Int) < (c130.length : Int) then Option.bind (value_checkNode_1 ([(4 : Int)]) (Go.L.Pv.mk c127 c128 c129 c130 c131)) (fun x166 => value_checkNode_k4 x166.2.f.1 x166.2.f.2.1 x166.2.f.2.2.1 x166.2.f.2.2.2.1 x166.2.f.2.2.2.2 (!x166.1)) else value_checkNode_k4 c127 c128 c129 c130 c131 false)
noncomputable def value_checkNode_k2 (c100 : Int) (c101 : Int) (c102 : List UInt8) (c103 : List (List UInt8)) (c104 : List Go.L.Pv) (s12_105 : Bool) : Option (Int) :=
 if s12_105 then value_checkNode_k1 c100 c101 c102 c103 c104 s12_105 else (if (0 : Int) < (c102.length : Int) then Option.bind (value_checkNode_1 ([(2 : Int)]) (Go.L.Pv.mk c100 c101 c102 c103 c104)) (fun x139 => value_checkNode_k3 x139.2.f.1 x139.2.f.2.1 x139.2.f.2.2.1 x139.2.f.2.2.2.1 x139.2.f.2.2.2.2 (!x139.1)) else value_checkNode_k3 c100 c101 c102 c103 c104 false)
noncomputable def value_checkNode (a0 : Go.L.Pv) : Option (Int) :=
 Option.bind (value_checkNode_1 ([(1 : Int), (2 : Int), (3 : Int), (4 : Int)]) a0) (fun x3 => if !x3.1 then some ((5 : Int)) else (if x3.2.f.2.1 = (0 : Int) then value_checkNode_k2 x3.2.f.1 x3.2.f.2.1 x3.2.f.2.2.1 x3.2.f.2.2.2.1 x3.2.f.2.2.2.2 false else Option.bind (value_checkNode_1 ([(1 : Int)]) x3.2) (fun x112 => value_checkNode_k2 x112.2.f.1 x112.2.f.2.1 x112.2.f.2.2.1 x112.2.f.2.2.2.1 x112.2.f.2.2.2.2 (!x112.1))))
theorem value_checkNode_ok (w : World) (H : PH) (hH : Le H (hp w)) {a0 : Go.L.Pv} {v0_0 : Value} {v0_1 : Value} {v0_2 : Value} (h0_0 : Vec .byte H v0_0 (a0.f.2.2.1)) (h0_1 : Vec .st H v0_1 (a0.f.2.2.2.1)) (h0_2 : Vec .tree H v0_2 (a0.f.2.2.2.2)) {r : Int} (h : value_checkNode a0 = some r) :
  Ok Tryz.prog 130 [.agg #[.int .i64 a0.f.1, .int .i64 a0.f.2.1, v0_0, v0_1, v0_2]] w (fun v w' => Ext w w' ∧ v = .int .i64 r) := by
 refine Ok_enter (n := 88) [(0, .agg #[.int .i64 a0.f.1, .int .i64 a0.f.2.1, v0_0, v0_1, v0_2])] func130 rfl rfl rfl rfl rfl ?_;have hL := Lcl.start w;refine W_seqr ?_;refine S_box (t := 38) rfl rfl rfl hL ?_;intro w1 b1 hL1 hle1 _;refine S_pz 1 rfl ?_;refine W_pz 2 rfl ?_;refine W_seq ?_;refine W_block ?_;refine W_p 1 rfl ?_;refine S_litE (r := (.int .i64)) (l := [(1 : Int), (2 : Int), (3 : Int), (4 : Int)]) rfl (fun _ => bsl52_4 _ _ _ _ _) rfl (show 4 ≤ 9223372036854775807 by decide) hH hL1 (.c1 rfl (.c1 rfl (.c1 rfl (.c1 rfl .nil)))) ?_;intro v2 w2 hx2 hL2 hle2 hv2;obtain ⟨x3, hb3, h⟩ := Go.L.bind_some h;refine S_callv rfl rfl rfl (value_checkNode_1_fr (a0 := ([(1 : Int), (2 : Int), (3 : Int), (4 : Int)])) (a1 := a0) (O := []) hH hL2 hv2 (h0_0.mono (gz_left hH)) (h0_1.mono (gz_left hH)) (h0_2.mono (gz_left hH)) hb3) ?_;rintro _ w4 ⟨u4_3, u4_4, u4_5, rfl, hL4, hle4, hf4_3, hf4_4, hf4_5⟩;replace hv2 := hv2.mono (gz_mono hH hle4);refine S_pz 2 rfl ?_;refine W_cond rfl (fun hc5 => ?_) (fun hc5 => ?_)
 ·replace h := Go.L.ite_t hc5 h;have hG7 := hL4.rG H;refine W_pz 1 rfl ?_;refine W_ret ?_;refine At_block_ret ?_;refine At_seq_ret ?_;obtain rfl := Option.some.inj h;refine At_body rfl rfl ?_;exact ⟨hL4.ext, rfl⟩
 ·replace h := Go.L.ite_f hc5 h;refine W_cut (σ := Int × Int × (List UInt8) × (List (List UInt8)) × (List Go.L.Pv) × Bool × Value × Value × Value) (fun ⟨c84, c85, c86, c87, c88, s12_89, vc86, vc87, vc88⟩ => [(1, .pointer (some ⟨b1, 0, none⟩)), (12, .bool s12_89)]) (fun ⟨c84, c85, c86, c87, c88, s12_89, vc86, vc87, vc88⟩ wr => InO w [.box b1 [.int .i64 c84, .int .i64 c85, vc86, vc87, vc88] 38] wr fun Oz => Vec .byte (gz H w wr Oz) (vc86) (c86) ∧ Vec .st (gz H w wr Oz) (vc87) (c87) ∧ Vec .tree (gz H w wr Oz) (vc88) (c88) ∧ value_checkNode_k1 c84 c85 c86 c87 c88 s12_89 = some r) ?_ ?_
  ·refine W_cut (σ := Int × Int × (List UInt8) × (List (List UInt8)) × (List Go.L.Pv) × Bool × Value × Value × Value) (fun ⟨c100, c101, c102, c103, c104, s12_105, vc102, vc103, vc104⟩ => [(1, .pointer (some ⟨b1, 0, none⟩)), (3, .func (.func 152) #[] #[.pointer (some ⟨b1, 0, none⟩)]), (12, .bool s12_105)]) (fun ⟨c100, c101, c102, c103, c104, s12_105, vc102, vc103, vc104⟩ wr => InO w [.box b1 [.int .i64 c100, .int .i64 c101, vc102, vc103, vc104] 38] wr fun Oz => Vec .byte (gz H w wr Oz) (vc102) (c102) ∧ Vec .st (gz H w wr Oz) (vc103) (c103) ∧ Vec .tree (gz H w wr Oz) (vc104) (c104) ∧ value_checkNode_k2 c100 c101 c102 c103 c104 s12_105 = some r) ?_ ?_
   ·have hG108 := hL4.rG H;refine W_region ?_;refine S_v (r_field rfl underlying38 rfl zr3 (by decide)) rfl ?_;refine S_v (r_loadB1 0 rfl underlying3 rfl hL4 rfl rfl) rfl ?_;refine S_pu 2 rfl ?_;refine S_split (s := 16) rfl (fun hg109 => ?_) (fun hg109 => ?_)
    ·replace h := Go.L.ite_n (not_dec_t hg109) h;refine S_guarded rfl rfl hg109 ?_;refine S_v (RunsAt_pu rfl) rfl ?_;refine S_guarded rfl rfl hg109 ?_;refine S_litE (r := (.int .i64)) (l := [(1 : Int)]) rfl (fun _ => bsl52_1 _ _) rfl (show 1 ≤ 9223372036854775807 by decide) hH hL4 (.c1 rfl .nil) ?_;intro v111 w111 hx111 hL111 hle111 hv111;replace hG108 := hG108.trans (gz_mono hH hle111);refine S_guarded rfl rfl hg109 ?_;obtain ⟨x112, hb112, h⟩ := Go.L.bind_some h;refine S_callv rfl rfl rfl (value_checkNode_1_fr (a0 := ([(1 : Int)])) (a1 := x3.2) (O := []) hH hL111 hv111 (hf4_3.mono hG108) (hf4_4.mono hG108) (hf4_5.mono hG108) hb112) ?_;rintro _ w113 ⟨u113_3, u113_4, u113_5, rfl, hL113, hle113, hf113_3, hf113_4, hf113_5⟩;replace hv111 := hv111.mono (gz_mono hH hle113);replace hG108 := hG108.trans (gz_mono hH hle113);refine S_guarded rfl rfl hg109 ?_;refine S_v (RunsAt_pu rfl) rfl ?_;refine S_v (r_pickT rfl hg109 rfl) rfl ?_;refine S_pu 1 rfl ?_;refine S_nil ?_;refine At_cut (x112.2.f.1, x112.2.f.2.1, x112.2.f.2.2.1, x112.2.f.2.2.2.1, x112.2.f.2.2.2.2, !x112.1, u113_3, u113_4, u113_5) (.cons rfl (.cons rfl (.cons rfl (Sub.nil _)))) ⟨hL113, hf113_3, hf113_4, hf113_5, h⟩
    ·replace h := Go.L.ite_p (not_dec_f hg109) h
     iterate 4 refine S_unwanted rfl rfl hg109 rfl ?_
     refine S_v (r_pickF rfl hg109 rfl) rfl ?_;refine S_pu 1 rfl ?_;refine S_nil ?_;refine At_cut (x3.2.f.1, x3.2.f.2.1, x3.2.f.2.2.1, x3.2.f.2.2.2.1, x3.2.f.2.2.2.2, false, u4_3, u4_4, u4_5) (.cons rfl (.cons rfl (.cons rfl (Sub.nil _)))) ⟨hL4, (hf4_3.mono hG108), (hf4_4.mono hG108), (hf4_5.mono hG108), h⟩
   ·rintro ⟨c100, c101, c102, c103, c104, s12_105, vc102, vc103, vc104⟩ wr106 ⟨hL106, hfc102, hfc103, hfc104, h⟩;refine W_cond rfl (fun hc116 => ?_) (fun hc116 => ?_)
    ·replace h := Go.L.ite_t hc116 h;refine W_skip ?_;refine At_cut (c100, c101, c102, c103, c104, s12_105, vc102, vc103, vc104) (.cons rfl (.cons rfl (Sub.nil _))) ⟨hL106, hfc102, hfc103, hfc104, h⟩
    ·replace h := Go.L.ite_f hc116 h;refine W_cut (σ := Int × Int × (List UInt8) × (List (List UInt8)) × (List Go.L.Pv) × Bool × Value × Value × Value) (fun ⟨c127, c128, c129, c130, c131, s12_132, vc129, vc130, vc131⟩ => [(1, .pointer (some ⟨b1, 0, none⟩)), (3, .func (.func 152) #[] #[.pointer (some ⟨b1, 0, none⟩)]), (12, .bool s12_132)]) (fun ⟨c127, c128, c129, c130, c131, s12_132, vc129, vc130, vc131⟩ wr => InO w [.box b1 [.int .i64 c127, .int .i64 c128, vc129, vc130, vc131] 38] wr fun Oz => Vec .byte (gz H w wr Oz) (vc129) (c129) ∧ Vec .st (gz H w wr Oz) (vc130) (c130) ∧ Vec .tree (gz H w wr Oz) (vc131) (c131) ∧ value_checkNode_k3 c127 c128 c129 c130 c131 s12_132 = some r) ?_ ?_
     ·have hG135 := hL106.rG H;refine W_region ?_;refine S_v (r_field rfl underlying38 rfl zr35 (by decide)) rfl ?_;refine S_v (r_loadB1 0 rfl underlying35 rfl hL106 rfl rfl) rfl ?_;refine S_v (r_len rfl underlying35 (hfc102.mono hG135)) rfl ?_;refine S_pu 2 rfl ?_;refine S_split (s := 26) rfl (fun hg136 => ?_) (fun hg136 => ?_)
      ·replace h := Go.L.ite_p (of_decide_eq_true hg136) h;refine S_guarded rfl rfl hg136 ?_;refine S_v (RunsAt_pu rfl) rfl ?_;refine S_guarded rfl rfl hg136 ?_;refine S_litE (r := (.int .i64)) (l := [(2 : Int)]) rfl (fun _ => bsl52_1 _ _) rfl (show 1 ≤ 9223372036854775807 by decide) hH hL106 (.c1 rfl .nil) ?_;intro v138 w138 hx138 hL138 hle138 hv138;replace hG135 := hG135.trans (gz_mono hH hle138);refine S_guarded rfl rfl hg136 ?_;obtain ⟨x139, hb139, h⟩ := Go.L.bind_some h;refine S_callv rfl rfl rfl (value_checkNode_1_fr (a0 := ([(2 : Int)])) (a1 := (Go.L.Pv.mk c100 c101 c102 c103 c104)) (O := []) hH hL138 hv138 (hfc102.mono hG135) (hfc103.mono hG135) (hfc104.mono hG135) hb139) ?_;rintro _ w140 ⟨u140_3, u140_4, u140_5, rfl, hL140, hle140, hf140_3, hf140_4, hf140_5⟩;replace hv138 := hv138.mono (gz_mono hH hle140);replace hG135 := hG135.trans (gz_mono hH hle140);refine S_guarded rfl rfl hg136 ?_;refine S_v (RunsAt_pu rfl) rfl ?_;refine S_v (r_pickT rfl hg136 rfl) rfl ?_;refine S_pu 1 rfl ?_;refine S_nil ?_;refine At_cut (x139.2.f.1, x139.2.f.2.1, x139.2.f.2.2.1, x139.2.f.2.2.2.1, x139.2.f.2.2.2.2, !x139.1, u140_3, u140_4, u140_5) (.cons rfl (.cons rfl (.cons rfl (Sub.nil _)))) ⟨hL140, hf140_3, hf140_4, hf140_5, h⟩
      ·replace h := Go.L.ite_n (of_decide_eq_false hg136) h
       iterate 4 refine S_unwanted rfl rfl hg136 rfl ?_
       refine S_v (r_pickF rfl hg136 rfl) rfl ?_;refine S_pu 1 rfl ?_;refine S_nil ?_;refine At_cut (c100, c101, c102, c103, c104, false, vc102, vc103, vc104) (.cons rfl (.cons rfl (.cons rfl (Sub.nil _)))) ⟨hL106, (hfc102.mono hG135), (hfc103.mono hG135), (hfc104.mono hG135), h⟩
     ·rintro ⟨c127, c128, c129, c130, c131, s12_132, vc129, vc130, vc131⟩ wr133 ⟨hL133, hfc129, hfc130, hfc131, h⟩;refine W_cond rfl (fun hc143 => ?_) (fun hc143 => ?_)
      ·replace h := Go.L.ite_t hc143 h;refine W_skip ?_;refine At_cut (c127, c128, c129, c130, c131, s12_132, vc129, vc130, vc131) (.cons rfl (.cons rfl (Sub.nil _))) ⟨hL133, hfc129, hfc130, hfc131, h⟩
      ·replace h := Go.L.ite_f hc143 h;refine W_cut (σ := Int × Int × (List UInt8) × (List (List UInt8)) × (List Go.L.Pv) × Bool × Value × Value × Value) (fun ⟨c154, c155, c156, c157, c158, s12_159, vc156, vc157, vc158⟩ => [(1, .pointer (some ⟨b1, 0, none⟩)), (3, .func (.func 152) #[] #[.pointer (some ⟨b1, 0, none⟩)]), (12, .bool s12_159)]) (fun ⟨c154, c155, c156, c157, c158, s12_159, vc156, vc157, vc158⟩ wr => InO w [.box b1 [.int .i64 c154, .int .i64 c155, vc156, vc157, vc158] 38] wr fun Oz => Vec .byte (gz H w wr Oz) (vc156) (c156) ∧ Vec .st (gz H w wr Oz) (vc157) (c157) ∧ Vec .tree (gz H w wr Oz) (vc158) (c158) ∧ value_checkNode_k4 c154 c155 c156 c157 c158 s12_159 = some r) ?_ ?_
       ·have hG162 := hL133.rG H;refine W_region ?_;refine S_v (r_field rfl underlying38 rfl zr30 (by decide)) rfl ?_;refine S_v (r_loadB1 0 rfl underlying30 rfl hL133 rfl rfl) rfl ?_;refine S_v (r_len rfl underlying30 (hfc130.mono hG162)) rfl ?_;refine S_pu 2 rfl ?_;refine S_split (s := 36) rfl (fun hg163 => ?_) (fun hg163 => ?_)
        ·replace h := Go.L.ite_p (of_decide_eq_true hg163) h;refine S_guarded rfl rfl hg163 ?_;refine S_v (RunsAt_pu rfl) rfl ?_;refine S_guarded rfl rfl hg163 ?_;refine S_litE (r := (.int .i64)) (l := [(4 : Int)]) rfl (fun _ => bsl52_1 _ _) rfl (show 1 ≤ 9223372036854775807 by decide) hH hL133 (.c1 rfl .nil) ?_;intro v165 w165 hx165 hL165 hle165 hv165;replace hG162 := hG162.trans (gz_mono hH hle165);refine S_guarded rfl rfl hg163 ?_;obtain ⟨x166, hb166, h⟩ := Go.L.bind_some h;refine S_callv rfl rfl rfl (value_checkNode_1_fr (a0 := ([(4 : Int)])) (a1 := (Go.L.Pv.mk c127 c128 c129 c130 c131)) (O := []) hH hL165 hv165 (hfc129.mono hG162) (hfc130.mono hG162) (hfc131.mono hG162) hb166) ?_;rintro _ w167 ⟨u167_3, u167_4, u167_5, rfl, hL167, hle167, hf167_3, hf167_4, hf167_5⟩;replace hv165 := hv165.mono (gz_mono hH hle167);replace hG162 := hG162.trans (gz_mono hH hle167);refine S_guarded rfl rfl hg163 ?_;refine S_v (RunsAt_pu rfl) rfl ?_;refine S_v (r_pickT rfl hg163 rfl) rfl ?_;refine S_pu 1 rfl ?_;refine S_nil ?_;refine At_cut (x166.2.f.1, x166.2.f.2.1, x166.2.f.2.2.1, x166.2.f.2.2.2.1, x166.2.f.2.2.2.2, !x166.1, u167_3, u167_4, u167_5) (.cons rfl (.cons rfl (.cons rfl (Sub.nil _)))) ⟨hL167, hf167_3, hf167_4, hf167_5, h⟩
        ·replace h := Go.L.ite_n (of_decide_eq_false hg163) h
         iterate 4 refine S_unwanted rfl rfl hg163 rfl ?_
         refine S_v (r_pickF rfl hg163 rfl) rfl ?_;refine S_pu 1 rfl ?_;refine S_nil ?_;refine At_cut (c127, c128, c129, c130, c131, false, vc129, vc130, vc131) (.cons rfl (.cons rfl (.cons rfl (Sub.nil _)))) ⟨hL133, (hfc129.mono hG162), (hfc130.mono hG162), (hfc131.mono hG162), h⟩
       ·rintro ⟨c154, c155, c156, c157, c158, s12_159, vc156, vc157, vc158⟩ wr160 ⟨hL160, hfc156, hfc157, hfc158, h⟩;refine W_cond rfl (fun hc170 => ?_) (fun hc170 => ?_)
        ·replace h := Go.L.ite_t hc170 h;refine W_skip ?_;refine At_cut (c154, c155, c156, c157, c158, s12_159, vc156, vc157, vc158) (.cons rfl (.cons rfl (Sub.nil _))) ⟨hL160, hfc156, hfc157, hfc158, h⟩
        ·replace h := Go.L.ite_f hc170 h;have hG173 := hL160.rG H;refine W_seqr ?_;refine S_v (r_field rfl underlying38 rfl zr36 (by decide)) rfl ?_;refine S_v (r_loadB1 0 rfl underlying36 rfl hL160 rfl rfl) rfl ?_;refine S_v (r_len rfl underlying36 (hfc158.mono hG173)) rfl ?_;refine S_pu 2 rfl ?_;refine S_split (s := 46) rfl (fun hg174 => ?_) (fun hg174 => ?_)
         ·replace h := Go.L.ite_p (of_decide_eq_true hg174) h;refine S_guarded rfl rfl hg174 ?_;refine S_v (RunsAt_pu rfl) rfl ?_;refine S_guarded rfl rfl hg174 ?_;refine S_litE (r := (.int .i64)) (l := [(3 : Int), (4 : Int)]) rfl (fun _ => bsl52_2 _ _ _) rfl (show 2 ≤ 9223372036854775807 by decide) hH hL160 (.c1 rfl (.c1 rfl .nil)) ?_;intro v176 w176 hx176 hL176 hle176 hv176;replace hG173 := hG173.trans (gz_mono hH hle176);refine S_guarded rfl rfl hg174 ?_;obtain ⟨x177, hb177, h⟩ := Go.L.bind_some h;refine S_callv rfl rfl rfl (value_checkNode_1_fr (a0 := ([(3 : Int), (4 : Int)])) (a1 := (Go.L.Pv.mk c154 c155 c156 c157 c158)) (O := []) hH hL176 hv176 (hfc156.mono hG173) (hfc157.mono hG173) (hfc158.mono hG173) hb177) ?_;rintro _ w178 ⟨u178_3, u178_4, u178_5, rfl, hL178, hle178, hf178_3, hf178_4, hf178_5⟩;replace hv176 := hv176.mono (gz_mono hH hle178);replace hG173 := hG173.trans (gz_mono hH hle178);refine S_guarded rfl rfl hg174 ?_;refine S_v (RunsAt_pu rfl) rfl ?_;refine S_v (r_pickT rfl hg174 rfl) rfl ?_;refine S_pz 1 rfl ?_;refine W_cond rfl (fun hc179 => ?_) (fun hc179 => ?_)
          ·replace h := Go.L.ite_t hc179 h;refine W_skip ?_;refine At_cut (x177.2.f.1, x177.2.f.2.1, x177.2.f.2.2.1, x177.2.f.2.2.2.1, x177.2.f.2.2.2.2, !x177.1, u178_3, u178_4, u178_5) (.cons rfl (.cons rfl (Sub.nil _))) ⟨hL178, hf178_3, hf178_4, hf178_5, h⟩
          ·replace h := Go.L.ite_f hc179 h;have hG182 := hL178.rG H;refine W_region ?_;refine S_pu 1 rfl ?_;refine S_litE (r := (.int .i64)) (l := [(4 : Int)]) rfl (fun _ => bsl52_1 _ _) rfl (show 1 ≤ 9223372036854775807 by decide) hH hL178 (.c1 rfl .nil) ?_;intro v183 w183 hx183 hL183 hle183 hv183;replace hG182 := hG182.trans (gz_mono hH hle183);obtain ⟨x184, hb184, h⟩ := Go.L.bind_some h;refine S_callv rfl rfl rfl (value_checkNode_1_fr (a0 := ([(4 : Int)])) (a1 := x177.2) (O := []) hH hL183 hv183 (hf178_3.mono hG182) (hf178_4.mono hG182) (hf178_5.mono hG182) hb184) ?_;rintro _ w185 ⟨u185_3, u185_4, u185_5, rfl, hL185, hle185, hf185_3, hf185_4, hf185_5⟩;replace hv183 := hv183.mono (gz_mono hH hle185);replace hG182 := hG182.trans (gz_mono hH hle185);refine S_pu 1 rfl ?_;refine S_split (s := 55) rfl (fun hg186 => ?_) (fun hg186 => ?_)
           ·replace h := Go.L.ite_t hg186 h;refine S_guarded rfl rfl hg186 ?_;refine S_v (r_field rfl underlying38 rfl zr30 (by decide)) rfl ?_;refine S_guarded rfl rfl hg186 ?_;refine S_v (r_loadB1 0 rfl underlying30 rfl hL185 rfl rfl) rfl ?_;refine S_guarded rfl rfl hg186 ?_;refine S_v (r_len rfl underlying30 hf185_4) rfl ?_;refine S_guarded rfl rfl hg186 ?_;refine S_v (r_field rfl underlying38 rfl zr36 (by decide)) rfl ?_;refine S_guarded rfl rfl hg186 ?_;refine S_v (r_loadB1 0 rfl underlying36 rfl hL185 rfl rfl) rfl ?_;refine S_guarded rfl rfl hg186 ?_;refine S_v (r_len rfl underlying36 hf185_5) rfl ?_;refine S_guarded rfl rfl hg186 ?_;refine S_v (RunsAt_pu rfl) rfl ?_;refine S_v (r_pickT rfl hg186 rfl) rfl ?_;refine S_pu 1 rfl ?_;refine S_nil ?_;refine At_cut (x184.2.f.1, x184.2.f.2.1, x184.2.f.2.2.1, x184.2.f.2.2.2.1, x184.2.f.2.2.2.2, !decide ((x184.2.f.2.2.2.1.length : Int) = (x184.2.f.2.2.2.2.length : Int)), u185_3, u185_4, u185_5) (.cons rfl (.cons rfl (Sub.nil _))) ⟨hL185, hf185_3, hf185_4, hf185_5, h⟩
           ·replace h := Go.L.ite_f hg186 h
            iterate 7 refine S_unwanted rfl rfl hg186 rfl ?_
            refine S_v (r_pickF rfl hg186 rfl) rfl ?_;refine S_pu 1 rfl ?_;refine S_nil ?_;refine At_cut (x184.2.f.1, x184.2.f.2.1, x184.2.f.2.2.1, x184.2.f.2.2.2.1, x184.2.f.2.2.2.2, false, u185_3, u185_4, u185_5) (.cons rfl (.cons rfl (Sub.nil _))) ⟨hL185, hf185_3, hf185_4, hf185_5, h⟩
         ·replace h := Go.L.ite_n (of_decide_eq_false hg174) h
          iterate 4 refine S_unwanted rfl rfl hg174 rfl ?_
          refine S_v (r_pickF rfl hg174 rfl) rfl ?_;refine S_pz 1 rfl ?_;refine W_false rfl ?_;refine W_region ?_;refine S_pu 1 rfl ?_;refine S_litE (r := (.int .i64)) (l := [(4 : Int)]) rfl (fun _ => bsl52_1 _ _) rfl (show 1 ≤ 9223372036854775807 by decide) hH hL160 (.c1 rfl .nil) ?_;intro v190 w190 hx190 hL190 hle190 hv190;replace hG173 := hG173.trans (gz_mono hH hle190);obtain ⟨x191, hb191, h⟩ := Go.L.bind_some h;refine S_callv rfl rfl rfl (value_checkNode_1_fr (a0 := ([(4 : Int)])) (a1 := (Go.L.Pv.mk c154 c155 c156 c157 c158)) (O := []) hH hL190 hv190 (hfc156.mono hG173) (hfc157.mono hG173) (hfc158.mono hG173) hb191) ?_;rintro _ w192 ⟨u192_3, u192_4, u192_5, rfl, hL192, hle192, hf192_3, hf192_4, hf192_5⟩;replace hv190 := hv190.mono (gz_mono hH hle192);replace hG173 := hG173.trans (gz_mono hH hle192);refine S_pu 1 rfl ?_;refine S_split (s := 55) rfl (fun hg193 => ?_) (fun hg193 => ?_)
          ·replace h := Go.L.ite_t hg193 h;refine S_guarded rfl rfl hg193 ?_;refine S_v (r_field rfl underlying38 rfl zr30 (by decide)) rfl ?_;refine S_guarded rfl rfl hg193 ?_;refine S_v (r_loadB1 0 rfl underlying30 rfl hL192 rfl rfl) rfl ?_;refine S_guarded rfl rfl hg193 ?_;refine S_v (r_len rfl underlying30 hf192_4) rfl ?_;refine S_guarded rfl rfl hg193 ?_;refine S_v (r_field rfl underlying38 rfl zr36 (by decide)) rfl ?_;refine S_guarded rfl rfl hg193 ?_;refine S_v (r_loadB1 0 rfl underlying36 rfl hL192 rfl rfl) rfl ?_;refine S_guarded rfl rfl hg193 ?_;refine S_v (r_len rfl underlying36 hf192_5) rfl ?_;refine S_guarded rfl rfl hg193 ?_;refine S_v (RunsAt_pu rfl) rfl ?_;refine S_v (r_pickT rfl hg193 rfl) rfl ?_;refine S_pu 1 rfl ?_;refine S_nil ?_;refine At_cut (x191.2.f.1, x191.2.f.2.1, x191.2.f.2.2.1, x191.2.f.2.2.2.1, x191.2.f.2.2.2.2, !decide ((x191.2.f.2.2.2.1.length : Int) = (x191.2.f.2.2.2.2.length : Int)), u192_3, u192_4, u192_5) (.cons rfl (.cons rfl (Sub.nil _))) ⟨hL192, hf192_3, hf192_4, hf192_5, h⟩
          ·replace h := Go.L.ite_f hg193 h
           iterate 7 refine S_unwanted rfl rfl hg193 rfl ?_
           refine S_v (r_pickF rfl hg193 rfl) rfl ?_;refine S_pu 1 rfl ?_;refine S_nil ?_;refine At_cut (x191.2.f.1, x191.2.f.2.1, x191.2.f.2.2.1, x191.2.f.2.2.2.1, x191.2.f.2.2.2.2, false, u192_3, u192_4, u192_5) (.cons rfl (.cons rfl (Sub.nil _))) ⟨hL192, hf192_3, hf192_4, hf192_5, h⟩
  ·rintro ⟨c84, c85, c86, c87, c88, s12_89, vc86, vc87, vc88⟩ wr90 ⟨hL90, hfc86, hfc87, hfc88, h⟩;refine W_cond rfl (fun hc197 => ?_) (fun hc197 => ?_)
   ·replace h := Go.L.ite_t hc197 h;have hG199 := hL90.rG H;refine W_pz 1 rfl ?_;refine W_ret ?_;refine At_block_ret ?_;refine At_seq_ret ?_;obtain rfl := Option.some.inj h;refine At_body rfl rfl ?_;exact ⟨hL90.ext, rfl⟩
   ·replace h := Go.L.ite_f hc197 h;have hG201 := hL90.rG H;refine W_seqr ?_;refine S_v (r_field rfl underlying38 rfl zr36 (by decide)) rfl ?_;refine S_v (r_loadB1 0 rfl underlying36 rfl hL90 rfl rfl) rfl ?_;refine S_v (r_len rfl underlying36 (hfc88.mono hG201)) rfl ?_;refine S_pz 2 rfl ?_;refine W_if rfl (fun hc202 => ?_) (fun hc202 => ?_)
    ·replace h := Go.L.ite_p hc202 h;refine W_pz 1 rfl ?_;refine W_ret ?_;refine At_block_ret ?_;refine At_seq_ret ?_;obtain rfl := Option.some.inj h;refine At_body rfl rfl ?_;exact ⟨hL90.ext, rfl⟩
    ·replace h := Go.L.ite_n hc202 h;refine W_seqr ?_;refine S_v (r_field rfl underlying38 rfl zr30 (by decide)) rfl ?_;refine S_v (r_loadB1 0 rfl underlying30 rfl hL90 rfl rfl) rfl ?_;obtain ⟨x205, hb205, h⟩ := Go.L.bind_some h;refine S_callL rfl rfl hL90 (conf_checkNode_2_ok _ _ (gz_le hH hL90) (hfc87.mono hG201) hb205) ?_;rintro _ w206 rfl hx206 hL206 hle206;replace hG201 := hG201.trans (gz_mono hH hle206);refine S_pz 1 rfl ?_;refine W_cond rfl (fun hc207 => ?_) (fun hc207 => ?_)
     ·replace h := Go.L.ite_t hc207 h;refine W_pz 1 rfl ?_;refine W_ret ?_;refine At_block_ret ?_;refine At_seq_ret ?_;obtain rfl := Option.some.inj h;refine At_body rfl rfl ?_;exact ⟨hL206.ext, rfl⟩
     ·replace h := Go.L.ite_f hc207 h;refine W_skip ?_;refine At_block ?_;refine At_seq ?_;refine W_cut (σ := Unit) (fun (_ : Unit) => []) (fun (_ : Unit) wr => InO w [.box b1 [.int .i64 c84, .int .i64 c85, vc86, vc87, vc88] 38] wr fun Oz => Vec .byte (gz H w wr Oz) (vc86) (c86) ∧ Vec .st (gz H w wr Oz) (vc87) (c87) ∧ Vec .tree (gz H w wr Oz) (vc88) (c88) ∧ value_checkNode_k5 = some r) ?_ ?_
      ·refine W_seqr ?_;refine S_v (r_field rfl underlying38 rfl zr30 (by decide)) rfl ?_;refine S_v (r_loadB1 0 rfl underlying30 rfl hL206 rfl rfl) rfl ?_;refine S_v (r_len rfl underlying30 (hfc87.mono hG201)) rfl ?_;refine S_pz 1 rfl ?_;refine W_block ?_;obtain ⟨n258, h⟩ := Go.L.run_some h;refine W_loop (σ := Int × Nat) (fun ⟨s76_257, n⟩ => [(1, .pointer (some ⟨b1, 0, none⟩)), (74, vc87), (75, .int .i64 (c87.length : Int)), (76, .int .i64 s76_257)]) (fun ⟨s76_257, n⟩ wr => InO w [.box b1 [.int .i64 c84, .int .i64 c85, vc86, vc87, vc88] 38] wr fun Oz => Vec .st (gz H w wr Oz) (vc87) (c87) ∧ Vec .byte (gz H w wr Oz) (vc86) (c86) ∧ Vec .tree (gz H w wr Oz) (vc88) (c88) ∧ Go.L.itr (value_checkNode_bl6 c87) n s76_257 = some r) (fun ⟨s76_257, n⟩ => n) ((0 : Int), n258) (.cons rfl (.cons rfl (.cons rfl (.cons rfl (Sub.nil _))))) ⟨hL206, (hfc87.mono hG201), (hfc86.mono hG201), (hfc88.mono hG201), h⟩ ?_;rintro ⟨s76_257, nn258⟩ wr258 ⟨hL258, hf258_0, hf258_1, hf258_2, h⟩;obtain ⟨n258, e258, rfl, h, hm258⟩ := Go.L.itr_some h;have hG260 := hL258.rG H;refine W_pz 1 rfl ?_;refine W_seq ?_;refine W_if rfl (fun hc261 => ?_) (fun hc261 => ?_)
       ·replace h := Go.L.ite_p hc261 h;refine W_skip ?_;refine At_seq ?_;refine W_seq ?_;refine W_block ?_;refine W_p 1 rfl ?_;obtain ⟨hk264, h⟩ := Go.L.chk_some h;refine S_index rfl rfl underlying30 zr9 (hf258_0.mono hG260) s76_257.toNat (Int.toNat_of_nonneg hk264.1).symm (idx_lt hk264) rfl ?_;rintro p263 _ rfl hp263;refine S_v (r_load1 rfl underlying9 rfl hp263 (gz_le hH hL258)) rfl ?_;refine S_pz 2 rfl ?_;refine W_seqr ?_;refine S_v (r_field rfl underlying38 rfl zr30 (by decide)) rfl ?_;refine S_v (r_loadB1 0 rfl underlying30 rfl hL258 rfl rfl) rfl ?_;refine S_pu 1 rfl ?_;obtain ⟨hk266, h⟩ := Go.L.chk_some h;refine S_sliceH rfl rfl underlying30 zr9 (hf258_0.mono hG260) hk266 rfl ?_;intro v265 hv265;refine S_pu 1 rfl ?_;obtain ⟨x267, hb267, h⟩ := Go.L.bind_some h;refine S_callL rfl rfl hL258 (slices_Contains_string_string_ok _ _ (gz_le hH hL258) hv265 hb267) ?_;rintro _ w268 rfl hx268 hL268 hle268;replace hv265 := hv265.mono (gz_mono hH hle268);replace hG260 := hG260.trans (gz_mono hH hle268);refine S_seqnil ?_;refine W_cond rfl (fun hc269 => ?_) (fun hc269 => ?_)
        ·replace h := Go.L.ite_t hc269 h;refine W_pz 1 rfl ?_;refine W_ret ?_;refine At_block_ret ?_;refine At_seq_ret ?_;refine At_loop_ret ?_;replace h := Go.L.Nxt.out h hm258;refine At_block_ret ?_;refine At_cut_ret ?_;obtain rfl := Option.some.inj h;refine At_body rfl rfl ?_;exact ⟨hL268.ext, rfl⟩
        ·replace h := Go.L.ite_f hc269 h;refine W_skip ?_;refine At_block ?_;refine At_seq ?_;refine W_region ?_;obtain ⟨hk272, h⟩ := Go.L.chk_some h;refine S_v (r_ar64 rfl rfl rfl hk272) rfl ?_;refine S_pu 1 rfl ?_;refine S_nil ?_;have h := Go.L.Nxt.again h hm258;refine At_round ((s76_257 + (1 : Int)), n258) (.cons rfl (.cons rfl (.cons rfl (.cons rfl (Sub.nil _))))) ⟨hL268, (hf258_0.mono hG260), (hf258_1.mono hG260), (hf258_2.mono hG260), h⟩ (Nat.lt_succ_self _)
       ·replace h := Go.L.ite_n hc261 h;refine W_exit ?_;refine At_seq_exit ?_;refine At_loop_exit ?_;replace h := Go.L.Nxt.out h hm258;refine At_exit ?_;refine At_cut () (Sub.nil _) ⟨hL258, (hf258_1.mono hG260), (hf258_0.mono hG260), (hf258_2.mono hG260), h⟩
      ·rintro _ wr241 ⟨hL241, hf241_0, hf241_1, hf241_2, h⟩;have hG275 := hL241.rG H;refine W_pz 1 rfl ?_;refine W_ret ?_;obtain rfl := Option.some.inj h;refine At_body rfl rfl ?_;exact ⟨hL241.ext, rfl⟩
noncomputable def value_check_body_k1 (s9_65 : Int) : Option (Int × (Int × Int)) :=
 some (s9_65, ((0 : Int), (0 : Int)))
noncomputable def value_check_body_bl2 (a0 : Go.L.Pv) (a2 : Int) (self : Go.L.Pv → Int → Int → Option (Int × (Int × Int))) : Int × Int → Option ((Int × Int) ⊕ (Int × (Int × Int))) := fun ⟨s9_90, s33_91⟩ =>
 if s33_91 < (a0.f.2.2.2.2.length : Int) then Go.L.chk (0 ≤ s33_91 ∧ s33_91 < (a0.f.2.2.2.2.length : Int)) (Go.L.chk (Go.L.I64 (a2 + (1 : Int))) (Option.bind (self (a0.f.2.2.2.2.getD s33_91.toNat default) s9_90 (a2 + (1 : Int))) (fun x102 => if x102.2.1 = (0 : Int) ∧ x102.2.2 = (0 : Int) then Go.L.chk (Go.L.I64 (s33_91 + (1 : Int))) (some (Sum.inl (x102.1, (s33_91 + (1 : Int))))) else Option.map Sum.inr (some ((0 : Int), (x102.2.1, x102.2.2)))))) else Option.map Sum.inr (value_check_body_k1 s9_90)
noncomputable def value_check_body_l2 (a0 : Go.L.Pv) (a2 : Int) (self : Go.L.Pv → Int → Int → Option (Int × (Int × Int))) (s : Int × Int) : Option (Int × (Int × Int)) := Go.L.run (value_check_body_bl2 a0 a2 self) s
noncomputable def value_check_body (self : Go.L.Pv → Int → Int → Option (Int × (Int × Int))) (a0 : Go.L.Pv) (a1 : Int) (a2 : Int) : Option (Int × (Int × Int)) :=
 if ((600 : Int) ≤ a1) ∨ ((10 : Int) < a2) then Option.bind (value_fault (2 : Int) a1) (fun x5 => some ((0 : Int), (x5.1, x5.2))) else Option.bind (value_checkNode a0) (fun x9 => if x9 = (0 : Int) then Go.L.chk (Go.L.I64 (a1 + (1 : Int))) ((value_check_body_l2 a0 a2 self) ((a1 + (1 : Int)), (0 : Int))) else Option.bind (value_fault x9 a1) (fun x13 => some ((0 : Int), (x13.1, x13.2))))
noncomputable def value_check_n : Nat → Go.L.Pv → Int → Int → Option (Int × (Int × Int))
 | 0 => fun _ _ _ => none
 | n + 1 => value_check_body (value_check_n n)
noncomputable def value_check : Go.L.Pv → Int → Int → Option (Int × (Int × Int)) := value_check_n 1000
theorem value_check_body_ok (self : Go.L.Pv → Int → Int → Option (Int × (Int × Int))) (hself : ∀ (w : World) (H : PH) (hH : Le H (hp w)) {a0 : Go.L.Pv} {a1 : Int} {a2 : Int} {v0_0 : Value} {v0_1 : Value} {v0_2 : Value} (h0_0 : Vec .byte H v0_0 (a0.f.2.2.1)) (h0_1 : Vec .st H v0_1 (a0.f.2.2.2.1)) (h0_2 : Vec .tree H v0_2 (a0.f.2.2.2.2)) {r : Int × (Int × Int)} (h : self a0 a1 a2 = some r), Ok Tryz.prog 93 [.agg #[.int .i64 a0.f.1, .int .i64 a0.f.2.1, v0_0, v0_1, v0_2], .int .i64 a1, .int .i64 a2] w (fun v w' => Ext w w' ∧ v = .tuple #[.int .i64 r.1, .agg #[.int .i64 r.2.1, .int .i64 r.2.2]])) (w : World) (H : PH) (hH : Le H (hp w)) {a0 : Go.L.Pv} {a1 : Int} {a2 : Int} {v0_0 : Value} {v0_1 : Value} {v0_2 : Value} (h0_0 : Vec .byte H v0_0 (a0.f.2.2.1)) (h0_1 : Vec .st H v0_1 (a0.f.2.2.2.1)) (h0_2 : Vec .tree H v0_2 (a0.f.2.2.2.2)) {r : Int × (Int × Int)} (h : value_check_body self a0 a1 a2 = some r) :
  Ok Tryz.prog 93 [.agg #[.int .i64 a0.f.1, .int .i64 a0.f.2.1, v0_0, v0_1, v0_2], .int .i64 a1, .int .i64 a2] w (fun v w' => Ext w w' ∧ v = .tuple #[.int .i64 r.1, .agg #[.int .i64 r.2.1, .int .i64 r.2.2]]) := by
 refine Ok_enter (n := 52) [(0, .agg #[.int .i64 a0.f.1, .int .i64 a0.f.2.1, v0_0, v0_1, v0_2]), (1, .int .i64 a1), (2, .int .i64 a2)] func93 rfl rfl rfl rfl rfl ?_;have hL := Lcl.start w;refine W_seqr ?_;refine S_box (t := 38) rfl rfl rfl hL ?_;intro w1 b1 hL1 hle1 _;refine S_pu 1 rfl ?_;refine S_alloc zr23 rfl rfl hL1 ?_;intro w2 b2 hL2 hle2 _;refine S_seqnil ?_;refine W_seq ?_;refine W_p 3 rfl ?_;refine S_or 2 2 rfl rfl rfl rfl rfl rfl ?_;refine S_seqnil ?_;refine W_if rfl (fun hc3 => ?_) (fun hc3 => ?_)
 ·replace h := Go.L.ite_p hc3 h;refine W_p 1 rfl ?_;obtain ⟨x5, hb5, h⟩ := Go.L.bind_some h;refine S_callL rfl rfl hL2 (value_fault_ok _ _ (gz_le hH hL2) hb5) ?_;rintro _ w6 rfl hx6 hL6 hle6;refine S_pu 1 rfl ?_;refine S_storeBN 0 rfl rfl rfl zr23 hL6 rfl rfl (onc rfl (onc rfl on0)) ?_;intro w7 hL7 hle7;refine S_seqnil ?_;refine W_ret ?_;refine At_seq_ret ?_;obtain rfl := Option.some.inj h;refine At_got2 rfl (.tmp rfl) (.cell rfl underlying23 rfl zr23 (box_ptr (i := 0) hL7 rfl)) ?_;exact ⟨hL7.ext, rfl⟩
 ·replace h := Go.L.ite_n hc3 h;refine W_skip ?_;refine At_seq ?_;refine W_seq ?_;refine W_seqr ?_;refine S_v (r_loadBN 1 rfl underlying38 rfl zr38 hL2 rfl) rfl ?_;obtain ⟨x9, hb9, h⟩ := Go.L.bind_some h;refine S_callL rfl rfl hL2 (value_checkNode_ok (a0 := a0) _ _ (gz_le hH hL2) (h0_0.mono (gz_left hH)) (h0_1.mono (gz_left hH)) (h0_2.mono (gz_left hH)) hb9) ?_;rintro _ w10 rfl hx10 hL10 hle10;refine S_pz 1 rfl ?_;refine W_pz 2 rfl ?_;refine W_ifn rfl (fun hc11 => ?_) (fun hc11 => ?_)
  ·replace h := Go.L.ite_n hc11 h;refine W_p 2 rfl ?_;obtain ⟨x13, hb13, h⟩ := Go.L.bind_some h;refine S_callL rfl rfl hL10 (value_fault_ok _ _ (gz_le hH hL10) hb13) ?_;rintro _ w14 rfl hx14 hL14 hle14;refine S_pu 1 rfl ?_;refine S_storeBN 0 rfl rfl rfl zr23 hL14 rfl rfl (onc rfl (onc rfl on0)) ?_;intro w15 hL15 hle15;refine S_seqnil ?_;refine W_ret ?_;refine At_seq_ret ?_;obtain rfl := Option.some.inj h;refine At_got2 rfl (.tmp rfl) (.cell rfl underlying23 rfl zr23 (box_ptr (i := 0) hL15 rfl)) ?_;exact ⟨hL15.ext, rfl⟩
  ·replace h := Go.L.ite_p hc11 h;refine W_skip ?_;refine At_seq ?_;refine W_p 1 rfl ?_;obtain ⟨hk17, h⟩ := Go.L.chk_some h;refine S_v (r_ar64 rfl rfl rfl hk17) rfl ?_;refine S_pz 1 rfl ?_;refine W_cut (σ := Int) (fun s9_65 => [(7, .pointer (some ⟨b2, 0, none⟩)), (9, .int .i64 s9_65)]) (fun s9_65 wr => Lcl w [.box b2 [.int .i64 (0 : Int), .int .i64 (0 : Int)] 23, .box b1 [.int .i64 a0.f.1, .int .i64 a0.f.2.1, v0_0, v0_1, v0_2] 38] wr ∧ value_check_body_k1 s9_65 = some r) ?_ ?_
   ·refine W_seqr ?_;refine S_v (r_field rfl underlying38 rfl zr36 (by decide)) rfl ?_;refine S_v (r_loadB1 1 rfl underlying36 rfl hL10 rfl rfl) rfl ?_;refine S_v (r_len rfl underlying36 h0_2) rfl ?_;refine S_pz 1 rfl ?_;refine W_block ?_;obtain ⟨n92, h⟩ := Go.L.run_some h;refine W_loop (σ := Int × Int × Nat) (fun ⟨s9_90, s33_91, n⟩ => [(2, .int .i64 a2), (7, .pointer (some ⟨b2, 0, none⟩)), (9, .int .i64 s9_90), (31, v0_2), (32, .int .i64 (a0.f.2.2.2.2.length : Int)), (33, .int .i64 s33_91)]) (fun ⟨s9_90, s33_91, n⟩ wr => Lcl w [.box b2 [.int .i64 (0 : Int), .int .i64 (0 : Int)] 23, .box b1 [.int .i64 a0.f.1, .int .i64 a0.f.2.1, v0_0, v0_1, v0_2] 38] wr ∧ Go.L.itr (value_check_body_bl2 a0 a2 self) n (s9_90, s33_91) = some r) (fun ⟨s9_90, s33_91, n⟩ => n) ((a1 + (1 : Int)), (0 : Int), n92) (.cons rfl (.cons rfl (.cons rfl (.cons rfl (.cons rfl (.cons rfl (Sub.nil _))))))) ⟨hL10, h⟩ ?_;rintro ⟨s9_90, s33_91, nn92⟩ wr92 ⟨hL92, h⟩;obtain ⟨n92, e92, rfl, h, hm92⟩ := Go.L.itr_some h;refine W_pz 1 rfl ?_;refine W_seq ?_;refine W_if rfl (fun hc94 => ?_) (fun hc94 => ?_)
    ·replace h := Go.L.ite_p hc94 h;refine W_skip ?_;refine At_seq ?_;refine W_seq ?_;refine W_block ?_;refine W_seqr ?_;obtain ⟨hk97, h⟩ := Go.L.chk_some h;refine S_index rfl rfl underlying36 zr38 h0_2 s33_91.toNat (Int.toNat_of_nonneg hk97.1).symm (idx_lt hk97) rfl ?_;rintro p96 _ e96t0 hp96;obtain ⟨_, _, rfl, rfl, ⟨_, _, rfl, rfl, ⟨_, _, rfl, ⟨e96v2, rfl, e96h2⟩, ⟨_, _, rfl, ⟨e96v3, rfl, e96h3⟩, ⟨e96v4, rfl, e96h4⟩⟩⟩⟩⟩ := Go.E.Rp.tree_open e96t0;refine S_v (r_loadN rfl underlying38 rfl zr38 hp96 (hH.trans hL92.arg)) rfl ?_;refine S_alloc zr38 rfl rfl hL92 ?_;intro w98 b98 hL98 hle98 _;refine S_storeBN 0 rfl rfl rfl zr38 hL98 rfl rfl (onc rfl (onc rfl (onc e96h2.one (onc e96h3.one (onc e96h4.one on0))))) ?_;intro w99 hL99 hle99;refine S_seqnil ?_;refine W_seqr ?_;refine S_alloc zr23 rfl rfl hL99 ?_;intro w100 b100 hL100 hle100 _;refine S_seqnil ?_;refine W_seqr ?_;refine S_v (r_loadBN 1 rfl underlying38 rfl zr38 hL100 rfl) rfl ?_;refine S_pu 2 rfl ?_;obtain ⟨hk101, h⟩ := Go.L.chk_some h;refine S_v (r_ar64 rfl rfl rfl hk101) rfl ?_;obtain ⟨x102, hb102, h⟩ := Go.L.bind_some h;refine S_callL rfl rfl hL100 (hself _ _ (gz_le hH hL100) (e96h2.mono (gz_left hH)) (e96h3.mono (gz_left hH)) (e96h4.mono (gz_left hH)) hb102) ?_;rintro _ w103 rfl hx103 hL103 hle103;refine S_pu 4 rfl ?_;refine S_storeBN 0 rfl rfl rfl zr23 hL103 rfl rfl (onc rfl (onc rfl on0)) ?_;intro w104 hL104 hle104;refine S_seqnil ?_;refine W_seqr ?_;refine S_v (r_loadBN 0 rfl underlying23 rfl zr23 hL104 rfl) rfl ?_
     refine S_v (r_build rfl (fun _ => bld23_z _)) rfl ?_;refine S_v (r_neA rfl rfl eqg23 (eq23 _ _ _ _ )) rfl ?_;refine S_seqnil ?_;refine W_ifn rfl (fun hc105 => ?_) (fun hc105 => ?_)
     ·replace h := Go.L.ite_n hc105 h;refine W_seqd (.q 0 (.q 1 (.tail 2))) mixed (by kernel_rfl) (fun w107 hx107 => ?_);have hL108 := hL104.call hx107;refine D_v (r_loadBN 0 rfl underlying23 rfl zr23 hL108 rfl) rfl rfl ?_;refine D_pu 1 rfl ?_;refine D_tail (fun w109 hx109 => ?_);have hL110 := hL108.call hx109;refine S_storeBN 2 rfl rfl rfl zr23 hL110 rfl rfl (onc rfl (onc rfl on0)) ?_;intro w111 hL111 hle111;refine S_seqnil ?_;refine W_ret ?_;refine At_block_ret ?_;refine At_seq_ret ?_;refine At_loop_ret ?_;replace h := Go.L.Nxt.out h hm92;refine At_block_ret ?_;refine At_cut_ret ?_;obtain rfl := Option.some.inj h;refine At_got2 rfl (.tmp rfl) (.cell rfl underlying23 rfl zr23 (box_ptr (i := 2) hL111 rfl)) ?_;exact ⟨hL111.ext, rfl⟩
     ·replace h := Go.L.ite_p hc105 h;refine W_skip ?_;refine At_block ?_;refine At_seq ?_;refine W_region ?_;obtain ⟨hk113, h⟩ := Go.L.chk_some h;refine S_v (r_ar64 rfl rfl rfl hk113) rfl ?_;refine S_pu 1 rfl ?_;refine S_nil ?_;have hL114 := hL104.dropAt (i := 0) rfl;have hL115 := hL114.dropAt (i := 0) rfl;have h := Go.L.Nxt.again h hm92;refine At_round (x102.1, (s33_91 + (1 : Int)), n92) (.cons rfl (.cons rfl (.cons rfl (.cons rfl (.cons rfl (.cons rfl (Sub.nil _))))))) ⟨hL115, h⟩ (Nat.lt_succ_self _)
    ·replace h := Go.L.ite_n hc94 h;refine W_exit ?_;refine At_seq_exit ?_;refine At_loop_exit ?_;replace h := Go.L.Nxt.out h hm92;refine At_exit ?_;refine At_cut s9_90 (.cons rfl (.cons rfl (Sub.nil _))) ⟨hL92, h⟩
   ·rintro s9_65 wr66 ⟨hL66, h⟩;refine W_p 1 rfl ?_;refine S_v (r_build rfl (fun _ => bld23_z _)) rfl ?_;refine S_pu 1 rfl ?_;refine S_storeBN 0 rfl rfl rfl zr23 hL66 rfl rfl (onc rfl (onc rfl on0)) ?_;intro w118 hL118 hle118;refine S_seqnil ?_;refine W_ret ?_;obtain rfl := Option.some.inj h;refine At_got2 rfl (.tmp rfl) (.cell rfl underlying23 rfl zr23 (box_ptr (i := 0) hL118 rfl)) ?_;exact ⟨hL118.ext, rfl⟩
theorem value_check_n_ok (n : Nat) : ∀ (w : World) (H : PH) (hH : Le H (hp w)) {a0 : Go.L.Pv} {a1 : Int} {a2 : Int} {v0_0 : Value} {v0_1 : Value} {v0_2 : Value} (h0_0 : Vec .byte H v0_0 (a0.f.2.2.1)) (h0_1 : Vec .st H v0_1 (a0.f.2.2.2.1)) (h0_2 : Vec .tree H v0_2 (a0.f.2.2.2.2)) {r : Int × (Int × Int)} (h : value_check_n n a0 a1 a2 = some r), Ok Tryz.prog 93 [.agg #[.int .i64 a0.f.1, .int .i64 a0.f.2.1, v0_0, v0_1, v0_2], .int .i64 a1, .int .i64 a2] w (fun v w' => Ext w w' ∧ v = .tuple #[.int .i64 r.1, .agg #[.int .i64 r.2.1, .int .i64 r.2.2]]) := by
 induction n with
 | zero => intros; rename_i h; cases h
 | succ n ih => exact @value_check_body_ok (value_check_n n) ih
theorem value_check_ok (w : World) (H : PH) (hH : Le H (hp w)) {a0 : Go.L.Pv} {a1 : Int} {a2 : Int} {v0_0 : Value} {v0_1 : Value} {v0_2 : Value} (h0_0 : Vec .byte H v0_0 (a0.f.2.2.1)) (h0_1 : Vec .st H v0_1 (a0.f.2.2.2.1)) (h0_2 : Vec .tree H v0_2 (a0.f.2.2.2.2)) {r : Int × (Int × Int)} (h : value_check a0 a1 a2 = some r) : Ok Tryz.prog 93 [.agg #[.int .i64 a0.f.1, .int .i64 a0.f.2.1, v0_0, v0_1, v0_2], .int .i64 a1, .int .i64 a2] w (fun v w' => Ext w w' ∧ v = .tuple #[.int .i64 r.1, .agg #[.int .i64 r.2.1, .int .i64 r.2.2]]) := value_check_n_ok 1000 w H hH h0_0 h0_1 h0_2 h
noncomputable def wire_Number_k1 (l12 : List UInt8) (s3_13 : Int) : Option ((List UInt8)) :=
 Go.L.chk (Go.E.Cap 1 (l12.length + ([(Go.L.u8 s3_13)]).length)) (some ((l12 ++ [(Go.L.u8 s3_13)])))
noncomputable def wire_Number_bl2 : (List UInt8) × Int → Option (((List UInt8) × Int) ⊕ ((List UInt8))) := fun ⟨l23, s3_24⟩ =>
 if (128 : Int) ≤ s3_24 then Go.L.chk (Go.E.Cap 1 (l23.length + ([((Go.L.u8 s3_24) ||| (128 : UInt8))]).length)) (some (Sum.inl ((l23 ++ [((Go.L.u8 s3_24) ||| (128 : UInt8))]), (s3_24 / 128)))) else Option.map Sum.inr (wire_Number_k1 l23 s3_24)
noncomputable def wire_Number_l2 (s : (List UInt8) × Int) : Option ((List UInt8)) := Go.L.run (wire_Number_bl2) s
noncomputable def wire_Number (a0 : Int) : Option ((List UInt8)) :=
 Go.L.chk ((0 ≤ (IntKind.u64.wrap ((IntKind.u64.wrap a0) * 2)) ∧ (IntKind.u64.wrap ((IntKind.u64.wrap a0) * 2)) < 2 ^ 64) ∧ (0 ≤ (IntKind.u64.wrap (a0 / 9223372036854775808)) ∧ (IntKind.u64.wrap (a0 / 9223372036854775808)) < 2 ^ 64)) (wire_Number_l2 (([] : List UInt8), (((IntKind.u64.wrap ((IntKind.u64.wrap a0) * 2)).toNat ^^^ (IntKind.u64.wrap (a0 / 9223372036854775808)).toNat : Nat) : Int)))
theorem wire_Number_ok (w : World) (H : PH) (hH : Le H (hp w)) {a0 : Int}   {r : (List UInt8)} (h : wire_Number a0 = some r) :
  Ok Tryz.prog 74 [.int .i64 a0] w (fun v w' => Ext w w' ∧ ∃ u0, v = u0 ∧ OwnH 5 .byte H w w' u0 (r)) := by
 refine Ok_enter (n := 27) [(0, .int .i64 a0)] func74 rfl rfl rfl rfl rfl ?_;have hL := Lcl.start w;refine W_pz 1 rfl ?_;refine W_p 1 rfl ?_;refine S_v (r_conv underlying3 underlying136 rfl rfl) rfl ?_;refine S_v (r_shl (c := 1) (m := 2) rfl rfl rfl (by decide) rfl) rfl ?_;refine S_pu 1 rfl ?_;refine S_v (r_shr (c := 63) (m := 9223372036854775808) rfl rfl rfl (by decide)) rfl ?_;refine S_v (r_conv underlying3 underlying136 rfl rfl) rfl ?_;obtain ⟨hk1, h⟩ := Go.L.chk_some h;refine S_v (r_bitU rfl rfl rfl hk1) rfl ?_;refine S_pz 1 rfl ?_;refine W_p 1 rfl ?_;obtain ⟨hL2, hle2, he2⟩ := row_nilE .byte H 5 hL;refine S_seqnil ?_;refine W_cut (σ := (List UInt8) × Int × Value × (List Value)) (fun ⟨l12, s3_13, vl12, xsl12⟩ => [(3, .int .u64 s3_13), (4, vl12)]) (fun ⟨l12, s3_13, vl12, xsl12⟩ wr => InO w [.row (vl12) 5 1 (l12).length (xsl12)] wr fun Oz => Elems .byte (gz H w wr Oz) (l12) (xsl12) ∧ wire_Number_k1 l12 s3_13 = some r) ?_ ?_
 ·refine W_block ?_;obtain ⟨n25, h⟩ := Go.L.run_some h;refine W_loop (σ := (List UInt8) × Int × Value × (List Value) × Nat) (fun ⟨l23, s3_24, vl23, xsl23, n⟩ => [(3, .int .u64 s3_24), (4, vl23)]) (fun ⟨l23, s3_24, vl23, xsl23, n⟩ wr => InO w [.row (vl23) 5 1 (l23).length (xsl23)] wr fun Oz => Elems .byte (gz H w wr Oz) (l23) (xsl23) ∧ Go.L.itr wire_Number_bl2 n (l23, s3_24) = some r) (fun ⟨l23, s3_24, vl23, xsl23, n⟩ => n) (([] : List UInt8), (((IntKind.u64.wrap ((IntKind.u64.wrap a0) * 2)).toNat ^^^ (IntKind.u64.wrap (a0 / 9223372036854775808)).toNat : Nat) : Int), .slice none 0 0, [], n25) (.cons rfl (.cons rfl (Sub.nil _))) ⟨hL2, he2, h⟩ ?_;rintro ⟨l23, s3_24, vl23, xsl23, nn25⟩ wr25 ⟨hL25, hel23, h⟩;obtain ⟨n25, e25, rfl, h, hm25⟩ := Go.L.itr_some h;refine W_seq ?_;refine W_pz 2 rfl ?_;refine W_if rfl (fun hc27 => ?_) (fun hc27 => ?_)
  ·replace h := Go.L.ite_p hc27 h;refine W_skip ?_;refine At_seq ?_;refine W_seq ?_;refine W_block ?_;refine W_region ?_;refine S_pu 2 rfl ?_;refine S_v (r_conv underlying136 underlying5 rfl (conv_64_u8 _)) rfl ?_;refine S_v (r_bit8 (b := 128) rfl rfl rfl) rfl ?_;refine S_litE (r := .byte) (l := [((Go.L.u8 s3_24) ||| (128 : UInt8))]) rfl (fun _ => bsl35_1 _ _) rfl (show 1 ≤ 9223372036854775807 by decide) hH hL25 (.c1 rfl .nil) ?_;intro v29 w29 hx29 hL29 hle29 hv29;replace hel23 := hel23.mono (gz_mono hH hle29);obtain ⟨hk31, h⟩ := Go.L.chk_some h;refine S_appE (r := .byte) (l := l23) (m := [((Go.L.u8 s3_24) ||| (128 : UInt8))]) 0 rfl rfl underlying35 zr5 rfl (by decide) rfl hH hL29 rfl hel23 hv29 hk31 ?_;intro v30 w30 xs30 hL30 hle30 he30;replace hv29 := hv29.mono (gz_mono hH hle30);refine S_pu 1 rfl ?_;refine S_nil ?_;refine At_block ?_;refine At_seq ?_;refine W_region ?_;refine S_pu 1 rfl ?_;refine S_v (r_shr (c := 7) (m := 128) rfl rfl rfl (by decide)) rfl ?_;refine S_pu 1 rfl ?_;refine S_nil ?_;have h := Go.L.Nxt.again h hm25;refine At_round ((l23 ++ [((Go.L.u8 s3_24) ||| (128 : UInt8))]), (s3_24 / 128), v30, xs30, n25) (.cons rfl (.cons rfl (Sub.nil _))) ⟨hL30, he30, h⟩ (Nat.lt_succ_self _)
  ·replace h := Go.L.ite_n hc27 h;refine W_exit ?_;refine At_seq_exit ?_;refine At_loop_exit ?_;replace h := Go.L.Nxt.out h hm25;refine At_exit ?_;refine At_cut (l23, s3_24, vl23, xsl23) (.cons rfl (.cons rfl (Sub.nil _))) ⟨hL25, hel23, h⟩
 ·rintro ⟨l12, s3_13, vl12, xsl12⟩ wr14 ⟨hL14, hel12, h⟩;refine W_p 2 rfl ?_;refine S_v (r_conv underlying136 underlying5 rfl (conv_64_u8 _)) rfl ?_;refine S_litE (r := .byte) (l := [(Go.L.u8 s3_13)]) rfl (fun _ => bsl35_1 _ _) rfl (show 1 ≤ 9223372036854775807 by decide) hH hL14 (.c1 rfl .nil) ?_;intro v34 w34 hx34 hL34 hle34 hv34;replace hel12 := hel12.mono (gz_mono hH hle34);obtain ⟨hk36, h⟩ := Go.L.chk_some h;refine S_appE (r := .byte) (l := l12) (m := [(Go.L.u8 s3_13)]) 0 rfl rfl underlying35 zr5 rfl (by decide) rfl hH hL34 rfl hel12 hv34 hk36 ?_;intro v35 w35 xs35 hL35 hle35 he35;replace hv34 := hv34.mono (gz_mono hH hle35);refine S_pz 1 rfl ?_;refine W_ret ?_;obtain rfl := Option.some.inj h;refine At_body rfl rfl ?_;exact ⟨hL35.ext, _, rfl, (hL35.ownH hH (i := 0) rfl he35)⟩
noncomputable def wire_Chunk (a0 : List UInt8) : Option ((List UInt8)) :=
 Option.bind (wire_Number (a0.length : Int)) (fun x1 => Go.L.chk (Go.E.Cap 1 (x1.length + a0.length)) (some ((x1 ++ a0))))
theorem wire_Chunk_ok (w : World) (H : PH) (hH : Le H (hp w)) {a0 : List UInt8} {v0_0 : Value} (h0_0 : Vec .byte H v0_0 (a0)) {r : (List UInt8)} (h : wire_Chunk a0 = some r) :
  Ok Tryz.prog 109 [v0_0] w (fun v w' => Ext w w' ∧ ∃ u0, v = u0 ∧ OwnH 5 .byte H w w' u0 (r)) := by
 refine Ok_enter (n := 8) [(0, v0_0)] func109 rfl rfl rfl rfl rfl ?_;have hL := Lcl.start w;refine W_pz 1 rfl ?_;refine W_p 1 rfl ?_;refine S_v (r_len rfl underlying35 h0_0) rfl ?_;obtain ⟨x1, hb1, h⟩ := Go.L.bind_some h;refine S_callL rfl rfl hL (wire_Number_ok _ _ (gz_le hH hL) hb1) ?_;rintro u2_0 w2 ⟨_, rfl, hR2_0⟩ hx2 hL2 hle2;obtain ⟨xs2, hL2, hle2, he2⟩ := hR2_0.take hH hL hx2;refine S_pu 1 rfl ?_;obtain ⟨hk4, h⟩ := Go.L.chk_some h;refine S_appE (r := .byte) (l := x1) (m := a0) 0 rfl rfl underlying35 zr5 rfl (by decide) rfl hH hL2 rfl he2 (h0_0.mono (gz_left hH)) hk4 ?_;intro v3 w3 xs3 hL3 hle3 he3;refine S_pz 1 rfl ?_;refine W_ret ?_;obtain rfl := Option.some.inj h;refine At_body rfl rfl ?_;exact ⟨hL3.ext, _, rfl, (hL3.ownH hH (i := 0) rfl he3)⟩
noncomputable def value_encode_body_k3 (a0 : Go.L.Pv) (s34_107 : Int) (self : Go.L.Pv → Option ((List UInt8))) (l128 : List UInt8) : Option (((List UInt8) × Int) ⊕ ((List UInt8))) :=
 Option.bind (self (a0.f.2.2.2.2.getD s34_107.toNat default)) (fun x143 => Go.L.chk (Go.E.Cap 1 (l128.length + x143.length)) (Go.L.chk (Go.L.I64 (s34_107 + (1 : Int))) (some (Sum.inl ((l128 ++ x143), (s34_107 + (1 : Int)))))))
noncomputable def value_encode_body_k1 (l77 : List UInt8) : Option ((List UInt8)) :=
 some (l77)
noncomputable def value_encode_body_bl2 (a0 : Go.L.Pv) (self : Go.L.Pv → Option ((List UInt8))) : (List UInt8) × Int → Option (((List UInt8) × Int) ⊕ ((List UInt8))) := fun ⟨l106, s34_107⟩ =>
 if s34_107 < (a0.f.2.2.2.2.length : Int) then Go.L.chk (0 ≤ s34_107 ∧ s34_107 < (a0.f.2.2.2.2.length : Int)) (if a0.f.1 = (4 : Int) then Go.L.chk (0 ≤ s34_107 ∧ s34_107 < (a0.f.2.2.2.1.length : Int)) (Go.L.chk ((a0.f.2.2.2.1.getD s34_107.toNat default).length ≤ 9223372036854775807) (Option.bind (wire_Chunk (a0.f.2.2.2.1.getD s34_107.toNat default)) (fun x137 => Go.L.chk (Go.E.Cap 1 (l106.length + x137.length)) ((value_encode_body_k3 a0 s34_107 self) (l106 ++ x137))))) else (value_encode_body_k3 a0 s34_107 self) l106) else Option.map Sum.inr (value_encode_body_k1 l106)
noncomputable def value_encode_body_l2 (a0 : Go.L.Pv) (self : Go.L.Pv → Option ((List UInt8))) (s : (List UInt8) × Int) : Option ((List UInt8)) := Go.L.run (value_encode_body_bl2 a0 self) s
noncomputable def value_encode_body (self : Go.L.Pv → Option ((List UInt8))) (a0 : Go.L.Pv) : Option ((List UInt8)) :=
 Option.bind (wire_Number a0.f.1) (fun x2 => if a0.f.1 = (1 : Int) then Option.bind (wire_Number a0.f.2.1) (fun x6 => Go.L.chk (Go.E.Cap 1 (x2.length + x6.length)) (some ((x2 ++ x6)))) else (if a0.f.1 = (2 : Int) then Option.bind (wire_Chunk a0.f.2.2.1) (fun x13 => Go.L.chk (Go.E.Cap 1 (x2.length + x13.length)) (some ((x2 ++ x13)))) else Option.bind (wire_Number (a0.f.2.2.2.2.length : Int)) (fun x18 => Go.L.chk (Go.E.Cap 1 (x2.length + x18.length)) ((value_encode_body_l2 a0 self) ((x2 ++ x18), (0 : Int))))))
noncomputable def value_encode_n : Nat → Go.L.Pv → Option ((List UInt8))
 | 0 => fun _ => none
 | n + 1 => value_encode_body (value_encode_n n)
noncomputable def value_encode : Go.L.Pv → Option ((List UInt8)) := value_encode_n 1000
theorem value_encode_body_ok (self : Go.L.Pv → Option ((List UInt8))) (hself : ∀ (w : World) (H : PH) (hH : Le H (hp w)) {a0 : Go.L.Pv} {v0_0 : Value} {v0_1 : Value} {v0_2 : Value} (h0_0 : Vec .byte H v0_0 (a0.f.2.2.1)) (h0_1 : Vec .st H v0_1 (a0.f.2.2.2.1)) (h0_2 : Vec .tree H v0_2 (a0.f.2.2.2.2)) {r : (List UInt8)} (h : self a0 = some r), Ok Tryz.prog 94 [.agg #[.int .i64 a0.f.1, .int .i64 a0.f.2.1, v0_0, v0_1, v0_2]] w (fun v w' => Ext w w' ∧ ∃ u0, v = u0 ∧ OwnH 5 .byte H w w' u0 (r))) (w : World) (H : PH) (hH : Le H (hp w)) {a0 : Go.L.Pv} {v0_0 : Value} {v0_1 : Value} {v0_2 : Value} (h0_0 : Vec .byte H v0_0 (a0.f.2.2.1)) (h0_1 : Vec .st H v0_1 (a0.f.2.2.2.1)) (h0_2 : Vec .tree H v0_2 (a0.f.2.2.2.2)) {r : (List UInt8)} (h : value_encode_body self a0 = some r) :
  Ok Tryz.prog 94 [.agg #[.int .i64 a0.f.1, .int .i64 a0.f.2.1, v0_0, v0_1, v0_2]] w (fun v w' => Ext w w' ∧ ∃ u0, v = u0 ∧ OwnH 5 .byte H w w' u0 (r)) := by
 refine Ok_enter (n := 57) [(0, .agg #[.int .i64 a0.f.1, .int .i64 a0.f.2.1, v0_0, v0_1, v0_2])] func94 rfl rfl rfl rfl rfl ?_;have hL := Lcl.start w;refine W_seqr ?_;refine S_box (t := 38) rfl rfl rfl hL ?_;intro w1 b1 hL1 hle1 _;refine S_pz 1 rfl ?_;refine W_seqr ?_;refine S_v (r_field rfl underlying38 rfl zr3 (by decide)) rfl ?_;refine S_v (r_loadB1 0 rfl underlying3 rfl hL1 rfl rfl) rfl ?_;obtain ⟨x2, hb2, h⟩ := Go.L.bind_some h;refine S_callL rfl rfl hL1 (wire_Number_ok _ _ (gz_le hH hL1) hb2) ?_;rintro u3_0 w3 ⟨_, rfl, hR3_0⟩ hx3 hL3 hle3;obtain ⟨xs3, hL3, hle3, he3⟩ := hR3_0.take hH hL1 hx3;refine S_pz 1 rfl ?_;refine W_seq ?_;refine W_seqr ?_;refine S_v (r_field rfl underlying38 rfl zr3 (by decide)) rfl ?_;refine S_v (r_loadB1 1 rfl underlying3 rfl hL3 rfl rfl) rfl ?_;refine S_seqnil ?_;refine W_block ?_;refine W_pz 2 rfl ?_;refine W_if rfl (fun hc4 => ?_) (fun hc4 => ?_)
 ·replace h := Go.L.ite_p hc4 h;refine W_p 1 rfl ?_;refine S_v (r_field rfl underlying38 rfl zr3 (by decide)) rfl ?_;refine S_v (r_loadB1 1 rfl underlying3 rfl hL3 rfl rfl) rfl ?_;obtain ⟨x6, hb6, h⟩ := Go.L.bind_some h;refine S_callL rfl rfl hL3 (wire_Number_ok _ _ (gz_le hH hL3) hb6) ?_;rintro u7_0 w7 ⟨_, rfl, hR7_0⟩ hx7 hL7 hle7;have hv7_0 := hR7_0.vecG hH hL3 hx7;replace he3 := he3.mono (gz_mono hH hle7);obtain ⟨hk9, h⟩ := Go.L.chk_some h;refine S_appE (r := .byte) (l := x2) (m := x6) 0 rfl rfl underlying35 zr5 rfl (by decide) rfl hH hL7 rfl he3 hv7_0 hk9 ?_;intro v8 w8 xs8 hL8 hle8 he8;replace hv7_0 := hv7_0.mono (gz_mono hH hle8);refine S_pz 1 rfl ?_;refine W_ret ?_;refine At_block_ret ?_;refine At_seq_ret ?_;obtain rfl := Option.some.inj h;refine At_body rfl rfl ?_;exact ⟨hL8.ext, _, rfl, (hL8.ownH hH (i := 0) rfl he8)⟩
 ·replace h := Go.L.ite_n hc4 h;refine W_pz 2 rfl ?_;refine W_if rfl (fun hc11 => ?_) (fun hc11 => ?_)
  ·replace h := Go.L.ite_p hc11 h;refine W_p 1 rfl ?_;refine S_v (r_field rfl underlying38 rfl zr35 (by decide)) rfl ?_;refine S_v (r_loadB1 1 rfl underlying35 rfl hL3 rfl rfl) rfl ?_;obtain ⟨x13, hb13, h⟩ := Go.L.bind_some h;refine S_callL rfl rfl hL3 (wire_Chunk_ok _ _ (gz_le hH hL3) (h0_0.mono (gz_left hH)) hb13) ?_;rintro u14_0 w14 ⟨_, rfl, hR14_0⟩ hx14 hL14 hle14;have hv14_0 := hR14_0.vecG hH hL3 hx14;replace he3 := he3.mono (gz_mono hH hle14);obtain ⟨hk16, h⟩ := Go.L.chk_some h;refine S_appE (r := .byte) (l := x2) (m := x13) 0 rfl rfl underlying35 zr5 rfl (by decide) rfl hH hL14 rfl he3 hv14_0 hk16 ?_;intro v15 w15 xs15 hL15 hle15 he15;replace hv14_0 := hv14_0.mono (gz_mono hH hle15);refine S_pz 1 rfl ?_;refine W_ret ?_;refine At_block_ret ?_;refine At_seq_ret ?_;obtain rfl := Option.some.inj h;refine At_body rfl rfl ?_;exact ⟨hL15.ext, _, rfl, (hL15.ownH hH (i := 0) rfl he15)⟩
  ·replace h := Go.L.ite_n hc11 h;refine W_skip ?_;refine At_block ?_;refine At_seq ?_;refine W_p 1 rfl ?_;refine S_v (r_field rfl underlying38 rfl zr36 (by decide)) rfl ?_;refine S_v (r_loadB1 1 rfl underlying36 rfl hL3 rfl rfl) rfl ?_;refine S_v (r_len rfl underlying36 h0_2) rfl ?_;obtain ⟨x18, hb18, h⟩ := Go.L.bind_some h;refine S_callL rfl rfl hL3 (wire_Number_ok _ _ (gz_le hH hL3) hb18) ?_;rintro u19_0 w19 ⟨_, rfl, hR19_0⟩ hx19 hL19 hle19;have hv19_0 := hR19_0.vecG hH hL3 hx19;replace he3 := he3.mono (gz_mono hH hle19);obtain ⟨hk21, h⟩ := Go.L.chk_some h;refine S_appE (r := .byte) (l := x2) (m := x18) 0 rfl rfl underlying35 zr5 rfl (by decide) rfl hH hL19 rfl he3 hv19_0 hk21 ?_;intro v20 w20 xs20 hL20 hle20 he20;replace hv19_0 := hv19_0.mono (gz_mono hH hle20);refine S_pz 1 rfl ?_;refine W_cut (σ := (List UInt8) × Value × (List Value)) (fun ⟨l77, vl77, xsl77⟩ => [(3, vl77)]) (fun ⟨l77, vl77, xsl77⟩ wr => InO w [.row (vl77) 5 1 (l77).length (xsl77), .box b1 [.int .i64 a0.f.1, .int .i64 a0.f.2.1, v0_0, v0_1, v0_2] 38] wr fun Oz => Elems .byte (gz H w wr Oz) (l77) (xsl77) ∧ value_encode_body_k1 l77 = some r) ?_ ?_
   ·refine W_seqr ?_;refine S_v (r_field rfl underlying38 rfl zr36 (by decide)) rfl ?_;refine S_v (r_loadB1 1 rfl underlying36 rfl hL20 rfl rfl) rfl ?_;refine S_v (r_len rfl underlying36 h0_2) rfl ?_;refine S_pz 1 rfl ?_;refine W_block ?_;obtain ⟨n108, h⟩ := Go.L.run_some h;refine W_loop (σ := (List UInt8) × Int × Value × (List Value) × Nat) (fun ⟨l106, s34_107, vl106, xsl106, n⟩ => [(1, .pointer (some ⟨b1, 0, none⟩)), (3, vl106), (32, v0_2), (33, .int .i64 (a0.f.2.2.2.2.length : Int)), (34, .int .i64 s34_107)]) (fun ⟨l106, s34_107, vl106, xsl106, n⟩ wr => InO w [.row (vl106) 5 1 (l106).length (xsl106), .box b1 [.int .i64 a0.f.1, .int .i64 a0.f.2.1, v0_0, v0_1, v0_2] 38] wr fun Oz => Elems .byte (gz H w wr Oz) (l106) (xsl106) ∧ Go.L.itr (value_encode_body_bl2 a0 self) n (l106, s34_107) = some r) (fun ⟨l106, s34_107, vl106, xsl106, n⟩ => n) ((x2 ++ x18), (0 : Int), v20, xs20, n108) (.cons rfl (.cons rfl (.cons rfl (.cons rfl (.cons rfl (Sub.nil _)))))) ⟨hL20, he20, h⟩ ?_;rintro ⟨l106, s34_107, vl106, xsl106, nn108⟩ wr108 ⟨hL108, hel106, h⟩;obtain ⟨n108, e108, rfl, h, hm108⟩ := Go.L.itr_some h;refine W_pz 1 rfl ?_;refine W_seq ?_;refine W_if rfl (fun hc110 => ?_) (fun hc110 => ?_)
    ·replace h := Go.L.ite_p hc110 h;refine W_skip ?_;refine At_seq ?_;refine W_seq ?_;refine W_block ?_;refine W_p 1 rfl ?_;obtain ⟨hk113, h⟩ := Go.L.chk_some h;refine S_index rfl rfl underlying36 zr38 h0_2 s34_107.toNat (Int.toNat_of_nonneg hk113.1).symm (idx_lt hk113) rfl ?_;rintro p112 _ e112t0 hp112;obtain ⟨_, _, rfl, rfl, ⟨_, _, rfl, rfl, ⟨_, _, rfl, ⟨e112v2, rfl, e112h2⟩, ⟨_, _, rfl, ⟨e112v3, rfl, e112h3⟩, ⟨e112v4, rfl, e112h4⟩⟩⟩⟩⟩ := Go.E.Rp.tree_open e112t0;refine S_v (r_loadN rfl underlying38 rfl zr38 hp112 (hH.trans hL108.arg)) rfl ?_;refine S_alloc zr38 rfl rfl hL108 ?_;intro w114 b114 hL114 hle114 _;replace hel106 := hel106.mono (gz_mono hH hle114);refine S_pu 1 rfl ?_;refine S_storeBN 0 rfl rfl rfl zr38 hL114 rfl rfl (onc rfl (onc rfl (onc e112h2.one (onc e112h3.one (onc e112h4.one on0))))) ?_;intro w115 hL115 hle115;replace hel106 := hel106.mono (gz_mono hH hle115);refine S_seqnil ?_
     refine W_cut (σ := (List UInt8) × Value × (List Value)) (fun ⟨l128, vl128, xsl128⟩ => [(1, .pointer (some ⟨b1, 0, none⟩)), (3, vl128), (5, .pointer (some ⟨b114, 0, none⟩)), (32, v0_2), (33, .int .i64 (a0.f.2.2.2.2.length : Int)), (34, .int .i64 s34_107)]) (fun ⟨l128, vl128, xsl128⟩ wr => InO w [.box b114 [.int .i64 ((a0.f.2.2.2.2.getD s34_107.toNat default).f.1), .int .i64 ((a0.f.2.2.2.2.getD s34_107.toNat default).f.2.1), e112v2, e112v3, e112v4] 38, .row (vl128) 5 1 (l128).length (xsl128), .box b1 [.int .i64 a0.f.1, .int .i64 a0.f.2.1, v0_0, v0_1, v0_2] 38] wr fun Oz => Elems .byte (gz H w wr Oz) (l128) (xsl128) ∧ (value_encode_body_k3 a0 s34_107 self) l128 = some e108) ?_ ?_
     ·refine W_seqr ?_;refine S_v (r_field rfl underlying38 rfl zr3 (by decide)) rfl ?_;refine S_v (r_loadB1 2 rfl underlying3 rfl hL115 rfl rfl) rfl ?_;refine S_pz 1 rfl ?_;refine W_if rfl (fun hc131 => ?_) (fun hc131 => ?_)
      ·replace h := Go.L.ite_p hc131 h;refine W_region ?_;refine S_pu 1 rfl ?_;refine S_v (r_field rfl underlying38 rfl zr30 (by decide)) rfl ?_;refine S_v (r_loadB1 2 rfl underlying30 rfl hL115 rfl rfl) rfl ?_;refine S_pu 1 rfl ?_;obtain ⟨hk134, h⟩ := Go.L.chk_some h;refine S_index rfl rfl underlying30 zr9 h0_1 s34_107.toNat (Int.toNat_of_nonneg hk134.1).symm (idx_lt hk134) rfl ?_;rintro p133 _ rfl hp133;refine S_v (r_load1 rfl underlying9 rfl hp133 (hH.trans hL115.arg)) rfl ?_;obtain ⟨hk136, h⟩ := Go.L.chk_some h;refine S_s2b (H := H) rfl underlying9 underlying35 underlying5 rfl hL115 hk136 ?_;intro v135 w135 hx135 hL135 hle135 hv135;replace hel106 := hel106.mono (gz_mono hH hle135);obtain ⟨x137, hb137, h⟩ := Go.L.bind_some h;refine S_callL rfl rfl hL135 (wire_Chunk_ok _ _ (gz_le hH hL135) hv135 hb137) ?_;rintro u138_0 w138 ⟨_, rfl, hR138_0⟩ hx138 hL138 hle138;have hv138_0 := hR138_0.vecG hH hL135 hx138;replace hel106 := hel106.mono (gz_mono hH hle138);replace hv135 := hv135.mono (gz_mono hH hle138);obtain ⟨hk140, h⟩ := Go.L.chk_some h;refine S_appE (r := .byte) (l := l106) (m := x137) 1 rfl rfl underlying35 zr5 rfl (by decide) rfl hH hL138 rfl hel106 hv138_0 hk140 ?_;intro v139 w139 xs139 hL139 hle139 he139;replace hv135 := hv135.mono (gz_mono hH hle139);replace hv138_0 := hv138_0.mono (gz_mono hH hle139);refine S_pu 1 rfl ?_;refine S_nil ?_
       refine At_cut ((l106 ++ x137), v139, xs139) (.cons rfl (.cons rfl (.cons rfl (.cons rfl (.cons rfl (.cons rfl (Sub.nil _))))))) ⟨hL139, he139, h⟩
      ·replace h := Go.L.ite_n hc131 h;refine W_skip ?_;refine At_cut (l106, vl106, xsl106) (.cons rfl (.cons rfl (.cons rfl (.cons rfl (.cons rfl (.cons rfl (Sub.nil _))))))) ⟨hL115, hel106, h⟩
     ·rintro ⟨l128, vl128, xsl128⟩ wr129 ⟨hL129, hel128, h⟩;refine W_region ?_;refine S_pu 1 rfl ?_;refine S_v (r_loadBN 0 rfl underlying38 rfl zr38 hL129 rfl) rfl ?_;obtain ⟨x143, hb143, h⟩ := Go.L.bind_some h;refine S_callL rfl rfl hL129 (hself _ _ (gz_le hH hL129) (e112h2.mono (gz_left hH)) (e112h3.mono (gz_left hH)) (e112h4.mono (gz_left hH)) hb143) ?_;rintro u144_0 w144 ⟨_, rfl, hR144_0⟩ hx144 hL144 hle144;have hv144_0 := hR144_0.vecG hH hL129 hx144;replace hel128 := hel128.mono (gz_mono hH hle144);obtain ⟨hk146, h⟩ := Go.L.chk_some h;refine S_appE (r := .byte) (l := l128) (m := x143) 1 rfl rfl underlying35 zr5 rfl (by decide) rfl hH hL144 rfl hel128 hv144_0 hk146 ?_;intro v145 w145 xs145 hL145 hle145 he145;replace hv144_0 := hv144_0.mono (gz_mono hH hle145);refine S_pu 1 rfl ?_;refine S_nil ?_;refine At_block ?_;refine At_seq ?_;refine W_region ?_;obtain ⟨hk147, h⟩ := Go.L.chk_some h;refine S_v (r_ar64 rfl rfl rfl hk147) rfl ?_;refine S_pu 1 rfl ?_;refine S_nil ?_;have hL148 := hL145.dropAt (i := 0) rfl;replace he145 := he145.mono (gz_mono hH (fz_dropAt (i := 0) rfl));have h := Go.L.Nxt.again h hm108;refine At_round ((l128 ++ x143), (s34_107 + (1 : Int)), v145, xs145, n108) (.cons rfl (.cons rfl (.cons rfl (.cons rfl (.cons rfl (Sub.nil _)))))) ⟨hL148, he145, h⟩ (Nat.lt_succ_self _)
    ·replace h := Go.L.ite_n hc110 h;refine W_exit ?_;refine At_seq_exit ?_;refine At_loop_exit ?_;replace h := Go.L.Nxt.out h hm108;refine At_exit ?_;refine At_cut (l106, vl106, xsl106) (.cons rfl (Sub.nil _)) ⟨hL108, hel106, h⟩
   ·rintro ⟨l77, vl77, xsl77⟩ wr78 ⟨hL78, hel77, h⟩;refine W_pz 2 rfl ?_;refine W_ret ?_;obtain rfl := Option.some.inj h;refine At_body rfl rfl ?_;exact ⟨hL78.ext, _, rfl, (hL78.ownH hH (i := 0) rfl hel77)⟩
theorem value_encode_n_ok (n : Nat) : ∀ (w : World) (H : PH) (hH : Le H (hp w)) {a0 : Go.L.Pv} {v0_0 : Value} {v0_1 : Value} {v0_2 : Value} (h0_0 : Vec .byte H v0_0 (a0.f.2.2.1)) (h0_1 : Vec .st H v0_1 (a0.f.2.2.2.1)) (h0_2 : Vec .tree H v0_2 (a0.f.2.2.2.2)) {r : (List UInt8)} (h : value_encode_n n a0 = some r), Ok Tryz.prog 94 [.agg #[.int .i64 a0.f.1, .int .i64 a0.f.2.1, v0_0, v0_1, v0_2]] w (fun v w' => Ext w w' ∧ ∃ u0, v = u0 ∧ OwnH 5 .byte H w w' u0 (r)) := by
 induction n with
 | zero => intros; rename_i h; cases h
 | succ n ih => exact @value_encode_body_ok (value_encode_n n) ih
theorem value_encode_ok (w : World) (H : PH) (hH : Le H (hp w)) {a0 : Go.L.Pv} {v0_0 : Value} {v0_1 : Value} {v0_2 : Value} (h0_0 : Vec .byte H v0_0 (a0.f.2.2.1)) (h0_1 : Vec .st H v0_1 (a0.f.2.2.2.1)) (h0_2 : Vec .tree H v0_2 (a0.f.2.2.2.2)) {r : (List UInt8)} (h : value_encode a0 = some r) : Ok Tryz.prog 94 [.agg #[.int .i64 a0.f.1, .int .i64 a0.f.2.1, v0_0, v0_1, v0_2]] w (fun v w' => Ext w w' ∧ ∃ u0, v = u0 ∧ OwnH 5 .byte H w w' u0 (r)) := value_encode_n_ok 1000 w H hH h0_0 h0_1 h0_2 h
noncomputable def value_Encode (a0 : Go.L.Pv) : Option ((List UInt8) × (Int × Int)) :=
 Option.bind (value_check a0 (0 : Int) (1 : Int)) (fun x3 => if x3.2.1 = (0 : Int) ∧ x3.2.2 = (0 : Int) then Option.bind (value_encode a0) (fun x15 => if (4000 : Int) < (x15.length : Int) then Option.bind (value_fault (14 : Int) (-1 : Int)) (fun x19 => some ([], (x19.1, x19.2))) else some (x15, ((0 : Int), (0 : Int)))) else some ([], (x3.2.1, x3.2.2)))
theorem value_Encode_ok (w : World) (H : PH) (hH : Le H (hp w)) {a0 : Go.L.Pv} {v0_0 : Value} {v0_1 : Value} {v0_2 : Value} (h0_0 : Vec .byte H v0_0 (a0.f.2.2.1)) (h0_1 : Vec .st H v0_1 (a0.f.2.2.2.1)) (h0_2 : Vec .tree H v0_2 (a0.f.2.2.2.2)) {r : (List UInt8) × (Int × Int)} (h : value_Encode a0 = some r) :
  Ok Tryz.prog 55 [.agg #[.int .i64 a0.f.1, .int .i64 a0.f.2.1, v0_0, v0_1, v0_2]] w (fun v w' => Ext w w' ∧ ∃ u0, v = .tuple #[u0, .agg #[.int .i64 r.2.1, .int .i64 r.2.2]] ∧ OwnH 5 .byte H w w' u0 (r.1)) := by
 refine Ok_enter (n := 24) [(0, .agg #[.int .i64 a0.f.1, .int .i64 a0.f.2.1, v0_0, v0_1, v0_2])] func55 rfl rfl rfl rfl rfl ?_;have hL := Lcl.start w;refine W_seqr ?_;refine S_box (t := 38) rfl rfl rfl hL ?_;intro w1 b1 hL1 hle1 _;refine S_pu 1 rfl ?_;refine S_alloc zr23 rfl rfl hL1 ?_;intro w2 b2 hL2 hle2 _;refine S_seqnil ?_;refine W_seq ?_;refine W_seqr ?_;refine S_v (r_loadBN 1 rfl underlying38 rfl zr38 hL2 rfl) rfl ?_;obtain ⟨x3, hb3, h⟩ := Go.L.bind_some h;refine S_callL rfl rfl hL2 (value_check_ok (a0 := a0) _ _ (gz_le hH hL2) (h0_0.mono (gz_left hH)) (h0_1.mono (gz_left hH)) (h0_2.mono (gz_left hH)) hb3) ?_;rintro _ w4 rfl hx4 hL4 hle4;refine S_pu 3 rfl ?_;refine S_alloc zr23 rfl rfl hL4 ?_;intro w5 b5 hL5 hle5 _;refine S_pu 1 rfl ?_;refine S_storeBN 0 rfl rfl rfl zr23 hL5 rfl rfl (onc rfl (onc rfl on0)) ?_;intro w6 hL6 hle6;refine S_seqnil ?_;refine W_seqr ?_;refine S_v (r_loadBN 0 rfl underlying23 rfl zr23 hL6 rfl) rfl ?_;refine S_v (r_build rfl (fun _ => bld23_z _)) rfl ?_;refine S_v (r_neA rfl rfl eqg23 (eq23 _ _ _ _ )) rfl ?_;refine S_seqnil ?_;refine W_ifn rfl (fun hc7 => ?_) (fun hc7 => ?_)
 ·replace h := Go.L.ite_n hc7 h;refine W_seqd (.q 0 (.q 1 (.tail 2))) mixed (by kernel_rfl) (fun w9 hx9 => ?_);have hL10 := hL6.call hx9;refine D_v (r_loadBN 0 rfl underlying23 rfl zr23 hL10 rfl) rfl rfl ?_;refine D_pu 1 rfl ?_;refine D_tail (fun w11 hx11 => ?_);have hL12 := hL10.call hx11;refine S_storeBN 1 rfl rfl rfl zr23 hL12 rfl rfl (onc rfl (onc rfl on0)) ?_;intro w13 hL13 hle13;refine S_seqnil ?_;refine W_ret ?_;refine At_seq_ret ?_;obtain rfl := Option.some.inj h;refine At_got2 rfl (.tmp rfl) (.cell rfl underlying23 rfl zr23 (box_ptr (i := 1) hL13 rfl)) ?_;exact ⟨hL13.ext, _, rfl, OwnH.nil⟩
 ·replace h := Go.L.ite_p hc7 h;refine W_skip ?_;refine At_seq ?_;refine W_seqr ?_;refine S_v (r_loadBN 2 rfl underlying38 rfl zr38 hL6 rfl) rfl ?_;obtain ⟨x15, hb15, h⟩ := Go.L.bind_some h;refine S_callL rfl rfl hL6 (value_encode_ok (a0 := a0) _ _ (gz_le hH hL6) (h0_0.mono (gz_left hH)) (h0_1.mono (gz_left hH)) (h0_2.mono (gz_left hH)) hb15) ?_;rintro u16_0 w16 ⟨_, rfl, hR16_0⟩ hx16 hL16 hle16;obtain ⟨xs16, hL16, hle16, he16⟩ := hR16_0.take hH hL6 hx16;refine S_pz 1 rfl ?_;refine W_seq ?_;refine W_p 1 rfl ?_;refine S_v (r_lenR (i := 0) rfl underlying35 hL16 rfl) rfl ?_;refine S_pz 1 rfl ?_;refine W_if rfl (fun hc17 => ?_) (fun hc17 => ?_)
  ·replace h := Go.L.ite_p hc17 h;refine W_seqr ?_;obtain ⟨x19, hb19, h⟩ := Go.L.bind_some h;refine S_callL rfl rfl hL16 (value_fault_ok _ _ (gz_le hH hL16) hb19) ?_;rintro _ w20 rfl hx20 hL20 hle20;replace he16 := he16.mono (gz_mono hH hle20);refine S_pu 1 rfl ?_;refine S_storeBN 2 rfl rfl rfl zr23 hL20 rfl rfl (onc rfl (onc rfl on0)) ?_;intro w21 hL21 hle21;replace he16 := he16.mono (gz_mono hH hle21);refine S_seqnil ?_;refine W_ret ?_;refine At_seq_ret ?_;obtain rfl := Option.some.inj h;refine At_got2 rfl (.tmp rfl) (.cell rfl underlying23 rfl zr23 (box_ptr (i := 2) hL21 rfl)) ?_;exact ⟨hL21.ext, _, rfl, OwnH.nil⟩
  ·replace h := Go.L.ite_n hc17 h;refine W_skip ?_;refine At_seq ?_;refine W_p 1 rfl ?_;refine S_v (r_build rfl (fun _ => bld23_z _)) rfl ?_;refine S_pu 1 rfl ?_;refine S_storeBN 2 rfl rfl rfl zr23 hL16 rfl rfl (onc rfl (onc rfl on0)) ?_;intro w23 hL23 hle23;replace he16 := he16.mono (gz_mono hH hle23);refine S_seqnil ?_;refine W_ret ?_;obtain rfl := Option.some.inj h;refine At_got2 rfl (.tmp rfl) (.cell rfl underlying23 rfl zr23 (box_ptr (i := 2) hL23 rfl)) ?_;exact ⟨hL23.ext, _, rfl, (hL23.ownH hH (i := 0) rfl he16)⟩
noncomputable def value_Validate (a0 : Go.L.Pv) : Option ((Int × Int)) :=
 Option.bind (value_Encode a0) (fun x3 => some ((x3.2.1, x3.2.2)))
theorem value_Validate_ok (w : World) (H : PH) (hH : Le H (hp w)) {a0 : Go.L.Pv} {v0_0 : Value} {v0_1 : Value} {v0_2 : Value} (h0_0 : Vec .byte H v0_0 (a0.f.2.2.1)) (h0_1 : Vec .st H v0_1 (a0.f.2.2.2.1)) (h0_2 : Vec .tree H v0_2 (a0.f.2.2.2.2)) {r : (Int × Int)} (h : value_Validate a0 = some r) :
  Ok Tryz.prog 22 [.agg #[.int .i64 a0.f.1, .int .i64 a0.f.2.1, v0_0, v0_1, v0_2]] w (fun v w' => Ext w w' ∧ v = .agg #[.int .i64 r.1, .int .i64 r.2]) := by
 refine Ok_enter (n := 11) [(0, .agg #[.int .i64 a0.f.1, .int .i64 a0.f.2.1, v0_0, v0_1, v0_2])] func22 rfl rfl rfl rfl rfl ?_;have hL := Lcl.start w;refine W_seqr ?_;refine S_box (t := 38) rfl rfl rfl hL ?_;intro w1 b1 hL1 hle1 _;refine S_alloc zr23 rfl rfl hL1 ?_;intro w2 b2 hL2 hle2 _;refine S_seqnil ?_;refine W_seqr ?_;refine S_v (r_loadBN 1 rfl underlying38 rfl zr38 hL2 rfl) rfl ?_;obtain ⟨x3, hb3, h⟩ := Go.L.bind_some h;refine S_callL rfl rfl hL2 (value_Encode_ok (a0 := a0) _ _ (gz_le hH hL2) (h0_0.mono (gz_left hH)) (h0_1.mono (gz_left hH)) (h0_2.mono (gz_left hH)) hb3) ?_;rintro _ w4 ⟨u4_0, rfl, hR4_0⟩ hx4 hL4 hle4;have hv4_0 := hR4_0.vecG hH hL2 hx4;refine S_pu 3 rfl ?_;refine S_alloc zr23 rfl rfl hL4 ?_;intro w5 b5 hL5 hle5 _;replace hv4_0 := hv4_0.mono (gz_mono hH hle5);refine S_pu 1 rfl ?_;refine S_storeBN 0 rfl rfl rfl zr23 hL5 rfl rfl (onc rfl (onc rfl on0)) ?_;intro w6 hL6 hle6;replace hv4_0 := hv4_0.mono (gz_mono hH hle6);refine S_seqnil ?_;refine W_seqr ?_;refine S_v (r_loadBN 0 rfl underlying23 rfl zr23 hL6 rfl) rfl ?_;refine S_storeBN 1 rfl rfl rfl zr23 hL6 rfl rfl (onc rfl (onc rfl on0)) ?_;intro w7 hL7 hle7;refine S_seqnil ?_;refine W_ret ?_;obtain rfl := Option.some.inj h;refine At_got1 rfl (.cell rfl underlying23 rfl zr23 (box_ptr (i := 1) hL7 rfl)) ?_;exact ⟨hL7.ext, rfl⟩
end Go.Proofs.YtmfiaecglndldaaGreatDoor
end
section
namespace Go.E
open Go Go.RowKit
/-- The function value f (with cap) turns what J says of the state, leaf by leaf, as step says. -/
structure Cb (P : Program) (w0 : World) (H : PH) (f : FuncId) (cap : List Value) {σ : Type} (J : σ → List Res → PH → Prop) (step : σ → List UInt8 × Int × Int × List UInt8 → Option σ) : Prop where
  mono : ∀ {s : σ} {R : List Res} {G G' : PH}, Le G G' → J s R G → J s R G'
  ok : ∀ {w : World} {O R : List Res} {s s' : σ} {x : List UInt8 × Int × Int × List UInt8}, Lcl w0 (HAppend.hAppend O R) w → J s R (gz H w0 w (HAppend.hAppend O R)) → step s x = some s' →
    Ok P f (encLf x :: cap) w (fun v w' => v = .tuple #[] ∧ ∃ R' : List Res, Lcl w0 (HAppend.hAppend O R') w' ∧ Le (fz w (HAppend.hAppend O R)) (fz w' (HAppend.hAppend O R')) ∧ J s' R' (gz H w0 w' (HAppend.hAppend O R')))
end Go.E
end
