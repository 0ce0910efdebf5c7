/- Texts of a claim, merged. -/
import Derived.Test.YtmfiaecglndldaaGreatDoorKb2
import Derived.KernelRfl
set_option linter.unusedVariables false
set_option linter.unusedSimpArgs false
section
namespace Go.Proofs.YtmfiaecglndldaaGreatDoor
open Go Go.E Go.RowKit
set_option maxHeartbeats 1000000
set_option maxRecDepth 10000
open _root_.Go.Proofs.Tryz
noncomputable def ref3_In (a0 : Int) (a1 : Int) (a2 : Int) : Option (Bool) :=
 some (decide ((a1 ≤ a0) ∧ (a0 ≤ a2)))
theorem ref3_In_ok (w : World) (H : PH) (_hH : Le H (hp w)) {a0 : Int} {a1 : Int} {a2 : Int}   {r : Bool} (h : ref3_In a0 a1 a2 = some r) :
  Ok Tryz.prog 20 [.int .i64 a0, .int .i64 a1, .int .i64 a2] w (fun v w' => Ext w w' ∧ v = .bool r) := by
 refine Ok_enter (n := 15) [(0, .int .i64 a0), (1, .int .i64 a1), (2, .int .i64 a2)] func20 rfl rfl rfl rfl rfl ?_
 have hL := Lcl.start w
 refine W_pz 1 rfl ?_
 refine W_p 4 rfl ?_
 refine S_and 3 3 rfl rfl rfl rfl rfl rfl ?_
 refine S_pz 1 rfl ?_
 refine W_ret ?_
 obtain rfl := Option.some.inj h
 refine At_body rfl rfl ?_
 exact ⟨hL.ext, rfl⟩
noncomputable def ref3_At (a0 : Int) (a1 : Int) : Option ((Int × Int)) :=
 some ((a0, a1))
theorem ref3_At_ok (w : World) (H : PH) (_hH : Le H (hp w)) {a0 : Int} {a1 : Int}   {r : (Int × Int)} (h : ref3_At a0 a1 = some r) :
  Ok Tryz.prog 16 [.int .i64 a0, .int .i64 a1] w (fun v w' => Ext w w' ∧ v = .agg #[.int .i64 r.1, .int .i64 r.2]) := by
 refine Ok_enter (n := 8) [(0, .int .i64 a0), (1, .int .i64 a1)] func16 rfl rfl rfl rfl rfl ?_
 have hL := Lcl.start w
 refine W_seqr ?_
 refine S_alloc zr23 rfl rfl hL ?_
 intro w1 b1 hL1 hle1 _
 refine S_seqnil ?_
 refine W_p 2 rfl ?_
 refine S_v (r_build rfl (fun _ => bld23_0_1 _ _ _)) rfl ?_
 refine S_storeBN 0 rfl rfl rfl zr23 hL1 rfl rfl (onc rfl (onc rfl on0)) ?_
 intro w2 hL2 hle2
 refine S_seqnil ?_
 refine W_ret ?_
 obtain rfl := Option.some.inj h
 refine At_got1 rfl (.cell rfl underlying23 rfl zr23 (box_ptr (i := 0) hL2 rfl)) ?_
 exact ⟨hL2.ext, rfl⟩
noncomputable def ref3_Ints_k1 : Option (Bool) :=
 some (true)
noncomputable def ref3_Ints_bl2 (a0 : List Int) (a1 : List Int) : Int → Option ((Int) ⊕ (Bool)) := fun s5_40 =>
 if s5_40 < (a0.length : Int) then Go.L.chk (0 ≤ s5_40 ∧ s5_40 < (a0.length : Int)) (Go.L.chk (0 ≤ s5_40 ∧ s5_40 < (a1.length : Int)) (if a0.getD s5_40.toNat default = a1.getD s5_40.toNat default then Go.L.chk (Go.L.I64 (s5_40 + (1 : Int))) (some (Sum.inl (s5_40 + (1 : Int)))) else Option.map Sum.inr (some (false)))) else Option.map Sum.inr (ref3_Ints_k1)
noncomputable def ref3_Ints_l2 (a0 : List Int) (a1 : List Int) (s : Int) : Option (Bool) := Go.L.run (ref3_Ints_bl2 a0 a1) s
noncomputable def ref3_Ints (a0 : List Int) (a1 : List Int) : Option (Bool) :=
 if (a0.length : Int) = (a1.length : Int) then (ref3_Ints_l2 a0 a1) (0 : Int) else some (false)
theorem ref3_Ints_ok (w : World) (H : PH) (hH : Le H (hp w)) {a0 : List Int} {a1 : List Int} {v0_0 : Value} {v1_0 : Value} (h0_0 : Vec (.int .i64) H v0_0 (a0)) (h1_0 : Vec (.int .i64) H v1_0 (a1)) {r : Bool} (h : ref3_Ints a0 a1 = some r) :
  Ok Tryz.prog 34 [v0_0, v1_0] w (fun v w' => Ext w w' ∧ v = .bool r) := by
 refine Ok_enter (n := 26) [(0, v0_0), (1, v1_0)] func34 rfl rfl rfl rfl rfl ?_
 have hL := Lcl.start w
 refine W_pz 1 rfl ?_
 refine W_seq ?_
 refine W_p 1 rfl ?_
 refine S_v (r_len rfl underlying52 h0_0) rfl ?_
 refine S_pu 1 rfl ?_
 refine S_v (r_len rfl underlying52 h1_0) rfl ?_
 refine S_pz 1 rfl ?_
 refine W_ifn rfl (fun hc1 => ?_) (fun hc1 => ?_)
 ·replace h := Go.L.ite_n hc1 h
  refine W_pz 1 rfl ?_
  refine W_ret ?_
  refine At_seq_ret ?_
  obtain rfl := Option.some.inj h
  refine At_body rfl rfl ?_
  exact ⟨hL.ext, rfl⟩
 ·replace h := Go.L.ite_p hc1 h
  refine W_skip ?_
  refine At_seq ?_
  refine W_cut (σ := Unit) (fun (_ : Unit) => []) (fun (_ : Unit) wr => Lcl w [] wr ∧ ref3_Ints_k1 = some r) ?_ ?_
  ·refine W_pz 1 rfl ?_
   refine W_block ?_
   obtain ⟨n41, h⟩ := Go.L.run_some h
   refine W_loop (σ := Int × Nat) (fun ⟨s5_40, n⟩ => [(0, v0_0), (1, v1_0), (5, .int .i64 s5_40)]) (fun ⟨s5_40, n⟩ wr => Lcl w [] wr ∧ Go.L.itr (ref3_Ints_bl2 a0 a1) n s5_40 = some r) (fun ⟨s5_40, n⟩ => n) ((0 : Int), n41) (.cons rfl (.cons rfl (.cons rfl (Sub.nil _)))) ⟨hL, h⟩ ?_
   rintro ⟨s5_40, nn41⟩ wr41 ⟨hL41, h⟩
   obtain ⟨n41, e41, rfl, h, hm41⟩ := Go.L.itr_some h
   refine W_seq ?_
   refine W_p 2 rfl ?_
   refine S_v (r_len rfl underlying52 h0_0) rfl ?_
   refine S_pz 1 rfl ?_
   refine W_if rfl (fun hc43 => ?_) (fun hc43 => ?_)
   ·replace h := Go.L.ite_p hc43 h
    refine W_skip ?_
    refine At_seq ?_
    refine W_seq ?_
    refine W_block ?_
    refine W_seqd (.q 0 (.q 1 (.q 2 (.q 3 (.q 4 (.q 5 (.q 6 (.q 7 (.q 8 (.tail 9)))))))))) mixed (by kernel_rfl) (fun w45 hx45 => ?_)
    have hL46 := hL41.call hx45
    refine D_pu 2 rfl ?_
    obtain ⟨hk48, h⟩ := Go.L.chk_some h
    refine D_index rfl rfl rfl underlying52 zr3 h0_0 s5_40.toNat (Int.toNat_of_nonneg hk48.1).symm (idx_lt hk48) rfl ?_
    rintro p47 _ rfl hp47
    refine D_v (r_load1 rfl underlying3 rfl hp47 (hH.trans hL46.arg)) rfl rfl ?_
    refine D_pu 2 rfl ?_
    obtain ⟨hk50, h⟩ := Go.L.chk_some h
    refine D_index rfl rfl rfl underlying52 zr3 h1_0 s5_40.toNat (Int.toNat_of_nonneg hk50.1).symm (idx_lt hk50) rfl ?_
    rintro p49 _ rfl hp49
    refine D_v (r_load1 rfl underlying3 rfl hp49 (hH.trans hL46.arg)) rfl rfl ?_
    refine D_pu 1 rfl ?_
    refine D_tail (fun w51 hx51 => ?_)
    have hL52 := hL46.call hx51
    refine S_seqnil ?_
    refine W_ifn rfl (fun hc53 => ?_) (fun hc53 => ?_)
    ·replace h := Go.L.ite_n hc53 h
     refine W_pz 1 rfl ?_
     refine W_ret ?_
     refine At_block_ret ?_
     refine At_seq_ret ?_
     refine At_loop_ret ?_
     replace h := Go.L.Nxt.out h hm41
     refine At_block_ret ?_
     refine At_cut_ret ?_
     obtain rfl := Option.some.inj h
     refine At_body rfl rfl ?_
     exact ⟨hL52.ext, rfl⟩
    ·replace h := Go.L.ite_p hc53 h
     refine W_skip ?_
     refine At_block ?_
     refine At_seq ?_
     refine W_region ?_
     refine S_pu 1 rfl ?_
     obtain ⟨hk56, h⟩ := Go.L.chk_some h
     refine S_v (r_ar64 rfl rfl rfl hk56) rfl ?_
     refine S_pu 1 rfl ?_
     refine S_nil ?_
     have h := Go.L.Nxt.again h hm41
     refine At_round ((s5_40 + (1 : Int)), n41) (.cons rfl (.cons rfl (.cons rfl (Sub.nil _)))) ⟨hL52, h⟩ (Nat.lt_succ_self _)
   ·replace h := Go.L.ite_n hc43 h
    refine W_exit ?_
    refine At_seq_exit ?_
    refine At_loop_exit ?_
    replace h := Go.L.Nxt.out h hm41
    refine At_exit ?_
    refine At_cut () (Sub.nil _) ⟨hL41, h⟩
  ·rintro _ wr22 ⟨hL22, h⟩
   refine W_pz 1 rfl ?_
   refine W_ret ?_
   obtain rfl := Option.some.inj h
   refine At_body rfl rfl ?_
   exact ⟨hL22.ext, rfl⟩
noncomputable def ref4_NameOk_k1 (a0 : List UInt8) : Option (Bool) :=
 Option.bind (ref3_In (a0.length : Int) (1 : Int) (32 : Int)) (fun x104 => some (x104))
noncomputable def ref4_NameOk_bl2 (a0 : List UInt8) : Int → Option ((Int) ⊕ (Bool)) := fun s3_69 =>
 if s3_69 < (a0.length : Int) then Go.L.chk (0 ≤ s3_69 ∧ s3_69 < (a0.length : Int)) (Option.bind (ref3_In ((a0.getD s3_69.toNat default).toNat : Int) (97 : Int) (122 : Int)) (fun x75 => if !x75 then if s3_69 = (0 : Int) then Option.map Sum.inr (some (false)) else Option.bind (ref3_In ((a0.getD s3_69.toNat default).toNat : Int) (48 : Int) (57 : Int)) (fun x82 => if !x82 then if ((a0.getD s3_69.toNat default).toNat : Int) = (45 : Int) then Go.L.chk (Go.L.I64 (s3_69 + (1 : Int))) (some (Sum.inl (s3_69 + (1 : Int)))) else if ((a0.getD s3_69.toNat default).toNat : Int) = (95 : Int) then Go.L.chk (Go.L.I64 (s3_69 + (1 : Int))) (some (Sum.inl (s3_69 + (1 : Int)))) else if ((a0.getD s3_69.toNat default).toNat : Int) = (46 : Int) then Go.L.chk (Go.L.I64 (s3_69 + (1 : Int))) (some (Sum.inl (s3_69 + (1 : Int)))) else Option.map Sum.inr (some (false)) else Go.L.chk (Go.L.I64 (s3_69 + (1 : Int))) (some (Sum.inl (s3_69 + (1 : Int))))) else Go.L.chk (Go.L.I64 (s3_69 + (1 : Int))) (some (Sum.inl (s3_69 + (1 : Int)))))) else Option.map Sum.inr ((ref4_NameOk_k1 a0))
noncomputable def ref4_NameOk_l2 (a0 : List UInt8) (s : Int) : Option (Bool) := Go.L.run (ref4_NameOk_bl2 a0) s
noncomputable def ref4_NameOk (a0 : List UInt8) : Option (Bool) :=
 (ref4_NameOk_l2 a0) (0 : Int)
theorem ref4_NameOk_ok (w : World) (H : PH) (hH : Le H (hp w)) {a0 : List UInt8}   {r : Bool} (h : ref4_NameOk a0 = some r) :
  Ok Tryz.prog 49 [.string ⟨(a0).toArray⟩] w (fun v w' => Ext w w' ∧ v = .bool r) := by
 refine Ok_enter (n := 42) [(0, .string ⟨(a0).toArray⟩)] func49 rfl rfl rfl rfl rfl ?_
 have hL := Lcl.start w
 refine W_pz 1 rfl ?_
 refine W_cut (σ := Unit) (fun (_ : Unit) => [(0, .string ⟨(a0).toArray⟩)]) (fun (_ : Unit) wr => Lcl w [] wr ∧ (ref4_NameOk_k1 a0) = some r) ?_ ?_
 ·refine W_pz 1 rfl ?_
  refine W_block ?_
  obtain ⟨n70, h⟩ := Go.L.run_some h
  refine W_loop (σ := Int × Nat) (fun ⟨s3_69, n⟩ => [(0, .string ⟨(a0).toArray⟩), (3, .int .i64 s3_69)]) (fun ⟨s3_69, n⟩ wr => Lcl w [] wr ∧ Go.L.itr (ref4_NameOk_bl2 a0) n s3_69 = some r) (fun ⟨s3_69, n⟩ => n) ((0 : Int), n70) (.cons rfl (.cons rfl (Sub.nil _))) ⟨hL, h⟩ ?_
  rintro ⟨s3_69, nn70⟩ wr70 ⟨hL70, h⟩
  obtain ⟨n70, e70, rfl, h, hm70⟩ := Go.L.itr_some h
  refine W_seq ?_
  refine W_p 2 rfl ?_
  refine S_v (r_lenS rfl underlying9) rfl ?_
  refine S_pz 1 rfl ?_
  refine W_if rfl (fun hc72 => ?_) (fun hc72 => ?_)
  ·replace h := Go.L.ite_p hc72 h
   refine W_skip ?_
   refine At_seq ?_
   refine W_seq ?_
   refine W_block ?_
   refine W_p 2 rfl ?_
   obtain ⟨hk74, h⟩ := Go.L.chk_some h
   refine S_v (r_sidx rfl rfl underlying9 hk74) rfl ?_
   refine S_v (r_conv underlying5 underlying3 rfl (conv_8_64 _)) rfl ?_
   refine S_pz 1 rfl ?_
   refine W_p 1 rfl ?_
   obtain ⟨x75, hb75, h⟩ := Go.L.bind_some h
   refine S_callL rfl rfl hL70 (ref3_In_ok _ _ (gz_le hH hL70) hb75) ?_
   rintro _ w76 rfl hx76 hL76 hle76
   refine S_pu 2 rfl ?_
   refine S_split (s := 18) rfl (fun hg77 => ?_) (fun hg77 => ?_)
   ·replace h := Go.L.ite_t hg77 h
    refine S_guarded rfl rfl hg77 ?_
    refine S_v (RunsAt_pu rfl) rfl ?_
    refine S_guarded rfl rfl hg77 ?_
    refine S_v (RunsAt_pu rfl) rfl ?_
    refine S_guarded rfl rfl hg77 ?_
    refine S_v (RunsAt_pu rfl) rfl ?_
    refine S_split (s := 21) rfl (fun hg79 => ?_) (fun hg79 => ?_)
    ·replace h := Go.L.ite_p (of_decide_eq_true hg79) h
     iterate 4 refine S_unwanted rfl rfl hg79 rfl ?_
     iterate 2 refine S_unwanted2 rfl rfl rfl ?_
     iterate 2 refine S_unwanted rfl rfl hg79 rfl ?_
     iterate 2 refine S_unwanted2 rfl rfl rfl ?_
     iterate 2 refine S_unwanted rfl rfl hg79 rfl ?_
     iterate 2 refine S_unwanted2 rfl rfl rfl ?_
     refine S_unwanted rfl rfl hg79 rfl ?_
     refine S_guarded rfl rfl hg77 ?_
     refine S_v (r_pickT rfl hg79 rfl) rfl ?_
     refine S_v (r_pickT rfl hg77 rfl) rfl ?_
     refine S_seqnil ?_
     refine W_true rfl ?_
     refine W_pz 1 rfl ?_
     refine W_ret ?_
     refine At_block_ret ?_
     refine At_seq_ret ?_
     refine At_loop_ret ?_
     replace h := Go.L.Nxt.out h hm70
     refine At_block_ret ?_
     refine At_cut_ret ?_
     obtain rfl := Option.some.inj h
     refine At_body rfl rfl ?_
     exact ⟨hL76.ext, rfl⟩
    ·replace h := Go.L.ite_n (of_decide_eq_false hg79) h
     refine S_guarded rfl rfl hg79 ?_
     refine S_v (RunsAt_pu rfl) rfl ?_
     refine S_guarded rfl rfl hg79 ?_
     obtain ⟨x82, hb82, h⟩ := Go.L.bind_some h
     refine S_callL rfl rfl hL76 (ref3_In_ok _ _ (gz_le hH hL76) hb82) ?_
     rintro _ w83 rfl hx83 hL83 hle83
     refine S_guarded rfl rfl hg79 ?_
     refine S_v (RunsAt_pu rfl) rfl ?_
     refine S_guarded rfl rfl hg79 ?_
     refine S_v (RunsAt_pu rfl) rfl ?_
     refine S_split (s := 25) rfl (fun hg84 => ?_) (fun hg84 => ?_)
     ·replace h := Go.L.ite_t hg84 h
      refine S_guarded rfl rfl hg84 ?_
      refine S_v (RunsAt_pu rfl) rfl ?_
      refine S_guarded rfl rfl hg84 ?_
      refine S_v (RunsAt_pu rfl) rfl ?_
      refine S_guarded rfl rfl hg79 ?_
      refine S_v (r_pickT rfl hg84 rfl) rfl ?_
      refine S_guarded rfl rfl hg79 ?_
      refine S_v (RunsAt_pu rfl) rfl ?_
      refine S_split (s := 29) rfl (fun hg86 => ?_) (fun hg86 => ?_)
      ·replace h := Go.L.ite_n (not_dec_t hg86) h
       refine S_guarded rfl rfl hg86 ?_
       refine S_v (RunsAt_pu rfl) rfl ?_
       refine S_guarded rfl rfl hg86 ?_
       refine S_v (RunsAt_pu rfl) rfl ?_
       refine S_guarded rfl rfl hg79 ?_
       refine S_v (r_pickT rfl hg86 rfl) rfl ?_
       refine S_guarded rfl rfl hg79 ?_
       refine S_v (RunsAt_pu rfl) rfl ?_
       refine S_split (s := 33) rfl (fun hg88 => ?_) (fun hg88 => ?_)
       ·replace h := Go.L.ite_n (not_dec_t hg88) h
        refine S_guarded rfl rfl hg88 ?_
        refine S_v (RunsAt_pu rfl) rfl ?_
        refine S_guarded rfl rfl hg88 ?_
        refine S_v (RunsAt_pu rfl) rfl ?_
        refine S_guarded rfl rfl hg79 ?_
        refine S_v (r_pickT rfl hg88 rfl) rfl ?_
        refine S_guarded rfl rfl hg77 ?_
        refine S_v (r_pickF rfl hg79 rfl) rfl ?_
        refine S_v (r_pickT rfl hg77 rfl) rfl ?_
        refine S_seqnil ?_
        refine W_ifn rfl (fun hc90 => ?_) (fun hc90 => ?_)
        ·replace h := Go.L.ite_n hc90 h
         refine W_pz 1 rfl ?_
         refine W_ret ?_
         refine At_block_ret ?_
         refine At_seq_ret ?_
         refine At_loop_ret ?_
         replace h := Go.L.Nxt.out h hm70
         refine At_block_ret ?_
         refine At_cut_ret ?_
         obtain rfl := Option.some.inj h
         refine At_body rfl rfl ?_
         exact ⟨hL83.ext, rfl⟩
        ·replace h := Go.L.ite_p hc90 h
         refine W_skip ?_
         refine At_block ?_
         refine At_seq ?_
         refine W_region ?_
         refine S_pu 1 rfl ?_
         obtain ⟨hk93, h⟩ := Go.L.chk_some h
         refine S_v (r_ar64 rfl rfl rfl hk93) rfl ?_
         refine S_pu 1 rfl ?_
         refine S_nil ?_
         have h := Go.L.Nxt.again h hm70
         refine At_round ((s3_69 + (1 : Int)), n70) (.cons rfl (.cons rfl (Sub.nil _))) ⟨hL83, h⟩ (Nat.lt_succ_self _)
       ·replace h := Go.L.ite_p (not_dec_f hg88) h
        iterate 2 refine S_unwanted rfl rfl hg88 rfl ?_
        refine S_guarded rfl rfl hg79 ?_
        refine S_v (r_pickF rfl hg88 rfl) rfl ?_
        refine S_guarded rfl rfl hg77 ?_
        refine S_v (r_pickF rfl hg79 rfl) rfl ?_
        refine S_v (r_pickT rfl hg77 rfl) rfl ?_
        refine S_seqnil ?_
        refine W_false rfl ?_
        refine W_skip ?_
        refine At_block ?_
        refine At_seq ?_
        refine W_region ?_
        refine S_pu 1 rfl ?_
        obtain ⟨hk95, h⟩ := Go.L.chk_some h
        refine S_v (r_ar64 rfl rfl rfl hk95) rfl ?_
        refine S_pu 1 rfl ?_
        refine S_nil ?_
        have h := Go.L.Nxt.again h hm70
        refine At_round ((s3_69 + (1 : Int)), n70) (.cons rfl (.cons rfl (Sub.nil _))) ⟨hL83, h⟩ (Nat.lt_succ_self _)
      ·replace h := Go.L.ite_p (not_dec_f hg86) h
       iterate 2 refine S_unwanted rfl rfl hg86 rfl ?_
       refine S_guarded rfl rfl hg79 ?_
       refine S_v (r_pickF rfl hg86 rfl) rfl ?_
       refine S_guarded rfl rfl hg79 ?_
       refine S_v (RunsAt_pu rfl) rfl ?_
       iterate 2 refine S_unwanted rfl rfl rfl rfl ?_
       refine S_guarded rfl rfl hg79 ?_
       refine S_v (r_pickF rfl rfl rfl) rfl ?_
       refine S_guarded rfl rfl hg77 ?_
       refine S_v (r_pickF rfl hg79 rfl) rfl ?_
       refine S_v (r_pickT rfl hg77 rfl) rfl ?_
       refine S_seqnil ?_
       refine W_false rfl ?_
       refine W_skip ?_
       refine At_block ?_
       refine At_seq ?_
       refine W_region ?_
       refine S_pu 1 rfl ?_
       obtain ⟨hk97, h⟩ := Go.L.chk_some h
       refine S_v (r_ar64 rfl rfl rfl hk97) rfl ?_
       refine S_pu 1 rfl ?_
       refine S_nil ?_
       have h := Go.L.Nxt.again h hm70
       refine At_round ((s3_69 + (1 : Int)), n70) (.cons rfl (.cons rfl (Sub.nil _))) ⟨hL83, h⟩ (Nat.lt_succ_self _)
     ·replace h := Go.L.ite_f hg84 h
      iterate 2 refine S_unwanted rfl rfl hg84 rfl ?_
      refine S_guarded rfl rfl hg79 ?_
      refine S_v (r_pickF rfl hg84 rfl) rfl ?_
      refine S_guarded rfl rfl hg79 ?_
      refine S_v (RunsAt_pu rfl) rfl ?_
      iterate 2 refine S_unwanted rfl rfl rfl rfl ?_
      refine S_guarded rfl rfl hg79 ?_
      refine S_v (r_pickF rfl rfl rfl) rfl ?_
      refine S_guarded rfl rfl hg79 ?_
      refine S_v (RunsAt_pu rfl) rfl ?_
      iterate 2 refine S_unwanted rfl rfl rfl rfl ?_
      refine S_guarded rfl rfl hg79 ?_
      refine S_v (r_pickF rfl rfl rfl) rfl ?_
      refine S_guarded rfl rfl hg77 ?_
      refine S_v (r_pickF rfl hg79 rfl) rfl ?_
      refine S_v (r_pickT rfl hg77 rfl) rfl ?_
      refine S_seqnil ?_
      refine W_false rfl ?_
      refine W_skip ?_
      refine At_block ?_
      refine At_seq ?_
      refine W_region ?_
      refine S_pu 1 rfl ?_
      obtain ⟨hk99, h⟩ := Go.L.chk_some h
      refine S_v (r_ar64 rfl rfl rfl hk99) rfl ?_
      refine S_pu 1 rfl ?_
      refine S_nil ?_
      have h := Go.L.Nxt.again h hm70
      refine At_round ((s3_69 + (1 : Int)), n70) (.cons rfl (.cons rfl (Sub.nil _))) ⟨hL83, h⟩ (Nat.lt_succ_self _)
   ·replace h := Go.L.ite_f hg77 h
    iterate 3 refine S_unwanted rfl rfl hg77 rfl ?_
    iterate 15 refine S_unwanted2 rfl rfl rfl ?_
    refine S_unwanted rfl rfl hg77 rfl ?_
    refine S_v (r_pickF rfl hg77 rfl) rfl ?_
    refine S_seqnil ?_
    refine W_false rfl ?_
    refine W_skip ?_
    refine At_block ?_
    refine At_seq ?_
    refine W_region ?_
    refine S_pu 1 rfl ?_
    obtain ⟨hk101, h⟩ := Go.L.chk_some h
    refine S_v (r_ar64 rfl rfl rfl hk101) rfl ?_
    refine S_pu 1 rfl ?_
    refine S_nil ?_
    have h := Go.L.Nxt.again h hm70
    refine At_round ((s3_69 + (1 : Int)), n70) (.cons rfl (.cons rfl (Sub.nil _))) ⟨hL76, h⟩ (Nat.lt_succ_self _)
  ·replace h := Go.L.ite_n hc72 h
   refine W_exit ?_
   refine At_seq_exit ?_
   refine At_loop_exit ?_
   replace h := Go.L.Nxt.out h hm70
   refine At_exit ?_
   refine At_cut () (.cons rfl (Sub.nil _)) ⟨hL70, h⟩
 ·rintro _ wr35 ⟨hL35, h⟩
  refine W_p 1 rfl ?_
  refine S_v (r_lenS rfl underlying9) rfl ?_
  obtain ⟨x104, hb104, h⟩ := Go.L.bind_some h
  refine S_callL rfl rfl hL35 (ref3_In_ok _ _ (gz_le hH hL35) hb104) ?_
  rintro _ w105 rfl hx105 hL105 hle105
  refine S_pz 1 rfl ?_
  refine W_ret ?_
  obtain rfl := Option.some.inj h
  refine At_body rfl rfl ?_
  exact ⟨hL105.ext, rfl⟩
noncomputable def ref4_Steps_k1 (l34 : List (List UInt8)) : Option ((List (List UInt8))) :=
 some (l34)
noncomputable def ref4_Steps_bl2 (a0 : List UInt8) : (List (List UInt8)) × Int × Int → Option (((List (List UInt8)) × Int × Int) ⊕ ((List (List UInt8)))) := fun ⟨l63, s4_64, s5_65⟩ =>
 if s5_65 ≤ (a0.length : Int) then (if s5_65 = (a0.length : Int) then Go.L.chk (0 ≤ s4_64 ∧ s4_64 ≤ s5_65 ∧ s5_65 ≤ (a0.length : Int)) (Go.L.chk (Go.E.Cap 16 (l63.length + ([((a0.drop s4_64.toNat).take (s5_65.toNat - s4_64.toNat))]).length)) (Go.L.chk (Go.L.I64 (s5_65 + (1 : Int))) (Go.L.chk (Go.L.I64 (s5_65 + (1 : Int))) (some (Sum.inl ((l63 ++ [((a0.drop s4_64.toNat).take (s5_65.toNat - s4_64.toNat))]), (s5_65 + (1 : Int)), (s5_65 + (1 : Int)))))))) else Go.L.chk (0 ≤ s5_65 ∧ s5_65 < (a0.length : Int)) (if ((a0.getD s5_65.toNat default).toNat : Int) = 47 then Go.L.chk (0 ≤ s4_64 ∧ s4_64 ≤ s5_65 ∧ s5_65 ≤ (a0.length : Int)) (Go.L.chk (Go.E.Cap 16 (l63.length + ([((a0.drop s4_64.toNat).take (s5_65.toNat - s4_64.toNat))]).length)) (Go.L.chk (Go.L.I64 (s5_65 + (1 : Int))) (Go.L.chk (Go.L.I64 (s5_65 + (1 : Int))) (some (Sum.inl ((l63 ++ [((a0.drop s4_64.toNat).take (s5_65.toNat - s4_64.toNat))]), (s5_65 + (1 : Int)), (s5_65 + (1 : Int)))))))) else Go.L.chk (Go.L.I64 (s5_65 + (1 : Int))) (some (Sum.inl (l63, s4_64, (s5_65 + (1 : Int))))))) else Option.map Sum.inr (ref4_Steps_k1 l63)
noncomputable def ref4_Steps_l2 (a0 : List UInt8) (s : (List (List UInt8)) × Int × Int) : Option ((List (List UInt8))) := Go.L.run (ref4_Steps_bl2 a0) s
noncomputable def ref4_Steps (a0 : List UInt8) : Option ((List (List UInt8))) :=
 if a0 = ([] : List UInt8) then some ([]) else (ref4_Steps_l2 a0) (([] : List (List UInt8)), (0 : Int), (0 : Int))
theorem ref4_Steps_ok (w : World) (H : PH) (hH : Le H (hp w)) {a0 : List UInt8}   {r : (List (List UInt8))} (h : ref4_Steps a0 = some r) :
  Ok Tryz.prog 18 [.string ⟨(a0).toArray⟩] w (fun v w' => Ext w w' ∧ ∃ u0, v = u0 ∧ OwnH 9 .st H w w' u0 (r)) := by
 refine Ok_enter (n := 34) [(0, .string ⟨(a0).toArray⟩)] func18 rfl rfl rfl rfl rfl ?_
 have hL := Lcl.start w
 refine W_pz 1 rfl ?_
 refine W_seq ?_
 refine W_p 1 rfl ?_
 refine S_v (r_seq rfl rfl) rfl ?_
 refine S_seqnil ?_
 refine W_if rfl (fun hc1 => ?_) (fun hc1 => ?_)
 ·replace h := Go.L.ite_p hc1 h
  refine W_pz 1 rfl ?_
  refine W_ret ?_
  refine At_seq_ret ?_
  obtain rfl := Option.some.inj h
  refine At_body rfl rfl ?_
  exact ⟨hL.ext, _, rfl, OwnH.nil⟩
 ·replace h := Go.L.ite_n hc1 h
  refine W_skip ?_
  refine At_seq ?_
  refine W_p 1 rfl ?_
  obtain ⟨hL4, hle4, he4⟩ := row_nilE .st H 9 hL
  refine S_seqnil ?_
  refine W_pz 1 rfl ?_
  refine W_cut (σ := (List (List UInt8)) × Value × (List Value)) (fun ⟨l34, vl34, xsl34⟩ => [(3, vl34)]) (fun ⟨l34, vl34, xsl34⟩ wr => InO w [.row (vl34) 9 1 (l34).length (xsl34)] wr fun Oz => Elems .st (gz H w wr Oz) (l34) (xsl34) ∧ ref4_Steps_k1 l34 = some r) ?_ ?_
  ·refine W_pz 1 rfl ?_
   refine W_block ?_
   obtain ⟨n66, h⟩ := Go.L.run_some h
   refine W_loop (σ := (List (List UInt8)) × Int × Int × Value × (List Value) × Nat) (fun ⟨l63, s4_64, s5_65, vl63, xsl63, n⟩ => [(0, .string ⟨(a0).toArray⟩), (3, vl63), (4, .int .i64 s4_64), (5, .int .i64 s5_65)]) (fun ⟨l63, s4_64, s5_65, vl63, xsl63, n⟩ wr => InO w [.row (vl63) 9 1 (l63).length (xsl63)] wr fun Oz => Elems .st (gz H w wr Oz) (l63) (xsl63) ∧ Go.L.itr (ref4_Steps_bl2 a0) n (l63, s4_64, s5_65) = some r) (fun ⟨l63, s4_64, s5_65, vl63, xsl63, n⟩ => n) (([] : List (List UInt8)), (0 : Int), (0 : Int), .slice none 0 0, [], n66) (.cons rfl (.cons rfl (.cons rfl (.cons rfl (Sub.nil _))))) ⟨hL4, he4, h⟩ ?_
   rintro ⟨l63, s4_64, s5_65, vl63, xsl63, nn66⟩ wr66 ⟨hL66, hel63, h⟩
   obtain ⟨n66, e66, rfl, h, hm66⟩ := Go.L.itr_some h
   refine W_seq ?_
   refine W_p 2 rfl ?_
   refine S_v (r_lenS rfl underlying9) rfl ?_
   refine S_pz 1 rfl ?_
   refine W_if rfl (fun hc68 => ?_) (fun hc68 => ?_)
   ·replace h := Go.L.ite_p hc68 h
    refine W_skip ?_
    refine At_seq ?_
    refine W_seq ?_
    refine W_block ?_
    refine W_p 2 rfl ?_
    refine S_v (r_lenS rfl underlying9) rfl ?_
    refine S_pu 2 rfl ?_
    refine S_split (s := 18) rfl (fun hg70 => ?_) (fun hg70 => ?_)
    ·replace h := Go.L.ite_p (of_decide_eq_true hg70) h
     iterate 4 refine S_unwanted rfl rfl hg70 rfl ?_
     refine S_v (r_pickT rfl hg70 rfl) rfl ?_
     refine S_seqnil ?_
     refine W_true rfl ?_
     refine W_p 4 rfl ?_
     obtain ⟨hk73, h⟩ := Go.L.chk_some h
     refine S_v (r_sslB rfl rfl rfl underlying9 hk73) rfl ?_
     refine S_litE (r := .st) (l := [((a0.drop s4_64.toNat).take (s5_65.toNat - s4_64.toNat))]) rfl (fun _ => bsl30_1 _ rfl _) rfl (show 1 ≤ 9223372036854775807 by decide) hH hL66 (.c1 rfl .nil) ?_
     intro v74 w74 hx74 hL74 hle74 hv74
     replace hel63 := hel63.mono (gz_mono hH hle74)
     obtain ⟨hk76, h⟩ := Go.L.chk_some h
     refine S_appE (r := .st) (l := l63) (m := [((a0.drop s4_64.toNat).take (s5_65.toNat - s4_64.toNat))]) 0 rfl rfl underlying30 zr9 rfl (by decide) rfl hH hL74 rfl hel63 hv74 hk76 ?_
     intro v75 w75 xs75 hL75 hle75 he75
     replace hv74 := hv74.mono (gz_mono hH hle75)
     refine S_pz 1 rfl ?_
     refine W_region ?_
     refine S_pu 1 rfl ?_
     obtain ⟨hk77, h⟩ := Go.L.chk_some h
     refine S_v (r_ar64 rfl rfl rfl hk77) rfl ?_
     refine S_pu 1 rfl ?_
     refine S_nil ?_
     refine At_block ?_
     refine At_seq ?_
     refine W_region ?_
     refine S_pu 1 rfl ?_
     obtain ⟨hk78, h⟩ := Go.L.chk_some h
     refine S_v (r_ar64 rfl rfl rfl hk78) rfl ?_
     refine S_pu 1 rfl ?_
     refine S_nil ?_
     have h := Go.L.Nxt.again h hm66
     refine At_round ((l63 ++ [((a0.drop s4_64.toNat).take (s5_65.toNat - s4_64.toNat))]), (s5_65 + (1 : Int)), (s5_65 + (1 : Int)), v75, xs75, n66) (.cons rfl (.cons rfl (.cons rfl (.cons rfl (Sub.nil _))))) ⟨hL75, he75, h⟩ (Nat.lt_succ_self _)
    ·replace h := Go.L.ite_n (of_decide_eq_false hg70) h
     refine S_guarded rfl rfl hg70 ?_
     refine S_v (RunsAt_pu rfl) rfl ?_
     refine S_guarded rfl rfl hg70 ?_
     refine S_v (RunsAt_pu rfl) rfl ?_
     refine S_guarded rfl rfl hg70 ?_
     obtain ⟨hk80, h⟩ := Go.L.chk_some h
     refine S_v (r_sidx rfl rfl underlying9 hk80) rfl ?_
     refine S_guarded rfl rfl hg70 ?_
     refine S_v (RunsAt_pu rfl) rfl ?_
     refine S_v (r_pickF rfl hg70 rfl) rfl ?_
     refine S_seqnil ?_
     refine W_if rfl (fun hc81 => ?_) (fun hc81 => ?_)
     ·replace h := Go.L.ite_p hc81 h
      refine W_p 4 rfl ?_
      obtain ⟨hk84, h⟩ := Go.L.chk_some h
      refine S_v (r_sslB rfl rfl rfl underlying9 hk84) rfl ?_
      refine S_litE (r := .st) (l := [((a0.drop s4_64.toNat).take (s5_65.toNat - s4_64.toNat))]) rfl (fun _ => bsl30_1 _ rfl _) rfl (show 1 ≤ 9223372036854775807 by decide) hH hL66 (.c1 rfl .nil) ?_
      intro v85 w85 hx85 hL85 hle85 hv85
      replace hel63 := hel63.mono (gz_mono hH hle85)
      obtain ⟨hk87, h⟩ := Go.L.chk_some h
      refine S_appE (r := .st) (l := l63) (m := [((a0.drop s4_64.toNat).take (s5_65.toNat - s4_64.toNat))]) 0 rfl rfl underlying30 zr9 rfl (by decide) rfl hH hL85 rfl hel63 hv85 hk87 ?_
      intro v86 w86 xs86 hL86 hle86 he86
      replace hv85 := hv85.mono (gz_mono hH hle86)
      refine S_pz 1 rfl ?_
      refine W_region ?_
      refine S_pu 1 rfl ?_
      obtain ⟨hk88, h⟩ := Go.L.chk_some h
      refine S_v (r_ar64 rfl rfl rfl hk88) rfl ?_
      refine S_pu 1 rfl ?_
      refine S_nil ?_
      refine At_block ?_
      refine At_seq ?_
      refine W_region ?_
      refine S_pu 1 rfl ?_
      obtain ⟨hk89, h⟩ := Go.L.chk_some h
      refine S_v (r_ar64 rfl rfl rfl hk89) rfl ?_
      refine S_pu 1 rfl ?_
      refine S_nil ?_
      have h := Go.L.Nxt.again h hm66
      refine At_round ((l63 ++ [((a0.drop s4_64.toNat).take (s5_65.toNat - s4_64.toNat))]), (s5_65 + (1 : Int)), (s5_65 + (1 : Int)), v86, xs86, n66) (.cons rfl (.cons rfl (.cons rfl (.cons rfl (Sub.nil _))))) ⟨hL86, he86, h⟩ (Nat.lt_succ_self _)
     ·replace h := Go.L.ite_n hc81 h
      refine W_skip ?_
      refine At_block ?_
      refine At_seq ?_
      refine W_region ?_
      refine S_pu 1 rfl ?_
      obtain ⟨hk91, h⟩ := Go.L.chk_some h
      refine S_v (r_ar64 rfl rfl rfl hk91) rfl ?_
      refine S_pu 1 rfl ?_
      refine S_nil ?_
      have h := Go.L.Nxt.again h hm66
      refine At_round (l63, s4_64, (s5_65 + (1 : Int)), vl63, xsl63, n66) (.cons rfl (.cons rfl (.cons rfl (.cons rfl (Sub.nil _))))) ⟨hL66, hel63, h⟩ (Nat.lt_succ_self _)
   ·replace h := Go.L.ite_n hc68 h
    refine W_exit ?_
    refine At_seq_exit ?_
    refine At_loop_exit ?_
    replace h := Go.L.Nxt.out h hm66
    refine At_exit ?_
    refine At_cut (l63, vl63, xsl63) (.cons rfl (Sub.nil _)) ⟨hL66, hel63, h⟩
  ·rintro ⟨l34, vl34, xsl34⟩ wr35 ⟨hL35, hel34, h⟩
   refine W_pz 2 rfl ?_
   refine W_ret ?_
   obtain rfl := Option.some.inj h
   refine At_body rfl rfl ?_
   exact ⟨hL35.ext, _, rfl, (hL35.ownH hH (i := 0) rfl hel34)⟩
noncomputable def ref4_Wrong_k1 : Option (Int) :=
 some ((-1 : Int))
noncomputable def ref4_Wrong_bl2 (a1 : Bool) (x1 : (List (List UInt8))) : Int × Int → Option ((Int × Int) ⊕ (Int)) := fun ⟨s6_106, s7_107⟩ =>
 if s7_107 < (x1.length : Int) then Go.L.chk (0 ≤ s7_107 ∧ s7_107 < (x1.length : Int)) (Option.bind (ref4_NameOk (x1.getD s7_107.toNat default)) (fun x114 => if !x114 then Go.L.chk (0 ≤ s7_107 ∧ s7_107 < (x1.length : Int)) (if x1.getD s7_107.toNat default = ([35] : List UInt8) then Go.L.chk (0 ≤ s7_107 ∧ s7_107 < (x1.length : Int)) (Go.L.chk (Go.L.I64 (s6_106 + ((x1.getD s7_107.toNat default).length : Int))) (Go.L.chk (Go.L.I64 ((s6_106 + ((x1.getD s7_107.toNat default).length : Int)) + (1 : Int))) (Go.L.chk (Go.L.I64 (s7_107 + (1 : Int))) (some (Sum.inl (((s6_106 + ((x1.getD s7_107.toNat default).length : Int)) + (1 : Int)), (s7_107 + (1 : Int)))))))) else if a1 then Go.L.chk (0 ≤ s7_107 ∧ s7_107 < (x1.length : Int)) (if x1.getD s7_107.toNat default = ([42] : List UInt8) then Go.L.chk (0 ≤ s7_107 ∧ s7_107 < (x1.length : Int)) (Go.L.chk (Go.L.I64 (s6_106 + ((x1.getD s7_107.toNat default).length : Int))) (Go.L.chk (Go.L.I64 ((s6_106 + ((x1.getD s7_107.toNat default).length : Int)) + (1 : Int))) (Go.L.chk (Go.L.I64 (s7_107 + (1 : Int))) (some (Sum.inl (((s6_106 + ((x1.getD s7_107.toNat default).length : Int)) + (1 : Int)), (s7_107 + (1 : Int)))))))) else Go.L.chk (0 ≤ s7_107 ∧ s7_107 < (x1.length : Int)) (if x1.getD s7_107.toNat default = ([42, 42] : List UInt8) then Go.L.chk (0 ≤ s7_107 ∧ s7_107 < (x1.length : Int)) (Go.L.chk (Go.L.I64 (s6_106 + ((x1.getD s7_107.toNat default).length : Int))) (Go.L.chk (Go.L.I64 ((s6_106 + ((x1.getD s7_107.toNat default).length : Int)) + (1 : Int))) (Go.L.chk (Go.L.I64 (s7_107 + (1 : Int))) (some (Sum.inl (((s6_106 + ((x1.getD s7_107.toNat default).length : Int)) + (1 : Int)), (s7_107 + (1 : Int)))))))) else Option.map Sum.inr (some (s6_106)))) else Option.map Sum.inr (some (s6_106))) else Go.L.chk (0 ≤ s7_107 ∧ s7_107 < (x1.length : Int)) (Go.L.chk (Go.L.I64 (s6_106 + ((x1.getD s7_107.toNat default).length : Int))) (Go.L.chk (Go.L.I64 ((s6_106 + ((x1.getD s7_107.toNat default).length : Int)) + (1 : Int))) (Go.L.chk (Go.L.I64 (s7_107 + (1 : Int))) (some (Sum.inl (((s6_106 + ((x1.getD s7_107.toNat default).length : Int)) + (1 : Int)), (s7_107 + (1 : Int)))))))))) else Option.map Sum.inr (ref4_Wrong_k1)
noncomputable def ref4_Wrong_l2 (a1 : Bool) (x1 : (List (List UInt8))) (s : Int × Int) : Option (Int) := Go.L.run (ref4_Wrong_bl2 a1 x1) s
noncomputable def ref4_Wrong (a0 : List UInt8) (a1 : Bool) : Option (Int) :=
 Option.bind (ref4_Steps a0) (fun x1 => (ref4_Wrong_l2 a1 x1) ((0 : Int), (0 : Int)))
theorem ref4_Wrong_ok (w : World) (H : PH) (hH : Le H (hp w)) {a0 : List UInt8} {a1 : Bool}   {r : Int} (h : ref4_Wrong a0 a1 = some r) :
  Ok Tryz.prog 17 [.string ⟨(a0).toArray⟩, .bool a1] w (fun v w' => Ext w w' ∧ v = .int .i64 r) := by
 refine Ok_enter (n := 56) [(0, .string ⟨(a0).toArray⟩), (1, .bool a1)] func17 rfl rfl rfl rfl rfl ?_
 have hL := Lcl.start w
 refine W_pz 1 rfl ?_
 refine W_p 1 rfl ?_
 obtain ⟨x1, hb1, h⟩ := Go.L.bind_some h
 refine S_callL rfl rfl hL (ref4_Steps_ok _ _ (gz_le hH hL) hb1) ?_
 rintro u2_0 w2 ⟨_, rfl, hR2_0⟩ hx2 hL2 hle2
 have hv2_0 := hR2_0.vecG hH hL hx2
 refine S_pz 1 rfl ?_
 refine W_pz 1 rfl ?_
 refine W_cut (σ := Unit) (fun (_ : Unit) => []) (fun (_ : Unit) wr => Lcl w [] wr ∧ ref4_Wrong_k1 = some r) ?_ ?_
 ·refine W_pz 1 rfl ?_
  refine W_block ?_
  obtain ⟨n108, h⟩ := Go.L.run_some h
  refine W_loop (σ := Int × Int × Nat) (fun ⟨s6_106, s7_107, n⟩ => [(1, .bool a1), (5, u2_0), (6, .int .i64 s6_106), (7, .int .i64 s7_107)]) (fun ⟨s6_106, s7_107, n⟩ wr => InO w [] wr fun Oz => Vec .st (gz H w wr Oz) (u2_0) (x1) ∧ Go.L.itr (ref4_Wrong_bl2 a1 x1) n (s6_106, s7_107) = some r) (fun ⟨s6_106, s7_107, n⟩ => n) ((0 : Int), (0 : Int), n108) (.cons rfl (.cons rfl (.cons rfl (.cons rfl (Sub.nil _))))) ⟨hL2, hv2_0, h⟩ ?_
  rintro ⟨s6_106, s7_107, nn108⟩ wr108 ⟨hL108, hf108_0, h⟩
  obtain ⟨n108, e108, rfl, h, hm108⟩ := Go.L.itr_some h
  refine W_seq ?_
  refine W_p 2 rfl ?_
  refine S_v (r_len rfl underlying30 hf108_0) rfl ?_
  refine S_pz 1 rfl ?_
  refine W_if rfl (fun hc110 => ?_) (fun hc110 => ?_)
  ·replace h := Go.L.ite_p hc110 h
   refine W_skip ?_
   refine At_seq ?_
   refine W_seq ?_
   refine W_block ?_
   refine W_seq ?_
   refine W_p 2 rfl ?_
   obtain ⟨hk113, h⟩ := Go.L.chk_some h
   refine S_index rfl rfl underlying30 zr9 hf108_0 s7_107.toNat (Int.toNat_of_nonneg hk113.1).symm (idx_lt hk113) rfl ?_
   rintro p112 _ rfl hp112
   refine S_v (r_load1 rfl underlying9 rfl hp112 (gz_le hH hL108)) rfl ?_
   obtain ⟨x114, hb114, h⟩ := Go.L.bind_some h
   refine S_callL rfl rfl hL108 (ref4_NameOk_ok _ _ (gz_le hH hL108) hb114) ?_
   rintro _ w115 rfl hx115 hL115 hle115
   replace hf108_0 := hf108_0.mono (gz_mono hH hle115)
   replace hp112 := hp112.mono (gz_mono hH hle115)
   refine S_pu 2 rfl ?_
   refine S_split (s := 22) rfl (fun hg116 => ?_) (fun hg116 => ?_)
   ·replace h := Go.L.ite_t hg116 h
    refine S_guarded rfl rfl hg116 ?_
    refine S_v (RunsAt_pu rfl) rfl ?_
    refine S_guarded rfl rfl hg116 ?_
    refine S_v (RunsAt_pu rfl) rfl ?_
    refine S_guarded rfl rfl hg116 ?_
    obtain ⟨hk119, h⟩ := Go.L.chk_some h
    refine S_index rfl rfl underlying30 zr9 hf108_0 s7_107.toNat (Int.toNat_of_nonneg hk119.1).symm (idx_lt hk119) rfl ?_
    rintro p118 _ rfl hp118
    refine S_guarded rfl rfl hg116 ?_
    refine S_v (r_load1 rfl underlying9 rfl hp118 (gz_le hH hL115)) rfl ?_
    refine S_guarded rfl rfl hg116 ?_
    refine S_v (r_sne rfl rfl) rfl ?_
    refine S_v (r_pickT rfl hg116 rfl) rfl ?_
    refine S_pu 1 rfl ?_
    refine S_split (s := 29) rfl (fun hg120 => ?_) (fun hg120 => ?_)
    ·replace h := Go.L.ite_n (not_dec_t hg120) h
     refine S_guarded rfl rfl hg120 ?_
     refine S_v (RunsAt_pu rfl) rfl ?_
     refine S_guarded rfl rfl hg120 ?_
     refine S_v (RunsAt_pu rfl) rfl ?_
     refine S_split (s := 31) rfl (fun hg122 => ?_) (fun hg122 => ?_)
     ·replace h := Go.L.ite_t hg122 h
      refine S_guarded rfl rfl hg122 ?_
      refine S_v (RunsAt_pu rfl) rfl ?_
      refine S_guarded rfl rfl hg122 ?_
      refine S_v (RunsAt_pu rfl) rfl ?_
      refine S_guarded rfl rfl hg122 ?_
      obtain ⟨hk125, h⟩ := Go.L.chk_some h
      refine S_index rfl rfl underlying30 zr9 hf108_0 s7_107.toNat (Int.toNat_of_nonneg hk125.1).symm (idx_lt hk125) rfl ?_
      rintro p124 _ rfl hp124
      refine S_guarded rfl rfl hg122 ?_
      refine S_v (r_load1 rfl underlying9 rfl hp124 (gz_le hH hL115)) rfl ?_
      refine S_guarded rfl rfl hg122 ?_
      refine S_v (r_seq rfl rfl) rfl ?_
      refine S_guarded rfl rfl hg122 ?_
      refine S_v (RunsAt_pu rfl) rfl ?_
      refine S_split (s := 37) rfl (fun hg126 => ?_) (fun hg126 => ?_)
      ·replace h := Go.L.ite_p (of_decide_eq_true hg126) h
       iterate 5 refine S_unwanted rfl rfl hg126 rfl ?_
       refine S_guarded rfl rfl hg122 ?_
       refine S_v (r_pickT rfl hg126 rfl) rfl ?_
       refine S_guarded rfl rfl hg120 ?_
       refine S_v (r_pickT rfl hg122 rfl) rfl ?_
       refine S_guarded rfl rfl hg120 ?_
       refine S_v (RunsAt_pu rfl) rfl ?_
       refine S_v (r_pickT rfl hg120 rfl) rfl ?_
       refine S_seqnil ?_
       refine W_false rfl ?_
       refine W_skip ?_
       refine At_seq ?_
       refine W_region ?_
       refine S_pu 3 rfl ?_
       obtain ⟨hk129, h⟩ := Go.L.chk_some h
       refine S_index rfl rfl underlying30 zr9 hf108_0 s7_107.toNat (Int.toNat_of_nonneg hk129.1).symm (idx_lt hk129) rfl ?_
       rintro p128 _ rfl hp128
       refine S_v (r_load1 rfl underlying9 rfl hp128 (gz_le hH hL115)) rfl ?_
       refine S_v (r_lenS rfl underlying9) rfl ?_
       obtain ⟨hk130, h⟩ := Go.L.chk_some h
       refine S_v (r_ar64 rfl rfl rfl hk130) rfl ?_
       obtain ⟨hk131, h⟩ := Go.L.chk_some h
       refine S_v (r_ar64 rfl rfl rfl hk131) rfl ?_
       refine S_pu 1 rfl ?_
       refine S_nil ?_
       refine At_block ?_
       refine At_seq ?_
       refine W_region ?_
       refine S_pu 1 rfl ?_
       obtain ⟨hk132, h⟩ := Go.L.chk_some h
       refine S_v (r_ar64 rfl rfl rfl hk132) rfl ?_
       refine S_pu 1 rfl ?_
       refine S_nil ?_
       have h := Go.L.Nxt.again h hm108
       refine At_round (((s6_106 + ((x1.getD s7_107.toNat default).length : Int)) + (1 : Int)), (s7_107 + (1 : Int)), n108) (.cons rfl (.cons rfl (.cons rfl (.cons rfl (Sub.nil _))))) ⟨hL115, hf108_0, h⟩ (Nat.lt_succ_self _)
      ·replace h := Go.L.ite_n (of_decide_eq_false hg126) h
       refine S_guarded rfl rfl hg126 ?_
       refine S_v (RunsAt_pu rfl) rfl ?_
       refine S_guarded rfl rfl hg126 ?_
       refine S_v (RunsAt_pu rfl) rfl ?_
       refine S_guarded rfl rfl hg126 ?_
       obtain ⟨hk135, h⟩ := Go.L.chk_some h
       refine S_index rfl rfl underlying30 zr9 hf108_0 s7_107.toNat (Int.toNat_of_nonneg hk135.1).symm (idx_lt hk135) rfl ?_
       rintro p134 _ rfl hp134
       refine S_guarded rfl rfl hg126 ?_
       refine S_v (r_load1 rfl underlying9 rfl hp134 (gz_le hH hL115)) rfl ?_
       refine S_guarded rfl rfl hg126 ?_
       refine S_v (r_seq rfl rfl) rfl ?_
       refine S_guarded rfl rfl hg122 ?_
       refine S_v (r_pickF rfl hg126 rfl) rfl ?_
       refine S_guarded rfl rfl hg120 ?_
       refine S_v (r_pickT rfl hg122 rfl) rfl ?_
       refine S_guarded rfl rfl hg120 ?_
       refine S_v (RunsAt_pu rfl) rfl ?_
       refine S_v (r_pickT rfl hg120 rfl) rfl ?_
       refine S_seqnil ?_
       refine W_ifn rfl (fun hc136 => ?_) (fun hc136 => ?_)
       ·replace h := Go.L.ite_n hc136 h
        refine W_pz 2 rfl ?_
        refine W_ret ?_
        refine At_seq_ret ?_
        refine At_block_ret ?_
        refine At_seq_ret ?_
        refine At_loop_ret ?_
        replace h := Go.L.Nxt.out h hm108
        refine At_block_ret ?_
        refine At_cut_ret ?_
        obtain rfl := Option.some.inj h
        refine At_body rfl rfl ?_
        exact ⟨hL115.ext, rfl⟩
       ·replace h := Go.L.ite_p hc136 h
        refine W_skip ?_
        refine At_seq ?_
        refine W_region ?_
        refine S_pu 3 rfl ?_
        obtain ⟨hk140, h⟩ := Go.L.chk_some h
        refine S_index rfl rfl underlying30 zr9 hf108_0 s7_107.toNat (Int.toNat_of_nonneg hk140.1).symm (idx_lt hk140) rfl ?_
        rintro p139 _ rfl hp139
        refine S_v (r_load1 rfl underlying9 rfl hp139 (gz_le hH hL115)) rfl ?_
        refine S_v (r_lenS rfl underlying9) rfl ?_
        obtain ⟨hk141, h⟩ := Go.L.chk_some h
        refine S_v (r_ar64 rfl rfl rfl hk141) rfl ?_
        obtain ⟨hk142, h⟩ := Go.L.chk_some h
        refine S_v (r_ar64 rfl rfl rfl hk142) rfl ?_
        refine S_pu 1 rfl ?_
        refine S_nil ?_
        refine At_block ?_
        refine At_seq ?_
        refine W_region ?_
        refine S_pu 1 rfl ?_
        obtain ⟨hk143, h⟩ := Go.L.chk_some h
        refine S_v (r_ar64 rfl rfl rfl hk143) rfl ?_
        refine S_pu 1 rfl ?_
        refine S_nil ?_
        have h := Go.L.Nxt.again h hm108
        refine At_round (((s6_106 + ((x1.getD s7_107.toNat default).length : Int)) + (1 : Int)), (s7_107 + (1 : Int)), n108) (.cons rfl (.cons rfl (.cons rfl (.cons rfl (Sub.nil _))))) ⟨hL115, hf108_0, h⟩ (Nat.lt_succ_self _)
     ·replace h := Go.L.ite_f hg122 h
      iterate 6 refine S_unwanted rfl rfl hg122 rfl ?_
      iterate 5 refine S_unwanted2 rfl rfl rfl ?_
      refine S_unwanted rfl rfl hg122 rfl ?_
      refine S_guarded rfl rfl hg120 ?_
      refine S_v (r_pickF rfl hg122 rfl) rfl ?_
      refine S_guarded rfl rfl hg120 ?_
      refine S_v (RunsAt_pu rfl) rfl ?_
      refine S_v (r_pickT rfl hg120 rfl) rfl ?_
      refine S_seqnil ?_
      refine W_true rfl ?_
      refine W_pz 2 rfl ?_
      refine W_ret ?_
      refine At_seq_ret ?_
      refine At_block_ret ?_
      refine At_seq_ret ?_
      refine At_loop_ret ?_
      replace h := Go.L.Nxt.out h hm108
      refine At_block_ret ?_
      refine At_cut_ret ?_
      obtain rfl := Option.some.inj h
      refine At_body rfl rfl ?_
      exact ⟨hL115.ext, rfl⟩
    ·replace h := Go.L.ite_p (not_dec_f hg120) h
     iterate 2 refine S_unwanted rfl rfl hg120 rfl ?_
     iterate 12 refine S_unwanted2 rfl rfl rfl ?_
     iterate 2 refine S_unwanted rfl rfl hg120 rfl ?_
     refine S_v (r_pickF rfl hg120 rfl) rfl ?_
     refine S_seqnil ?_
     refine W_false rfl ?_
     refine W_skip ?_
     refine At_seq ?_
     refine W_region ?_
     refine S_pu 3 rfl ?_
     obtain ⟨hk147, h⟩ := Go.L.chk_some h
     refine S_index rfl rfl underlying30 zr9 hf108_0 s7_107.toNat (Int.toNat_of_nonneg hk147.1).symm (idx_lt hk147) rfl ?_
     rintro p146 _ rfl hp146
     refine S_v (r_load1 rfl underlying9 rfl hp146 (gz_le hH hL115)) rfl ?_
     refine S_v (r_lenS rfl underlying9) rfl ?_
     obtain ⟨hk148, h⟩ := Go.L.chk_some h
     refine S_v (r_ar64 rfl rfl rfl hk148) rfl ?_
     obtain ⟨hk149, h⟩ := Go.L.chk_some h
     refine S_v (r_ar64 rfl rfl rfl hk149) rfl ?_
     refine S_pu 1 rfl ?_
     refine S_nil ?_
     refine At_block ?_
     refine At_seq ?_
     refine W_region ?_
     refine S_pu 1 rfl ?_
     obtain ⟨hk150, h⟩ := Go.L.chk_some h
     refine S_v (r_ar64 rfl rfl rfl hk150) rfl ?_
     refine S_pu 1 rfl ?_
     refine S_nil ?_
     have h := Go.L.Nxt.again h hm108
     refine At_round (((s6_106 + ((x1.getD s7_107.toNat default).length : Int)) + (1 : Int)), (s7_107 + (1 : Int)), n108) (.cons rfl (.cons rfl (.cons rfl (.cons rfl (Sub.nil _))))) ⟨hL115, hf108_0, h⟩ (Nat.lt_succ_self _)
   ·replace h := Go.L.ite_f hg116 h
    iterate 5 refine S_unwanted rfl rfl hg116 rfl ?_
    refine S_v (r_pickF rfl hg116 rfl) rfl ?_
    refine S_pu 1 rfl ?_
    iterate 2 refine S_unwanted rfl rfl rfl rfl ?_
    iterate 12 refine S_unwanted2 rfl rfl rfl ?_
    iterate 2 refine S_unwanted rfl rfl rfl rfl ?_
    refine S_v (r_pickF rfl rfl rfl) rfl ?_
    refine S_seqnil ?_
    refine W_false rfl ?_
    refine W_skip ?_
    refine At_seq ?_
    refine W_region ?_
    refine S_pu 3 rfl ?_
    obtain ⟨hk153, h⟩ := Go.L.chk_some h
    refine S_index rfl rfl underlying30 zr9 hf108_0 s7_107.toNat (Int.toNat_of_nonneg hk153.1).symm (idx_lt hk153) rfl ?_
    rintro p152 _ rfl hp152
    refine S_v (r_load1 rfl underlying9 rfl hp152 (gz_le hH hL115)) rfl ?_
    refine S_v (r_lenS rfl underlying9) rfl ?_
    obtain ⟨hk154, h⟩ := Go.L.chk_some h
    refine S_v (r_ar64 rfl rfl rfl hk154) rfl ?_
    obtain ⟨hk155, h⟩ := Go.L.chk_some h
    refine S_v (r_ar64 rfl rfl rfl hk155) rfl ?_
    refine S_pu 1 rfl ?_
    refine S_nil ?_
    refine At_block ?_
    refine At_seq ?_
    refine W_region ?_
    refine S_pu 1 rfl ?_
    obtain ⟨hk156, h⟩ := Go.L.chk_some h
    refine S_v (r_ar64 rfl rfl rfl hk156) rfl ?_
    refine S_pu 1 rfl ?_
    refine S_nil ?_
    have h := Go.L.Nxt.again h hm108
    refine At_round (((s6_106 + ((x1.getD s7_107.toNat default).length : Int)) + (1 : Int)), (s7_107 + (1 : Int)), n108) (.cons rfl (.cons rfl (.cons rfl (.cons rfl (Sub.nil _))))) ⟨hL115, hf108_0, h⟩ (Nat.lt_succ_self _)
  ·replace h := Go.L.ite_n hc110 h
   refine W_exit ?_
   refine At_seq_exit ?_
   refine At_loop_exit ?_
   replace h := Go.L.Nxt.out h hm108
   refine At_exit ?_
   refine At_cut () (Sub.nil _) ⟨hL108, h⟩
 ·rintro _ wr55 ⟨hL55, h⟩
  refine W_pz 1 rfl ?_
  refine W_ret ?_
  obtain rfl := Option.some.inj h
  refine At_body rfl rfl ?_
  exact ⟨hL55.ext, rfl⟩
noncomputable def ref4_Texts_k1 : Option (Bool) :=
 some (true)
noncomputable def ref4_Texts_bl2 (a0 : List (List UInt8)) (a1 : List (List UInt8)) : Int → Option ((Int) ⊕ (Bool)) := fun s5_40 =>
 if s5_40 < (a0.length : Int) then Go.L.chk (0 ≤ s5_40 ∧ s5_40 < (a0.length : Int)) (Go.L.chk (0 ≤ s5_40 ∧ s5_40 < (a1.length : Int)) (if a0.getD s5_40.toNat default = a1.getD s5_40.toNat default then Go.L.chk (Go.L.I64 (s5_40 + (1 : Int))) (some (Sum.inl (s5_40 + (1 : Int)))) else Option.map Sum.inr (some (false)))) else Option.map Sum.inr (ref4_Texts_k1)
noncomputable def ref4_Texts_l2 (a0 : List (List UInt8)) (a1 : List (List UInt8)) (s : Int) : Option (Bool) := Go.L.run (ref4_Texts_bl2 a0 a1) s
noncomputable def ref4_Texts (a0 : List (List UInt8)) (a1 : List (List UInt8)) : Option (Bool) :=
 if (a0.length : Int) = (a1.length : Int) then (ref4_Texts_l2 a0 a1) (0 : Int) else some (false)
theorem ref4_Texts_ok (w : World) (H : PH) (hH : Le H (hp w)) {a0 : List (List UInt8)} {a1 : List (List UInt8)} {v0_0 : Value} {v1_0 : Value} (h0_0 : Vec .st H v0_0 (a0)) (h1_0 : Vec .st H v1_0 (a1)) {r : Bool} (h : ref4_Texts a0 a1 = some r) :
  Ok Tryz.prog 23 [v0_0, v1_0] w (fun v w' => Ext w w' ∧ v = .bool r) := by
 refine Ok_enter (n := 26) [(0, v0_0), (1, v1_0)] func23 rfl rfl rfl rfl rfl ?_
 have hL := Lcl.start w
 refine W_pz 1 rfl ?_
 refine W_seq ?_
 refine W_p 1 rfl ?_
 refine S_v (r_len rfl underlying30 h0_0) rfl ?_
 refine S_pu 1 rfl ?_
 refine S_v (r_len rfl underlying30 h1_0) rfl ?_
 refine S_pz 1 rfl ?_
 refine W_ifn rfl (fun hc1 => ?_) (fun hc1 => ?_)
 ·replace h := Go.L.ite_n hc1 h
  refine W_pz 1 rfl ?_
  refine W_ret ?_
  refine At_seq_ret ?_
  obtain rfl := Option.some.inj h
  refine At_body rfl rfl ?_
  exact ⟨hL.ext, rfl⟩
 ·replace h := Go.L.ite_p hc1 h
  refine W_skip ?_
  refine At_seq ?_
  refine W_cut (σ := Unit) (fun (_ : Unit) => []) (fun (_ : Unit) wr => Lcl w [] wr ∧ ref4_Texts_k1 = some r) ?_ ?_
  ·refine W_pz 1 rfl ?_
   refine W_block ?_
   obtain ⟨n41, h⟩ := Go.L.run_some h
   refine W_loop (σ := Int × Nat) (fun ⟨s5_40, n⟩ => [(0, v0_0), (1, v1_0), (5, .int .i64 s5_40)]) (fun ⟨s5_40, n⟩ wr => Lcl w [] wr ∧ Go.L.itr (ref4_Texts_bl2 a0 a1) n s5_40 = some r) (fun ⟨s5_40, n⟩ => n) ((0 : Int), n41) (.cons rfl (.cons rfl (.cons rfl (Sub.nil _)))) ⟨hL, h⟩ ?_
   rintro ⟨s5_40, nn41⟩ wr41 ⟨hL41, h⟩
   obtain ⟨n41, e41, rfl, h, hm41⟩ := Go.L.itr_some h
   refine W_seq ?_
   refine W_p 2 rfl ?_
   refine S_v (r_len rfl underlying30 h0_0) rfl ?_
   refine S_pz 1 rfl ?_
   refine W_if rfl (fun hc43 => ?_) (fun hc43 => ?_)
   ·replace h := Go.L.ite_p hc43 h
    refine W_skip ?_
    refine At_seq ?_
    refine W_seq ?_
    refine W_block ?_
    refine W_seqd (.q 0 (.q 1 (.q 2 (.q 3 (.q 4 (.q 5 (.q 6 (.q 7 (.q 8 (.tail 9)))))))))) mixed (by kernel_rfl) (fun w45 hx45 => ?_)
    have hL46 := hL41.call hx45
    refine D_pu 2 rfl ?_
    obtain ⟨hk48, h⟩ := Go.L.chk_some h
    refine D_index rfl rfl rfl underlying30 zr9 h0_0 s5_40.toNat (Int.toNat_of_nonneg hk48.1).symm (idx_lt hk48) rfl ?_
    rintro p47 _ rfl hp47
    refine D_v (r_load1 rfl underlying9 rfl hp47 (hH.trans hL46.arg)) rfl rfl ?_
    refine D_pu 2 rfl ?_
    obtain ⟨hk50, h⟩ := Go.L.chk_some h
    refine D_index rfl rfl rfl underlying30 zr9 h1_0 s5_40.toNat (Int.toNat_of_nonneg hk50.1).symm (idx_lt hk50) rfl ?_
    rintro p49 _ rfl hp49
    refine D_v (r_load1 rfl underlying9 rfl hp49 (hH.trans hL46.arg)) rfl rfl ?_
    refine D_v (r_sne rfl rfl) rfl rfl ?_
    refine D_tail (fun w51 hx51 => ?_)
    have hL52 := hL46.call hx51
    refine S_seqnil ?_
    refine W_ifn rfl (fun hc53 => ?_) (fun hc53 => ?_)
    ·replace h := Go.L.ite_n hc53 h
     refine W_pz 1 rfl ?_
     refine W_ret ?_
     refine At_block_ret ?_
     refine At_seq_ret ?_
     refine At_loop_ret ?_
     replace h := Go.L.Nxt.out h hm41
     refine At_block_ret ?_
     refine At_cut_ret ?_
     obtain rfl := Option.some.inj h
     refine At_body rfl rfl ?_
     exact ⟨hL52.ext, rfl⟩
    ·replace h := Go.L.ite_p hc53 h
     refine W_skip ?_
     refine At_block ?_
     refine At_seq ?_
     refine W_region ?_
     refine S_pu 1 rfl ?_
     obtain ⟨hk56, h⟩ := Go.L.chk_some h
     refine S_v (r_ar64 rfl rfl rfl hk56) rfl ?_
     refine S_pu 1 rfl ?_
     refine S_nil ?_
     have h := Go.L.Nxt.again h hm41
     refine At_round ((s5_40 + (1 : Int)), n41) (.cons rfl (.cons rfl (.cons rfl (Sub.nil _)))) ⟨hL52, h⟩ (Nat.lt_succ_self _)
   ·replace h := Go.L.ite_n hc43 h
    refine W_exit ?_
    refine At_seq_exit ?_
    refine At_loop_exit ?_
    replace h := Go.L.Nxt.out h hm41
    refine At_exit ?_
    refine At_cut () (Sub.nil _) ⟨hL41, h⟩
  ·rintro _ wr22 ⟨hL22, h⟩
   refine W_pz 1 rfl ?_
   refine W_ret ?_
   obtain rfl := Option.some.inj h
   refine At_body rfl rfl ?_
   exact ⟨hL22.ext, rfl⟩
noncomputable def law4_number (a0 : Int) : Option (Go.L.Pv) :=
 some ((Go.L.Pv.mk (1 : Int) a0 ([]) ([]) ([])))
theorem law4_number_ok (w : World) (H : PH) (_hH : Le H (hp w)) {a0 : Int}   {r : Go.L.Pv} (h : law4_number a0 = some r) :
  Ok Tryz.prog 46 [.int .i64 a0] w (fun v w' => Ext w w' ∧ ∃ u0 u1 u2, v = .agg #[.int .i64 r.f.1, .int .i64 r.f.2.1, u0, u1, u2] ∧ OwnH 5 .byte H w w' u0 (r.f.2.2.1) ∧ OwnH 9 .st H w w' u1 (r.f.2.2.2.1) ∧ OwnH 38 .tree H w w' u2 (r.f.2.2.2.2)) := by
 refine Ok_enter (n := 5) [(0, .int .i64 a0)] func46 rfl rfl rfl rfl rfl ?_
 have hL := Lcl.start w
 refine W_seqr ?_
 refine S_alloc zr38 rfl rfl hL ?_
 intro w1 b1 hL1 hle1 _
 refine S_seqnil ?_
 refine W_p 1 rfl ?_
 refine S_v (r_build rfl (fun _ => bld38_0_1 _ _ _)) rfl ?_
 refine S_storeBN 0 rfl rfl rfl zr38 hL1 rfl rfl (onc rfl (onc rfl (onc rfl (onc rfl (onc rfl on0))))) ?_
 intro w2 hL2 hle2
 refine S_seqnil ?_
 refine W_ret ?_
 obtain rfl := Option.some.inj h
 refine At_got1 rfl (.cell rfl underlying38 rfl zr38 (box_ptr (i := 0) hL2 rfl)) ?_
 exact ⟨hL2.ext, _, _, _, rfl, OwnH.nil, OwnH.nil, OwnH.nil⟩
noncomputable def law4_record (a0 : Int) : Option (Go.L.Pv) :=
 Option.bind (law4_number a0) (fun x3 => some ((Go.L.Pv.mk (4 : Int) (0 : Int) ([]) ([([97] : List UInt8)]) ([x3]))))
theorem law4_record_ok (w : World) (H : PH) (hH : Le H (hp w)) {a0 : Int}   {r : Go.L.Pv} (h : law4_record a0 = some r) :
  Ok Tryz.prog 45 [.int .i64 a0] w (fun v w' => Ext w w' ∧ ∃ u0 u1 u2, v = .agg #[.int .i64 r.f.1, .int .i64 r.f.2.1, u0, u1, u2] ∧ OwnH 5 .byte H w w' u0 (r.f.2.2.1) ∧ Vec .st (un H (nw w w')) u1 (r.f.2.2.2.1) ∧ Vec .tree (un H (nw w w')) u2 (r.f.2.2.2.2)) := by
 refine Ok_enter (n := 8) [(0, .int .i64 a0)] func45 rfl rfl rfl rfl rfl ?_
 have hL := Lcl.start w
 refine W_seqr ?_
 refine S_alloc zr38 rfl rfl hL ?_
 intro w1 b1 hL1 hle1 _
 refine S_seqnil ?_
 refine W_seqr ?_
 refine S_litE (r := .st) (l := [([97] : List UInt8)]) rfl (fun _ => bsl30_1 _ rfl _) rfl (show 1 ≤ 9223372036854775807 by decide) hH hL1 (.c1 rfl .nil) ?_
 intro v2 w2 hx2 hL2 hle2 hv2
 refine S_pu 1 rfl ?_
 obtain ⟨x3, hb3, h⟩ := Go.L.bind_some h
 refine S_callL rfl rfl hL2 (law4_number_ok _ _ (gz_le hH hL2) hb3) ?_
 rintro _ w4 ⟨u4_0, u4_1, u4_2, rfl, hR4_0, hR4_1, hR4_2⟩ hx4 hL4 hle4
 have hv4_0 := hR4_0.vecG hH hL2 hx4
 have hv4_1 := hR4_1.vecG hH hL2 hx4
 have hv4_2 := hR4_2.vecG hH hL2 hx4
 replace hv2 := hv2.mono (gz_mono hH hle4)
 refine S_litE (r := .tree) (l := [x3]) rfl (fun _ => bsl36_1 _ _ _ _ _ _) rfl (show 1 ≤ 9223372036854775807 by decide) hH hL4 (.c5 (Go.E.Rp.tree_close ⟨_, _, rfl, rfl, ⟨_, _, rfl, rfl, ⟨_, _, rfl, ⟨_, rfl, hv4_0⟩, ⟨_, _, rfl, ⟨_, rfl, hv4_1⟩, ⟨_, rfl, hv4_2⟩⟩⟩⟩⟩) .nil) ?_
 intro v5 w5 hx5 hL5 hle5 hv5
 replace hv2 := hv2.mono (gz_mono hH hle5)
 replace hv4_0 := hv4_0.mono (gz_mono hH hle5)
 replace hv4_1 := hv4_1.mono (gz_mono hH hle5)
 replace hv4_2 := hv4_2.mono (gz_mono hH hle5)
 refine S_v (r_build rfl (fun _ => bld38_0_3_4 _ _ hv2.one _ hv5.one _)) rfl ?_
 refine S_storeBN 0 rfl rfl rfl zr38 hL5 rfl rfl (onc rfl (onc rfl (onc rfl (onc hv2.one (onc hv5.one on0))))) ?_
 intro w6 hL6 hle6
 replace hv2 := hv2.mono (gz_mono hH hle6)
 replace hv4_0 := hv4_0.mono (gz_mono hH hle6)
 replace hv4_1 := hv4_1.mono (gz_mono hH hle6)
 replace hv4_2 := hv4_2.mono (gz_mono hH hle6)
 replace hv5 := hv5.mono (gz_mono hH hle6)
 refine S_seqnil ?_
 refine W_ret ?_
 obtain rfl := Option.some.inj h
 refine At_got1 rfl (.cell rfl underlying38 rfl zr38 (box_ptr (i := 0) hL6 rfl)) ?_
 exact ⟨hL6.ext, _, _, _, rfl, OwnH.nil, (hv2.mono (gz_res hH)), (hv5.mono (gz_res hH))⟩
end Go.Proofs.YtmfiaecglndldaaGreatDoor
end
section
namespace Go.L
/-- The parts between slashes, the first one behind some letters. -/
def pcs : List UInt8 → List UInt8 → List (List UInt8)
  | cur, [] => [cur]
  | cur, c :: s => if c = 47 then cur :: pcs [] s else pcs (cur ++ [c]) s
theorem pcs_cur : ∀ (s cur : List UInt8), pcs cur s = (cur ++ (pcs [] s).headD []) :: (pcs [] s).tail
  | [], cur => by simp [pcs]
  | c :: s, cur => by
    unfold pcs
    by_cases h : c = 47
    · rw [if_pos h, if_pos h]; simp
    · rw [if_neg h, if_neg h, pcs_cur s (cur ++ [c]), pcs_cur s ([] ++ [c])]
      simp
theorem pcs_len : ∀ (s cur : List UInt8), (pcs cur s).length ≤ s.length + 1
  | [], _ => by simp [pcs]
  | c :: s, cur => by
    unfold pcs
    split
    · have := pcs_len s []; simp only [List.length_cons]; omega
    · have := pcs_len s (cur ++ [c]); simp only [List.length_cons]; omega
/-- The bytes of steps, each with a slash. -/
def tot : List (List UInt8) → Nat
  | [] => 0
  | x :: l => x.length + 1 + tot l
theorem pcs_tot : ∀ (s cur : List UInt8), tot (pcs cur s) = cur.length + s.length + 1
  | [], cur => by simp [pcs, tot]
  | c :: s, cur => by
    unfold pcs
    split
    · unfold tot; rw [pcs_tot s []]; simp only [List.length_cons, List.length_nil]; omega
    · rw [pcs_tot s]; simp only [List.length_append, List.length_cons, List.length_nil]; omega
theorem splitK_pcs : ∀ s : List UInt8, Lib.splitK [47] 0 (s.count 47) s = pcs [] s
  | [] => rfl
  | c :: s => by
    have ih := splitK_pcs s
    have hi : Lib.index (c :: s) [47] = if c == 47 then 0 else if Lib.index s [47] == -1 then -1 else Lib.index s [47] + 1 := by
      rw [Lib.index_one, Lib.index_one]; rfl
    by_cases h : c = 47
    · subst h
      rw [List.count_cons_self]
      unfold Lib.splitK pcs
      rw [hi]
      simp [ih]
    · have hb : (c == 47) = false := by simpa using h
      rw [List.count_cons_of_ne (fun e => h e)]
      have hp : pcs [] (c :: s) = ([c] ++ (pcs [] s).headD []) :: (pcs [] s).tail := by
        conv => lhs; unfold pcs
        rw [if_neg h, pcs_cur s ([] ++ [c])]; rfl
      rw [hp, ← ih]
      cases hk : s.count 47 with
      | zero => rfl
      | succ k =>
        unfold Lib.splitK
        rw [hi, hb]
        by_cases h1 : (Lib.index s [47] == -1) = true
        · simp [h1]
        · have hge : -1 ≤ Lib.index s [47] := Lib.index_ge s [47]
          have h2 : 0 ≤ Lib.index s [47] := by have : Lib.index s [47] ≠ -1 := fun e => h1 (by simp [e]); omega
          obtain ⟨i, hi2⟩ := Int.eq_ofNat_of_zero_le h2
          have h3 : ((i : Int) + 1 == -1) = false := by simp; omega
          have h4 : ((i : Int) == -1) = false := by simp
          rw [hi2] at h1 ⊢
          simp [h3, h4, show ((i : Int) + 1).toNat = i + 1 by omega]
/-- The steps of a path or pattern. -/
def sl (s : List UInt8) : List (List UInt8) := if s = [] then [] else pcs [] s
theorem sl_len (s : List UInt8) : (sl s).length ≤ s.length + 1 := by unfold sl; split; simp; exact pcs_len s []
theorem sl_tot (s : List UInt8) : tot (sl s) ≤ s.length + 1 := by unfold sl; split; simp [tot]; rw [pcs_tot]; simp
theorem tot_mem : ∀ {l : List (List UInt8)} {x : List UInt8}, x ∈ l → x.length < tot l
  | y :: l, x, h => by
    unfold tot
    rcases List.mem_cons.1 h with rfl | h
    · omega
    · have := tot_mem h; omega
/-- A letter of a name. -/
def nch (c : UInt8) : Bool := decide ((97 ≤ c.toNat ∧ c.toNat ≤ 122) ∨ (48 ≤ c.toNat ∧ c.toNat ≤ 57) ∨ c.toNat = 45 ∨ c.toNat = 95 ∨ c.toNat = 46)
/-- A name. -/
def nok (s : List UInt8) : Bool := decide (1 ≤ s.length ∧ s.length ≤ 32 ∧ 97 ≤ (s.getD 0 default).toNat ∧ (s.getD 0 default).toNat ≤ 122) && s.all nch
/-- The place of the first wrong step, or -1. -/
def wr (w : Bool) : Int → List (List UInt8) → Int
  | _, [] => -1
  | a, x :: l => if (nok x || decide (x = [35]) || (w && (decide (x = [42]) || decide (x = [42, 42])))) = true then wr w (a + x.length + 1) l else a
theorem drop_cons {α : Type} [Inhabited α] {l : List α} {i : Nat} (h : i < l.length) : l.drop i = l.getD i default :: l.drop (i + 1) := by
  rw [List.drop_eq_getElem_cons h]; simp [List.getD_eq_getElem?_getD, List.getElem?_eq_getElem h]
theorem getD_mem {α : Type} [Inhabited α] {l : List α} {i : Nat} (h : i < l.length) : l.getD i default ∈ l := by
  rw [List.getD_eq_getElem?_getD, List.getElem?_eq_getElem h]; exact List.getElem_mem h
end Go.L
namespace Go.Proofs.YtmfiaecglndldaaGreatDoor
open Go Go.L
theorem steps_eq {s : List UInt8} (h : s.length < 4294967281) : shapes_steps s = some (sl s) := by
  unfold shapes_steps sl
  by_cases hs : s = []
  · rw [if_pos hs, if_pos hs]
  · rw [if_neg hs, if_neg hs]
    unfold strings_Split genSplitL
    rw [chk_pos ⟨h, rfl, rfl, rfl⟩]
    show some (pieces s) = some (pcs [] s)
    unfold pieces Lib.split
    rw [Lib.count_one, splitK_pcs]
theorem ref_steps_run {s : List UInt8} (hs : s.length ≤ 1000000000000) : ∀ (d i f : Nat) (L : List (List UInt8)), i + d = s.length → f ≤ i → L.length ≤ i →
    Go.L.run (ref4_Steps_bl2 s) (L, (f : Int), (i : Int)) = some (L ++ pcs ((s.drop f).take (i - f)) (s.drop i)) := by
  intro d
  induction d with
  | zero =>
    intro i f L hi hf hL
    have e1 : ref4_Steps_bl2 s (L, (f : Int), (i : Int)) = some (.inl (L ++ [(s.drop f).take (i - f)], ((i + 1 : Nat) : Int), ((i + 1 : Nat) : Int))) := by
      unfold ref4_Steps_bl2
      simp only [Int.toNat_natCast]
      rw [if_pos (by omega), if_pos (by omega), chk_pos (by omega), chk_pos (by unfold Go.E.Cap; simp; omega), chk_pos (by unfold I64; omega), chk_pos (by unfold I64; omega)]
      rfl
    rw [run_inl e1, run_inr (m := some (L ++ [(s.drop f).take (i - f)]))]
    · rw [List.drop_eq_nil_of_le (by omega : s.length ≤ i)]; rfl
    · unfold ref4_Steps_bl2
      dsimp only
      rw [if_neg (by omega)]
      rfl
  | succ d ih =>
    intro i f L hi hf hL
    have hil : i < s.length := by omega
    have hd := drop_cons hil
    by_cases hc : s.getD i default = 47
    · have e1 : ref4_Steps_bl2 s (L, (f : Int), (i : Int)) = some (.inl (L ++ [(s.drop f).take (i - f)], ((i + 1 : Nat) : Int), ((i + 1 : Nat) : Int))) := by
        unfold ref4_Steps_bl2
        simp only [Int.toNat_natCast]
        rw [if_pos (by omega), if_neg (by omega), chk_pos (by omega), if_pos (by rw [hc]; rfl), chk_pos (by omega), chk_pos (by unfold Go.E.Cap; simp; omega), chk_pos (by unfold I64; omega), chk_pos (by unfold I64; omega)]
        rfl
      rw [run_inl e1, ih (i + 1) (i + 1) _ (by omega) (Nat.le_refl _) (by simp; omega), hd]
      conv => rhs; unfold pcs
      rw [if_pos hc, Nat.sub_self, List.take_zero, List.append_assoc]
      rfl
    · have e1 : ref4_Steps_bl2 s (L, (f : Int), (i : Int)) = some (.inl (L, (f : Int), ((i + 1 : Nat) : Int))) := by
        unfold ref4_Steps_bl2
        simp only [Int.toNat_natCast]
        rw [if_pos (by omega), if_neg (by omega), chk_pos (by omega), if_neg (fun e => hc (UInt8.toNat.inj (show (s.getD i default).toNat = 47 by omega))), chk_pos (by unfold I64; omega)]
        rfl
      rw [run_inl e1, ih (i + 1) f _ (by omega) (by omega) (by omega), hd]
      conv => rhs; unfold pcs
      rw [if_neg hc]
      congr 2
      rw [show i + 1 - f = (i - f) + 1 by omega, List.take_add_one, List.getElem?_drop, show f + (i - f) = i by omega, List.getElem?_eq_getElem hil]
      simp [List.getD_eq_getElem?_getD, List.getElem?_eq_getElem hil]
theorem ref_steps {s : List UInt8} (hs : s.length ≤ 1000000000000) : ref4_Steps s = some (sl s) := by
  unfold ref4_Steps sl
  split
  · rfl
  · have := ref_steps_run hs s.length 0 0 [] (by omega) (Nat.le_refl _) (Nat.le_refl _)
    exact this
/-! ### Names -/
theorem nameok_run {s : List UInt8} (hs : s.length ≤ 1000000000000) : ∀ (d i : Nat), i + d = s.length → 1 ≤ i → Go.L.run (ref4_NameOk_bl2 s) (i : Int) = some ((s.drop i).all nch && decide (1 ≤ s.length ∧ s.length ≤ 32)) := by
  intro d
  induction d with
  | zero =>
    intro i hi h1
    refine run_inr ?_
    unfold ref4_NameOk_bl2 ref4_NameOk_k1 ref3_In
    rw [if_neg (by omega), List.drop_eq_nil_of_le (by omega : s.length ≤ i)]
    simp only [Option.bind_some, Option.map_some, List.all_nil, Bool.true_and]
    congr 2
    rw [decide_eq_decide]
    omega
  | succ d ih =>
    intro i hi h1
    have hil : i < s.length := by omega
    rw [drop_cons hil, List.all_cons]
    have hstep : ref4_NameOk_bl2 s (i : Int) = if nch (s.getD i default) then some (.inl ((i + 1 : Nat) : Int)) else some (.inr false) := by
      unfold ref4_NameOk_bl2 ref3_In nch
      rw [if_pos (by omega), chk_pos (by omega), Int.toNat_natCast]
      have hk : I64 ((i : Int) + 1) := by unfold I64; omega
      have hz : ¬ ((i : Int) = 0) := by omega
      simp only [Option.bind_some, chk_pos hk, if_neg hz]
      generalize (s.getD i default).toNat = c
      have e1 : (decide ((97 : Int) ≤ (c : Int) ∧ (c : Int) ≤ 122)) = decide (97 ≤ c ∧ c ≤ 122) := by rw [decide_eq_decide]; omega
      have e2 : (decide ((48 : Int) ≤ (c : Int) ∧ (c : Int) ≤ 57)) = decide (48 ≤ c ∧ c ≤ 57) := by rw [decide_eq_decide]; omega
      rw [e1, e2]
      by_cases k1 : 97 ≤ c ∧ c ≤ 122
      · simp [k1]
      · by_cases k2 : 48 ≤ c ∧ c ≤ 57
        · simp [k1, k2]
        · by_cases k3 : c = 45
          · subst k3; simp
          · by_cases k4 : c = 95
            · subst k4; simp
            · by_cases k5 : c = 46
              · subst k5; simp
              · have k3' : ¬ ((c : Int) = 45) := by omega
                have k4' : ¬ ((c : Int) = 95) := by omega
                have k5' : ¬ ((c : Int) = 46) := by omega
                simp [k1, k2, k3, k4, k5, k3', k4', k5']
    by_cases hn : nch (s.getD i default) = true
    · rw [if_pos hn] at hstep
      rw [run_inl hstep, ih (i + 1) (by omega) (by omega), hn, Bool.true_and]
    · rw [if_neg hn] at hstep
      have hn' : nch (s.getD i default) = false := by simpa using hn
      rw [run_inr (m := some false) hstep, hn', Bool.false_and, Bool.false_and]
theorem nameok_eq {s : List UInt8} (hs : s.length ≤ 1000000000000) : ref4_NameOk s = some (nok s) := by
  unfold ref4_NameOk ref4_NameOk_l2
  by_cases h0 : s = []
  · subst h0
    refine run_inr ?_
    rfl
  · have hl : 0 < s.length := List.length_pos_iff.2 h0
    have hd : s = s.getD 0 default :: s.drop 1 := by have := drop_cons hl; simpa using this
    by_cases hc : 97 ≤ (s.getD 0 default).toNat ∧ (s.getD 0 default).toNat ≤ 122
    · have e1 : ref4_NameOk_bl2 s (0 : Int) = some (.inl ((1 : Nat) : Int)) := by
        unfold ref4_NameOk_bl2 ref3_In
        rw [if_pos (by omega), chk_pos (by omega)]
        simp only [Option.bind_some, Int.toNat_zero]
        have hh : (decide ((97 : Int) ≤ ((s.getD 0 default).toNat : Int) ∧ ((s.getD 0 default).toNat : Int) ≤ 122)) = true := by rw [decide_eq_true_eq]; omega
        rw [hh, if_neg (by decide), chk_pos (by unfold I64; omega)]
        rfl
      rw [run_inl e1, nameok_run hs (s.length - 1) 1 (by omega) (Nat.le_refl _)]
      unfold nok
      have hn : nch (s.getD 0 default) = true := by unfold nch; rw [decide_eq_true_eq]; exact .inl hc
      have ha : s.all nch = (s.drop 1).all nch := by conv => lhs; rw [hd, List.all_cons, hn, Bool.true_and]
      rw [ha, Bool.and_comm]
      congr 2
      rw [decide_eq_decide]
      constructor
      · intro h; exact ⟨h.1, h.2, hc.1, hc.2⟩
      · intro h; exact ⟨h.1, h.2.1⟩
    · have e1 : ref4_NameOk_bl2 s (0 : Int) = some (.inr false) := by
        unfold ref4_NameOk_bl2 ref3_In
        rw [if_pos (by omega), chk_pos (by omega)]
        simp only [Option.bind_some, Int.toNat_zero]
        have hh : (decide ((97 : Int) ≤ ((s.getD 0 default).toNat : Int) ∧ ((s.getD 0 default).toNat : Int) ≤ 122)) = false := by rw [decide_eq_false_iff_not]; omega
        rw [hh]
        rfl
      rw [run_inr (m := some false) e1]
      unfold nok
      rw [show (decide (1 ≤ s.length ∧ s.length ≤ 32 ∧ 97 ≤ (s.getD 0 default).toNat ∧ (s.getD 0 default).toNat ≤ 122)) = false by rw [decide_eq_false_iff_not]; intro h; exact hc ⟨h.2.2.1, h.2.2.2⟩]
      rfl
theorem get_bang (l : List UInt8) (k : Nat) : ((ByteArray.mk l.toArray).get! k).toNat = (l.getD k default).toNat := by
  simp [ByteArray.get!, List.getD_eq_getElem?_getD, getElem!_def]
  cases l[k]? <;> rfl
theorem dec_low {l : List UInt8} {p : Nat} (h : (l.getD p default).toNat < 128) : Utf8.decode ⟨l.toArray⟩ p = ((l.getD p default).toNat, 1) := by
  unfold Utf8.decode
  simp only [Nat.add_zero, get_bang]
  rw [if_pos h]
theorem dec_high {l : List UInt8} {p : Nat} (h : ¬ (l.getD p default).toNat < 128) : 128 ≤ (Utf8.decode ⟨l.toArray⟩ p).1 := by
  unfold Utf8.decode
  simp only [Nat.add_zero, get_bang]
  rw [if_neg h]
  split
  · split
    · rename_i h2; simpa using h2
    · decide
  · split
    · split
      · rename_i h2; simp only [ge_iff_le, Bool.and_eq_true, decide_eq_true_eq] at h2; show 128 ≤ _; omega
      · decide
    · split
      · split
        · rename_i h2; simp only [ge_iff_le, Bool.and_eq_true, decide_eq_true_eq] at h2; show 128 ≤ _; omega
        · decide
      · decide
theorem badR_nch (c : UInt8) : badR c.toNat = !(nch c) := by
  unfold badR nch
  generalize c.toNat = n
  rw [Bool.eq_iff_iff]
  simp
  omega
theorem cf_run {a : List UInt8} : ∀ (f p : Nat), a.length ≤ p + f → (0 ≤ Lib.idxFuncFrom badR true ⟨a.toArray⟩ f p ↔ (a.drop p).all nch = false)
  | 0, p, h => by
    rw [List.drop_eq_nil_of_le (by omega)]
    simp [Lib.idxFuncFrom]
  | f + 1, p, h => by
    have hsz : (ByteArray.mk a.toArray).size = a.length := by simp [ByteArray.size]
    unfold Lib.idxFuncFrom
    rw [hsz]
    by_cases hp : p < a.length
    · rw [if_pos hp, drop_cons hp, List.all_cons]
      by_cases hc : (a.getD p default).toNat < 128
      · rw [dec_low hc]
        simp only [badR_nch]
        by_cases hn : nch (a.getD p default) = true
        · rw [hn, if_neg (by decide), Bool.true_and]
          exact cf_run f (p + 1) (by omega)
        · have hn' : nch (a.getD p default) = false := by simpa using hn
          rw [hn', if_pos (by decide)]
          simp
      · have hb : badR (Utf8.decode ⟨a.toArray⟩ p).1 = true := by
          have := dec_high hc
          unfold badR
          simp
          omega
        have hn : nch (a.getD p default) = false := by
          unfold nch
          rw [decide_eq_false_iff_not]
          omega
        rw [hb, if_pos rfl, hn]
        simp
    · rw [if_neg hp, List.drop_eq_nil_of_le (by omega)]
      simp
theorem nameCF_eq (a : List UInt8) : nameCF a = some (!(a.all nch)) := by
  unfold nameCF Lib.idxFunc
  congr 1
  have := cf_run (a := a) (ByteArray.mk a.toArray).size 0 (by simp [ByteArray.size])
  rw [List.drop_zero] at this
  rw [Bool.eq_iff_iff, decide_eq_true_eq, this]
  simp
theorem name_eq (s : List UInt8) : value_Name s = some (nok s) := by
  unfold value_Name nok
  by_cases h0 : s = []
  · subst h0; rfl
  · have hl : 0 < s.length := List.length_pos_iff.2 h0
    rw [if_neg h0]
    by_cases h1 : (32 : Int) < (s.length : Int)
    · rw [if_pos h1, show decide (1 ≤ s.length ∧ s.length ≤ 32 ∧ 97 ≤ (s.getD 0 default).toNat ∧ (s.getD 0 default).toNat ≤ 122) = false by rw [decide_eq_false_iff_not]; omega]
      rfl
    · rw [if_neg h1, chk_pos (by omega), Int.toNat_zero]
      by_cases h2 : ((s.getD 0 default).toNat : Int) < 97
      · rw [if_pos h2, show decide (1 ≤ s.length ∧ s.length ≤ 32 ∧ 97 ≤ (s.getD 0 default).toNat ∧ (s.getD 0 default).toNat ≤ 122) = false by rw [decide_eq_false_iff_not]; omega]
        rfl
      · rw [if_neg h2, chk_pos (by omega)]
        by_cases h3 : 122 < ((s.getD 0 default).toNat : Int)
        · rw [if_pos h3, show decide (1 ≤ s.length ∧ s.length ≤ 32 ∧ 97 ≤ (s.getD 0 default).toNat ∧ (s.getD 0 default).toNat ≤ 122) = false by rw [decide_eq_false_iff_not]; omega]
          rfl
        · rw [if_neg h3, nameCF_eq, show decide (1 ≤ s.length ∧ s.length ≤ 32 ∧ 97 ≤ (s.getD 0 default).toNat ∧ (s.getD 0 default).toNat ≤ 122) = true by rw [decide_eq_true_eq]; omega]
          simp
/-! ### Checks -/
theorem wrong_run {w : Bool} {l : List (List UInt8)} (hl : tot l ≤ 1000000000000) : ∀ (d i a : Nat), i + d = l.length → a + tot (l.drop i) ≤ 2000000000000 →
    Go.L.run (ref4_Wrong_bl2 w l) ((a : Int), (i : Int)) = some (wr w (a : Int) (l.drop i)) := by
  intro d
  induction d with
  | zero =>
    intro i a hi ha
    rw [List.drop_eq_nil_of_le (by omega)]
    refine run_inr ?_
    unfold ref4_Wrong_bl2
    dsimp only
    rw [if_neg (by omega)]
    rfl
  | succ d ih =>
    intro i a hi ha
    have hil : i < l.length := by omega
    have hlt : l.length ≤ 1000000000000 := by
      have : ∀ m : List (List UInt8), m.length ≤ tot m := fun m => by
        induction m with
        | nil => exact Nat.zero_le _
        | cons x m ih => simp only [List.length_cons, tot]; omega
      exact Nat.le_trans (this l) hl
    have hx := tot_mem (getD_mem hil)
    rw [drop_cons hil] at ha ⊢
    unfold wr
    unfold tot at ha
    generalize hX : l.getD i default = x at *
    have hk1 : I64 ((a : Int) + (x.length : Int)) := by unfold I64; omega
    have hk2 : I64 ((a : Int) + (x.length : Int) + 1) := by unfold I64; omega
    have hk3 : I64 ((i : Int) + 1) := by unfold I64; omega
    have hk0 : 0 ≤ (i : Int) ∧ (i : Int) < (l.length : Int) := by omega
    have hgo : Go.L.run (ref4_Wrong_bl2 w l) ((a : Int) + (x.length : Int) + 1, (i : Int) + 1) = some (wr w ((a : Int) + (x.length : Int) + 1) (l.drop (i + 1))) := by
      have := ih (i + 1) (a + x.length + 1) (by omega) (by omega)
      simpa using this
    have hb : ref4_Wrong_bl2 w l ((a : Int), (i : Int)) = if (nok x || decide (x = [35]) || (w && (decide (x = [42]) || decide (x = [42, 42])))) = true then some (.inl ((a : Int) + (x.length : Int) + 1, (i : Int) + 1)) else some (.inr (a : Int)) := by
      unfold ref4_Wrong_bl2
      simp only [Int.toNat_natCast, hX]
      rw [if_pos (by omega), chk_pos hk0, nameok_eq (by omega)]
      simp only [Option.bind_some, chk_pos hk0, chk_pos hk1, chk_pos hk2, chk_pos hk3]
      cases hn : nok x <;> by_cases h1 : x = [35] <;> cases w <;> by_cases h2 : x = [42] <;> by_cases h3 : x = [42, 42] <;> simp_all
    by_cases hc : (nok x || decide (x = [35]) || (w && (decide (x = [42]) || decide (x = [42, 42])))) = true
    · rw [if_pos hc] at hb ⊢
      rw [run_inl hb, hgo]
    · rw [if_neg hc] at hb ⊢
      exact run_inr (m := some (a : Int)) hb
theorem wrong_eq {s : List UInt8} (hs : s.length ≤ 100000000000) (w : Bool) : ref4_Wrong s w = some (wr w 0 (sl s)) := by
  unfold ref4_Wrong
  rw [ref_steps (by omega), Option.bind_some]
  have h1 := sl_tot s
  have := wrong_run (w := w) (l := sl s) (by omega) (sl s).length 0 0 (by omega) (by simp; omega)
  rw [List.drop_zero] at this
  exact this
/-- The fault of a pattern. -/
def pf (s : List UInt8) : Int × Int := if 64 < s.length then (3, -1) else if 0 ≤ wr true 0 (sl s) then (1, wr true 0 (sl s)) else (0, 0)
theorem check_run {l : List (List UInt8)} (hl : tot l ≤ 1000000000000) : ∀ (d i a : Nat), i + d = l.length → a + tot (l.drop i) ≤ 2000000000000 →
    Go.L.run (shapes_Check_bl2 l) ((a : Int), (i : Int)) = some (if 0 ≤ wr true (a : Int) (l.drop i) then (1, wr true (a : Int) (l.drop i)) else (0, 0)) := by
  intro d
  induction d with
  | zero =>
    intro i a hi ha
    rw [List.drop_eq_nil_of_le (by omega)]
    refine run_inr ?_
    unfold shapes_Check_bl2
    dsimp only
    rw [if_neg (by omega)]
    rfl
  | succ d ih =>
    intro i a hi ha
    have hil : i < l.length := by omega
    have hlt : l.length ≤ 1000000000000 := by
      have : ∀ m : List (List UInt8), m.length ≤ tot m := fun m => by
        induction m with
        | nil => exact Nat.zero_le _
        | cons x m ih => simp only [List.length_cons, tot]; omega
      exact Nat.le_trans (this l) hl
    have hx := tot_mem (getD_mem hil)
    rw [drop_cons hil] at ha ⊢
    unfold wr
    unfold tot at ha
    generalize hX : l.getD i default = x at *
    have hk1 : I64 ((x.length : Int) + 1) := by unfold I64; omega
    have hk2 : I64 ((a : Int) + ((x.length : Int) + 1)) := by unfold I64; omega
    have hk3 : I64 ((i : Int) + 1) := by unfold I64; omega
    have hk0 : 0 ≤ (i : Int) ∧ (i : Int) < (l.length : Int) := by omega
    have hgo : Go.L.run (shapes_Check_bl2 l) ((a : Int) + ((x.length : Int) + 1), (i : Int) + 1) = some (if 0 ≤ wr true ((a : Int) + (x.length : Int) + 1) (l.drop (i + 1)) then (1, wr true ((a : Int) + (x.length : Int) + 1) (l.drop (i + 1))) else (0, 0)) := by
      have := ih (i + 1) (a + x.length + 1) (by omega) (by omega)
      rw [show ((a : Int) + ((x.length : Int) + 1)) = ((a + x.length + 1 : Nat) : Int) by omega, show ((a : Int) + (x.length : Int) + 1) = ((a + x.length + 1 : Nat) : Int) by omega]
      exact this
    have hb : shapes_Check_bl2 l ((a : Int), (i : Int)) = if (nok x || decide (x = [35]) || (true && (decide (x = [42]) || decide (x = [42, 42])))) = true then some (.inl ((a : Int) + ((x.length : Int) + 1), (i : Int) + 1)) else some (.inr (1, (a : Int))) := by
      unfold shapes_Check_bl2
      simp only [Int.toNat_natCast, hX]
      rw [if_pos (by omega), chk_pos hk0, name_eq]
      simp only [Option.bind_some, chk_pos hk1, chk_pos hk2, chk_pos hk3]
      cases hn : nok x <;> by_cases h1 : x = [35] <;> by_cases h2 : x = [42] <;> by_cases h3 : x = [42, 42] <;> simp_all [shapes_fault]
    by_cases hc : (nok x || decide (x = [35]) || (true && (decide (x = [42]) || decide (x = [42, 42])))) = true
    · rw [if_pos hc] at hb ⊢
      rw [run_inl hb, hgo]
    · rw [if_neg hc] at hb ⊢
      rw [if_pos (by omega)]
      exact run_inr (m := some (1, (a : Int))) hb
theorem check_eq (s : List UInt8) : shapes_Check s = some (pf s) := by
  unfold shapes_Check pf
  by_cases h : 64 < s.length
  · rw [if_pos (by omega), if_pos h]; rfl
  · rw [if_neg (by omega), if_neg h, steps_eq (by omega), Option.bind_some]
    have h1 := sl_tot s
    have := check_run (l := sl s) (by omega) (sl s).length 0 0 (by omega) (by simp; omega)
    rw [List.drop_zero] at this
    exact this
theorem isp1_eq (x : List UInt8) : shapes_isPath_1 x = some (!(nok x || decide (x = [35]))) := by
  unfold shapes_isPath_1
  rw [name_eq]
  by_cases h : x = [35] <;> simp [h]
theorem idxp_run {l : List (List UInt8)} (hl : l.length ≤ 1000000000000) : ∀ (d i : Nat), i + d = l.length → ∀ a : Int, 0 ≤ a → ∃ r, Go.L.run (idxf_isPath_1_bl2 l) (i : Int) = some r ∧ (0 ≤ r ↔ 0 ≤ wr false a (l.drop i)) := by
  intro d
  induction d with
  | zero =>
    intro i hi a ha
    rw [List.drop_eq_nil_of_le (by omega)]
    refine ⟨-1, run_inr (m := some (-1)) ?_, by unfold wr; omega⟩
    unfold idxf_isPath_1_bl2
    rw [if_neg (by omega)]
    rfl
  | succ d ih =>
    intro i hi a ha
    have hil : i < l.length := by omega
    rw [drop_cons hil]
    unfold wr
    have hb : idxf_isPath_1_bl2 l (i : Int) = if (nok (l.getD i default) || decide (l.getD i default = [35])) = true then some (.inl ((i + 1 : Nat) : Int)) else some (.inr (i : Int)) := by
      unfold idxf_isPath_1_bl2
      simp only [Int.toNat_natCast]
      rw [if_pos (by omega), chk_pos (by omega), isp1_eq, chk_pos (by unfold I64; omega)]
      cases (nok (l.getD i default) || decide (l.getD i default = [35])) <;> rfl
    simp only [Bool.false_and, Bool.or_false]
    by_cases hc : (nok (l.getD i default) || decide (l.getD i default = [35])) = true
    · rw [if_pos hc] at hb ⊢
      rw [run_inl hb]
      exact ih (i + 1) (by omega) _ (by omega)
    · rw [if_neg hc] at hb ⊢
      exact ⟨_, run_inr (m := some (i : Int)) hb, by omega⟩
theorem isPath_eq (s : List UInt8) : shapes_isPath s = some (decide (s.length ≤ 330 ∧ ¬ 0 ≤ wr false 0 (sl s))) := by
  unfold shapes_isPath
  by_cases h : s.length ≤ 330
  · rw [if_pos (by omega), steps_eq (by omega), Option.bind_some]
    have h1 := sl_len s
    obtain ⟨r, h2, h3⟩ := idxp_run (l := sl s) (by omega) (sl s).length 0 (by omega) 0 (Int.le_refl _)
    unfold conf_isPath_1 idxf_isPath_1 idxf_isPath_1_l2
    rw [show ((0 : Int)) = ((0 : Nat) : Int) from rfl, h2]
    simp only [Option.bind_some]
    rw [List.drop_zero] at h3
    congr 1
    rw [Bool.eq_iff_iff]
    simp [h, h3]
  · rw [if_neg (by omega)]
    simp [h]
end Go.Proofs.YtmfiaecglndldaaGreatDoor
end
section
namespace Go.L
/-- Some end of a list has a property. -/
def sufAny {α : Type} (f : List α → Bool) : List α → Bool
  | [] => f []
  | y :: q => f (y :: q) || sufAny f q
/-- Whether steps match those of a pattern. -/
def fits : List (List UInt8) → List (List UInt8) → Bool
  | [], q => decide (q.length = 0)
  | x :: p, q => if x = [42, 42] then sufAny (fun r => fits p r) q else match q with
    | [] => false
    | y :: q' => (decide (x = [42]) || decide (x = y)) && fits p q'
/-- A step that is kept: not a second one of two steps "**". -/
def kp (l : List (List UInt8)) (j : Nat) : Bool := decide (j = 0 ∨ ¬ (l.getD j default = [42, 42] ∧ l.getD (j - 1) default = [42, 42]))
def kept (l : List (List UInt8)) (m : Nat) : List (List UInt8) := ((List.range m).filter (kp l)).map fun j => l.getD j default
theorem kept_succ (l : List (List UInt8)) (m : Nat) : kept l (m + 1) = kept l m ++ if kp l m then [l.getD m default] else [] := by
  unfold kept
  rw [List.range_succ, List.filter_append, List.map_append]
  congr 1
  by_cases h : kp l m = true <;> simp [h]
theorem kept_len (l : List (List UInt8)) (m : Nat) : (kept l m).length ≤ m := by
  unfold kept; rw [List.length_map]; exact Nat.le_trans (List.length_filter_le _ _) (by simp)
theorem kept_all {l : List (List UInt8)} {m : Nat} (hm : m ≤ l.length) (h : ∀ j, j < m → kp l j = true) : kept l m = l.take m := by
  induction m with
  | zero => rfl
  | succ m ih =>
    rw [kept_succ, ih (by omega) (fun j hj => h j (by omega)), h m (by omega), if_pos rfl, List.take_add_one, List.getElem?_eq_getElem (by omega : m < l.length)]
    simp [List.getD_eq_getElem?_getD, List.getElem?_eq_getElem (by omega : m < l.length)]
end Go.L
namespace Go.Proofs.YtmfiaecglndldaaGreatDoor
open Go Go.L
theorem suf_run {self : List (List UInt8) → List (List UInt8) → Option Bool} {p q : List (List UInt8)} {x : List UInt8} (hq : q.length ≤ 1000000000000) (hs : ∀ r : List (List UInt8), r.length ≤ q.length → self p r = some (fits p r)) :
    ∀ (d i : Nat), i + d = q.length → Go.L.run (shapes_match_body_bl3 (x :: p) q self) (i : Int) = some (sufAny (fun r => fits p r) (q.drop i)) := by
  have hend : Go.L.run (shapes_match_body_bl3 (x :: p) q self) ((q.length + 1 : Nat) : Int) = some false := by
    refine run_inr (m := some false) ?_
    unfold shapes_match_body_bl3 shapes_match_body_k2
    rw [if_neg (by omega)]
  have hb : ∀ i : Nat, i ≤ q.length → shapes_match_body_bl3 (x :: p) q self (i : Int) = if fits p (q.drop i) then some (.inr true) else some (.inl ((i + 1 : Nat) : Int)) := by
    intro i hi
    unfold shapes_match_body_bl3
    have h1 : ((x :: p).drop (1 : Int).toNat) = p := rfl
    rw [if_pos (by omega), chk_pos (by simp only [List.length_cons]; omega), chk_pos (by omega), h1, Int.toNat_natCast, hs _ (by simp), Option.bind_some, chk_pos (by unfold I64; omega)]
    rfl
  intro d
  induction d with
  | zero =>
    intro i hi
    obtain rfl : i = q.length := by omega
    have h := hb q.length (Nat.le_refl _)
    rw [List.drop_eq_nil_of_le (Nat.le_refl _)] at h ⊢
    unfold sufAny
    by_cases hf : fits p [] = true
    · rw [if_pos hf] at h
      rw [run_inr (m := some true) h, hf]
    · rw [if_neg hf] at h
      rw [run_inl h, hend]
      simpa using hf
  | succ d ih =>
    intro i hi
    have h := hb i (by omega)
    rw [drop_cons (by omega : i < q.length)] at h ⊢
    unfold sufAny
    by_cases hf : fits p (q.getD i default :: q.drop (i + 1)) = true
    · rw [if_pos hf] at h
      rw [run_inr (m := some true) h, hf]
      rfl
    · rw [if_neg hf] at h
      rw [run_inl h, ih (i + 1) (by omega)]
      have : fits p (q.getD i default :: q.drop (i + 1)) = false := by simpa using hf
      rw [this, Bool.false_or]
theorem match_n : ∀ (p : List (List UInt8)) (n : Nat) (q : List (List UInt8)), p.length < n → q.length ≤ 1000000000000 → shapes_match_n n p q = some (fits p q)
  | [], 0, _, h, _ => by simp at h
  | _ :: _, 0, _, h, _ => by simp at h
  | [], n + 1, q, _, hq => by
    show shapes_match_body (shapes_match_n n) [] q = _
    unfold shapes_match_body fits
    rw [if_pos (show ((([] : List (List UInt8)).length : Nat) : Int) = 0 from rfl)]
    congr 1
    rw [decide_eq_decide]
    omega
  | x :: p, n + 1, q, hp, hq => by
    show shapes_match_body (shapes_match_n n) (x :: p) q = _
    have ih : ∀ r : List (List UInt8), r.length ≤ q.length → shapes_match_n n p r = some (fits p r) := fun r hr => match_n p n r (by simp at hp; omega) (by omega)
    unfold shapes_match_body fits
    have hg : (x :: p).getD ((0 : Int).toNat) default = x := rfl
    rw [if_neg (by simp only [List.length_cons]; omega), chk_pos (by simp only [List.length_cons]; omega), hg]
    by_cases hx : x = [42, 42]
    · rw [if_pos hx, if_pos hx, chk_pos (by unfold I64; omega)]
      exact suf_run (x := x) hq ih q.length 0 (by omega)
    · rw [if_neg hx, if_neg hx]
      unfold shapes_match_body_k1
      cases q with
      | nil => rfl
      | cons y q' =>
        have h1 : (0 : Int) < ((y :: q').length : Int) := by simp only [List.length_cons]; omega
        have h2 : (0 : Int) ≤ 0 ∧ (0 : Int) < ((x :: p).length : Int) := by simp only [List.length_cons]; omega
        have h3 : (0 : Int) ≤ 1 ∧ (1 : Int) ≤ ((x :: p).length : Int) := by simp only [List.length_cons]; omega
        have h4 : (0 : Int) ≤ 1 ∧ (1 : Int) ≤ ((y :: q').length : Int) := by simp only [List.length_cons]; omega
        have h5 : (0 : Int) ≤ 0 ∧ (0 : Int) < ((y :: q').length : Int) := by simp only [List.length_cons]; omega
        have e1 : (x :: p).drop (1 : Int).toNat = p := rfl
        have e2 : (y :: q').drop (1 : Int).toNat = q' := rfl
        have e3 : (y :: q').getD ((0 : Int).toNat) default = y := rfl
        rw [if_pos h1]
        simp only [chk_pos h2, chk_pos h3, chk_pos h4, chk_pos h5, hg, e1, e2, e3, ih q' (by simp), Option.bind_some]
        by_cases h6 : x = [42]
        · rw [if_pos h6]; simp [h6]
        · rw [if_neg h6]
          by_cases h7 : x = y <;> simp [h6, h7]
theorem m1_eq (a b : List UInt8) : shapes_matches_1 a b = some (decide (a = [42, 42] ∧ b = [42, 42])) := by
  unfold shapes_matches_1
  by_cases h : a = [42, 42] <;> simp [h]
/-- The steps of a pattern, of some steps "**" in a row one. -/
def col (l : List (List UInt8)) : List (List UInt8) := kept l l.length
theorem col_len (l : List (List UInt8)) : (col l).length ≤ l.length := kept_len l l.length
theorem cf_in {l : List (List UInt8)} (hl : l.length ≤ 1000000000000) {k0 : Nat} (h0 : 1 ≤ k0) (hk : k0 < l.length) (hall : ∀ j, j < k0 → kp l j = true) (hno : kp l k0 = false) :
    slices_CompactFunc_string_string_l5 (k0 : Int) (l, (k0 : Int), (1 : Int)) = some (.inr (col l)) := by
  unfold slices_CompactFunc_string_string_l5
  refine run_inv (fun s => ∃ (m : List (List UInt8)) (k k2 : Nat), s = (m, (k : Int), (k2 : Int)) ∧ m.length = l.length ∧ m.drop (k0 + k2 - 1) = l.drop (k0 + k2 - 1) ∧ m.take k = kept l (k0 + k2) ∧ k = (kept l (k0 + k2)).length ∧ k ≤ k0 + k2 - 1 ∧ 1 ≤ k2 ∧ k0 + k2 ≤ l.length) (fun s => l.length - s.2.2.toNat) ?_ ?_
  · rintro _ ⟨m, k, k2, rfl, hm, hd, ht, hkl, hkk, h2, hle⟩
    have hdl : (m.drop k0).length = l.length - k0 := by rw [List.length_drop, hm]
    by_cases hc : k0 + k2 < l.length
    · left
      have g1 : (m.drop k0).getD k2 default = l.getD (k0 + k2) default := by
        have : (m.drop (k0 + k2 - 1))[1]? = (l.drop (k0 + k2 - 1))[1]? := by rw [hd]
        rw [List.getElem?_drop, List.getElem?_drop, show k0 + k2 - 1 + 1 = k0 + k2 by omega] at this
        rw [List.getD_eq_getElem?_getD, List.getD_eq_getElem?_getD, List.getElem?_drop, this]
      have g2 : (m.drop k0).getD (k2 - 1) default = l.getD (k0 + k2 - 1) default := by
        have : (m.drop (k0 + k2 - 1))[0]? = (l.drop (k0 + k2 - 1))[0]? := by rw [hd]
        rw [List.getElem?_drop, List.getElem?_drop, Nat.add_zero] at this
        rw [List.getD_eq_getElem?_getD, List.getD_eq_getElem?_getD, List.getElem?_drop, show k0 + (k2 - 1) = k0 + k2 - 1 by omega, this]
      have hks := kept_succ l (k0 + k2)
      by_cases hp : kp l (k0 + k2) = true
      · refine ⟨(m.set k (l.getD (k0 + k2) default), ((k + 1 : Nat) : Int), ((k2 + 1 : Nat) : Int)), ?_, ⟨_, k + 1, k2 + 1, rfl, by rw [List.length_set, hm], ?_, ?_, ?_, by omega, by omega, by omega⟩, by simp only [Int.toNat_natCast]; omega⟩
        · unfold slices_CompactFunc_string_string_bl5
          dsimp only
          rw [Int.toNat_natCast, if_pos (by omega), chk_pos (by omega), chk_pos (by unfold I64; omega), chk_pos (by omega), Int.toNat_natCast, show ((k2 : Int) - 1).toNat = k2 - 1 by omega, g1, g2, m1_eq, Option.bind_some]
          have hx : decide (l.getD (k0 + k2) default = [42, 42] ∧ l.getD (k0 + k2 - 1) default = [42, 42]) = false := by
            unfold kp at hp
            rw [decide_eq_true_eq] at hp
            rw [decide_eq_false_iff_not]
            rcases hp with hp | hp
            · omega
            · exact hp
          rw [hx, if_pos (by decide), chk_pos (by omega), chk_pos (by omega), chk_pos (by unfold I64; omega), chk_pos (by unfold I64; omega), Int.toNat_natCast]
          rfl
        · rw [show k0 + (k2 + 1) - 1 = k0 + k2 by omega, List.drop_set_of_lt (by omega)]
          have : (m.drop (k0 + k2 - 1)).drop 1 = (l.drop (k0 + k2 - 1)).drop 1 := by rw [hd]
          rwa [List.drop_drop, List.drop_drop, show k0 + k2 - 1 + 1 = k0 + k2 by omega] at this
        · rw [show k0 + (k2 + 1) = k0 + k2 + 1 by omega, hks, if_pos hp, List.take_add_one, List.take_set_of_le (Nat.le_refl _), ht, List.getElem?_set_self (by omega)]
          rfl
        · rw [show k0 + (k2 + 1) = k0 + k2 + 1 by omega, hks, if_pos hp, List.length_append, ← hkl]; rfl
      · have hp' : kp l (k0 + k2) = false := by simpa using hp
        refine ⟨(m, (k : Int), ((k2 + 1 : Nat) : Int)), ?_, ⟨m, k, k2 + 1, rfl, hm, ?_, ?_, ?_, by omega, by omega, by omega⟩, by simp only [Int.toNat_natCast]; omega⟩
        · unfold slices_CompactFunc_string_string_bl5
          dsimp only
          rw [Int.toNat_natCast, if_pos (by omega), chk_pos (by omega), chk_pos (by unfold I64; omega), chk_pos (by omega), Int.toNat_natCast, show ((k2 : Int) - 1).toNat = k2 - 1 by omega, g1, g2, m1_eq, Option.bind_some]
          have hx : decide (l.getD (k0 + k2) default = [42, 42] ∧ l.getD (k0 + k2 - 1) default = [42, 42]) = true := by
            unfold kp at hp'
            rw [decide_eq_false_iff_not] at hp'
            rw [decide_eq_true_eq]
            exact Decidable.not_not.1 (fun hh => hp' (.inr hh))
          rw [hx, if_neg (by decide), chk_pos (by unfold I64; omega)]
          rfl
        · rw [show k0 + (k2 + 1) - 1 = k0 + k2 by omega]
          have : (m.drop (k0 + k2 - 1)).drop 1 = (l.drop (k0 + k2 - 1)).drop 1 := by rw [hd]
          rwa [List.drop_drop, List.drop_drop, show k0 + k2 - 1 + 1 = k0 + k2 by omega] at this
        · rw [show k0 + (k2 + 1) = k0 + k2 + 1 by omega, hks, hp']
          simpa using ht
        · rw [show k0 + (k2 + 1) = k0 + k2 + 1 by omega, hks, hp']
          simpa using hkl
    · right
      have he : k0 + k2 = l.length := by omega
      unfold slices_CompactFunc_string_string_bl5 slices_CompactFunc_string_string_k4
      dsimp only
      rw [Int.toNat_natCast, if_neg (by omega), Int.toNat_natCast, chk_pos (by omega), chk_pos (by simp; omega)]
      congr 1
      have htl : (m.take k).length = k := by rw [List.length_take]; omega
      rw [show (m.take k ++ List.replicate (m.length - k) ([] : List UInt8)).take k = m.take k by rw [List.take_append_of_le_length (by omega), List.take_of_length_le (by omega)], ht, he]
      rfl
  · have hks := kept_succ l k0
    have hka := kept_all (l := l) (m := k0) (by omega) hall
    refine ⟨l, k0, 1, rfl, rfl, rfl, ?_, ?_, by omega, by omega, by omega⟩
    · rw [hks, hno, hka]; simp
    · rw [hks, hno, hka]; simp; omega
theorem cf_out {l : List (List UInt8)} (hl : l.length ≤ 1000000000000) : ∀ (d k : Nat), k + d = l.length → 1 ≤ k → (∀ j, j < k → kp l j = true) → Go.L.run slices_CompactFunc_string_string_bl2 (l, (k : Int)) = some (col l) := by
  intro d
  induction d with
  | zero =>
    intro k hk h1 hall
    refine run_inr (m := some (col l)) ?_
    unfold slices_CompactFunc_string_string_bl2 slices_CompactFunc_string_string_k1
    dsimp only
    rw [if_neg (by omega)]
    unfold col
    rw [kept_all (Nat.le_refl _) (fun j hj => hall j (by omega)), List.take_length]
  | succ d ih =>
    intro k hk h1 hall
    by_cases hp : kp l k = true
    · have hb : slices_CompactFunc_string_string_bl2 (l, (k : Int)) = some (.inl (l, ((k + 1 : Nat) : Int))) := by
        unfold slices_CompactFunc_string_string_bl2
        dsimp only
        rw [if_pos (by omega), chk_pos (by omega), chk_pos (by unfold I64; omega), chk_pos (by omega), Int.toNat_natCast, show ((k : Int) - 1).toNat = k - 1 by omega, m1_eq, Option.bind_some]
        have hx : decide (l.getD k default = [42, 42] ∧ l.getD (k - 1) default = [42, 42]) = false := by
          unfold kp at hp
          rw [decide_eq_true_eq] at hp
          rw [decide_eq_false_iff_not]
          rcases hp with hp | hp
          · omega
          · exact hp
        rw [hx, if_neg (by decide)]
        unfold slices_CompactFunc_string_string_k3
        rw [chk_pos (by unfold I64; omega)]
        rfl
      rw [run_inl hb]
      refine ih (k + 1) (by omega) (by omega) (fun j hj => ?_)
      rcases Nat.lt_succ_iff_lt_or_eq.1 hj with h | rfl
      · exact hall j h
      · exact hp
    · have hp' : kp l k = false := by simpa using hp
      refine run_inr (m := some (col l)) ?_
      unfold slices_CompactFunc_string_string_bl2
      dsimp only
      rw [if_pos (by omega), chk_pos (by omega), chk_pos (by unfold I64; omega), chk_pos (by omega), Int.toNat_natCast, show ((k : Int) - 1).toNat = k - 1 by omega, m1_eq, Option.bind_some]
      have hx : decide (l.getD k default = [42, 42] ∧ l.getD (k - 1) default = [42, 42]) = true := by
        unfold kp at hp'
        rw [decide_eq_false_iff_not] at hp'
        rw [decide_eq_true_eq]
        exact Decidable.not_not.1 (fun hh => hp' (.inr hh))
      rw [hx, if_pos rfl, chk_pos (by omega), cf_in hl h1 (by omega) hall hp']
      rfl
theorem cfunc_eq {l : List (List UInt8)} (hl : l.length ≤ 1000000000000) : slices_CompactFunc_string_string l = some (col l) := by
  unfold slices_CompactFunc_string_string
  have h0 : ∀ j, j < 1 → kp l j = true := fun j hj => by
    have : j = 0 := by omega
    subst this
    unfold kp; simp
  by_cases h : (l.length : Int) < 2
  · rw [if_pos h]
    unfold col
    rw [kept_all (Nat.le_refl _) (fun j hj => h0 j (by omega)), List.take_length]
  · rw [if_neg h]
    exact cf_out hl (l.length - 1) 1 (by omega) (Nat.le_refl _) h0
theorem matches_eq {a b : List UInt8} (ha : a.length < 900) (hb : b.length < 4294967281) : shapes_matches a b = some (fits (col (sl a)) (sl b)) := by
  unfold shapes_matches
  have hla := sl_len a
  have hlb := sl_len b
  have := col_len (sl a)
  rw [steps_eq (by omega), Option.bind_some, cfunc_eq (by omega), Option.bind_some, steps_eq (by omega), Option.bind_some]
  have hf : shapes_match (col (sl a)) (sl b) = some (fits (col (sl a)) (sl b)) := match_n (col (sl a)) 1000 (sl b) (by omega) (by omega)
  rw [hf]
  rfl
/-- What Match answers. -/
def mres (a b : List UInt8) : Bool × (Int × Int) :=
  if (pf a).1 = 0 then (if 330 < b.length then (false, 3, -2) else if 0 ≤ wr false 0 (sl b) then (false, 6, -2) else (fits (col (sl a)) (sl b), 0, 0)) else (false, pf a)
theorem pf_zero (a : List UInt8) : (pf a).1 = 0 → pf a = (0, 0) ∧ a.length ≤ 64 := by
  unfold pf
  split
  · intro h; simp at h
  · split
    · intro h; simp at h
    · intro _; exact ⟨rfl, by omega⟩
theorem match_eq (a b : List UInt8) : shapes_Match a b = some (mres a b) := by
  unfold shapes_Match mres
  rw [check_eq, Option.bind_some]
  by_cases h : (pf a).1 = 0
  · obtain ⟨h1, h2⟩ := pf_zero a h
    rw [if_pos (by rw [h1]; exact ⟨rfl, rfl⟩), if_pos h]
    by_cases h3 : 330 < b.length
    · rw [if_pos (by omega), if_pos h3]; rfl
    · rw [if_neg (by omega), if_neg h3, isPath_eq, Option.bind_some]
      by_cases h4 : 0 ≤ wr false 0 (sl b)
      · rw [if_pos (by simp [h4]), if_pos h4]; rfl
      · rw [if_neg (by simp [h4]; omega), if_neg h4, matches_eq (by omega) (by omega)]
        rfl
  · rw [if_neg (fun hh => h hh.1), if_neg h]
end Go.Proofs.YtmfiaecglndldaaGreatDoor
end
section
namespace Go.L
/-- Steps with slashes between them. -/
def jn : List (List UInt8) → List UInt8
  | [] => []
  | x :: l => if l = [] then x else x ++ 47 :: jn l
theorem jn_snoc : ∀ (l : List (List UInt8)) (x : List UInt8), jn (l ++ [x]) = if l = [] then x else jn l ++ 47 :: x
  | [], x => by simp [jn]
  | y :: l, x => by
    have ih := jn_snoc l x
    simp only [List.cons_append, jn, List.append_eq_nil_iff, List.cons_ne_nil, and_false, if_false, reduceCtorEq]
    rw [ih]
    by_cases h : l = []
    · subst h; simp
    · simp [h]
theorem jn_len : ∀ {l : List (List UInt8)}, l ≠ [] → (jn l).length + 1 = tot l
  | x :: l, _ => by
    unfold jn tot
    by_cases h : l = []
    · subst h; simp [tot]
    · have := jn_len h
      rw [if_neg h, List.length_append, List.length_cons]
      omega
theorem pcs_slash : ∀ (x cur s : List UInt8), 47 ∉ x → pcs cur (x ++ 47 :: s) = (cur ++ x) :: pcs [] s
  | [], cur, s, _ => by simp [pcs]
  | c :: x, cur, s, h => by
    have hc : c ≠ 47 := fun e => h (by rw [e]; exact .head _)
    simp only [List.cons_append, pcs, if_neg hc]
    rw [pcs_slash x (cur ++ [c]) s (fun hh => h (.tail _ hh))]
    simp
theorem pcs_last : ∀ (x cur : List UInt8), 47 ∉ x → pcs cur x = [cur ++ x]
  | [], cur, _ => by simp [pcs]
  | c :: x, cur, h => by
    have hc : c ≠ 47 := fun e => h (by rw [e]; exact .head _)
    simp only [pcs, if_neg hc]
    rw [pcs_last x (cur ++ [c]) (fun hh => h (.tail _ hh))]
    simp
theorem pcs_jn : ∀ {l : List (List UInt8)}, l ≠ [] → (∀ x ∈ l, 47 ∉ x) → pcs [] (jn l) = l
  | x :: l, _, h => by
    unfold jn
    by_cases hl : l = []
    · subst hl
      rw [if_pos rfl, pcs_last x [] (h x (.head _))]; simp
    · rw [if_neg hl, pcs_slash x [] _ (h x (.head _)), pcs_jn hl (fun y hy => h y (.tail _ hy))]; simp
theorem sl_jn {l : List (List UInt8)} (hne : ∀ x ∈ l, x ≠ []) (h : ∀ x ∈ l, 47 ∉ x) : sl (jn l) = l := by
  unfold sl
  cases l with
  | nil => simp [jn]
  | cons x l =>
    have : jn (x :: l) ≠ [] := by
      unfold jn
      have := hne x (.head _)
      split
      · exact this
      · simp
    rw [if_neg this, pcs_jn (by simp) h]
/-- A step of a path. -/
def stp (x : List UInt8) : Bool := nok x || decide (x = [35])
theorem stp_ne {x : List UInt8} (h : stp x = true) : x ≠ [] ∧ 47 ∉ x ∧ x ≠ [42] ∧ x ≠ [42, 42] := by
  unfold stp at h
  rw [Bool.or_eq_true, decide_eq_true_eq] at h
  rcases h with h | rfl
  · unfold nok at h
    rw [Bool.and_eq_true, decide_eq_true_eq] at h
    obtain ⟨h1, h2⟩ := h
    have hall := List.all_eq_true.1 h2
    refine ⟨fun e => by subst e; simp at h1, fun hh => ?_, fun e => by subst e; simp at h1, fun e => by subst e; simp at h1⟩
    have := hall 47 hh
    revert this; decide
  · decide
theorem wr_path {l : List (List UInt8)} : ∀ {a : Int}, 0 ≤ a → ¬ 0 ≤ wr false a l → ∀ x ∈ l, stp x = true := by
  induction l with
  | nil => intro a _ _ x hx; cases hx
  | cons y l ih =>
    intro a ha h x hx
    unfold wr at h
    simp only [Bool.false_and, Bool.or_false] at h
    split at h
    · rename_i h1
      rcases List.mem_cons.1 hx with rfl | hx
      · exact h1
      · exact ih (by omega) h x hx
    · exact absurd ha h
theorem wr_ok {w : Bool} {l : List (List UInt8)} : ∀ {a : Int}, (∀ x ∈ l, (stp x || (w && (decide (x = [42]) || decide (x = [42, 42])))) = true) → wr w a l = -1 := by
  induction l with
  | nil => intro a _; rfl
  | cons y l ih =>
    intro a h
    unfold wr
    have := h y (.head _)
    unfold stp at this
    rw [if_pos this]
    exact ih (fun x hx => h x (.tail _ hx))
theorem suf_end {f : List (List UInt8) → Bool} (h : f [] = true) : ∀ l, sufAny f l = true
  | [] => h
  | _ :: l => by unfold sufAny; rw [suf_end h l, Bool.or_true]
theorem suf_at {f : List (List UInt8) → Bool} : ∀ (l : List (List UInt8)) (i : Nat), f (l.drop i) = true → sufAny f l = true
  | [], i, h => by simpa [sufAny] using h
  | y :: l, 0, h => by unfold sufAny; rw [show f (y :: l) = true from h, Bool.true_or]
  | y :: l, i + 1, h => by unfold sufAny; rw [suf_at l i h, Bool.or_true]
theorem fits_self : ∀ {l : List (List UInt8)}, (∀ x ∈ l, x ≠ [42, 42]) → fits l l = true
  | [], _ => by simp [fits]
  | x :: l, h => by
    unfold fits
    rw [if_neg (h x (.head _))]
    show ((decide (x = [42]) || decide (x = x)) && fits l l) = true
    rw [fits_self (fun y hy => h y (.tail _ hy))]
    simp
theorem fits_set {w : List UInt8} (hw : w = [42] ∨ w = [42, 42]) : ∀ {l : List (List UInt8)} {i : Nat}, i < l.length → (∀ x ∈ l, x ≠ [42, 42]) → fits (l.set i w) l = true
  | x :: l, 0, _, h => by
    have hs := fits_self (fun y hy => h y (.tail _ hy))
    rw [List.set_cons_zero]
    unfold fits
    rcases hw with rfl | rfl
    · rw [if_neg (by decide)]
      show ((decide (([42] : List UInt8) = [42]) || decide ([42] = x)) && fits l l) = true
      rw [hs]; rfl
    · rw [if_pos rfl]
      exact suf_at (x :: l) 1 hs
  | x :: l, i + 1, hi, h => by
    rw [List.set_cons_succ]
    unfold fits
    rw [if_neg (h x (.head _))]
    show ((decide (x = [42]) || decide (x = x)) && fits (l.set i w) l) = true
    rw [fits_set hw (by simpa using hi) (fun y hy => h y (.tail _ hy))]
    simp
end Go.L
namespace Go.Proofs.YtmfiaecglndldaaGreatDoor
open Go Go.L
theorem col_set {w : List UInt8} {l : List (List UInt8)} {i : Nat} (h : ∀ x ∈ l, x ≠ [42, 42]) : col (l.set i w) = l.set i w := by
  unfold col
  rw [kept_all (Nat.le_refl _) (fun j hj => ?_), List.take_length]
  unfold kp
  rw [decide_eq_true_eq]
  by_cases h0 : j = 0
  · exact .inl h0
  · refine .inr (fun hh => ?_)
    rw [List.length_set] at hj
    have hne : ∀ k, k < l.length → k ≠ i → (l.set i w).getD k default ≠ [42, 42] := fun k hk hki e => by
      rw [List.getD_eq_getElem?_getD, List.getElem?_set_ne (fun e => hki e.symm), List.getElem?_eq_getElem hk] at e
      exact h _ (List.getElem_mem hk) e
    by_cases hji : j = i
    · exact hne (j - 1) (by omega) (by omega) hh.2
    · exact hne j hj hji hh.1
theorem col_path {l : List (List UInt8)} (h : ∀ x ∈ l, x ≠ [42, 42]) : col l = l := by
  have := col_set (w := []) (i := l.length) h
  rwa [List.set_eq_of_length_le (Nat.le_refl _)] at this
end Go.Proofs.YtmfiaecglndldaaGreatDoor
end
