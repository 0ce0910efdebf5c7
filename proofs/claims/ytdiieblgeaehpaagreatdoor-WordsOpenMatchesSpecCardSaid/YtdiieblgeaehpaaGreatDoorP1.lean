/- Generated walks: small functions. -/
import Derived.Test.YtdiieblgeaehpaaGreatDoorFacts
import Derived.Test.YtdiieblgeaehpaaGreatDoorEngR
import Derived.KernelRfl
namespace Go.Proofs.YtdiieblgeaehpaaGreatDoor
open Go Go.E Go.RowKit
set_option maxHeartbeats 1000000
set_option maxRecDepth 10000
open _root_.Go.Proofs.Tryz
noncomputable def ref3_In (a0 : Int) (a1 : Int) (a2 : Int) : Option (Bool) :=
 some (decide ((a1 ≤ a0) ∧ (a0 ≤ a2)))

theorem ref3_In_ok (w : World) (H : PH) (_hH : Le H (hp w)) {a0 : Int} {a1 : Int} {a2 : Int}   {r : Bool} (h : ref3_In a0 a1 a2 = some r) :
  Ok Tryz.prog 79 [.int .i64 a0, .int .i64 a1, .int .i64 a2] w (fun v w' => Ext w w' ∧ v = .bool r) := by
 refine Ok_enter (n := 15) [(0, .int .i64 a0), (1, .int .i64 a1), (2, .int .i64 a2)] func79 rfl rfl rfl rfl rfl ?_
 have hL := Lcl.start w
 refine W_pz 1 rfl ?_
 refine W_p 4 rfl ?_
 refine S_and 3 3 rfl rfl rfl rfl rfl rfl ?_
 refine S_pz 1 rfl ?_
 refine W_ret ?_
 obtain rfl := Option.some.inj h
 refine At_body rfl rfl ?_
 exact ⟨hL.ext, rfl⟩

noncomputable def ref3_At (a0 : Int) (a1 : Int) : Option ((Int × Int)) :=
 some ((a0, a1))

theorem ref3_At_ok (w : World) (H : PH) (_hH : Le H (hp w)) {a0 : Int} {a1 : Int}   {r : (Int × Int)} (h : ref3_At a0 a1 = some r) :
  Ok Tryz.prog 7 [.int .i64 a0, .int .i64 a1] w (fun v w' => Ext w w' ∧ v = .agg #[.int .i64 r.1, .int .i64 r.2]) := by
 refine Ok_enter (n := 8) [(0, .int .i64 a0), (1, .int .i64 a1)] func7 rfl rfl rfl rfl rfl ?_
 have hL := Lcl.start w
 refine W_seqr ?_
 refine S_alloc zr27 rfl rfl hL ?_
 intro w1 b1 hL1 hle1 _
 refine S_seqnil ?_
 refine W_p 2 rfl ?_
 refine S_v (r_build rfl (fun _ => bld27_0_1 _ _ _)) rfl ?_
 refine S_storeBN 0 rfl rfl rfl zr27 hL1 rfl rfl (onc rfl (onc rfl on0)) ?_
 intro w2 hL2 hle2
 refine S_seqnil ?_
 refine W_ret ?_
 obtain rfl := Option.some.inj h
 refine At_got1 rfl (.cell rfl underlying27 rfl zr27 (box_ptr (i := 0) hL2 rfl)) ?_
 exact ⟨hL2.ext, rfl⟩

noncomputable def ref3_Ints_k1 : Option (Bool) :=
 some (true)
noncomputable def ref3_Ints_bl2 (a0 : List Int) (a1 : List Int) : Int → Option ((Int) ⊕ (Bool)) := fun s5_40 =>
 if s5_40 < (a0.length : Int) then Go.L.chk (0 ≤ s5_40 ∧ s5_40 < (a0.length : Int)) (Go.L.chk (0 ≤ s5_40 ∧ s5_40 < (a1.length : Int)) (if a0.getD s5_40.toNat default = a1.getD s5_40.toNat default then Go.L.chk (Go.L.I64 (s5_40 + (1 : Int))) (some (Sum.inl (s5_40 + (1 : Int)))) else Option.map Sum.inr (some (false)))) else Option.map Sum.inr (ref3_Ints_k1)
noncomputable def ref3_Ints_l2 (a0 : List Int) (a1 : List Int) (s : Int) : Option (Bool) := Go.L.run (ref3_Ints_bl2 a0 a1) s
noncomputable def ref3_Ints (a0 : List Int) (a1 : List Int) : Option (Bool) :=
 if (a0.length : Int) = (a1.length : Int) then (ref3_Ints_l2 a0 a1) (0 : Int) else some (false)

theorem ref3_Ints_ok (w : World) (H : PH) (hH : Le H (hp w)) {a0 : List Int} {a1 : List Int} {v0_0 : Value} {v1_0 : Value} (h0_0 : Vec (.int .i64) H v0_0 (a0)) (h1_0 : Vec (.int .i64) H v1_0 (a1)) {r : Bool} (h : ref3_Ints a0 a1 = some r) :
  Ok Tryz.prog 27 [v0_0, v1_0] w (fun v w' => Ext w w' ∧ v = .bool r) := by
 refine Ok_enter (n := 26) [(0, v0_0), (1, v1_0)] func27 rfl rfl rfl rfl rfl ?_
 have hL := Lcl.start w
 refine W_pz 1 rfl ?_
 refine W_seq ?_
 refine W_p 1 rfl ?_
 refine S_v (r_len rfl underlying71 h0_0) rfl ?_
 refine S_pu 1 rfl ?_
 refine S_v (r_len rfl underlying71 h1_0) rfl ?_
 refine S_pz 1 rfl ?_
 refine W_ifn rfl (fun hc1 => ?_) (fun hc1 => ?_)
 ·replace h := Go.L.ite_n hc1 h
  refine W_pz 1 rfl ?_
  refine W_ret ?_
  refine At_seq_ret ?_
  obtain rfl := Option.some.inj h
  refine At_body rfl rfl ?_
  exact ⟨hL.ext, rfl⟩
 ·replace h := Go.L.ite_p hc1 h
  refine W_skip ?_
  refine At_seq ?_
  refine W_cut (σ := Unit) (fun (_ : Unit) => []) (fun (_ : Unit) wr => Lcl w [] wr ∧ ref3_Ints_k1 = some r) ?_ ?_
  ·refine W_pz 1 rfl ?_
   refine W_block ?_
   obtain ⟨n41, h⟩ := Go.L.run_some h
   refine W_loop (σ := Int × Nat) (fun ⟨s5_40, n⟩ => [(0, v0_0), (1, v1_0), (5, .int .i64 s5_40)]) (fun ⟨s5_40, n⟩ wr => Lcl w [] wr ∧ Go.L.itr (ref3_Ints_bl2 a0 a1) n s5_40 = some r) (fun ⟨s5_40, n⟩ => n) ((0 : Int), n41) (.cons rfl (.cons rfl (.cons rfl (Sub.nil _)))) ⟨hL, h⟩ ?_
   rintro ⟨s5_40, nn41⟩ wr41 ⟨hL41, h⟩
   obtain ⟨n41, e41, rfl, h, hm41⟩ := Go.L.itr_some h
   refine W_seq ?_
   refine W_p 2 rfl ?_
   refine S_v (r_len rfl underlying71 h0_0) rfl ?_
   refine S_pz 1 rfl ?_
   refine W_if rfl (fun hc43 => ?_) (fun hc43 => ?_)
   ·replace h := Go.L.ite_p hc43 h
    refine W_skip ?_
    refine At_seq ?_
    refine W_seq ?_
    refine W_block ?_
    refine W_seqd (.q 0 (.q 1 (.q 2 (.q 3 (.q 4 (.q 5 (.q 6 (.q 7 (.q 8 (.tail 9)))))))))) mixed (by kernel_rfl) (fun w45 hx45 => ?_)
    have hL46 := hL41.call hx45
    refine D_pu 2 rfl ?_
    obtain ⟨hk48, h⟩ := Go.L.chk_some h
    refine D_index rfl rfl rfl underlying71 zr3 h0_0 s5_40.toNat (Int.toNat_of_nonneg hk48.1).symm (idx_lt hk48) rfl ?_
    rintro p47 _ rfl hp47
    refine D_v (r_load1 rfl underlying3 rfl hp47 (hH.trans hL46.arg)) rfl rfl ?_
    refine D_pu 2 rfl ?_
    obtain ⟨hk50, h⟩ := Go.L.chk_some h
    refine D_index rfl rfl rfl underlying71 zr3 h1_0 s5_40.toNat (Int.toNat_of_nonneg hk50.1).symm (idx_lt hk50) rfl ?_
    rintro p49 _ rfl hp49
    refine D_v (r_load1 rfl underlying3 rfl hp49 (hH.trans hL46.arg)) rfl rfl ?_
    refine D_pu 1 rfl ?_
    refine D_tail (fun w51 hx51 => ?_)
    have hL52 := hL46.call hx51
    refine S_seqnil ?_
    refine W_ifn rfl (fun hc53 => ?_) (fun hc53 => ?_)
    ·replace h := Go.L.ite_n hc53 h
     refine W_pz 1 rfl ?_
     refine W_ret ?_
     refine At_block_ret ?_
     refine At_seq_ret ?_
     refine At_loop_ret ?_
     replace h := Go.L.Nxt.out h hm41
     refine At_block_ret ?_
     refine At_cut_ret ?_
     obtain rfl := Option.some.inj h
     refine At_body rfl rfl ?_
     exact ⟨hL52.ext, rfl⟩
    ·replace h := Go.L.ite_p hc53 h
     refine W_skip ?_
     refine At_block ?_
     refine At_seq ?_
     refine W_region ?_
     refine S_pu 1 rfl ?_
     obtain ⟨hk56, h⟩ := Go.L.chk_some h
     refine S_v (r_ar64 rfl rfl rfl hk56) rfl ?_
     refine S_pu 1 rfl ?_
     refine S_nil ?_
     have h := Go.L.Nxt.again h hm41
     refine At_round ((s5_40 + (1 : Int)), n41) (.cons rfl (.cons rfl (.cons rfl (Sub.nil _)))) ⟨hL52, h⟩ (Nat.lt_succ_self _)
   ·replace h := Go.L.ite_n hc43 h
    refine W_exit ?_
    refine At_seq_exit ?_
    refine At_loop_exit ?_
    replace h := Go.L.Nxt.out h hm41
    refine At_exit ?_
    refine At_cut () (Sub.nil _) ⟨hL41, h⟩
  ·rintro _ wr22 ⟨hL22, h⟩
   refine W_pz 1 rfl ?_
   refine W_ret ?_
   obtain rfl := Option.some.inj h
   refine At_body rfl rfl ?_
   exact ⟨hL22.ext, rfl⟩

noncomputable def words_fault (a0 : Int) (a1 : Int) : Option ((Int × Int)) :=
 some ((a0, a1))

theorem words_fault_ok (w : World) (H : PH) (_hH : Le H (hp w)) {a0 : Int} {a1 : Int}   {r : (Int × Int)} (h : words_fault a0 a1 = some r) :
  Ok Tryz.prog 19 [.int .i64 a0, .int .i64 a1] w (fun v w' => Ext w w' ∧ v = .agg #[.int .i64 r.1, .int .i64 r.2]) := by
 refine Ok_enter (n := 8) [(0, .int .i64 a0), (1, .int .i64 a1)] func19 rfl rfl rfl rfl rfl ?_
 have hL := Lcl.start w
 refine W_seqr ?_
 refine S_alloc zr27 rfl rfl hL ?_
 intro w1 b1 hL1 hle1 _
 refine S_seqnil ?_
 refine W_p 2 rfl ?_
 refine S_v (r_build rfl (fun _ => bld27_0_1 _ _ _)) rfl ?_
 refine S_storeBN 0 rfl rfl rfl zr27 hL1 rfl rfl (onc rfl (onc rfl on0)) ?_
 intro w2 hL2 hle2
 refine S_seqnil ?_
 refine W_ret ?_
 obtain rfl := Option.some.inj h
 refine At_got1 rfl (.cell rfl underlying27 rfl zr27 (box_ptr (i := 0) hL2 rfl)) ?_
 exact ⟨hL2.ext, rfl⟩

noncomputable def bits_fault (a0 : Int) (a1 : Int) : Option ((Int × Int)) :=
 some ((a0, a1))

theorem bits_fault_ok (w : World) (H : PH) (_hH : Le H (hp w)) {a0 : Int} {a1 : Int}   {r : (Int × Int)} (h : bits_fault a0 a1 = some r) :
  Ok Tryz.prog 61 [.int .i64 a0, .int .i64 a1] w (fun v w' => Ext w w' ∧ v = .agg #[.int .i64 r.1, .int .i64 r.2]) := by
 refine Ok_enter (n := 8) [(0, .int .i64 a0), (1, .int .i64 a1)] func61 rfl rfl rfl rfl rfl ?_
 have hL := Lcl.start w
 refine W_seqr ?_
 refine S_alloc zr27 rfl rfl hL ?_
 intro w1 b1 hL1 hle1 _
 refine S_seqnil ?_
 refine W_p 2 rfl ?_
 refine S_v (r_build rfl (fun _ => bld27_0_1 _ _ _)) rfl ?_
 refine S_storeBN 0 rfl rfl rfl zr27 hL1 rfl rfl (onc rfl (onc rfl on0)) ?_
 intro w2 hL2 hle2
 refine S_seqnil ?_
 refine W_ret ?_
 obtain rfl := Option.some.inj h
 refine At_got1 rfl (.cell rfl underlying27 rfl zr27 (box_ptr (i := 0) hL2 rfl)) ?_
 exact ⟨hL2.ext, rfl⟩

noncomputable def ref4_SameHits_k1 : Option (Bool) :=
 some (true)
noncomputable def ref4_SameHits_bl2 (a0 : List (Int × Int)) (a1 : List (Int × Int)) : Int → Option ((Int) ⊕ (Bool)) := fun s5_40 =>
 if s5_40 < (a0.length : Int) then Go.L.chk (0 ≤ s5_40 ∧ s5_40 < (a0.length : Int)) (Go.L.chk (0 ≤ s5_40 ∧ s5_40 < (a1.length : Int)) (if (a0.getD s5_40.toNat default).1 = (a1.getD s5_40.toNat default).1 ∧ (a0.getD s5_40.toNat default).2 = (a1.getD s5_40.toNat default).2 then Go.L.chk (Go.L.I64 (s5_40 + (1 : Int))) (some (Sum.inl (s5_40 + (1 : Int)))) else Option.map Sum.inr (some (false)))) else Option.map Sum.inr (ref4_SameHits_k1)
noncomputable def ref4_SameHits_l2 (a0 : List (Int × Int)) (a1 : List (Int × Int)) (s : Int) : Option (Bool) := Go.L.run (ref4_SameHits_bl2 a0 a1) s
noncomputable def ref4_SameHits (a0 : List (Int × Int)) (a1 : List (Int × Int)) : Option (Bool) :=
 if (a0.length : Int) = (a1.length : Int) then (ref4_SameHits_l2 a0 a1) (0 : Int) else some (false)

theorem ref4_SameHits_ok (w : World) (H : PH) (hH : Le H (hp w)) {a0 : List (Int × Int)} {a1 : List (Int × Int)} {v0_0 : Value} {v1_0 : Value} (h0_0 : Vec (.pair (.int .i64) (.int .i64)) H v0_0 (a0)) (h1_0 : Vec (.pair (.int .i64) (.int .i64)) H v1_0 (a1)) {r : Bool} (h : ref4_SameHits a0 a1 = some r) :
  Ok Tryz.prog 14 [v0_0, v1_0] w (fun v w' => Ext w w' ∧ v = .bool r) := by
 refine Ok_enter (n := 26) [(0, v0_0), (1, v1_0)] func14 rfl rfl rfl rfl rfl ?_
 have hL := Lcl.start w
 refine W_pz 1 rfl ?_
 refine W_seq ?_
 refine W_p 1 rfl ?_
 refine S_v (r_len rfl underlying40 h0_0) rfl ?_
 refine S_pu 1 rfl ?_
 refine S_v (r_len rfl underlying40 h1_0) rfl ?_
 refine S_pz 1 rfl ?_
 refine W_ifn rfl (fun hc1 => ?_) (fun hc1 => ?_)
 ·replace h := Go.L.ite_n hc1 h
  refine W_pz 1 rfl ?_
  refine W_ret ?_
  refine At_seq_ret ?_
  obtain rfl := Option.some.inj h
  refine At_body rfl rfl ?_
  exact ⟨hL.ext, rfl⟩
 ·replace h := Go.L.ite_p hc1 h
  refine W_skip ?_
  refine At_seq ?_
  refine W_cut (σ := Unit) (fun (_ : Unit) => []) (fun (_ : Unit) wr => Lcl w [] wr ∧ ref4_SameHits_k1 = some r) ?_ ?_
  ·refine W_pz 1 rfl ?_
   refine W_block ?_
   obtain ⟨n41, h⟩ := Go.L.run_some h
   refine W_loop (σ := Int × Nat) (fun ⟨s5_40, n⟩ => [(0, v0_0), (1, v1_0), (5, .int .i64 s5_40)]) (fun ⟨s5_40, n⟩ wr => Lcl w [] wr ∧ Go.L.itr (ref4_SameHits_bl2 a0 a1) n s5_40 = some r) (fun ⟨s5_40, n⟩ => n) ((0 : Int), n41) (.cons rfl (.cons rfl (.cons rfl (Sub.nil _)))) ⟨hL, h⟩ ?_
   rintro ⟨s5_40, nn41⟩ wr41 ⟨hL41, h⟩
   obtain ⟨n41, e41, rfl, h, hm41⟩ := Go.L.itr_some h
   refine W_seq ?_
   refine W_p 2 rfl ?_
   refine S_v (r_len rfl underlying40 h0_0) rfl ?_
   refine S_pz 1 rfl ?_
   refine W_if rfl (fun hc43 => ?_) (fun hc43 => ?_)
   ·replace h := Go.L.ite_p hc43 h
    refine W_skip ?_
    refine At_seq ?_
    refine W_seq ?_
    refine W_block ?_
    refine W_seqd (.q 0 (.q 1 (.q 2 (.q 3 (.q 4 (.q 5 (.q 6 (.q 7 (.q 8 (.tail 9)))))))))) mixed (by kernel_rfl) (fun w45 hx45 => ?_)
    have hL46 := hL41.call hx45
    refine D_pu 2 rfl ?_
    obtain ⟨hk48, h⟩ := Go.L.chk_some h
    refine D_index rfl rfl rfl underlying40 zr64 h0_0 s5_40.toNat (Int.toNat_of_nonneg hk48.1).symm (idx_lt hk48) rfl ?_
    rintro p47 _ ⟨_, _, rfl, rfl, rfl⟩ hp47
    refine D_v (r_loadN rfl underlying64 rfl zr64 hp47 (hH.trans hL46.arg)) rfl rfl ?_
    refine D_pu 2 rfl ?_
    obtain ⟨hk50, h⟩ := Go.L.chk_some h
    refine D_index rfl rfl rfl underlying40 zr64 h1_0 s5_40.toNat (Int.toNat_of_nonneg hk50.1).symm (idx_lt hk50) rfl ?_
    rintro p49 _ ⟨_, _, rfl, rfl, rfl⟩ hp49
    refine D_v (r_loadN rfl underlying64 rfl zr64 hp49 (hH.trans hL46.arg)) rfl rfl ?_
    refine D_v (r_neA rfl rfl eqg64 (eq64 _ _ _ _ )) rfl rfl ?_
    refine D_tail (fun w51 hx51 => ?_)
    have hL52 := hL46.call hx51
    refine S_seqnil ?_
    refine W_ifn rfl (fun hc53 => ?_) (fun hc53 => ?_)
    ·replace h := Go.L.ite_n hc53 h
     refine W_pz 1 rfl ?_
     refine W_ret ?_
     refine At_block_ret ?_
     refine At_seq_ret ?_
     refine At_loop_ret ?_
     replace h := Go.L.Nxt.out h hm41
     refine At_block_ret ?_
     refine At_cut_ret ?_
     obtain rfl := Option.some.inj h
     refine At_body rfl rfl ?_
     exact ⟨hL52.ext, rfl⟩
    ·replace h := Go.L.ite_p hc53 h
     refine W_skip ?_
     refine At_block ?_
     refine At_seq ?_
     refine W_region ?_
     refine S_pu 1 rfl ?_
     obtain ⟨hk56, h⟩ := Go.L.chk_some h
     refine S_v (r_ar64 rfl rfl rfl hk56) rfl ?_
     refine S_pu 1 rfl ?_
     refine S_nil ?_
     have h := Go.L.Nxt.again h hm41
     refine At_round ((s5_40 + (1 : Int)), n41) (.cons rfl (.cons rfl (.cons rfl (Sub.nil _)))) ⟨hL52, h⟩ (Nat.lt_succ_self _)
   ·replace h := Go.L.ite_n hc43 h
    refine W_exit ?_
    refine At_seq_exit ?_
    refine At_loop_exit ?_
    replace h := Go.L.Nxt.out h hm41
    refine At_exit ?_
    refine At_cut () (Sub.nil _) ⟨hL41, h⟩
  ·rintro _ wr22 ⟨hL22, h⟩
   refine W_pz 1 rfl ?_
   refine W_ret ?_
   obtain rfl := Option.some.inj h
   refine At_body rfl rfl ?_
   exact ⟨hL22.ext, rfl⟩

noncomputable def ref4_Texts_k1 : Option (Bool) :=
 some (true)
noncomputable def ref4_Texts_bl2 (a0 : List (List UInt8)) (a1 : List (List UInt8)) : Int → Option ((Int) ⊕ (Bool)) := fun s5_40 =>
 if s5_40 < (a0.length : Int) then Go.L.chk (0 ≤ s5_40 ∧ s5_40 < (a0.length : Int)) (Go.L.chk (0 ≤ s5_40 ∧ s5_40 < (a1.length : Int)) (if a0.getD s5_40.toNat default = a1.getD s5_40.toNat default then Go.L.chk (Go.L.I64 (s5_40 + (1 : Int))) (some (Sum.inl (s5_40 + (1 : Int)))) else Option.map Sum.inr (some (false)))) else Option.map Sum.inr (ref4_Texts_k1)
noncomputable def ref4_Texts_l2 (a0 : List (List UInt8)) (a1 : List (List UInt8)) (s : Int) : Option (Bool) := Go.L.run (ref4_Texts_bl2 a0 a1) s
noncomputable def ref4_Texts (a0 : List (List UInt8)) (a1 : List (List UInt8)) : Option (Bool) :=
 if (a0.length : Int) = (a1.length : Int) then (ref4_Texts_l2 a0 a1) (0 : Int) else some (false)

theorem ref4_Texts_ok (w : World) (H : PH) (hH : Le H (hp w)) {a0 : List (List UInt8)} {a1 : List (List UInt8)} {v0_0 : Value} {v1_0 : Value} (h0_0 : Vec .st H v0_0 (a0)) (h1_0 : Vec .st H v1_0 (a1)) {r : Bool} (h : ref4_Texts a0 a1 = some r) :
  Ok Tryz.prog 28 [v0_0, v1_0] w (fun v w' => Ext w w' ∧ v = .bool r) := by
 refine Ok_enter (n := 26) [(0, v0_0), (1, v1_0)] func28 rfl rfl rfl rfl rfl ?_
 have hL := Lcl.start w
 refine W_pz 1 rfl ?_
 refine W_seq ?_
 refine W_p 1 rfl ?_
 refine S_v (r_len rfl underlying36 h0_0) rfl ?_
 refine S_pu 1 rfl ?_
 refine S_v (r_len rfl underlying36 h1_0) rfl ?_
 refine S_pz 1 rfl ?_
 refine W_ifn rfl (fun hc1 => ?_) (fun hc1 => ?_)
 ·replace h := Go.L.ite_n hc1 h
  refine W_pz 1 rfl ?_
  refine W_ret ?_
  refine At_seq_ret ?_
  obtain rfl := Option.some.inj h
  refine At_body rfl rfl ?_
  exact ⟨hL.ext, rfl⟩
 ·replace h := Go.L.ite_p hc1 h
  refine W_skip ?_
  refine At_seq ?_
  refine W_cut (σ := Unit) (fun (_ : Unit) => []) (fun (_ : Unit) wr => Lcl w [] wr ∧ ref4_Texts_k1 = some r) ?_ ?_
  ·refine W_pz 1 rfl ?_
   refine W_block ?_
   obtain ⟨n41, h⟩ := Go.L.run_some h
   refine W_loop (σ := Int × Nat) (fun ⟨s5_40, n⟩ => [(0, v0_0), (1, v1_0), (5, .int .i64 s5_40)]) (fun ⟨s5_40, n⟩ wr => Lcl w [] wr ∧ Go.L.itr (ref4_Texts_bl2 a0 a1) n s5_40 = some r) (fun ⟨s5_40, n⟩ => n) ((0 : Int), n41) (.cons rfl (.cons rfl (.cons rfl (Sub.nil _)))) ⟨hL, h⟩ ?_
   rintro ⟨s5_40, nn41⟩ wr41 ⟨hL41, h⟩
   obtain ⟨n41, e41, rfl, h, hm41⟩ := Go.L.itr_some h
   refine W_seq ?_
   refine W_p 2 rfl ?_
   refine S_v (r_len rfl underlying36 h0_0) rfl ?_
   refine S_pz 1 rfl ?_
   refine W_if rfl (fun hc43 => ?_) (fun hc43 => ?_)
   ·replace h := Go.L.ite_p hc43 h
    refine W_skip ?_
    refine At_seq ?_
    refine W_seq ?_
    refine W_block ?_
    refine W_seqd (.q 0 (.q 1 (.q 2 (.q 3 (.q 4 (.q 5 (.q 6 (.q 7 (.q 8 (.tail 9)))))))))) mixed (by kernel_rfl) (fun w45 hx45 => ?_)
    have hL46 := hL41.call hx45
    refine D_pu 2 rfl ?_
    obtain ⟨hk48, h⟩ := Go.L.chk_some h
    refine D_index rfl rfl rfl underlying36 zr9 h0_0 s5_40.toNat (Int.toNat_of_nonneg hk48.1).symm (idx_lt hk48) rfl ?_
    rintro p47 _ rfl hp47
    refine D_v (r_load1 rfl underlying9 rfl hp47 (hH.trans hL46.arg)) rfl rfl ?_
    refine D_pu 2 rfl ?_
    obtain ⟨hk50, h⟩ := Go.L.chk_some h
    refine D_index rfl rfl rfl underlying36 zr9 h1_0 s5_40.toNat (Int.toNat_of_nonneg hk50.1).symm (idx_lt hk50) rfl ?_
    rintro p49 _ rfl hp49
    refine D_v (r_load1 rfl underlying9 rfl hp49 (hH.trans hL46.arg)) rfl rfl ?_
    refine D_v (r_sne rfl rfl) rfl rfl ?_
    refine D_tail (fun w51 hx51 => ?_)
    have hL52 := hL46.call hx51
    refine S_seqnil ?_
    refine W_ifn rfl (fun hc53 => ?_) (fun hc53 => ?_)
    ·replace h := Go.L.ite_n hc53 h
     refine W_pz 1 rfl ?_
     refine W_ret ?_
     refine At_block_ret ?_
     refine At_seq_ret ?_
     refine At_loop_ret ?_
     replace h := Go.L.Nxt.out h hm41
     refine At_block_ret ?_
     refine At_cut_ret ?_
     obtain rfl := Option.some.inj h
     refine At_body rfl rfl ?_
     exact ⟨hL52.ext, rfl⟩
    ·replace h := Go.L.ite_p hc53 h
     refine W_skip ?_
     refine At_block ?_
     refine At_seq ?_
     refine W_region ?_
     refine S_pu 1 rfl ?_
     obtain ⟨hk56, h⟩ := Go.L.chk_some h
     refine S_v (r_ar64 rfl rfl rfl hk56) rfl ?_
     refine S_pu 1 rfl ?_
     refine S_nil ?_
     have h := Go.L.Nxt.again h hm41
     refine At_round ((s5_40 + (1 : Int)), n41) (.cons rfl (.cons rfl (.cons rfl (Sub.nil _)))) ⟨hL52, h⟩ (Nat.lt_succ_self _)
   ·replace h := Go.L.ite_n hc43 h
    refine W_exit ?_
    refine At_seq_exit ?_
    refine At_loop_exit ?_
    replace h := Go.L.Nxt.out h hm41
    refine At_exit ?_
    refine At_cut () (Sub.nil _) ⟨hL41, h⟩
  ·rintro _ wr22 ⟨hL22, h⟩
   refine W_pz 1 rfl ?_
   refine W_ret ?_
   obtain rfl := Option.some.inj h
   refine At_body rfl rfl ?_
   exact ⟨hL22.ext, rfl⟩

noncomputable def ref4_HasText_k1 : Option (Bool) :=
 some (false)
noncomputable def ref4_HasText_bl2 (a0 : List (List UInt8)) (a1 : List UInt8) : Int → Option ((Int) ⊕ (Bool)) := fun s5_25 =>
 if s5_25 < (a0.length : Int) then Go.L.chk (0 ≤ s5_25 ∧ s5_25 < (a0.length : Int)) (if a0.getD s5_25.toNat default = a1 then Option.map Sum.inr (some (true)) else Go.L.chk (Go.L.I64 (s5_25 + (1 : Int))) (some (Sum.inl (s5_25 + (1 : Int))))) else Option.map Sum.inr (ref4_HasText_k1)
noncomputable def ref4_HasText_l2 (a0 : List (List UInt8)) (a1 : List UInt8) (s : Int) : Option (Bool) := Go.L.run (ref4_HasText_bl2 a0 a1) s
noncomputable def ref4_HasText (a0 : List (List UInt8)) (a1 : List UInt8) : Option (Bool) :=
 (ref4_HasText_l2 a0 a1) (0 : Int)

theorem ref4_HasText_ok (w : World) (H : PH) (hH : Le H (hp w)) {a0 : List (List UInt8)} {a1 : List UInt8} {v0_0 : Value} (h0_0 : Vec .st H v0_0 (a0)) {r : Bool} (h : ref4_HasText a0 a1 = some r) :
  Ok Tryz.prog 89 [v0_0, .string ⟨(a1).toArray⟩] w (fun v w' => Ext w w' ∧ v = .bool r) := by
 refine Ok_enter (n := 18) [(0, v0_0), (1, .string ⟨(a1).toArray⟩)] func89 rfl rfl rfl rfl rfl ?_
 have hL := Lcl.start w
 refine W_pz 1 rfl ?_
 refine W_cut (σ := Unit) (fun (_ : Unit) => []) (fun (_ : Unit) wr => Lcl w [] wr ∧ ref4_HasText_k1 = some r) ?_ ?_
 ·refine W_pz 1 rfl ?_
  refine W_block ?_
  obtain ⟨n26, h⟩ := Go.L.run_some h
  refine W_loop (σ := Int × Nat) (fun ⟨s5_25, n⟩ => [(0, v0_0), (1, .string ⟨(a1).toArray⟩), (5, .int .i64 s5_25)]) (fun ⟨s5_25, n⟩ wr => Lcl w [] wr ∧ Go.L.itr (ref4_HasText_bl2 a0 a1) n s5_25 = some r) (fun ⟨s5_25, n⟩ => n) ((0 : Int), n26) (.cons rfl (.cons rfl (.cons rfl (Sub.nil _)))) ⟨hL, h⟩ ?_
  rintro ⟨s5_25, nn26⟩ wr26 ⟨hL26, h⟩
  obtain ⟨n26, e26, rfl, h, hm26⟩ := Go.L.itr_some h
  refine W_seq ?_
  refine W_p 2 rfl ?_
  refine S_v (r_len rfl underlying36 h0_0) rfl ?_
  refine S_pz 1 rfl ?_
  refine W_if rfl (fun hc28 => ?_) (fun hc28 => ?_)
  ·replace h := Go.L.ite_p hc28 h
   refine W_skip ?_
   refine At_seq ?_
   refine W_seq ?_
   refine W_block ?_
   refine W_p 2 rfl ?_
   obtain ⟨hk31, h⟩ := Go.L.chk_some h
   refine S_index rfl rfl underlying36 zr9 h0_0 s5_25.toNat (Int.toNat_of_nonneg hk31.1).symm (idx_lt hk31) rfl ?_
   rintro p30 _ rfl hp30
   refine S_v (r_load1 rfl underlying9 rfl hp30 (hH.trans hL26.arg)) rfl ?_
   refine S_pu 1 rfl ?_
   refine S_v (r_seq rfl rfl) rfl ?_
   refine S_seqnil ?_
   refine W_if rfl (fun hc32 => ?_) (fun hc32 => ?_)
   ·replace h := Go.L.ite_p hc32 h
    refine W_pz 1 rfl ?_
    refine W_ret ?_
    refine At_block_ret ?_
    refine At_seq_ret ?_
    refine At_loop_ret ?_
    replace h := Go.L.Nxt.out h hm26
    refine At_block_ret ?_
    refine At_cut_ret ?_
    obtain rfl := Option.some.inj h
    refine At_body rfl rfl ?_
    exact ⟨hL26.ext, rfl⟩
   ·replace h := Go.L.ite_n hc32 h
    refine W_skip ?_
    refine At_block ?_
    refine At_seq ?_
    refine W_region ?_
    refine S_pu 1 rfl ?_
    obtain ⟨hk35, h⟩ := Go.L.chk_some h
    refine S_v (r_ar64 rfl rfl rfl hk35) rfl ?_
    refine S_pu 1 rfl ?_
    refine S_nil ?_
    have h := Go.L.Nxt.again h hm26
    refine At_round ((s5_25 + (1 : Int)), n26) (.cons rfl (.cons rfl (.cons rfl (Sub.nil _)))) ⟨hL26, h⟩ (Nat.lt_succ_self _)
  ·replace h := Go.L.ite_n hc28 h
   refine W_exit ?_
   refine At_seq_exit ?_
   refine At_loop_exit ?_
   replace h := Go.L.Nxt.out h hm26
   refine At_exit ?_
   refine At_cut () (Sub.nil _) ⟨hL26, h⟩
 ·rintro _ wr13 ⟨hL13, h⟩
  refine W_pz 1 rfl ?_
  refine W_ret ?_
  obtain rfl := Option.some.inj h
  refine At_body rfl rfl ?_
  exact ⟨hL13.ext, rfl⟩

noncomputable def ref4_Size_k4 (s6_46 : Int) (s8_83 : Int) : Option (Int) :=
 if s6_46 = (3 : Int) then if s8_83 < (2048 : Int) then some ((0 : Int)) else Option.bind (ref3_In s8_83 (55296 : Int) (57343 : Int)) (fun x127 => if x127 then some ((0 : Int)) else if s6_46 = (4 : Int) then Option.bind (ref3_In s8_83 (65536 : Int) (1114111 : Int)) (fun x134 => if !x134 then some ((0 : Int)) else some (s6_46)) else some (s6_46)) else if s6_46 = (4 : Int) then Option.bind (ref3_In s8_83 (65536 : Int) (1114111 : Int)) (fun x143 => if !x143 then some ((0 : Int)) else some (s6_46)) else some (s6_46)
noncomputable def ref4_Size_bl5 (a0 : List UInt8) (a1 : Int) (s6_46 : Int) : Int × Int → Option ((Int × Int) ⊕ (Int)) := fun ⟨s8_102, s9_103⟩ =>
 if s9_103 < s6_46 then Go.L.chk (Go.L.I64 (a1 + s9_103)) (Go.L.chk (0 ≤ (a1 + s9_103) ∧ (a1 + s9_103) < (a0.length : Int)) (Option.bind (ref3_In ((a0.getD ((a1 + s9_103).toNat) default).toNat : Int) (128 : Int) (191 : Int)) (fun x111 => if !x111 then Option.map Sum.inr (some ((0 : Int))) else Go.L.chk (Go.L.I64 ((64 : Int) * s8_102)) (Go.L.chk (Go.L.I64 (((64 : Int) * s8_102) + ((a0.getD ((a1 + s9_103).toNat) default).toNat : Int))) (Go.L.chk (Go.L.I64 ((((64 : Int) * s8_102) + ((a0.getD ((a1 + s9_103).toNat) default).toNat : Int)) - (128 : Int))) (Go.L.chk (Go.L.I64 (s9_103 + (1 : Int))) (some (Sum.inl (((((64 : Int) * s8_102) + ((a0.getD ((a1 + s9_103).toNat) default).toNat : Int)) - (128 : Int)), (s9_103 + (1 : Int))))))))))) else Option.map Sum.inr ((ref4_Size_k4 s6_46) s8_102)
noncomputable def ref4_Size_l5 (a0 : List UInt8) (a1 : Int) (s6_46 : Int) (s : Int × Int) : Option (Int) := Go.L.run (ref4_Size_bl5 a0 a1 s6_46) s
noncomputable def ref4_Size_k3 (a0 : List UInt8) (a1 : Int) (s6_46 : Int) (s7_47 : Int) : Option (Int) :=
 if s6_46 = (0 : Int) then some ((0 : Int)) else Go.L.chk (Go.L.I64 (a1 + s6_46)) (if (a0.length : Int) < (a1 + s6_46) then some ((0 : Int)) else (ref4_Size_l5 a0 a1 s6_46) (s7_47, (1 : Int)))
noncomputable def ref4_Size_k2 (a0 : List UInt8) (a1 : Int) (s6_28 : Int) (s7_29 : Int) : Option (Int) :=
 Option.bind (ref3_In ((a0.getD a1.toNat default).toNat : Int) (240 : Int) (244 : Int)) (fun x50 => if x50 then Go.L.chk (Go.L.I64 (((a0.getD a1.toNat default).toNat : Int) - (240 : Int))) ((ref4_Size_k3 a0 a1) (4 : Int) (((a0.getD a1.toNat default).toNat : Int) - (240 : Int))) else (ref4_Size_k3 a0 a1) s6_28 s7_29)
noncomputable def ref4_Size_k1 (a0 : List UInt8) (a1 : Int) (s6_10 : Int) (s7_11 : Int) : Option (Int) :=
 Option.bind (ref3_In ((a0.getD a1.toNat default).toNat : Int) (224 : Int) (239 : Int)) (fun x32 => if x32 then Go.L.chk (Go.L.I64 (((a0.getD a1.toNat default).toNat : Int) - (224 : Int))) ((ref4_Size_k2 a0 a1) (3 : Int) (((a0.getD a1.toNat default).toNat : Int) - (224 : Int))) else (ref4_Size_k2 a0 a1) s6_10 s7_11)
noncomputable def ref4_Size (a0 : List UInt8) (a1 : Int) : Option (Int) :=
 Go.L.chk (0 ≤ a1 ∧ a1 < (a0.length : Int)) (Option.bind (ref3_In ((a0.getD a1.toNat default).toNat : Int) (194 : Int) (223 : Int)) (fun x14 => if x14 then Go.L.chk (Go.L.I64 (((a0.getD a1.toNat default).toNat : Int) - (192 : Int))) ((ref4_Size_k1 a0 a1) (2 : Int) (((a0.getD a1.toNat default).toNat : Int) - (192 : Int))) else (ref4_Size_k1 a0 a1) (0 : Int) (0 : Int)))

theorem ref4_Size_ok (w : World) (H : PH) (hH : Le H (hp w)) {a0 : List UInt8} {a1 : Int} {v0_0 : Value} (h0_0 : Vec .byte H v0_0 (a0)) {r : Int} (h : ref4_Size a0 a1 = some r) :
  Ok Tryz.prog 80 [v0_0, .int .i64 a1] w (fun v w' => Ext w w' ∧ v = .int .i64 r) := by
 refine Ok_enter (n := 79) [(0, v0_0), (1, .int .i64 a1)] func80 rfl rfl rfl rfl rfl ?_
 have hL := Lcl.start w
 refine W_pz 1 rfl ?_
 refine W_p 2 rfl ?_
 obtain ⟨hk2, h⟩ := Go.L.chk_some h
 refine S_index rfl rfl underlying22 zr5 h0_0 a1.toNat (Int.toNat_of_nonneg hk2.1).symm (idx_lt hk2) rfl ?_
 rintro p1 _ rfl hp1
 refine S_v (r_load1 rfl underlying5 rfl hp1 (hH.trans hL.arg)) rfl ?_
 refine S_v (r_conv underlying5 underlying3 rfl (conv_8_64 _)) rfl ?_
 refine S_pz 1 rfl ?_
 refine W_pz 2 rfl ?_
 refine W_cut (σ := Int × Int) (fun ⟨s6_10, s7_11⟩ => [(0, v0_0), (1, .int .i64 a1), (5, .int .i64 ((a0.getD a1.toNat default).toNat : Int)), (6, .int .i64 s6_10), (7, .int .i64 s7_11)]) (fun ⟨s6_10, s7_11⟩ wr => Lcl w [] wr ∧ (ref4_Size_k1 a0 a1) s6_10 s7_11 = some r) ?_ ?_
 ·refine W_p 1 rfl ?_
  obtain ⟨x14, hb14, h⟩ := Go.L.bind_some h
  refine S_callL rfl rfl hL (ref3_In_ok _ _ (gz_le hH hL) hb14) ?_
  rintro _ w15 rfl hx15 hL15 hle15
  refine S_seqnil ?_
  refine W_cond rfl (fun hc16 => ?_) (fun hc16 => ?_)
  ·replace h := Go.L.ite_t hc16 h
   refine W_region ?_
   refine S_pu 1 rfl ?_
   obtain ⟨hk18, h⟩ := Go.L.chk_some h
   refine S_v (r_ar64 rfl rfl rfl hk18) rfl ?_
   refine S_pu 2 rfl ?_
   refine S_nil ?_
   refine At_cut ((2 : Int), (((a0.getD a1.toNat default).toNat : Int) - (192 : Int))) (.cons rfl (.cons rfl (.cons rfl (.cons rfl (.cons rfl (Sub.nil _)))))) ⟨hL15, h⟩
  ·replace h := Go.L.ite_f hc16 h
   refine W_skip ?_
   refine At_cut ((0 : Int), (0 : Int)) (.cons rfl (.cons rfl (.cons rfl (.cons rfl (.cons rfl (Sub.nil _)))))) ⟨hL15, h⟩
 ·rintro ⟨s6_10, s7_11⟩ wr12 ⟨hL12, h⟩
  refine W_cut (σ := Int × Int) (fun ⟨s6_28, s7_29⟩ => [(0, v0_0), (1, .int .i64 a1), (5, .int .i64 ((a0.getD a1.toNat default).toNat : Int)), (6, .int .i64 s6_28), (7, .int .i64 s7_29)]) (fun ⟨s6_28, s7_29⟩ wr => Lcl w [] wr ∧ (ref4_Size_k2 a0 a1) s6_28 s7_29 = some r) ?_ ?_
  ·refine W_p 1 rfl ?_
   obtain ⟨x32, hb32, h⟩ := Go.L.bind_some h
   refine S_callL rfl rfl hL12 (ref3_In_ok _ _ (gz_le hH hL12) hb32) ?_
   rintro _ w33 rfl hx33 hL33 hle33
   refine S_seqnil ?_
   refine W_cond rfl (fun hc34 => ?_) (fun hc34 => ?_)
   ·replace h := Go.L.ite_t hc34 h
    refine W_region ?_
    refine S_pu 1 rfl ?_
    obtain ⟨hk36, h⟩ := Go.L.chk_some h
    refine S_v (r_ar64 rfl rfl rfl hk36) rfl ?_
    refine S_pu 2 rfl ?_
    refine S_nil ?_
    refine At_cut ((3 : Int), (((a0.getD a1.toNat default).toNat : Int) - (224 : Int))) (.cons rfl (.cons rfl (.cons rfl (.cons rfl (.cons rfl (Sub.nil _)))))) ⟨hL33, h⟩
   ·replace h := Go.L.ite_f hc34 h
    refine W_skip ?_
    refine At_cut (s6_10, s7_11) (.cons rfl (.cons rfl (.cons rfl (.cons rfl (.cons rfl (Sub.nil _)))))) ⟨hL33, h⟩
  ·rintro ⟨s6_28, s7_29⟩ wr30 ⟨hL30, h⟩
   refine W_cut (σ := Int × Int) (fun ⟨s6_46, s7_47⟩ => [(0, v0_0), (1, .int .i64 a1), (6, .int .i64 s6_46), (7, .int .i64 s7_47)]) (fun ⟨s6_46, s7_47⟩ wr => Lcl w [] wr ∧ (ref4_Size_k3 a0 a1) s6_46 s7_47 = some r) ?_ ?_
   ·refine W_p 1 rfl ?_
    obtain ⟨x50, hb50, h⟩ := Go.L.bind_some h
    refine S_callL rfl rfl hL30 (ref3_In_ok _ _ (gz_le hH hL30) hb50) ?_
    rintro _ w51 rfl hx51 hL51 hle51
    refine S_seqnil ?_
    refine W_cond rfl (fun hc52 => ?_) (fun hc52 => ?_)
    ·replace h := Go.L.ite_t hc52 h
     refine W_region ?_
     refine S_pu 1 rfl ?_
     obtain ⟨hk54, h⟩ := Go.L.chk_some h
     refine S_v (r_ar64 rfl rfl rfl hk54) rfl ?_
     refine S_pu 2 rfl ?_
     refine S_nil ?_
     refine At_cut ((4 : Int), (((a0.getD a1.toNat default).toNat : Int) - (240 : Int))) (.cons rfl (.cons rfl (.cons rfl (.cons rfl (Sub.nil _))))) ⟨hL51, h⟩
    ·replace h := Go.L.ite_f hc52 h
     refine W_skip ?_
     refine At_cut (s6_28, s7_29) (.cons rfl (.cons rfl (.cons rfl (.cons rfl (Sub.nil _))))) ⟨hL51, h⟩
   ·rintro ⟨s6_46, s7_47⟩ wr48 ⟨hL48, h⟩
    refine W_seq ?_
    refine W_p 3 rfl ?_
    refine S_split (s := 30) rfl (fun hg57 => ?_) (fun hg57 => ?_)
    ·replace h := Go.L.ite_p (of_decide_eq_true hg57) h
     iterate 6 refine S_unwanted rfl rfl hg57 rfl ?_
     refine S_v (r_pickT rfl hg57 rfl) rfl ?_
     refine S_seqnil ?_
     refine W_true rfl ?_
     refine W_pz 1 rfl ?_
     refine W_ret ?_
     refine At_seq_ret ?_
     obtain rfl := Option.some.inj h
     refine At_body rfl rfl ?_
     exact ⟨hL48.ext, rfl⟩
    ·replace h := Go.L.ite_n (of_decide_eq_false hg57) h
     refine S_guarded rfl rfl hg57 ?_
     refine S_v (RunsAt_pu rfl) rfl ?_
     refine S_guarded rfl rfl hg57 ?_
     refine S_v (RunsAt_pu rfl) rfl ?_
     refine S_guarded rfl rfl hg57 ?_
     obtain ⟨hk60, h⟩ := Go.L.chk_some h
     refine S_v (r_ar64 rfl rfl rfl hk60) rfl ?_
     refine S_guarded rfl rfl hg57 ?_
     refine S_v (RunsAt_pu rfl) rfl ?_
     refine S_guarded rfl rfl hg57 ?_
     refine S_v (r_len rfl underlying22 h0_0) rfl ?_
     refine S_guarded rfl rfl hg57 ?_
     refine S_v (RunsAt_pu rfl) rfl ?_
     refine S_v (r_pickF rfl hg57 rfl) rfl ?_
     refine S_seqnil ?_
     refine W_if rfl (fun hc61 => ?_) (fun hc61 => ?_)
     ·replace h := Go.L.ite_p hc61 h
      refine W_pz 1 rfl ?_
      refine W_ret ?_
      refine At_seq_ret ?_
      obtain rfl := Option.some.inj h
      refine At_body rfl rfl ?_
      exact ⟨hL48.ext, rfl⟩
     ·replace h := Go.L.ite_n hc61 h
      refine W_skip ?_
      refine At_seq ?_
      refine W_pz 2 rfl ?_
      refine W_cut (σ := Int) (fun s8_83 => [(6, .int .i64 s6_46), (8, .int .i64 s8_83)]) (fun s8_83 wr => Lcl w [] wr ∧ (ref4_Size_k4 s6_46) s8_83 = some r) ?_ ?_
      ·refine W_pz 1 rfl ?_
       refine W_block ?_
       obtain ⟨n104, h⟩ := Go.L.run_some h
       refine W_loop (σ := Int × Int × Nat) (fun ⟨s8_102, s9_103, n⟩ => [(0, v0_0), (1, .int .i64 a1), (6, .int .i64 s6_46), (8, .int .i64 s8_102), (9, .int .i64 s9_103)]) (fun ⟨s8_102, s9_103, n⟩ wr => Lcl w [] wr ∧ Go.L.itr (ref4_Size_bl5 a0 a1 s6_46) n (s8_102, s9_103) = some r) (fun ⟨s8_102, s9_103, n⟩ => n) (s7_47, (1 : Int), n104) (.cons rfl (.cons rfl (.cons rfl (.cons rfl (.cons rfl (Sub.nil _)))))) ⟨hL48, h⟩ ?_
       rintro ⟨s8_102, s9_103, nn104⟩ wr104 ⟨hL104, h⟩
       obtain ⟨n104, e104, rfl, h, hm104⟩ := Go.L.itr_some h
       refine W_seq ?_
       refine W_pz 3 rfl ?_
       refine W_if rfl (fun hc106 => ?_) (fun hc106 => ?_)
       ·replace h := Go.L.ite_p hc106 h
        refine W_skip ?_
        refine At_seq ?_
        refine W_seq ?_
        refine W_block ?_
        refine W_p 3 rfl ?_
        obtain ⟨hk108, h⟩ := Go.L.chk_some h
        refine S_v (r_ar64 rfl rfl rfl hk108) rfl ?_
        obtain ⟨hk110, h⟩ := Go.L.chk_some h
        refine S_index rfl rfl underlying22 zr5 h0_0 ((a1 + s9_103).toNat) (Int.toNat_of_nonneg hk110.1).symm (idx_lt hk110) rfl ?_
        rintro p109 _ rfl hp109
        refine S_v (r_load1 rfl underlying5 rfl hp109 (hH.trans hL104.arg)) rfl ?_
        refine S_v (r_conv underlying5 underlying3 rfl (conv_8_64 _)) rfl ?_
        refine S_pz 1 rfl ?_
        refine W_seq ?_
        refine W_p 1 rfl ?_
        obtain ⟨x111, hb111, h⟩ := Go.L.bind_some h
        refine S_callL rfl rfl hL104 (ref3_In_ok _ _ (gz_le hH hL104) hb111) ?_
        rintro _ w112 rfl hx112 hL112 hle112
        refine S_pz 1 rfl ?_
        refine W_cond rfl (fun hc113 => ?_) (fun hc113 => ?_)
        ·replace h := Go.L.ite_t hc113 h
         refine W_pz 1 rfl ?_
         refine W_ret ?_
         refine At_seq_ret ?_
         refine At_block_ret ?_
         refine At_seq_ret ?_
         refine At_loop_ret ?_
         replace h := Go.L.Nxt.out h hm104
         refine At_block_ret ?_
         refine At_cut_ret ?_
         obtain rfl := Option.some.inj h
         refine At_body rfl rfl ?_
         exact ⟨hL112.ext, rfl⟩
        ·replace h := Go.L.ite_f hc113 h
         refine W_skip ?_
         refine At_seq ?_
         refine W_region ?_
         refine S_pu 1 rfl ?_
         obtain ⟨hk116, h⟩ := Go.L.chk_some h
         refine S_v (r_ar64 rfl rfl rfl hk116) rfl ?_
         refine S_pu 1 rfl ?_
         obtain ⟨hk117, h⟩ := Go.L.chk_some h
         refine S_v (r_ar64 rfl rfl rfl hk117) rfl ?_
         obtain ⟨hk118, h⟩ := Go.L.chk_some h
         refine S_v (r_ar64 rfl rfl rfl hk118) rfl ?_
         refine S_pu 1 rfl ?_
         refine S_nil ?_
         refine At_block ?_
         refine At_seq ?_
         refine W_region ?_
         refine S_pu 1 rfl ?_
         obtain ⟨hk119, h⟩ := Go.L.chk_some h
         refine S_v (r_ar64 rfl rfl rfl hk119) rfl ?_
         refine S_pu 1 rfl ?_
         refine S_nil ?_
         have h := Go.L.Nxt.again h hm104
         refine At_round (((((64 : Int) * s8_102) + ((a0.getD ((a1 + s9_103).toNat) default).toNat : Int)) - (128 : Int)), (s9_103 + (1 : Int)), n104) (.cons rfl (.cons rfl (.cons rfl (.cons rfl (.cons rfl (Sub.nil _)))))) ⟨hL112, h⟩ (Nat.lt_succ_self _)
       ·replace h := Go.L.ite_n hc106 h
        refine W_exit ?_
        refine At_seq_exit ?_
        refine At_loop_exit ?_
        replace h := Go.L.Nxt.out h hm104
        refine At_exit ?_
        refine At_cut s8_102 (.cons rfl (.cons rfl (Sub.nil _))) ⟨hL104, h⟩
      ·rintro s8_83 wr84 ⟨hL84, h⟩
       refine W_seq ?_
       refine W_p 3 rfl ?_
       refine S_split (s := 61) rfl (fun hg122 => ?_) (fun hg122 => ?_)
       ·replace h := Go.L.ite_p (of_decide_eq_true hg122) h
        refine S_guarded rfl rfl hg122 ?_
        refine S_v (RunsAt_pu rfl) rfl ?_
        refine S_guarded rfl rfl hg122 ?_
        refine S_v (RunsAt_pu rfl) rfl ?_
        refine S_guarded rfl rfl hg122 ?_
        refine S_v (RunsAt_pu rfl) rfl ?_
        refine S_split (s := 64) rfl (fun hg124 => ?_) (fun hg124 => ?_)
        ·replace h := Go.L.ite_p (of_decide_eq_true hg124) h
         iterate 2 refine S_unwanted rfl rfl hg124 rfl ?_
         refine S_guarded rfl rfl hg122 ?_
         refine S_v (r_pickT rfl hg124 rfl) rfl ?_
         refine S_v (r_pickT rfl hg122 rfl) rfl ?_
         refine S_pu 1 rfl ?_
         iterate 3 refine S_unwanted rfl rfl rfl rfl ?_
         iterate 3 refine S_unwanted2 rfl rfl rfl ?_
         refine S_unwanted rfl rfl rfl rfl ?_
         refine S_v (r_pickT rfl rfl rfl) rfl ?_
         refine S_seqnil ?_
         refine W_true rfl ?_
         refine W_pz 1 rfl ?_
         refine W_ret ?_
         refine At_seq_ret ?_
         obtain rfl := Option.some.inj h
         refine At_body rfl rfl ?_
         exact ⟨hL84.ext, rfl⟩
        ·replace h := Go.L.ite_n (of_decide_eq_false hg124) h
         refine S_guarded rfl rfl hg124 ?_
         refine S_v (RunsAt_pu rfl) rfl ?_
         refine S_guarded rfl rfl hg124 ?_
         obtain ⟨x127, hb127, h⟩ := Go.L.bind_some h
         refine S_callL rfl rfl hL84 (ref3_In_ok _ _ (gz_le hH hL84) hb127) ?_
         rintro _ w128 rfl hx128 hL128 hle128
         refine S_guarded rfl rfl hg122 ?_
         refine S_v (r_pickF rfl hg124 rfl) rfl ?_
         refine S_v (r_pickT rfl hg122 rfl) rfl ?_
         refine S_pu 1 rfl ?_
         refine S_split (s := 69) rfl (fun hg129 => ?_) (fun hg129 => ?_)
         ·replace h := Go.L.ite_t hg129 h
          iterate 3 refine S_unwanted rfl rfl hg129 rfl ?_
          iterate 3 refine S_unwanted2 rfl rfl rfl ?_
          refine S_unwanted rfl rfl hg129 rfl ?_
          refine S_v (r_pickT rfl hg129 rfl) rfl ?_
          refine S_seqnil ?_
          refine W_true rfl ?_
          refine W_pz 1 rfl ?_
          refine W_ret ?_
          refine At_seq_ret ?_
          obtain rfl := Option.some.inj h
          refine At_body rfl rfl ?_
          exact ⟨hL128.ext, rfl⟩
         ·replace h := Go.L.ite_f hg129 h
          refine S_guarded rfl rfl hg129 ?_
          refine S_v (RunsAt_pu rfl) rfl ?_
          refine S_guarded rfl rfl hg129 ?_
          refine S_v (RunsAt_pu rfl) rfl ?_
          refine S_guarded rfl rfl hg129 ?_
          refine S_v (RunsAt_pu rfl) rfl ?_
          refine S_split (s := 72) rfl (fun hg132 => ?_) (fun hg132 => ?_)
          ·replace h := Go.L.ite_p (of_decide_eq_true hg132) h
           refine S_guarded rfl rfl hg132 ?_
           refine S_v (RunsAt_pu rfl) rfl ?_
           refine S_guarded rfl rfl hg132 ?_
           obtain ⟨x134, hb134, h⟩ := Go.L.bind_some h
           refine S_callL rfl rfl hL128 (ref3_In_ok _ _ (gz_le hH hL128) hb134) ?_
           rintro _ w135 rfl hx135 hL135 hle135
           refine S_guarded rfl rfl hg132 ?_
           refine S_v (RunsAt_pu rfl) rfl ?_
           refine S_guarded rfl rfl hg129 ?_
           refine S_v (r_pickT rfl hg132 rfl) rfl ?_
           refine S_v (r_pickF rfl hg129 rfl) rfl ?_
           refine S_seqnil ?_
           refine W_cond rfl (fun hc136 => ?_) (fun hc136 => ?_)
           ·replace h := Go.L.ite_t hc136 h
            refine W_pz 1 rfl ?_
            refine W_ret ?_
            refine At_seq_ret ?_
            obtain rfl := Option.some.inj h
            refine At_body rfl rfl ?_
            exact ⟨hL135.ext, rfl⟩
           ·replace h := Go.L.ite_f hc136 h
            refine W_skip ?_
            refine At_seq ?_
            refine W_pz 2 rfl ?_
            refine W_ret ?_
            obtain rfl := Option.some.inj h
            refine At_body rfl rfl ?_
            exact ⟨hL135.ext, rfl⟩
          ·replace h := Go.L.ite_n (of_decide_eq_false hg132) h
           iterate 3 refine S_unwanted rfl rfl hg132 rfl ?_
           refine S_guarded rfl rfl hg129 ?_
           refine S_v (r_pickF rfl hg132 rfl) rfl ?_
           refine S_v (r_pickF rfl hg129 rfl) rfl ?_
           refine S_seqnil ?_
           refine W_false rfl ?_
           refine W_skip ?_
           refine At_seq ?_
           refine W_pz 2 rfl ?_
           refine W_ret ?_
           obtain rfl := Option.some.inj h
           refine At_body rfl rfl ?_
           exact ⟨hL128.ext, rfl⟩
       ·replace h := Go.L.ite_n (of_decide_eq_false hg122) h
        iterate 3 refine S_unwanted rfl rfl hg122 rfl ?_
        iterate 2 refine S_unwanted2 rfl rfl rfl ?_
        refine S_unwanted rfl rfl hg122 rfl ?_
        refine S_v (r_pickF rfl hg122 rfl) rfl ?_
        refine S_pu 1 rfl ?_
        refine S_guarded rfl rfl rfl ?_
        refine S_v (RunsAt_pu rfl) rfl ?_
        refine S_guarded rfl rfl rfl ?_
        refine S_v (RunsAt_pu rfl) rfl ?_
        refine S_guarded rfl rfl rfl ?_
        refine S_v (RunsAt_pu rfl) rfl ?_
        refine S_split (s := 72) rfl (fun hg141 => ?_) (fun hg141 => ?_)
        ·replace h := Go.L.ite_p (of_decide_eq_true hg141) h
         refine S_guarded rfl rfl hg141 ?_
         refine S_v (RunsAt_pu rfl) rfl ?_
         refine S_guarded rfl rfl hg141 ?_
         obtain ⟨x143, hb143, h⟩ := Go.L.bind_some h
         refine S_callL rfl rfl hL84 (ref3_In_ok _ _ (gz_le hH hL84) hb143) ?_
         rintro _ w144 rfl hx144 hL144 hle144
         refine S_guarded rfl rfl hg141 ?_
         refine S_v (RunsAt_pu rfl) rfl ?_
         refine S_guarded rfl rfl rfl ?_
         refine S_v (r_pickT rfl hg141 rfl) rfl ?_
         refine S_v (r_pickF rfl rfl rfl) rfl ?_
         refine S_seqnil ?_
         refine W_cond rfl (fun hc145 => ?_) (fun hc145 => ?_)
         ·replace h := Go.L.ite_t hc145 h
          refine W_pz 1 rfl ?_
          refine W_ret ?_
          refine At_seq_ret ?_
          obtain rfl := Option.some.inj h
          refine At_body rfl rfl ?_
          exact ⟨hL144.ext, rfl⟩
         ·replace h := Go.L.ite_f hc145 h
          refine W_skip ?_
          refine At_seq ?_
          refine W_pz 2 rfl ?_
          refine W_ret ?_
          obtain rfl := Option.some.inj h
          refine At_body rfl rfl ?_
          exact ⟨hL144.ext, rfl⟩
        ·replace h := Go.L.ite_n (of_decide_eq_false hg141) h
         iterate 3 refine S_unwanted rfl rfl hg141 rfl ?_
         refine S_guarded rfl rfl rfl ?_
         refine S_v (r_pickF rfl hg141 rfl) rfl ?_
         refine S_v (r_pickF rfl rfl rfl) rfl ?_
         refine S_seqnil ?_
         refine W_false rfl ?_
         refine W_skip ?_
         refine At_seq ?_
         refine W_pz 2 rfl ?_
         refine W_ret ?_
         obtain rfl := Option.some.inj h
         refine At_body rfl rfl ?_
         exact ⟨hL84.ext, rfl⟩

noncomputable def ref4_Letter (a0 : List UInt8) (a1 : Int) : Option (Int) :=
 Go.L.chk (0 ≤ a1 ∧ a1 < (a0.length : Int)) (Option.bind (ref3_In ((a0.getD a1.toNat default).toNat : Int) (48 : Int) (57 : Int)) (fun x3 => if x3 then some ((1 : Int)) else Option.bind (ref3_In ((a0.getD a1.toNat default).toNat : Int) (97 : Int) (122 : Int)) (fun x8 => if x8 then some ((1 : Int)) else Option.bind (ref3_In ((a0.getD a1.toNat default).toNat : Int) (65 : Int) (90 : Int)) (fun x13 => if x13 then some ((1 : Int)) else Option.bind (ref4_Size a0 a1) (fun x18 => some (x18))))))

theorem ref4_Letter_ok (w : World) (H : PH) (hH : Le H (hp w)) {a0 : List UInt8} {a1 : Int} {v0_0 : Value} (h0_0 : Vec .byte H v0_0 (a0)) {r : Int} (h : ref4_Letter a0 a1 = some r) :
  Ok Tryz.prog 56 [v0_0, .int .i64 a1] w (fun v w' => Ext w w' ∧ v = .int .i64 r) := by
 refine Ok_enter (n := 24) [(0, v0_0), (1, .int .i64 a1)] func56 rfl rfl rfl rfl rfl ?_
 have hL := Lcl.start w
 refine W_pz 1 rfl ?_
 refine W_p 2 rfl ?_
 obtain ⟨hk2, h⟩ := Go.L.chk_some h
 refine S_index rfl rfl underlying22 zr5 h0_0 a1.toNat (Int.toNat_of_nonneg hk2.1).symm (idx_lt hk2) rfl ?_
 rintro p1 _ rfl hp1
 refine S_v (r_load1 rfl underlying5 rfl hp1 (hH.trans hL.arg)) rfl ?_
 refine S_v (r_conv underlying5 underlying3 rfl (conv_8_64 _)) rfl ?_
 refine S_pz 1 rfl ?_
 refine W_seq ?_
 refine W_p 1 rfl ?_
 obtain ⟨x3, hb3, h⟩ := Go.L.bind_some h
 refine S_callL rfl rfl hL (ref3_In_ok _ _ (gz_le hH hL) hb3) ?_
 rintro _ w4 rfl hx4 hL4 hle4
 refine S_pu 1 rfl ?_
 refine S_split (s := 13) rfl (fun hg5 => ?_) (fun hg5 => ?_)
 ·replace h := Go.L.ite_t hg5 h
  iterate 2 refine S_unwanted rfl rfl hg5 rfl ?_
  refine S_v (r_pickT rfl hg5 rfl) rfl ?_
  refine S_pu 1 rfl ?_
  iterate 2 refine S_unwanted rfl rfl rfl rfl ?_
  refine S_v (r_pickT rfl rfl rfl) rfl ?_
  refine S_seqnil ?_
  refine W_true rfl ?_
  refine W_pz 1 rfl ?_
  refine W_ret ?_
  refine At_seq_ret ?_
  obtain rfl := Option.some.inj h
  refine At_body rfl rfl ?_
  exact ⟨hL4.ext, rfl⟩
 ·replace h := Go.L.ite_f hg5 h
  refine S_guarded rfl rfl hg5 ?_
  refine S_v (RunsAt_pu rfl) rfl ?_
  refine S_guarded rfl rfl hg5 ?_
  obtain ⟨x8, hb8, h⟩ := Go.L.bind_some h
  refine S_callL rfl rfl hL4 (ref3_In_ok _ _ (gz_le hH hL4) hb8) ?_
  rintro _ w9 rfl hx9 hL9 hle9
  refine S_v (r_pickF rfl hg5 rfl) rfl ?_
  refine S_pu 1 rfl ?_
  refine S_split (s := 17) rfl (fun hg10 => ?_) (fun hg10 => ?_)
  ·replace h := Go.L.ite_t hg10 h
   iterate 2 refine S_unwanted rfl rfl hg10 rfl ?_
   refine S_v (r_pickT rfl hg10 rfl) rfl ?_
   refine S_seqnil ?_
   refine W_true rfl ?_
   refine W_pz 1 rfl ?_
   refine W_ret ?_
   refine At_seq_ret ?_
   obtain rfl := Option.some.inj h
   refine At_body rfl rfl ?_
   exact ⟨hL9.ext, rfl⟩
  ·replace h := Go.L.ite_f hg10 h
   refine S_guarded rfl rfl hg10 ?_
   refine S_v (RunsAt_pu rfl) rfl ?_
   refine S_guarded rfl rfl hg10 ?_
   obtain ⟨x13, hb13, h⟩ := Go.L.bind_some h
   refine S_callL rfl rfl hL9 (ref3_In_ok _ _ (gz_le hH hL9) hb13) ?_
   rintro _ w14 rfl hx14 hL14 hle14
   refine S_v (r_pickF rfl hg10 rfl) rfl ?_
   refine S_seqnil ?_
   refine W_cond rfl (fun hc15 => ?_) (fun hc15 => ?_)
   ·replace h := Go.L.ite_t hc15 h
    refine W_pz 1 rfl ?_
    refine W_ret ?_
    refine At_seq_ret ?_
    obtain rfl := Option.some.inj h
    refine At_body rfl rfl ?_
    exact ⟨hL14.ext, rfl⟩
   ·replace h := Go.L.ite_f hc15 h
    refine W_skip ?_
    refine At_seq ?_
    refine W_p 2 rfl ?_
    obtain ⟨x18, hb18, h⟩ := Go.L.bind_some h
    refine S_callL rfl rfl hL14 (ref4_Size_ok _ _ (gz_le hH hL14) (h0_0.mono (gz_left hH)) hb18) ?_
    rintro _ w19 rfl hx19 hL19 hle19
    refine S_pz 1 rfl ?_
    refine W_ret ?_
    obtain rfl := Option.some.inj h
    refine At_body rfl rfl ?_
    exact ⟨hL19.ext, rfl⟩

noncomputable def ref4_Words_k7 (l227 : List UInt8) (s8_228 : Int) (s9_240 : UInt8) : Option (((List UInt8) × Int) ⊕ (((List UInt8) × Int) ⊕ (((List ((List UInt8) × Int × Int)) × Int) ⊕ ((List ((List UInt8) × Int × Int)))))) :=
 Go.L.chk (Go.E.Cap 1 (l227.length + ([s9_240]).length)) (Go.L.chk (Go.L.I64 (s8_228 + (1 : Int))) (some (Sum.inl ((l227 ++ [s9_240]), (s8_228 + (1 : Int))))))
noncomputable def ref4_Words_k5 (s5_179 : Int) (x188 : Int) (l208 : List UInt8) : Option (((List UInt8) × Int) ⊕ (((List ((List UInt8) × Int × Int)) × Int) ⊕ ((List ((List UInt8) × Int × Int))))) :=
 Go.L.chk (Go.L.I64 (s5_179 + x188)) (some (Sum.inl (l208, (s5_179 + x188))))
noncomputable def ref4_Words_bl6 (a0 : List UInt8) (s5_179 : Int) (x188 : Int) : (List UInt8) × Int → Option (((List UInt8) × Int) ⊕ (((List UInt8) × Int) ⊕ (((List ((List UInt8) × Int × Int)) × Int) ⊕ ((List ((List UInt8) × Int × Int)))))) := fun ⟨l227, s8_228⟩ =>
 Go.L.chk (Go.L.I64 (s5_179 + x188)) (if s8_228 < (s5_179 + x188) then Go.L.chk (0 ≤ s8_228 ∧ s8_228 < (a0.length : Int)) (if (65 ≤ ((a0.getD s8_228.toNat default).toNat : Int)) ∧ (((a0.getD s8_228.toNat default).toNat : Int) ≤ 90) then (ref4_Words_k7 l227 s8_228) (a0.getD s8_228.toNat default + (32 : UInt8)) else (ref4_Words_k7 l227 s8_228) (a0.getD s8_228.toNat default)) else Option.map Sum.inr ((ref4_Words_k5 s5_179 x188) l227))
noncomputable def ref4_Words_l6 (a0 : List UInt8) (s5_179 : Int) (x188 : Int) (s : (List UInt8) × Int) : Option (((List UInt8) × Int) ⊕ (((List ((List UInt8) × Int × Int)) × Int) ⊕ ((List ((List UInt8) × Int × Int))))) := Go.L.run (ref4_Words_bl6 a0 s5_179 x188) s
noncomputable def ref4_Words_k3 (l103 : List ((List UInt8) × Int × Int)) (s4_104 : Int) (l143 : List UInt8) (s5_144 : Int) : Option (((List ((List UInt8) × Int × Int)) × Int) ⊕ ((List ((List UInt8) × Int × Int)))) :=
 if s4_104 < s5_144 then Go.L.chk (Go.E.Cap 32 (l103.length + ([(l143, s4_104, s5_144)]).length)) (Go.L.chk (Go.L.I64 (s5_144 + (1 : Int))) (some (Sum.inl ((l103 ++ [(l143, s4_104, s5_144)]), (s5_144 + (1 : Int)))))) else Go.L.chk (Go.L.I64 (s5_144 + (1 : Int))) (some (Sum.inl (l103, (s5_144 + (1 : Int)))))
noncomputable def ref4_Words_bl4 (a0 : List UInt8) (l103 : List ((List UInt8) × Int × Int)) (s4_104 : Int) : (List UInt8) × Int → Option (((List UInt8) × Int) ⊕ (((List ((List UInt8) × Int × Int)) × Int) ⊕ ((List ((List UInt8) × Int × Int))))) := fun ⟨l178, s5_179⟩ =>
 if s5_179 < (a0.length : Int) then Option.bind (ref4_Letter a0 s5_179) (fun x184 => if (0 : Int) < x184 then Option.bind (ref4_Letter a0 s5_179) (fun x188 => (ref4_Words_l6 a0 s5_179 x188) (l178, s5_179)) else Option.map Sum.inr ((ref4_Words_k3 l103 s4_104) l178 s5_179)) else Option.map Sum.inr ((ref4_Words_k3 l103 s4_104) l178 s5_179)
noncomputable def ref4_Words_l4 (a0 : List UInt8) (l103 : List ((List UInt8) × Int × Int)) (s4_104 : Int) (s : (List UInt8) × Int) : Option (((List ((List UInt8) × Int × Int)) × Int) ⊕ ((List ((List UInt8) × Int × Int)))) := Go.L.run (ref4_Words_bl4 a0 l103 s4_104) s
noncomputable def ref4_Words_k1 (l52 : List ((List UInt8) × Int × Int)) : Option ((List ((List UInt8) × Int × Int))) :=
 some (l52)
noncomputable def ref4_Words_bl2 (a0 : List UInt8) : (List ((List UInt8) × Int × Int)) × Int → Option (((List ((List UInt8) × Int × Int)) × Int) ⊕ ((List ((List UInt8) × Int × Int)))) := fun ⟨l103, s4_104⟩ =>
 if s4_104 < (a0.length : Int) then (ref4_Words_l4 a0 l103 s4_104) (([] : List UInt8), s4_104) else Option.map Sum.inr (ref4_Words_k1 l103)
noncomputable def ref4_Words_l2 (a0 : List UInt8) (s : (List ((List UInt8) × Int × Int)) × Int) : Option ((List ((List UInt8) × Int × Int))) := Go.L.run (ref4_Words_bl2 a0) s
noncomputable def ref4_Words (a0 : List UInt8) : Option ((List ((List UInt8) × Int × Int))) :=
 (ref4_Words_l2 a0) (([] : List ((List UInt8) × Int × Int)), (0 : Int))

theorem ref4_Words_ok (w : World) (H : PH) (hH : Le H (hp w)) {a0 : List UInt8} {v0_0 : Value} (h0_0 : Vec .byte H v0_0 (a0)) {r : (List ((List UInt8) × Int × Int))} (h : ref4_Words a0 = some r) :
  Ok Tryz.prog 31 [v0_0] w (fun v w' => Ext w w' ∧ ∃ u0, v = u0 ∧ OwnH 75 (.pair .st (.pair (.int .i64) (.int .i64))) H w w' u0 (r)) := by
 refine Ok_enter (n := 69) [(0, v0_0)] func31 rfl rfl rfl rfl rfl ?_
 have hL := Lcl.start w
 refine W_pz 1 rfl ?_
 refine W_p 1 rfl ?_
 obtain ⟨hL1, hle1, he1⟩ := row_nilE (.pair .st (.pair (.int .i64) (.int .i64))) H 75 hL
 refine S_seqnil ?_
 refine W_pz 1 rfl ?_
 refine W_cut (σ := (List ((List UInt8) × Int × Int)) × Value × (List Value)) (fun ⟨l52, vl52, xsl52⟩ => [(3, vl52)]) (fun ⟨l52, vl52, xsl52⟩ wr => InO w [.row (vl52) 75 3 (l52).length (xsl52)] wr fun Oz => Elems (.pair .st (.pair (.int .i64) (.int .i64))) (gz H w wr Oz) (l52) (xsl52) ∧ ref4_Words_k1 l52 = some r) ?_ ?_
 ·refine W_block ?_
  obtain ⟨n105, h⟩ := Go.L.run_some h
  refine W_loop (σ := (List ((List UInt8) × Int × Int)) × Int × Value × (List Value) × Nat) (fun ⟨l103, s4_104, vl103, xsl103, n⟩ => [(0, v0_0), (3, vl103), (4, .int .i64 s4_104)]) (fun ⟨l103, s4_104, vl103, xsl103, n⟩ wr => InO w [.row (vl103) 75 3 (l103).length (xsl103)] wr fun Oz => Elems (.pair .st (.pair (.int .i64) (.int .i64))) (gz H w wr Oz) (l103) (xsl103) ∧ Go.L.itr (ref4_Words_bl2 a0) n (l103, s4_104) = some r) (fun ⟨l103, s4_104, vl103, xsl103, n⟩ => n) (([] : List ((List UInt8) × Int × Int)), (0 : Int), .slice none 0 0, [], n105) (.cons rfl (.cons rfl (.cons rfl (Sub.nil _)))) ⟨hL1, he1, h⟩ ?_
  rintro ⟨l103, s4_104, vl103, xsl103, nn105⟩ wr105 ⟨hL105, hel103, h⟩
  obtain ⟨n105, e105, rfl, h, hm105⟩ := Go.L.itr_some h
  refine W_seq ?_
  refine W_p 2 rfl ?_
  refine S_v (r_len rfl underlying22 h0_0) rfl ?_
  refine S_pz 1 rfl ?_
  refine W_if rfl (fun hc107 => ?_) (fun hc107 => ?_)
  ·replace h := Go.L.ite_p hc107 h
   refine W_skip ?_
   refine At_seq ?_
   refine W_block ?_
   refine W_pz 2 rfl ?_
   refine W_p 1 rfl ?_
   obtain ⟨hL109, hle109, he109⟩ := row_nilE .byte H 5 hL105
   replace hel103 := hel103.mono (gz_mono hH hle109)
   refine S_seqnil ?_
   refine W_cut (σ := (List UInt8) × Int × Value × (List Value)) (fun ⟨l143, s5_144, vl143, xsl143⟩ => [(0, v0_0), (3, vl103), (4, .int .i64 s4_104), (5, .int .i64 s5_144), (6, vl143)]) (fun ⟨l143, s5_144, vl143, xsl143⟩ wr => InO w [.row (vl143) 5 1 (l143).length (xsl143), .row (vl103) 75 3 (l103).length (xsl103)] wr fun Oz => Elems .byte (gz H w wr Oz) (l143) (xsl143) ∧ Elems (.pair .st (.pair (.int .i64) (.int .i64))) (gz H w wr Oz) (l103) (xsl103) ∧ (ref4_Words_k3 l103 s4_104) l143 s5_144 = some e105) ?_ ?_
   ·refine W_block ?_
    obtain ⟨n180, h⟩ := Go.L.run_some h
    refine W_loop (σ := (List UInt8) × Int × Value × (List Value) × Nat) (fun ⟨l178, s5_179, vl178, xsl178, n⟩ => [(0, v0_0), (3, vl103), (4, .int .i64 s4_104), (5, .int .i64 s5_179), (6, vl178)]) (fun ⟨l178, s5_179, vl178, xsl178, n⟩ wr => InO w [.row (vl178) 5 1 (l178).length (xsl178), .row (vl103) 75 3 (l103).length (xsl103)] wr fun Oz => Elems .byte (gz H w wr Oz) (l178) (xsl178) ∧ Elems (.pair .st (.pair (.int .i64) (.int .i64))) (gz H w wr Oz) (l103) (xsl103) ∧ Go.L.itr (ref4_Words_bl4 a0 l103 s4_104) n (l178, s5_179) = some e105) (fun ⟨l178, s5_179, vl178, xsl178, n⟩ => n) (([] : List UInt8), s4_104, .slice none 0 0, [], n180) (.cons rfl (.cons rfl (.cons rfl (.cons rfl (.cons rfl (Sub.nil _)))))) ⟨hL109, he109, hel103, h⟩ ?_
    rintro ⟨l178, s5_179, vl178, xsl178, nn180⟩ wr180 ⟨hL180, hel178, hel103, h⟩
    obtain ⟨n180, e180, rfl, h, hm180⟩ := Go.L.itr_some h
    refine W_seq ?_
    refine W_p 2 rfl ?_
    refine S_v (r_len rfl underlying22 h0_0) rfl ?_
    refine S_pu 2 rfl ?_
    refine S_split (s := 19) rfl (fun hg182 => ?_) (fun hg182 => ?_)
    ·replace h := Go.L.ite_p (of_decide_eq_true hg182) h
     refine S_guarded rfl rfl hg182 ?_
     refine S_v (RunsAt_pu rfl) rfl ?_
     refine S_guarded rfl rfl hg182 ?_
     refine S_v (RunsAt_pu rfl) rfl ?_
     refine S_guarded rfl rfl hg182 ?_
     obtain ⟨x184, hb184, h⟩ := Go.L.bind_some h
     refine S_callL rfl rfl hL180 (ref4_Letter_ok _ _ (gz_le hH hL180) (h0_0.mono (gz_left hH)) hb184) ?_
     rintro _ w185 rfl hx185 hL185 hle185
     replace hel178 := hel178.mono (gz_mono hH hle185)
     replace hel103 := hel103.mono (gz_mono hH hle185)
     refine S_guarded rfl rfl hg182 ?_
     refine S_v (RunsAt_pu rfl) rfl ?_
     refine S_v (r_pickT rfl hg182 rfl) rfl ?_
     refine S_seqnil ?_
     refine W_if rfl (fun hc186 => ?_) (fun hc186 => ?_)
     ·replace h := Go.L.ite_p hc186 h
      refine W_skip ?_
      refine At_seq ?_
      refine W_block ?_
      refine W_p 2 rfl ?_
      obtain ⟨x188, hb188, h⟩ := Go.L.bind_some h
      refine S_callL rfl rfl hL185 (ref4_Letter_ok _ _ (gz_le hH hL185) (h0_0.mono (gz_left hH)) hb188) ?_
      rintro _ w189 rfl hx189 hL189 hle189
      replace hel178 := hel178.mono (gz_mono hH hle189)
      replace hel103 := hel103.mono (gz_mono hH hle189)
      refine S_pz 1 rfl ?_
      refine W_cut (σ := (List UInt8) × Value × (List Value)) (fun ⟨l208, vl208, xsl208⟩ => [(0, v0_0), (3, vl103), (4, .int .i64 s4_104), (5, .int .i64 s5_179), (6, vl208), (7, .int .i64 x188), (20, v0_0), (21, .int .i64 s5_179), (22, .int .i64 x184), (23, .bool (decide ((0 : Int) < x184)))]) (fun ⟨l208, vl208, xsl208⟩ wr => InO w [.row (vl208) 5 1 (l208).length (xsl208), .row (vl103) 75 3 (l103).length (xsl103)] wr fun Oz => Elems .byte (gz H w wr Oz) (l208) (xsl208) ∧ Elems (.pair .st (.pair (.int .i64) (.int .i64))) (gz H w wr Oz) (l103) (xsl103) ∧ (ref4_Words_k5 s5_179 x188) l208 = some e180) ?_ ?_
      ·refine W_pz 2 rfl ?_
       refine W_block ?_
       obtain ⟨n229, h⟩ := Go.L.run_some h
       refine W_loop (σ := (List UInt8) × Int × Value × (List Value) × Nat) (fun ⟨l227, s8_228, vl227, xsl227, n⟩ => [(0, v0_0), (3, vl103), (4, .int .i64 s4_104), (5, .int .i64 s5_179), (6, vl227), (7, .int .i64 x188), (8, .int .i64 s8_228), (20, v0_0), (21, .int .i64 s5_179), (22, .int .i64 x184), (23, .bool (decide ((0 : Int) < x184)))]) (fun ⟨l227, s8_228, vl227, xsl227, n⟩ wr => InO w [.row (vl227) 5 1 (l227).length (xsl227), .row (vl103) 75 3 (l103).length (xsl103)] wr fun Oz => Elems .byte (gz H w wr Oz) (l227) (xsl227) ∧ Elems (.pair .st (.pair (.int .i64) (.int .i64))) (gz H w wr Oz) (l103) (xsl103) ∧ Go.L.itr (ref4_Words_bl6 a0 s5_179 x188) n (l227, s8_228) = some e180) (fun ⟨l227, s8_228, vl227, xsl227, n⟩ => n) (l178, s5_179, vl178, xsl178, n229) (.cons rfl (.cons rfl (.cons rfl (.cons rfl (.cons rfl (.cons rfl (.cons rfl (.cons rfl (.cons rfl (.cons rfl (.cons rfl (Sub.nil _)))))))))))) ⟨hL189, hel178, hel103, h⟩ ?_
       rintro ⟨l227, s8_228, vl227, xsl227, nn229⟩ wr229 ⟨hL229, hel227, hel103, h⟩
       obtain ⟨n229, e229, rfl, h, hm229⟩ := Go.L.itr_some h
       refine W_seq ?_
       refine W_p 3 rfl ?_
       obtain ⟨hk231, h⟩ := Go.L.chk_some h
       refine S_v (r_ar64 rfl rfl rfl hk231) rfl ?_
       refine S_pz 1 rfl ?_
       refine W_if rfl (fun hc232 => ?_) (fun hc232 => ?_)
       ·replace h := Go.L.ite_p hc232 h
        refine W_skip ?_
        refine At_seq ?_
        refine W_seq ?_
        refine W_block ?_
        refine W_p 2 rfl ?_
        obtain ⟨hk235, h⟩ := Go.L.chk_some h
        refine S_index rfl rfl underlying22 zr5 h0_0 s8_228.toNat (Int.toNat_of_nonneg hk235.1).symm (idx_lt hk235) rfl ?_
        rintro p234 _ rfl hp234
        refine S_v (r_load1 rfl underlying5 rfl hp234 (hH.trans hL229.arg)) rfl ?_
        refine S_pz 1 rfl ?_
        refine W_cut (σ := UInt8) (fun s9_240 => [(0, v0_0), (3, vl103), (4, .int .i64 s4_104), (5, .int .i64 s5_179), (6, vl227), (7, .int .i64 x188), (8, .int .i64 s8_228), (9, .int .u8 (s9_240.toNat : Int)), (20, v0_0), (21, .int .i64 s5_179), (22, .int .i64 x184), (23, .bool (decide ((0 : Int) < x184)))]) (fun s9_240 wr => InO w [.row (vl227) 5 1 (l227).length (xsl227), .row (vl103) 75 3 (l103).length (xsl103)] wr fun Oz => Elems .byte (gz H w wr Oz) (l227) (xsl227) ∧ Elems (.pair .st (.pair (.int .i64) (.int .i64))) (gz H w wr Oz) (l103) (xsl103) ∧ (ref4_Words_k7 l227 s8_228) s9_240 = some e229) ?_ ?_
        ·refine W_p 3 rfl ?_
         refine S_and 2 2 rfl rfl rfl rfl rfl rfl ?_
         refine S_seqnil ?_
         refine W_if rfl (fun hc243 => ?_) (fun hc243 => ?_)
         ·replace h := Go.L.ite_p hc243 h
          refine W_region ?_
          refine S_pu 1 rfl ?_
          refine S_v (r_ar8 (b := 32) rfl rfl rfl) rfl ?_
          refine S_pu 1 rfl ?_
          refine S_nil ?_
          refine At_cut (a0.getD s8_228.toNat default + (32 : UInt8)) (.cons rfl (.cons rfl (.cons rfl (.cons rfl (.cons rfl (.cons rfl (.cons rfl (.cons rfl (.cons rfl (.cons rfl (.cons rfl (.cons rfl (Sub.nil _))))))))))))) ⟨hL229, hel227, hel103, h⟩
         ·replace h := Go.L.ite_n hc243 h
          refine W_skip ?_
          refine At_cut (a0.getD s8_228.toNat default) (.cons rfl (.cons rfl (.cons rfl (.cons rfl (.cons rfl (.cons rfl (.cons rfl (.cons rfl (.cons rfl (.cons rfl (.cons rfl (.cons rfl (Sub.nil _))))))))))))) ⟨hL229, hel227, hel103, h⟩
        ·rintro s9_240 wr241 ⟨hL241, hel227, hel103, h⟩
         refine W_region ?_
         refine S_pu 2 rfl ?_
         refine S_litE (r := .byte) (l := [s9_240]) rfl (fun _ => bsl22_1 _ _) rfl (show 1 ≤ 9223372036854775807 by decide) hH hL241 (.c1 rfl .nil) ?_
         intro v247 w247 hx247 hL247 hle247 hv247
         replace hel227 := hel227.mono (gz_mono hH hle247)
         replace hel103 := hel103.mono (gz_mono hH hle247)
         obtain ⟨hk249, h⟩ := Go.L.chk_some h
         refine S_appE (r := .byte) (l := l227) (m := [s9_240]) 0 rfl rfl underlying22 zr5 rfl (by decide) rfl hH hL247 rfl hel227 hv247 hk249 ?_
         intro v248 w248 xs248 hL248 hle248 he248
         replace hel103 := hel103.mono (gz_mono hH hle248)
         replace hv247 := hv247.mono (gz_mono hH hle248)
         refine S_pu 1 rfl ?_
         refine S_nil ?_
         refine At_block ?_
         refine At_seq ?_
         refine W_region ?_
         refine S_pu 1 rfl ?_
         obtain ⟨hk250, h⟩ := Go.L.chk_some h
         refine S_v (r_ar64 rfl rfl rfl hk250) rfl ?_
         refine S_pu 1 rfl ?_
         refine S_nil ?_
         have h := Go.L.Nxt.again h hm229
         refine At_round ((l227 ++ [s9_240]), (s8_228 + (1 : Int)), v248, xs248, n229) (.cons rfl (.cons rfl (.cons rfl (.cons rfl (.cons rfl (.cons rfl (.cons rfl (.cons rfl (.cons rfl (.cons rfl (.cons rfl (Sub.nil _)))))))))))) ⟨hL248, he248, hel103, h⟩ (Nat.lt_succ_self _)
       ·replace h := Go.L.ite_n hc232 h
        refine W_exit ?_
        refine At_seq_exit ?_
        refine At_loop_exit ?_
        replace h := Go.L.Nxt.out h hm229
        refine At_exit ?_
        refine At_cut (l227, vl227, xsl227) (.cons rfl (.cons rfl (.cons rfl (.cons rfl (.cons rfl (.cons rfl (.cons rfl (.cons rfl (.cons rfl (.cons rfl (Sub.nil _))))))))))) ⟨hL229, hel227, hel103, h⟩
      ·rintro ⟨l208, vl208, xsl208⟩ wr209 ⟨hL209, hel208, hel103, h⟩
       refine W_region ?_
       refine S_pu 2 rfl ?_
       obtain ⟨hk253, h⟩ := Go.L.chk_some h
       refine S_v (r_ar64 rfl rfl rfl hk253) rfl ?_
       refine S_pu 1 rfl ?_
       refine S_nil ?_
       refine At_block ?_
       have h := Go.L.Nxt.again h hm180
       refine At_round (l208, (s5_179 + x188), vl208, xsl208, n180) (.cons rfl (.cons rfl (.cons rfl (.cons rfl (.cons rfl (Sub.nil _)))))) ⟨hL209, hel208, hel103, h⟩ (Nat.lt_succ_self _)
     ·replace h := Go.L.ite_n hc186 h
      refine W_exit ?_
      refine At_seq_exit ?_
      refine At_loop_exit ?_
      replace h := Go.L.Nxt.out h hm180
      refine At_exit ?_
      refine At_cut (l178, s5_179, vl178, xsl178) (.cons rfl (.cons rfl (.cons rfl (.cons rfl (.cons rfl (Sub.nil _)))))) ⟨hL185, hel178, hel103, h⟩
    ·replace h := Go.L.ite_n (of_decide_eq_false hg182) h
     iterate 4 refine S_unwanted rfl rfl hg182 rfl ?_
     refine S_v (r_pickF rfl hg182 rfl) rfl ?_
     refine S_seqnil ?_
     refine W_false rfl ?_
     refine W_exit ?_
     refine At_seq_exit ?_
     refine At_loop_exit ?_
     replace h := Go.L.Nxt.out h hm180
     refine At_exit ?_
     refine At_cut (l178, s5_179, vl178, xsl178) (.cons rfl (.cons rfl (.cons rfl (.cons rfl (.cons rfl (Sub.nil _)))))) ⟨hL180, hel178, hel103, h⟩
   ·rintro ⟨l143, s5_144, vl143, xsl143⟩ wr145 ⟨hL145, hel143, hel103, h⟩
    refine W_seq ?_
    refine W_pz 3 rfl ?_
    refine W_if rfl (fun hc257 => ?_) (fun hc257 => ?_)
    ·replace h := Go.L.ite_p hc257 h
     refine W_region ?_
     refine S_pu 2 rfl ?_
     refine S_v (r_str rfl underlying22 underlying5 underlying9 (hL145.vecN hH (i := 0) rfl hel143) (Le.refl _)) rfl ?_
     refine S_pu 2 rfl ?_
     refine S_v (r_build rfl (fun _ => bld75_0_1_2 _ rfl _ _ _)) rfl ?_
     refine S_litE (r := (.pair .st (.pair (.int .i64) (.int .i64)))) (l := [(l143, s4_104, s5_144)]) rfl (fun _ => bsl67_1 _ _ _ _) rfl (show 1 ≤ 9223372036854775807 by decide) hH hL145 (.c3 ⟨_, _, rfl, rfl, ⟨_, _, rfl, rfl, rfl⟩⟩ .nil) ?_
     intro v259 w259 hx259 hL259 hle259 hv259
     replace hel143 := hel143.mono (gz_mono hH hle259)
     replace hel103 := hel103.mono (gz_mono hH hle259)
     obtain ⟨hk261, h⟩ := Go.L.chk_some h
     refine S_appE (r := (.pair .st (.pair (.int .i64) (.int .i64)))) (l := l103) (m := [(l143, s4_104, s5_144)]) 1 rfl rfl underlying67 zr75 rfl (by decide) rfl hH hL259 rfl hel103 hv259 hk261 ?_
     intro v260 w260 xs260 hL260 hle260 he260
     replace hel143 := hel143.mono (gz_mono hH hle260)
     replace hv259 := hv259.mono (gz_mono hH hle260)
     refine S_pu 1 rfl ?_
     refine S_nil ?_
     refine At_seq ?_
     refine W_region ?_
     refine S_pu 1 rfl ?_
     obtain ⟨hk262, h⟩ := Go.L.chk_some h
     refine S_v (r_ar64 rfl rfl rfl hk262) rfl ?_
     refine S_pu 1 rfl ?_
     refine S_nil ?_
     refine At_block ?_
     have hL263 := hL260.dropAt (i := 0) rfl
     replace he260 := he260.mono (gz_mono hH (fz_dropAt (i := 0) rfl))
     have h := Go.L.Nxt.again h hm105
     refine At_round ((l103 ++ [(l143, s4_104, s5_144)]), (s5_144 + (1 : Int)), v260, xs260, n105) (.cons rfl (.cons rfl (.cons rfl (Sub.nil _)))) ⟨hL263, he260, h⟩ (Nat.lt_succ_self _)
    ·replace h := Go.L.ite_n hc257 h
     refine W_skip ?_
     refine At_seq ?_
     refine W_region ?_
     refine S_pu 1 rfl ?_
     obtain ⟨hk265, h⟩ := Go.L.chk_some h
     refine S_v (r_ar64 rfl rfl rfl hk265) rfl ?_
     refine S_pu 1 rfl ?_
     refine S_nil ?_
     refine At_block ?_
     have hL266 := hL145.dropAt (i := 0) rfl
     replace hel103 := hel103.mono (gz_mono hH (fz_dropAt (i := 0) rfl))
     have h := Go.L.Nxt.again h hm105
     refine At_round (l103, (s5_144 + (1 : Int)), vl103, xsl103, n105) (.cons rfl (.cons rfl (.cons rfl (Sub.nil _)))) ⟨hL266, hel103, h⟩ (Nat.lt_succ_self _)
  ·replace h := Go.L.ite_n hc107 h
   refine W_exit ?_
   refine At_seq_exit ?_
   refine At_loop_exit ?_
   replace h := Go.L.Nxt.out h hm105
   refine At_exit ?_
   refine At_cut (l103, vl103, xsl103) (.cons rfl (Sub.nil _)) ⟨hL105, hel103, h⟩
 ·rintro ⟨l52, vl52, xsl52⟩ wr53 ⟨hL53, hel52, h⟩
  refine W_pz 2 rfl ?_
  refine W_ret ?_
  obtain rfl := Option.some.inj h
  refine At_body rfl rfl ?_
  exact ⟨hL53.ext, _, rfl, (hL53.ownH hH (i := 0) rfl hel52)⟩

noncomputable def ref4_Hits_k5 (s8_207 : Int) (l245 : List (Int × Int)) : Option (((List (Int × Int)) × Int) ⊕ (((List (Int × Int)) × Int) ⊕ ((List (Int × Int))))) :=
 Go.L.chk (Go.L.I64 (s8_207 + (1 : Int))) (some (Sum.inl (l245, (s8_207 + (1 : Int)))))
noncomputable def ref4_Hits_k6 (l206 : List (Int × Int)) (s6_110 : Int) (s8_207 : Int) (s9_272 : Bool) : Option (((List (Int × Int)) × Int) ⊕ (((List (Int × Int)) × Int) ⊕ ((List (Int × Int))))) :=
 if s9_272 then Go.L.chk (Go.E.Cap 16 (l206.length + ([(s6_110, s8_207)]).length)) ((ref4_Hits_k5 s8_207) (l206 ++ [(s6_110, s8_207)])) else (ref4_Hits_k5 s8_207) l206
noncomputable def ref4_Hits_bl7 (a1 : List (List UInt8)) (l206 : List (Int × Int)) (s6_110 : Int) (s8_207 : Int) (x165 : (List ((List UInt8) × Int × Int))) : Bool × Int → Option ((Bool × Int) ⊕ (((List (Int × Int)) × Int) ⊕ (((List (Int × Int)) × Int) ⊕ ((List (Int × Int)))))) := fun ⟨s9_290, s10_291⟩ =>
 if s10_291 < (a1.length : Int) then (if s9_290 then Go.L.chk (Go.L.I64 (s8_207 + s10_291)) (Go.L.chk (0 ≤ (s8_207 + s10_291) ∧ (s8_207 + s10_291) < (x165.length : Int)) (Go.L.chk (0 ≤ s10_291 ∧ s10_291 < (a1.length : Int)) (Go.L.chk (Go.L.I64 (s10_291 + (1 : Int))) (some (Sum.inl (decide ((x165.getD ((s8_207 + s10_291).toNat) default).1 = a1.getD s10_291.toNat default), (s10_291 + (1 : Int)))))))) else Go.L.chk (Go.L.I64 (s10_291 + (1 : Int))) (some (Sum.inl (false, (s10_291 + (1 : Int)))))) else Option.map Sum.inr ((ref4_Hits_k6 l206 s6_110 s8_207) s9_290)
noncomputable def ref4_Hits_l7 (a1 : List (List UInt8)) (l206 : List (Int × Int)) (s6_110 : Int) (s8_207 : Int) (x165 : (List ((List UInt8) × Int × Int))) (s : Bool × Int) : Option (((List (Int × Int)) × Int) ⊕ (((List (Int × Int)) × Int) ⊕ ((List (Int × Int))))) := Go.L.run (ref4_Hits_bl7 a1 l206 s6_110 s8_207 x165) s
noncomputable def ref4_Hits_k3 (s6_110 : Int) (l160 : List (Int × Int)) : Option (((List (Int × Int)) × Int) ⊕ ((List (Int × Int)))) :=
 Go.L.chk (Go.L.I64 (s6_110 + (1 : Int))) (some (Sum.inl (l160, (s6_110 + (1 : Int)))))
noncomputable def ref4_Hits_bl4 (a1 : List (List UInt8)) (s6_110 : Int) (x165 : (List ((List UInt8) × Int × Int))) : (List (Int × Int)) × Int → Option (((List (Int × Int)) × Int) ⊕ (((List (Int × Int)) × Int) ⊕ ((List (Int × Int))))) := fun ⟨l206, s8_207⟩ =>
 Go.L.chk (Go.L.I64 (s8_207 + (a1.length : Int))) (if (s8_207 + (a1.length : Int)) ≤ (x165.length : Int) then (ref4_Hits_l7 a1 l206 s6_110 s8_207 x165) (true, (0 : Int)) else Option.map Sum.inr ((ref4_Hits_k3 s6_110) l206))
noncomputable def ref4_Hits_l4 (a1 : List (List UInt8)) (s6_110 : Int) (x165 : (List ((List UInt8) × Int × Int))) (s : (List (Int × Int)) × Int) : Option (((List (Int × Int)) × Int) ⊕ ((List (Int × Int)))) := Go.L.run (ref4_Hits_bl4 a1 s6_110 x165) s
noncomputable def ref4_Hits_k1 (l55 : List (Int × Int)) : Option ((List (Int × Int))) :=
 some (l55)
noncomputable def ref4_Hits_bl2 (a0 : List (List UInt8)) (a1 : List (List UInt8)) : (List (Int × Int)) × Int → Option (((List (Int × Int)) × Int) ⊕ ((List (Int × Int)))) := fun ⟨l109, s6_110⟩ =>
 if s6_110 < (a0.length : Int) then Go.L.chk (0 ≤ s6_110 ∧ s6_110 < (a0.length : Int)) (Option.bind (ref4_Words (a0.getD s6_110.toNat default)) (fun x165 => (ref4_Hits_l4 a1 s6_110 x165) (l109, (0 : Int)))) else Option.map Sum.inr (ref4_Hits_k1 l109)
noncomputable def ref4_Hits_l2 (a0 : List (List UInt8)) (a1 : List (List UInt8)) (s : (List (Int × Int)) × Int) : Option ((List (Int × Int))) := Go.L.run (ref4_Hits_bl2 a0 a1) s
noncomputable def ref4_Hits (a0 : List (List UInt8)) (a1 : List (List UInt8)) : Option ((List (Int × Int))) :=
 (ref4_Hits_l2 a0 a1) (([] : List (Int × Int)), (0 : Int))

theorem ref4_Hits_ok (w : World) (H : PH) (hH : Le H (hp w)) {a0 : List (List UInt8)} {a1 : List (List UInt8)} {v0_0 : Value} {v1_0 : Value} (h0_0 : Vec (.vec .byte) H v0_0 (a0)) (h1_0 : Vec .st H v1_0 (a1)) {r : (List (Int × Int))} (h : ref4_Hits a0 a1 = some r) :
  Ok Tryz.prog 45 [v0_0, v1_0] w (fun v w' => Ext w w' ∧ ∃ u0, v = u0 ∧ OwnH 64 (.pair (.int .i64) (.int .i64)) H w w' u0 (r)) := by
 refine Ok_enter (n := 60) [(0, v0_0), (1, v1_0)] func45 rfl rfl rfl rfl rfl ?_
 have hL := Lcl.start w
 refine W_pz 1 rfl ?_
 refine W_p 1 rfl ?_
 obtain ⟨hL1, hle1, he1⟩ := row_nilE (.pair (.int .i64) (.int .i64)) H 64 hL
 refine S_seqnil ?_
 refine W_cut (σ := (List (Int × Int)) × Value × (List Value)) (fun ⟨l55, vl55, xsl55⟩ => [(5, vl55)]) (fun ⟨l55, vl55, xsl55⟩ wr => InO w [.row (vl55) 64 2 (l55).length (xsl55)] wr fun Oz => Elems (.pair (.int .i64) (.int .i64)) (gz H w wr Oz) (l55) (xsl55) ∧ ref4_Hits_k1 l55 = some r) ?_ ?_
 ·refine W_pz 1 rfl ?_
  refine W_block ?_
  obtain ⟨n111, h⟩ := Go.L.run_some h
  refine W_loop (σ := (List (Int × Int)) × Int × Value × (List Value) × Nat) (fun ⟨l109, s6_110, vl109, xsl109, n⟩ => [(0, v0_0), (1, v1_0), (5, vl109), (6, .int .i64 s6_110)]) (fun ⟨l109, s6_110, vl109, xsl109, n⟩ wr => InO w [.row (vl109) 64 2 (l109).length (xsl109)] wr fun Oz => Elems (.pair (.int .i64) (.int .i64)) (gz H w wr Oz) (l109) (xsl109) ∧ Go.L.itr (ref4_Hits_bl2 a0 a1) n (l109, s6_110) = some r) (fun ⟨l109, s6_110, vl109, xsl109, n⟩ => n) (([] : List (Int × Int)), (0 : Int), .slice none 0 0, [], n111) (.cons rfl (.cons rfl (.cons rfl (.cons rfl (Sub.nil _))))) ⟨hL1, he1, h⟩ ?_
  rintro ⟨l109, s6_110, vl109, xsl109, nn111⟩ wr111 ⟨hL111, hel109, h⟩
  obtain ⟨n111, e111, rfl, h, hm111⟩ := Go.L.itr_some h
  refine W_seq ?_
  refine W_p 2 rfl ?_
  refine S_v (r_len rfl underlying47 h0_0) rfl ?_
  refine S_pz 1 rfl ?_
  refine W_if rfl (fun hc113 => ?_) (fun hc113 => ?_)
  ·replace h := Go.L.ite_p hc113 h
   refine W_skip ?_
   refine At_seq ?_
   refine W_cut (σ := (List (Int × Int)) × Value × (List Value)) (fun ⟨l160, vl160, xsl160⟩ => [(0, v0_0), (1, v1_0), (5, vl160), (6, .int .i64 s6_110)]) (fun ⟨l160, vl160, xsl160⟩ wr => InO w [.row (vl160) 64 2 (l160).length (xsl160)] wr fun Oz => Elems (.pair (.int .i64) (.int .i64)) (gz H w wr Oz) (l160) (xsl160) ∧ (ref4_Hits_k3 s6_110) l160 = some e111) ?_ ?_
   ·refine W_block ?_
    refine W_p 2 rfl ?_
    obtain ⟨hk164, h⟩ := Go.L.chk_some h
    refine S_index rfl rfl underlying47 zr22 h0_0 s6_110.toNat (Int.toNat_of_nonneg hk164.1).symm (idx_lt hk164) rfl ?_
    rintro p163 _ ⟨e163v0, rfl, e163h0⟩ hp163
    refine S_v (r_load1 rfl underlying22 rfl hp163 (hH.trans hL111.arg)) rfl ?_
    obtain ⟨x165, hb165, h⟩ := Go.L.bind_some h
    refine S_callL rfl rfl hL111 (ref4_Words_ok _ _ (gz_le hH hL111) (e163h0.mono (gz_left hH)) hb165) ?_
    rintro u166_0 w166 ⟨_, rfl, hR166_0⟩ hx166 hL166 hle166
    have hv166_0 := hR166_0.vecG hH hL111 hx166
    replace hel109 := hel109.mono (gz_mono hH hle166)
    refine S_pz 1 rfl ?_
    refine W_pz 1 rfl ?_
    refine W_block ?_
    obtain ⟨n208, h⟩ := Go.L.run_some h
    refine W_loop (σ := (List (Int × Int)) × Int × Value × (List Value) × Nat) (fun ⟨l206, s8_207, vl206, xsl206, n⟩ => [(0, v0_0), (1, v1_0), (5, vl206), (6, .int .i64 s6_110), (7, u166_0), (8, .int .i64 s8_207)]) (fun ⟨l206, s8_207, vl206, xsl206, n⟩ wr => InO w [.row (vl206) 64 2 (l206).length (xsl206)] wr fun Oz => Vec (.pair .st (.pair (.int .i64) (.int .i64))) (gz H w wr Oz) (u166_0) (x165) ∧ Elems (.pair (.int .i64) (.int .i64)) (gz H w wr Oz) (l206) (xsl206) ∧ Go.L.itr (ref4_Hits_bl4 a1 s6_110 x165) n (l206, s8_207) = some e111) (fun ⟨l206, s8_207, vl206, xsl206, n⟩ => n) (l109, (0 : Int), vl109, xsl109, n208) (.cons rfl (.cons rfl (.cons rfl (.cons rfl (.cons rfl (.cons rfl (Sub.nil _))))))) ⟨hL166, hv166_0, hel109, h⟩ ?_
    rintro ⟨l206, s8_207, vl206, xsl206, nn208⟩ wr208 ⟨hL208, hf208_0, hel206, h⟩
    obtain ⟨n208, e208, rfl, h, hm208⟩ := Go.L.itr_some h
    refine W_seq ?_
    refine W_p 2 rfl ?_
    refine S_v (r_len rfl underlying36 h1_0) rfl ?_
    obtain ⟨hk210, h⟩ := Go.L.chk_some h
    refine S_v (r_ar64 rfl rfl rfl hk210) rfl ?_
    refine S_pu 1 rfl ?_
    refine S_v (r_len rfl underlying67 hf208_0) rfl ?_
    refine S_pz 1 rfl ?_
    refine W_if rfl (fun hc211 => ?_) (fun hc211 => ?_)
    ·replace h := Go.L.ite_p hc211 h
     refine W_skip ?_
     refine At_seq ?_
     refine W_cut (σ := (List (Int × Int)) × Value × (List Value)) (fun ⟨l245, vl245, xsl245⟩ => [(0, v0_0), (1, v1_0), (5, vl245), (6, .int .i64 s6_110), (7, u166_0), (8, .int .i64 s8_207)]) (fun ⟨l245, vl245, xsl245⟩ wr => InO w [.row (vl245) 64 2 (l245).length (xsl245)] wr fun Oz => Vec (.pair .st (.pair (.int .i64) (.int .i64))) (gz H w wr Oz) (u166_0) (x165) ∧ Elems (.pair (.int .i64) (.int .i64)) (gz H w wr Oz) (l245) (xsl245) ∧ (ref4_Hits_k5 s8_207) l245 = some e208) ?_ ?_
     ·refine W_block ?_
      refine W_pz 1 rfl ?_
      refine W_cut (σ := Bool) (fun s9_272 => [(0, v0_0), (1, v1_0), (5, vl206), (6, .int .i64 s6_110), (7, u166_0), (8, .int .i64 s8_207), (9, .bool s9_272)]) (fun s9_272 wr => InO w [.row (vl206) 64 2 (l206).length (xsl206)] wr fun Oz => Vec (.pair .st (.pair (.int .i64) (.int .i64))) (gz H w wr Oz) (u166_0) (x165) ∧ Elems (.pair (.int .i64) (.int .i64)) (gz H w wr Oz) (l206) (xsl206) ∧ (ref4_Hits_k6 l206 s6_110 s8_207) s9_272 = some e208) ?_ ?_
      ·refine W_pz 1 rfl ?_
       refine W_block ?_
       obtain ⟨n292, h⟩ := Go.L.run_some h
       refine W_loop (σ := Bool × Int × Nat) (fun ⟨s9_290, s10_291, n⟩ => [(0, v0_0), (1, v1_0), (5, vl206), (6, .int .i64 s6_110), (7, u166_0), (8, .int .i64 s8_207), (9, .bool s9_290), (10, .int .i64 s10_291)]) (fun ⟨s9_290, s10_291, n⟩ wr => InO w [.row (vl206) 64 2 (l206).length (xsl206)] wr fun Oz => Vec (.pair .st (.pair (.int .i64) (.int .i64))) (gz H w wr Oz) (u166_0) (x165) ∧ Elems (.pair (.int .i64) (.int .i64)) (gz H w wr Oz) (l206) (xsl206) ∧ Go.L.itr (ref4_Hits_bl7 a1 l206 s6_110 s8_207 x165) n (s9_290, s10_291) = some e208) (fun ⟨s9_290, s10_291, n⟩ => n) (true, (0 : Int), n292) (.cons rfl (.cons rfl (.cons rfl (.cons rfl (.cons rfl (.cons rfl (.cons rfl (.cons rfl (Sub.nil _))))))))) ⟨hL208, hf208_0, hel206, h⟩ ?_
       rintro ⟨s9_290, s10_291, nn292⟩ wr292 ⟨hL292, hf292_0, hel206, h⟩
       obtain ⟨n292, e292, rfl, h, hm292⟩ := Go.L.itr_some h
       refine W_seq ?_
       refine W_p 2 rfl ?_
       refine S_v (r_len rfl underlying36 h1_0) rfl ?_
       refine S_pz 1 rfl ?_
       refine W_if rfl (fun hc294 => ?_) (fun hc294 => ?_)
       ·replace h := Go.L.ite_p hc294 h
        refine W_skip ?_
        refine At_seq ?_
        refine W_seq ?_
        refine W_block ?_
        refine W_regd (.q 0 (.q 1 (.q 2 (.q 3 (.q 4 (.q 5 (.q 6 (.q 7 (.q 8 (.q 9 (.q 10 (.q 11 (.q 12 (.q 13 (.q 14 (.q 15 (.tail 16))))))))))))))))) mixed (by kernel_rfl) (fun w296 hx296 => ?_)
        have hL297 := hL292.call hx296
        have hle297 := fz_ext hL292 hx296
        replace hf292_0 := hf292_0.mono (gz_mono hH hle297)
        replace hel206 := hel206.mono (gz_mono hH hle297)
        refine D_pu 2 rfl ?_
        refine D_split (s := 38) rfl (fun hg298 => ?_) (fun hg298 => ?_)
        ·replace h := Go.L.ite_t hg298 h
         iterate 3 refine D_vg (RunsAt_pu rfl) rfl rfl rfl rfl hg298 rfl ?_
         obtain ⟨hk300, h⟩ := Go.L.chk_some h
         refine D_vg (r_ar64 rfl rfl rfl hk300) rfl rfl rfl rfl hg298 rfl ?_
         obtain ⟨hk302, h⟩ := Go.L.chk_some h
         refine D_indexg rfl rfl rfl rfl hg298 rfl rfl underlying67 zr75 hf292_0 ((s8_207 + s10_291).toNat) (Int.toNat_of_nonneg hk302.1).symm (idx_lt hk302) rfl ?_
         rintro p301 _ ⟨_, _, rfl, rfl, ⟨_, _, rfl, rfl, rfl⟩⟩ hp301
         refine D_vg (r_field rfl underlying75 rfl zr9 (by decide)) rfl rfl rfl rfl hg298 rfl ?_
         have hp303 := hp301.add 0
         refine D_vg (r_load1 rfl underlying9 rfl hp303 (gz_le hH hL297)) rfl rfl rfl rfl hg298 rfl ?_
         iterate 2 refine D_vg (RunsAt_pu rfl) rfl rfl rfl rfl hg298 rfl ?_
         obtain ⟨hk305, h⟩ := Go.L.chk_some h
         refine D_indexg rfl rfl rfl rfl hg298 rfl rfl underlying36 zr9 h1_0 s10_291.toNat (Int.toNat_of_nonneg hk305.1).symm (idx_lt hk305) rfl ?_
         rintro p304 _ rfl hp304
         refine D_vg (r_load1 rfl underlying9 rfl hp304 (hH.trans hL297.arg)) rfl rfl rfl rfl hg298 rfl ?_
         refine D_vg (r_seq rfl rfl) rfl rfl rfl rfl hg298 rfl ?_
         refine D_v (r_pickT rfl hg298 rfl) rfl rfl ?_
         refine D_pu 1 rfl ?_
         refine D_tail (fun w306 hx306 => ?_)
         have hL307 := hL297.call hx306
         have hle307 := fz_ext hL297 hx306
         replace hf292_0 := hf292_0.mono (gz_mono hH hle307)
         replace hel206 := hel206.mono (gz_mono hH hle307)
         replace hp301 := hp301.mono (gz_mono hH hle307)
         replace hp303 := hp303.mono (gz_mono hH hle307)
         refine S_nil ?_
         refine At_block ?_
         refine At_seq ?_
         refine W_region ?_
         refine S_pu 1 rfl ?_
         obtain ⟨hk308, h⟩ := Go.L.chk_some h
         refine S_v (r_ar64 rfl rfl rfl hk308) rfl ?_
         refine S_pu 1 rfl ?_
         refine S_nil ?_
         have h := Go.L.Nxt.again h hm292
         refine At_round (decide ((x165.getD ((s8_207 + s10_291).toNat) default).1 = a1.getD s10_291.toNat default), (s10_291 + (1 : Int)), n292) (.cons rfl (.cons rfl (.cons rfl (.cons rfl (.cons rfl (.cons rfl (.cons rfl (.cons rfl (Sub.nil _))))))))) ⟨hL307, hf292_0, hel206, h⟩ (Nat.lt_succ_self _)
        ·replace h := Go.L.ite_f hg298 h
         iterate 12 refine D_no rfl rfl rfl rfl hg298 rfl ?_
         refine D_v (r_pickF rfl hg298 rfl) rfl rfl ?_
         refine D_pu 1 rfl ?_
         refine D_tail (fun w310 hx310 => ?_)
         have hL311 := hL297.call hx310
         have hle311 := fz_ext hL297 hx310
         replace hf292_0 := hf292_0.mono (gz_mono hH hle311)
         replace hel206 := hel206.mono (gz_mono hH hle311)
         refine S_nil ?_
         refine At_block ?_
         refine At_seq ?_
         refine W_region ?_
         refine S_pu 1 rfl ?_
         obtain ⟨hk312, h⟩ := Go.L.chk_some h
         refine S_v (r_ar64 rfl rfl rfl hk312) rfl ?_
         refine S_pu 1 rfl ?_
         refine S_nil ?_
         have h := Go.L.Nxt.again h hm292
         refine At_round (false, (s10_291 + (1 : Int)), n292) (.cons rfl (.cons rfl (.cons rfl (.cons rfl (.cons rfl (.cons rfl (.cons rfl (.cons rfl (Sub.nil _))))))))) ⟨hL311, hf292_0, hel206, h⟩ (Nat.lt_succ_self _)
       ·replace h := Go.L.ite_n hc294 h
        refine W_exit ?_
        refine At_seq_exit ?_
        refine At_loop_exit ?_
        replace h := Go.L.Nxt.out h hm292
        refine At_exit ?_
        refine At_cut s9_290 (.cons rfl (.cons rfl (.cons rfl (.cons rfl (.cons rfl (.cons rfl (.cons rfl (Sub.nil _)))))))) ⟨hL292, hf292_0, hel206, h⟩
      ·rintro s9_272 wr273 ⟨hL273, hf273_0, hel206, h⟩
       refine W_pz 1 rfl ?_
       refine W_cond rfl (fun hc315 => ?_) (fun hc315 => ?_)
       ·replace h := Go.L.ite_t hc315 h
        refine W_region ?_
        refine S_pu 3 rfl ?_
        refine S_v (r_build rfl (fun _ => bld64_0_1 _ _ _)) rfl ?_
        refine S_litE (r := (.pair (.int .i64) (.int .i64))) (l := [(s6_110, s8_207)]) rfl (fun _ => bsl40_1 _ _ _) rfl (show 1 ≤ 9223372036854775807 by decide) hH hL273 (.c2 ⟨_, _, rfl, rfl, rfl⟩ .nil) ?_
        intro v317 w317 hx317 hL317 hle317 hv317
        replace hf273_0 := hf273_0.mono (gz_mono hH hle317)
        replace hel206 := hel206.mono (gz_mono hH hle317)
        obtain ⟨hk319, h⟩ := Go.L.chk_some h
        refine S_appE (r := (.pair (.int .i64) (.int .i64))) (l := l206) (m := [(s6_110, s8_207)]) 0 rfl rfl underlying40 zr64 rfl (by decide) rfl hH hL317 rfl hel206 hv317 hk319 ?_
        intro v318 w318 xs318 hL318 hle318 he318
        replace hf273_0 := hf273_0.mono (gz_mono hH hle318)
        replace hv317 := hv317.mono (gz_mono hH hle318)
        refine S_pu 1 rfl ?_
        refine S_nil ?_
        refine At_block ?_
        refine At_cut ((l206 ++ [(s6_110, s8_207)]), v318, xs318) (.cons rfl (.cons rfl (.cons rfl (.cons rfl (.cons rfl (.cons rfl (Sub.nil _))))))) ⟨hL318, hf273_0, he318, h⟩
       ·replace h := Go.L.ite_f hc315 h
        refine W_skip ?_
        refine At_block ?_
        refine At_cut (l206, vl206, xsl206) (.cons rfl (.cons rfl (.cons rfl (.cons rfl (.cons rfl (.cons rfl (Sub.nil _))))))) ⟨hL273, hf273_0, hel206, h⟩
     ·rintro ⟨l245, vl245, xsl245⟩ wr246 ⟨hL246, hf246_0, hel245, h⟩
      refine W_region ?_
      refine S_pu 1 rfl ?_
      obtain ⟨hk322, h⟩ := Go.L.chk_some h
      refine S_v (r_ar64 rfl rfl rfl hk322) rfl ?_
      refine S_pu 1 rfl ?_
      refine S_nil ?_
      have h := Go.L.Nxt.again h hm208
      refine At_round (l245, (s8_207 + (1 : Int)), vl245, xsl245, n208) (.cons rfl (.cons rfl (.cons rfl (.cons rfl (.cons rfl (.cons rfl (Sub.nil _))))))) ⟨hL246, hf246_0, hel245, h⟩ (Nat.lt_succ_self _)
    ·replace h := Go.L.ite_n hc211 h
     refine W_exit ?_
     refine At_seq_exit ?_
     refine At_loop_exit ?_
     replace h := Go.L.Nxt.out h hm208
     refine At_exit ?_
     refine At_block ?_
     refine At_cut (l206, vl206, xsl206) (.cons rfl (.cons rfl (.cons rfl (.cons rfl (Sub.nil _))))) ⟨hL208, hel206, h⟩
   ·rintro ⟨l160, vl160, xsl160⟩ wr161 ⟨hL161, hel160, h⟩
    refine W_region ?_
    refine S_pu 1 rfl ?_
    obtain ⟨hk325, h⟩ := Go.L.chk_some h
    refine S_v (r_ar64 rfl rfl rfl hk325) rfl ?_
    refine S_pu 1 rfl ?_
    refine S_nil ?_
    have h := Go.L.Nxt.again h hm111
    refine At_round (l160, (s6_110 + (1 : Int)), vl160, xsl160, n111) (.cons rfl (.cons rfl (.cons rfl (.cons rfl (Sub.nil _))))) ⟨hL161, hel160, h⟩ (Nat.lt_succ_self _)
  ·replace h := Go.L.ite_n hc113 h
   refine W_exit ?_
   refine At_seq_exit ?_
   refine At_loop_exit ?_
   replace h := Go.L.Nxt.out h hm111
   refine At_exit ?_
   refine At_cut (l109, vl109, xsl109) (.cons rfl (Sub.nil _)) ⟨hL111, hel109, h⟩
 ·rintro ⟨l55, vl55, xsl55⟩ wr56 ⟨hL56, hel55, h⟩
  refine W_pz 2 rfl ?_
  refine W_ret ?_
  obtain rfl := Option.some.inj h
  refine At_body rfl rfl ?_
  exact ⟨hL56.ext, _, rfl, (hL56.ownH hH (i := 0) rfl hel55)⟩
end Go.Proofs.YtdiieblgeaehpaaGreatDoor
