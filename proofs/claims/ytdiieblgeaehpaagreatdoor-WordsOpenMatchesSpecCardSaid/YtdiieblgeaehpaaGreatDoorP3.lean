/- Generated walks: package words. -/
import Derived.Test.YtdiieblgeaehpaaGreatDoorP2
import Derived.Test.YtdiieblgeaehpaaGreatDoorUtf
import Derived.KernelRfl
namespace Go.Proofs.YtdiieblgeaehpaaGreatDoor
open Go Go.E Go.RowKit
set_option maxHeartbeats 1000000
set_option maxRecDepth 10000
open _root_.Go.Proofs.Tryz
noncomputable def internal_bytealg_CompareString (a0 : List UInt8) (a1 : List UInt8) : Option (Int) :=
 some ((Lib.compareBytes a0 a1))

theorem internal_bytealg_CompareString_ok (w : World) (H : PH) (_hH : Le H (hp w)) {a0 : List UInt8} {a1 : List UInt8}   {r : Int} (h : internal_bytealg_CompareString a0 a1 = some r) :
  Ok Tryz.prog 85 [.string ⟨(a0).toArray⟩, .string ⟨(a1).toArray⟩] w (fun v w' => Ext w w' ∧ v = .int .i64 r) := by
 refine Ok_enter (n := 8) [(0, .string ⟨(a0).toArray⟩), (1, .string ⟨(a1).toArray⟩)] func85 rfl rfl rfl rfl rfl ?_
 have hL := Lcl.start w
 refine W_pz 1 rfl ?_
 refine W_p 2 rfl ?_
 refine S_v (r_scmp func95 rfl rfl (by kernel_rfl) (by kernel_rfl) rfl rfl) rfl ?_
 refine S_pz 1 rfl ?_
 refine W_ret ?_
 obtain rfl := Option.some.inj h
 refine At_body rfl rfl ?_
 exact ⟨hL.ext, rfl⟩

noncomputable def strings_Compare (a0 : List UInt8) (a1 : List UInt8) : Option (Int) :=
 Option.bind (internal_bytealg_CompareString a0 a1) (fun x1 => some (x1))

theorem strings_Compare_ok (w : World) (H : PH) (hH : Le H (hp w)) {a0 : List UInt8} {a1 : List UInt8}   {r : Int} (h : strings_Compare a0 a1 = some r) :
  Ok Tryz.prog 65 [.string ⟨(a0).toArray⟩, .string ⟨(a1).toArray⟩] w (fun v w' => Ext w w' ∧ v = .int .i64 r) := by
 refine Ok_enter (n := 8) [(0, .string ⟨(a0).toArray⟩), (1, .string ⟨(a1).toArray⟩)] func65 rfl rfl rfl rfl rfl ?_
 have hL := Lcl.start w
 refine W_pz 1 rfl ?_
 refine W_p 2 rfl ?_
 obtain ⟨x1, hb1, h⟩ := Go.L.bind_some h
 refine S_callL rfl rfl hL (internal_bytealg_CompareString_ok _ _ (gz_le hH hL) hb1) ?_
 rintro _ w2 rfl hx2 hL2 hle2
 refine S_pz 1 rfl ?_
 refine W_ret ?_
 obtain rfl := Option.some.inj h
 refine At_body rfl rfl ?_
 exact ⟨hL2.ext, rfl⟩

noncomputable def words_Index_hits_1 (a0 : (List UInt8) × (List (Int × Int))) (a1 : List UInt8) : Option (Int) :=
 Option.bind (strings_Compare a0.1 a1) (fun x2 => some (x2))

theorem words_Index_hits_1_fr {w0 w : World} {H : PH} (hH : Le H (hp w0)) {O : List Res} {a0 : (List UInt8) × (List (Int × Int))} {a1 : List UInt8} {va0_1 : Value} (hL : Lcl w0 (HAppend.hAppend ([] : List Res) O) w) (ha0_1 : Vec (.pair (.int .i64) (.int .i64)) (gz H w0 w (HAppend.hAppend ([] : List Res) O)) va0_1 (a0.2)) {r : Int} (h : words_Index_hits_1 a0 a1 = some r) :
  Ok Tryz.prog 64 [.agg #[.string ⟨(a0.1).toArray⟩, va0_1], .string ⟨(a1).toArray⟩] w (fun v w' => v = .int .i64 r ∧ Lcl w0 (HAppend.hAppend ([] : List Res) O) w' ∧ Le (fz w (HAppend.hAppend ([] : List Res) O)) (fz w' (HAppend.hAppend ([] : List Res) O))) := by
 refine Ok_enter (n := 9) [(0, .agg #[.string ⟨(a0.1).toArray⟩, va0_1]), (1, .string ⟨(a1).toArray⟩)] func64 rfl rfl rfl rfl rfl ?_
 have hT := Le.refl (fz w (HAppend.hAppend ([] : List Res) O))
 refine W_seqr ?_
 refine S_box (t := 62) rfl rfl rfl hL ?_
 intro w1 b1 hL1 hle1 _
 replace ha0_1 := ha0_1.mono (gz_mono hH hle1)
 replace hT := hT.trans hle1
 refine S_pz 1 rfl ?_
 refine W_seqr ?_
 refine S_v (r_field rfl underlying62 rfl zr9 (by decide)) rfl ?_
 refine S_v (r_loadB1 0 rfl underlying9 rfl hL1 rfl rfl) rfl ?_
 refine S_pu 1 rfl ?_
 obtain ⟨x2, hb2, h⟩ := Go.L.bind_some h
 refine S_callL rfl rfl hL1 (strings_Compare_ok _ _ (gz_le hH hL1) hb2) ?_
 rintro _ w3 rfl hx3 hL3 hle3
 replace ha0_1 := ha0_1.mono (gz_mono hH hle3)
 replace hT := hT.trans hle3
 refine S_pz 1 rfl ?_
 refine W_ret ?_
 obtain rfl := Option.some.inj h
 refine At_body rfl rfl ?_
 have hL4 := hL3.dropAt (i := 0) rfl
 replace ha0_1 := ha0_1.mono (gz_mono hH (fz_dropAt (i := 0) rfl))
 replace hT := hT.trans (fz_dropAt (i := 0) rfl)
 exact ⟨rfl, hL4, hT⟩

noncomputable def slices_BinarySearchFunc_words_entry_words_entry_string_k1 (a0 : List ((List UInt8) × (List (Int × Int)))) (a1 : List UInt8) (s9_17 : Int) : Option (Int × Bool) :=
 if s9_17 < (a0.length : Int) then Go.L.chk (0 ≤ s9_17 ∧ s9_17 < (a0.length : Int)) (Option.bind (words_Index_hits_1 ((a0.getD s9_17.toNat default).1, (a0.getD s9_17.toNat default).2) a1) (fun x54 => some (s9_17, decide (x54 = (0 : Int))))) else some (s9_17, false)
noncomputable def slices_BinarySearchFunc_words_entry_words_entry_string_bl2 (a0 : List ((List UInt8) × (List (Int × Int)))) (a1 : List UInt8) : Int × Int → Option ((Int × Int) ⊕ (Int × Bool)) := fun ⟨s9_33, s10_34⟩ =>
 if s9_33 < s10_34 then Go.L.chk (Go.L.I64 (s9_33 + s10_34)) (Go.L.chk (0 ≤ (IntKind.i64.wrap ((IntKind.u64.wrap (s9_33 + s10_34)) / 2)) ∧ (IntKind.i64.wrap ((IntKind.u64.wrap (s9_33 + s10_34)) / 2)) < (a0.length : Int)) (Option.bind (words_Index_hits_1 ((a0.getD ((IntKind.i64.wrap ((IntKind.u64.wrap (s9_33 + s10_34)) / 2)).toNat) default).1, (a0.getD ((IntKind.i64.wrap ((IntKind.u64.wrap (s9_33 + s10_34)) / 2)).toNat) default).2) a1) (fun x42 => if x42 < (0 : Int) then Go.L.chk (Go.L.I64 ((IntKind.i64.wrap ((IntKind.u64.wrap (s9_33 + s10_34)) / 2)) + (1 : Int))) (some (Sum.inl (((IntKind.i64.wrap ((IntKind.u64.wrap (s9_33 + s10_34)) / 2)) + (1 : Int)), s10_34))) else some (Sum.inl (s9_33, (IntKind.i64.wrap ((IntKind.u64.wrap (s9_33 + s10_34)) / 2))))))) else Option.map Sum.inr ((slices_BinarySearchFunc_words_entry_words_entry_string_k1 a0 a1) s9_33)
noncomputable def slices_BinarySearchFunc_words_entry_words_entry_string_l2 (a0 : List ((List UInt8) × (List (Int × Int)))) (a1 : List UInt8) (s : Int × Int) : Option (Int × Bool) := Go.L.run (slices_BinarySearchFunc_words_entry_words_entry_string_bl2 a0 a1) s
noncomputable def slices_BinarySearchFunc_words_entry_words_entry_string (a0 : List ((List UInt8) × (List (Int × Int)))) (a1 : List UInt8) : Option (Int × Bool) :=
 (slices_BinarySearchFunc_words_entry_words_entry_string_l2 a0 a1) ((0 : Int), (a0.length : Int))

theorem slices_BinarySearchFunc_words_entry_words_entry_string_fr {w0 w : World} {H : PH} (hH : Le H (hp w0)) {O : List Res} {a0 : List ((List UInt8) × (List (Int × Int)))} {a1 : List UInt8} {va0 : Value} (hL : Lcl w0 (HAppend.hAppend ([] : List Res) O) w) (ha0 : Vec (.pair .st (.vec (.pair (.int .i64) (.int .i64)))) (gz H w0 w (HAppend.hAppend ([] : List Res) O)) va0 (a0)) {r : Int × Bool} (h : slices_BinarySearchFunc_words_entry_words_entry_string a0 a1 = some r) :
  Ok Tryz.prog 63 [va0, .string ⟨(a1).toArray⟩, .func (.func 64) #[] #[]] w (fun v w' => v = .tuple #[.int .i64 r.1, .bool r.2] ∧ Lcl w0 (HAppend.hAppend ([] : List Res) O) w' ∧ Le (fz w (HAppend.hAppend ([] : List Res) O)) (fz w' (HAppend.hAppend ([] : List Res) O))) := by
 refine Ok_enter (n := 49) [(0, va0), (1, .string ⟨(a1).toArray⟩), (2, .func (.func 64) #[] #[])] func63 rfl rfl rfl rfl rfl ?_
 have hT := Le.refl (fz w (HAppend.hAppend ([] : List Res) O))
 refine W_pz 2 rfl ?_
 refine W_p 1 rfl ?_
 refine S_v (r_len rfl underlying23 ha0) rfl ?_
 refine S_pz 1 rfl ?_
 refine W_pz 3 rfl ?_
 refine W_cut (σ := Int) (fun s9_17 => [(0, va0), (1, .string ⟨(a1).toArray⟩), (2, .func (.func 64) #[] #[]), (8, .int .i64 (a0.length : Int)), (9, .int .i64 s9_17)]) (fun s9_17 wr => InO w0 (HAppend.hAppend ([] : List Res) O) wr fun Oz => Vec (.pair .st (.vec (.pair (.int .i64) (.int .i64)))) (gz H w0 wr Oz) (va0) (a0) ∧ Le (fz w (HAppend.hAppend ([] : List Res) O)) (fz wr Oz) ∧ (slices_BinarySearchFunc_words_entry_words_entry_string_k1 a0 a1) s9_17 = some r) ?_ ?_
 ·refine W_block ?_
  obtain ⟨n35, h⟩ := Go.L.run_some h
  refine W_loop (σ := Int × Int × Nat) (fun ⟨s9_33, s10_34, n⟩ => [(0, va0), (1, .string ⟨(a1).toArray⟩), (2, .func (.func 64) #[] #[]), (8, .int .i64 (a0.length : Int)), (9, .int .i64 s9_33), (10, .int .i64 s10_34)]) (fun ⟨s9_33, s10_34, n⟩ wr => InO w0 (HAppend.hAppend ([] : List Res) O) wr fun Oz => Vec (.pair .st (.vec (.pair (.int .i64) (.int .i64)))) (gz H w0 wr Oz) (va0) (a0) ∧ Le (fz w (HAppend.hAppend ([] : List Res) O)) (fz wr Oz) ∧ Go.L.itr (slices_BinarySearchFunc_words_entry_words_entry_string_bl2 a0 a1) n (s9_33, s10_34) = some r) (fun ⟨s9_33, s10_34, n⟩ => n) ((0 : Int), (a0.length : Int), n35) (.cons rfl (.cons rfl (.cons rfl (.cons rfl (.cons rfl (.cons rfl (Sub.nil _))))))) ⟨hL, ha0, hT, h⟩ ?_
  rintro ⟨s9_33, s10_34, nn35⟩ wr35 ⟨hL35, hf35_0, hT, h⟩
  obtain ⟨n35, e35, rfl, h, hm35⟩ := Go.L.itr_some h
  refine W_seq ?_
  refine W_pz 3 rfl ?_
  refine W_if rfl (fun hc37 => ?_) (fun hc37 => ?_)
  ·replace h := Go.L.ite_p hc37 h
   refine W_skip ?_
   refine At_seq ?_
   refine W_block ?_
   refine W_p 2 rfl ?_
   obtain ⟨hk39, h⟩ := Go.L.chk_some h
   refine S_v (r_ar64 rfl rfl rfl hk39) rfl ?_
   refine S_v (r_conv underlying3 underlying117 rfl rfl) rfl ?_
   refine S_v (r_shr (c := 1) (m := 2) rfl rfl rfl (by decide)) rfl ?_
   refine S_v (r_conv underlying117 underlying3 rfl rfl) rfl ?_
   refine S_pz 1 rfl ?_
   refine W_p 3 rfl ?_
   obtain ⟨hk41, h⟩ := Go.L.chk_some h
   refine S_index rfl rfl underlying23 zr62 hf35_0 ((IntKind.i64.wrap ((IntKind.u64.wrap (s9_33 + s10_34)) / 2)).toNat) (Int.toNat_of_nonneg hk41.1).symm (idx_lt hk41) rfl ?_
   rintro p40 _ ⟨_, _, rfl, rfl, ⟨e40v1, rfl, e40h1⟩⟩ hp40
   refine S_v (r_loadN rfl underlying62 rfl zr62 hp40 (gz_le hH hL35)) rfl ?_
   refine S_pu 1 rfl ?_
   obtain ⟨x42, hb42, h⟩ := Go.L.bind_some h
   refine S_callv rfl rfl rfl (words_Index_hits_1_fr (a0 := ((a0.getD ((IntKind.i64.wrap ((IntKind.u64.wrap (s9_33 + s10_34)) / 2)).toNat) default).1, (a0.getD ((IntKind.i64.wrap ((IntKind.u64.wrap (s9_33 + s10_34)) / 2)).toNat) default).2)) (a1 := a1) (O := (HAppend.hAppend ([] : List Res) O)) hH hL35 e40h1 hb42) ?_
   rintro _ w43 ⟨rfl, hL43, hle43⟩
   replace hf35_0 := hf35_0.mono (gz_mono hH hle43)
   replace hp40 := hp40.mono (gz_mono hH hle43)
   replace e40h1 := e40h1.mono (gz_mono hH hle43)
   replace hT := hT.trans hle43
   refine S_pz 1 rfl ?_
   refine W_if rfl (fun hc44 => ?_) (fun hc44 => ?_)
   ·replace h := Go.L.ite_p hc44 h
    refine W_region ?_
    refine S_pu 1 rfl ?_
    obtain ⟨hk46, h⟩ := Go.L.chk_some h
    refine S_v (r_ar64 rfl rfl rfl hk46) rfl ?_
    refine S_pu 1 rfl ?_
    refine S_nil ?_
    refine At_block ?_
    have h := Go.L.Nxt.again h hm35
    refine At_round (((IntKind.i64.wrap ((IntKind.u64.wrap (s9_33 + s10_34)) / 2)) + (1 : Int)), s10_34, n35) (.cons rfl (.cons rfl (.cons rfl (.cons rfl (.cons rfl (.cons rfl (Sub.nil _))))))) ⟨hL43, hf35_0, hT, h⟩ (Nat.lt_succ_self _)
   ·replace h := Go.L.ite_n hc44 h
    refine W_region ?_
    refine S_pu 2 rfl ?_
    refine S_nil ?_
    refine At_block ?_
    have h := Go.L.Nxt.again h hm35
    refine At_round (s9_33, (IntKind.i64.wrap ((IntKind.u64.wrap (s9_33 + s10_34)) / 2)), n35) (.cons rfl (.cons rfl (.cons rfl (.cons rfl (.cons rfl (.cons rfl (Sub.nil _))))))) ⟨hL43, hf35_0, hT, h⟩ (Nat.lt_succ_self _)
  ·replace h := Go.L.ite_n hc37 h
   refine W_exit ?_
   refine At_seq_exit ?_
   refine At_loop_exit ?_
   replace h := Go.L.Nxt.out h hm35
   refine At_exit ?_
   refine At_cut s9_33 (.cons rfl (.cons rfl (.cons rfl (.cons rfl (.cons rfl (Sub.nil _)))))) ⟨hL35, hf35_0, hT, h⟩
 ·rintro s9_17 wr18 ⟨hL18, hf18_0, hT, h⟩
  refine W_p 5 rfl ?_
  refine S_split (s := 39) rfl (fun hg50 => ?_) (fun hg50 => ?_)
  ·replace h := Go.L.ite_p (of_decide_eq_true hg50) h
   refine S_guarded rfl rfl hg50 ?_
   refine S_v (RunsAt_pu rfl) rfl ?_
   refine S_guarded rfl rfl hg50 ?_
   refine S_v (RunsAt_pu rfl) rfl ?_
   refine S_guarded rfl rfl hg50 ?_
   refine S_v (RunsAt_pu rfl) rfl ?_
   refine S_guarded rfl rfl hg50 ?_
   obtain ⟨hk53, h⟩ := Go.L.chk_some h
   refine S_index rfl rfl underlying23 zr62 hf18_0 s9_17.toNat (Int.toNat_of_nonneg hk53.1).symm (idx_lt hk53) rfl ?_
   rintro p52 _ ⟨_, _, rfl, rfl, ⟨e52v1, rfl, e52h1⟩⟩ hp52
   refine S_guarded rfl rfl hg50 ?_
   refine S_v (r_loadN rfl underlying62 rfl zr62 hp52 (gz_le hH hL18)) rfl ?_
   refine S_guarded rfl rfl hg50 ?_
   refine S_v (RunsAt_pu rfl) rfl ?_
   refine S_guarded rfl rfl hg50 ?_
   obtain ⟨x54, hb54, h⟩ := Go.L.bind_some h
   refine S_callv rfl rfl rfl (words_Index_hits_1_fr (a0 := ((a0.getD s9_17.toNat default).1, (a0.getD s9_17.toNat default).2)) (a1 := a1) (O := (HAppend.hAppend ([] : List Res) O)) hH hL18 e52h1 hb54) ?_
   rintro _ w55 ⟨rfl, hL55, hle55⟩
   replace hf18_0 := hf18_0.mono (gz_mono hH hle55)
   replace hp52 := hp52.mono (gz_mono hH hle55)
   replace e52h1 := e52h1.mono (gz_mono hH hle55)
   replace hT := hT.trans hle55
   refine S_guarded rfl rfl hg50 ?_
   refine S_v (RunsAt_pu rfl) rfl ?_
   refine S_v (r_pickT rfl hg50 rfl) rfl ?_
   refine S_pz 2 rfl ?_
   refine W_ret ?_
   obtain rfl := Option.some.inj h
   refine At_body rfl rfl ?_
   exact ⟨rfl, hL55, hT⟩
  ·replace h := Go.L.ite_n (of_decide_eq_false hg50) h
   iterate 8 refine S_unwanted rfl rfl hg50 rfl ?_
   refine S_v (r_pickF rfl hg50 rfl) rfl ?_
   refine S_pz 2 rfl ?_
   refine W_ret ?_
   obtain rfl := Option.some.inj h
   refine At_body rfl rfl ?_
   exact ⟨rfl, hL18, hT⟩

noncomputable def words_Index_hits (a0 : Int × (List ((List UInt8) × (List (Int × Int))))) (a1 : List UInt8) : Option ((List (Int × Int))) :=
 Option.bind (slices_BinarySearchFunc_words_entry_words_entry_string a0.2 a1) (fun x2 => if !x2.2 then some ([]) else Go.L.chk (0 ≤ x2.1 ∧ x2.1 < (a0.2.length : Int)) (some ((a0.2.getD x2.1.toNat default).2)))

theorem words_Index_hits_ok (w : World) (H : PH) (hH : Le H (hp w)) {a0 : Int × (List ((List UInt8) × (List (Int × Int))))} {a1 : List UInt8} {v0_0 : Value} (h0_0 : Vec (.pair .st (.vec (.pair (.int .i64) (.int .i64)))) H v0_0 (a0.2)) {r : (List (Int × Int))} (h : words_Index_hits a0 a1 = some r) :
  Ok Tryz.prog 42 [.agg #[.int .i64 a0.1, v0_0], .string ⟨(a1).toArray⟩] w (fun v w' => Ext w w' ∧ ∃ u0, v = u0 ∧ Vec (.pair (.int .i64) (.int .i64)) (un H (nw w w')) u0 (r)) := by
 refine Ok_enter (n := 22) [(0, .agg #[.int .i64 a0.1, v0_0]), (1, .string ⟨(a1).toArray⟩)] func42 rfl rfl rfl rfl rfl ?_
 have hL := Lcl.start w
 refine W_seqr ?_
 refine S_box (t := 25) rfl rfl rfl hL ?_
 intro w1 b1 hL1 hle1 _
 refine S_pz 1 rfl ?_
 refine W_seqr ?_
 refine S_v (r_field rfl underlying25 rfl zr23 (by decide)) rfl ?_
 refine S_v (r_loadB1 0 rfl underlying23 rfl hL1 rfl rfl) rfl ?_
 refine S_pu 1 rfl ?_
 obtain ⟨x2, hb2, h⟩ := Go.L.bind_some h
 refine S_call rfl rfl (slices_BinarySearchFunc_words_entry_words_entry_string_fr (a0 := a0.2) (a1 := a1) (O := [.box b1 [.int .i64 a0.1, v0_0] 25]) hH hL1 (h0_0.mono (gz_left hH)) hb2) ?_
 rintro _ w3 ⟨rfl, hL3, hle3⟩
 refine S_pz 5 rfl ?_
 refine W_seq ?_
 refine W_pz 2 rfl ?_
 refine W_cond rfl (fun hc4 => ?_) (fun hc4 => ?_)
 ·replace h := Go.L.ite_t hc4 h
  refine W_pz 1 rfl ?_
  refine W_ret ?_
  refine At_seq_ret ?_
  obtain rfl := Option.some.inj h
  refine At_body rfl rfl ?_
  exact ⟨hL3.ext, _, rfl, (Vec.nil _ _)⟩
 ·replace h := Go.L.ite_f hc4 h
  refine W_skip ?_
  refine At_seq ?_
  refine W_seqr ?_
  refine S_v (r_field rfl underlying25 rfl zr23 (by decide)) rfl ?_
  refine S_v (r_loadB1 0 rfl underlying23 rfl hL3 rfl rfl) rfl ?_
  refine S_pu 1 rfl ?_
  obtain ⟨hk8, h⟩ := Go.L.chk_some h
  refine S_index rfl rfl underlying23 zr62 h0_0 x2.1.toNat (Int.toNat_of_nonneg hk8.1).symm (idx_lt hk8) rfl ?_
  rintro p7 _ ⟨_, _, rfl, rfl, ⟨e7v1, rfl, e7h1⟩⟩ hp7
  refine S_v (r_field rfl underlying62 rfl zr40 (by decide)) rfl ?_
  have hp9 := hp7.add 1
  refine S_v (r_load1 rfl underlying40 rfl hp9 (hH.trans hL3.arg)) rfl ?_
  refine S_pz 1 rfl ?_
  refine W_ret ?_
  obtain rfl := Option.some.inj h
  refine At_body rfl rfl ?_
  exact ⟨hL3.ext, _, rfl, (e7h1.mono (le_un_left hH))⟩

noncomputable def words_letter (a0 : List UInt8) : Option ((List UInt8) × Int) :=
 Go.L.chk (0 ≤ (0 : Int) ∧ (0 : Int) < (a0.length : Int)) (if (48 ≤ ((a0.getD ((0 : Int).toNat) default).toNat : Int)) ∧ (((a0.getD ((0 : Int).toNat) default).toNat : Int) ≤ 57) then Go.L.chk ((a0.getD ((0 : Int).toNat) default).toNat < 128) (some ([a0.getD ((0 : Int).toNat) default], (1 : Int))) else if 97 ≤ ((a0.getD ((0 : Int).toNat) default).toNat : Int) then if ((a0.getD ((0 : Int).toNat) default).toNat : Int) ≤ 122 then Go.L.chk ((a0.getD ((0 : Int).toNat) default).toNat < 128) (some ([a0.getD ((0 : Int).toNat) default], (1 : Int))) else (if (65 ≤ ((a0.getD ((0 : Int).toNat) default).toNat : Int)) ∧ (((a0.getD ((0 : Int).toNat) default).toNat : Int) ≤ 90) then Go.L.chk (((a0.getD ((0 : Int).toNat) default - (65 : UInt8)) + (97 : UInt8)).toNat < 128) (some ([((a0.getD ((0 : Int).toNat) default - (65 : UInt8)) + (97 : UInt8))], (1 : Int))) else (if ((a0.getD ((0 : Int).toNat) default).toNat : Int) < 128 then some (([] : List UInt8), (1 : Int)) else Option.bind (decL a0) (fun x20 => if (x20.1 = (65533 : Int)) ∧ (x20.2 = (1 : Int)) then some (([] : List UInt8), (1 : Int)) else Go.L.chk (0 ≤ x20.2 ∧ x20.2 ≤ (a0.length : Int)) (some ((a0.take x20.2.toNat), x20.2))))) else if (65 ≤ ((a0.getD ((0 : Int).toNat) default).toNat : Int)) ∧ (((a0.getD ((0 : Int).toNat) default).toNat : Int) ≤ 90) then Go.L.chk (((a0.getD ((0 : Int).toNat) default - (65 : UInt8)) + (97 : UInt8)).toNat < 128) (some ([((a0.getD ((0 : Int).toNat) default - (65 : UInt8)) + (97 : UInt8))], (1 : Int))) else (if ((a0.getD ((0 : Int).toNat) default).toNat : Int) < 128 then some (([] : List UInt8), (1 : Int)) else Option.bind (decL a0) (fun x35 => if (x35.1 = (65533 : Int)) ∧ (x35.2 = (1 : Int)) then some (([] : List UInt8), (1 : Int)) else Go.L.chk (0 ≤ x35.2 ∧ x35.2 ≤ (a0.length : Int)) (some ((a0.take x35.2.toNat), x35.2)))))

theorem words_letter_ok (w : World) (H : PH) (hH : Le H (hp w)) (hU : Utab H) {a0 : List UInt8} {v0_0 : Value} (h0_0 : Vec .byte H v0_0 (a0)) {r : (List UInt8) × Int} (h : words_letter a0 = some r) :
  Ok Tryz.prog 73 [v0_0] w (fun v w' => Ext w w' ∧ v = .tuple #[.string ⟨(r.1).toArray⟩, .int .i64 r.2]) := by
 refine Ok_enter (n := 57) [(0, v0_0)] func73 rfl rfl rfl rfl rfl ?_
 have hL := Lcl.start w
 refine W_pz 2 rfl ?_
 refine W_seq ?_
 refine W_p 1 rfl ?_
 obtain ⟨hk2, h⟩ := Go.L.chk_some h
 refine S_index rfl rfl underlying22 zr5 h0_0 ((0 : Int).toNat) (Int.toNat_of_nonneg hk2.1).symm (idx_lt hk2) rfl ?_
 rintro p1 _ rfl hp1
 refine S_v (r_load1 rfl underlying5 rfl hp1 (hH.trans hL.arg)) rfl ?_
 refine S_pz 1 rfl ?_
 refine W_block ?_
 refine W_p 3 rfl ?_
 refine S_and 2 2 rfl rfl rfl rfl rfl rfl ?_
 refine S_pu 1 rfl ?_
 refine S_split (s := 17) rfl (fun hg3 => ?_) (fun hg3 => ?_)
 ·replace h := Go.L.ite_p (of_decide_eq_true hg3) h
  iterate 3 refine S_unwanted rfl rfl hg3 rfl ?_
  iterate 2 refine S_unwanted2 rfl rfl rfl ?_
  refine S_unwanted rfl rfl hg3 rfl ?_
  refine S_v (r_pickT rfl hg3 rfl) rfl ?_
  refine S_pz 1 rfl ?_
  refine W_true rfl ?_
  refine W_p 1 rfl ?_
  obtain ⟨hk5, h⟩ := Go.L.chk_some h
  refine S_v (r_b2s rfl underlying5 underlying9 hk5) rfl ?_
  refine S_pz 2 rfl ?_
  refine W_ret ?_
  refine At_block_ret ?_
  refine At_seq_ret ?_
  obtain rfl := Option.some.inj h
  refine At_body rfl rfl ?_
  exact ⟨hL.ext, rfl⟩
 ·replace h := Go.L.ite_n (of_decide_eq_false hg3) h
  refine S_guarded rfl rfl hg3 ?_
  refine S_v (RunsAt_pu rfl) rfl ?_
  refine S_guarded rfl rfl hg3 ?_
  refine S_v (RunsAt_pu rfl) rfl ?_
  refine S_guarded rfl rfl hg3 ?_
  refine S_v (RunsAt_pu rfl) rfl ?_
  refine S_split (s := 20) rfl (fun hg7 => ?_) (fun hg7 => ?_)
  ·replace h := Go.L.ite_p (of_decide_eq_true hg7) h
   refine S_guarded rfl rfl hg7 ?_
   refine S_v (RunsAt_pu rfl) rfl ?_
   refine S_guarded rfl rfl hg7 ?_
   refine S_v (RunsAt_pu rfl) rfl ?_
   refine S_guarded rfl rfl hg3 ?_
   refine S_v (r_pickT rfl hg7 rfl) rfl ?_
   refine S_v (r_pickF rfl hg3 rfl) rfl ?_
   refine S_pz 1 rfl ?_
   refine W_if rfl (fun hc9 => ?_) (fun hc9 => ?_)
   ·replace h := Go.L.ite_p hc9 h
    refine W_p 1 rfl ?_
    obtain ⟨hk11, h⟩ := Go.L.chk_some h
    refine S_v (r_b2s rfl underlying5 underlying9 hk11) rfl ?_
    refine S_pz 2 rfl ?_
    refine W_ret ?_
    refine At_block_ret ?_
    refine At_seq_ret ?_
    obtain rfl := Option.some.inj h
    refine At_body rfl rfl ?_
    exact ⟨hL.ext, rfl⟩
   ·replace h := Go.L.ite_n hc9 h
    refine W_p 3 rfl ?_
    refine S_and 2 2 rfl rfl rfl rfl rfl rfl ?_
    refine S_pz 1 rfl ?_
    refine W_if rfl (fun hc13 => ?_) (fun hc13 => ?_)
    ·replace h := Go.L.ite_p hc13 h
     refine W_p 1 rfl ?_
     refine S_v (r_ar8 (b := 65) rfl rfl rfl) rfl ?_
     refine S_v (r_ar8 (b := 97) rfl rfl rfl) rfl ?_
     obtain ⟨hk15, h⟩ := Go.L.chk_some h
     refine S_v (r_b2s rfl underlying5 underlying9 hk15) rfl ?_
     refine S_pz 2 rfl ?_
     refine W_ret ?_
     refine At_block_ret ?_
     refine At_seq_ret ?_
     obtain rfl := Option.some.inj h
     refine At_body rfl rfl ?_
     exact ⟨hL.ext, rfl⟩
    ·replace h := Go.L.ite_n hc13 h
     refine W_pz 3 rfl ?_
     refine W_if rfl (fun hc17 => ?_) (fun hc17 => ?_)
     ·replace h := Go.L.ite_p hc17 h
      refine W_pz 2 rfl ?_
      refine W_ret ?_
      refine At_block_ret ?_
      refine At_seq_ret ?_
      obtain rfl := Option.some.inj h
      refine At_body rfl rfl ?_
      exact ⟨hL.ext, rfl⟩
     ·replace h := Go.L.ite_n hc17 h
      refine W_skip ?_
      refine At_block ?_
      refine At_seq ?_
      refine W_p 1 rfl ?_
      obtain ⟨x20, hb20, h⟩ := Go.L.bind_some h
      refine S_callL rfl rfl hL (dec_l _ _ (gz_le hH hL) (hU.mono (gz_left hH)) (h0_0.mono (gz_left hH)) hb20) ?_
      rintro _ w21 rfl hx21 hL21 hle21
      refine S_pz 5 rfl ?_
      refine W_seq ?_
      refine W_p 3 rfl ?_
      refine S_and 2 2 rfl rfl rfl rfl rfl rfl ?_
      refine S_seqnil ?_
      refine W_if rfl (fun hc22 => ?_) (fun hc22 => ?_)
      ·replace h := Go.L.ite_p hc22 h
       refine W_pz 2 rfl ?_
       refine W_ret ?_
       refine At_seq_ret ?_
       obtain rfl := Option.some.inj h
       refine At_body rfl rfl ?_
       exact ⟨hL21.ext, rfl⟩
      ·replace h := Go.L.ite_n hc22 h
       refine W_skip ?_
       refine At_seq ?_
       refine W_p 2 rfl ?_
       obtain ⟨hk26, h⟩ := Go.L.chk_some h
       refine S_sliceH rfl rfl underlying22 zr5 h0_0 hk26 rfl ?_
       intro v25 hv25
       refine S_v (r_str rfl underlying22 underlying5 underlying9 hv25 (hH.trans hL21.arg)) rfl ?_
       refine S_pz 3 rfl ?_
       refine W_ret ?_
       obtain rfl := Option.some.inj h
       refine At_body rfl rfl ?_
       exact ⟨hL21.ext, rfl⟩
  ·replace h := Go.L.ite_n (of_decide_eq_false hg7) h
   iterate 2 refine S_unwanted rfl rfl hg7 rfl ?_
   refine S_guarded rfl rfl hg3 ?_
   refine S_v (r_pickF rfl hg7 rfl) rfl ?_
   refine S_v (r_pickF rfl hg3 rfl) rfl ?_
   refine S_pz 1 rfl ?_
   refine W_false rfl ?_
   refine W_p 3 rfl ?_
   refine S_and 2 2 rfl rfl rfl rfl rfl rfl ?_
   refine S_pz 1 rfl ?_
   refine W_if rfl (fun hc28 => ?_) (fun hc28 => ?_)
   ·replace h := Go.L.ite_p hc28 h
    refine W_p 1 rfl ?_
    refine S_v (r_ar8 (b := 65) rfl rfl rfl) rfl ?_
    refine S_v (r_ar8 (b := 97) rfl rfl rfl) rfl ?_
    obtain ⟨hk30, h⟩ := Go.L.chk_some h
    refine S_v (r_b2s rfl underlying5 underlying9 hk30) rfl ?_
    refine S_pz 2 rfl ?_
    refine W_ret ?_
    refine At_block_ret ?_
    refine At_seq_ret ?_
    obtain rfl := Option.some.inj h
    refine At_body rfl rfl ?_
    exact ⟨hL.ext, rfl⟩
   ·replace h := Go.L.ite_n hc28 h
    refine W_pz 3 rfl ?_
    refine W_if rfl (fun hc32 => ?_) (fun hc32 => ?_)
    ·replace h := Go.L.ite_p hc32 h
     refine W_pz 2 rfl ?_
     refine W_ret ?_
     refine At_block_ret ?_
     refine At_seq_ret ?_
     obtain rfl := Option.some.inj h
     refine At_body rfl rfl ?_
     exact ⟨hL.ext, rfl⟩
    ·replace h := Go.L.ite_n hc32 h
     refine W_skip ?_
     refine At_block ?_
     refine At_seq ?_
     refine W_p 1 rfl ?_
     obtain ⟨x35, hb35, h⟩ := Go.L.bind_some h
     refine S_callL rfl rfl hL (dec_l _ _ (gz_le hH hL) (hU.mono (gz_left hH)) (h0_0.mono (gz_left hH)) hb35) ?_
     rintro _ w36 rfl hx36 hL36 hle36
     refine S_pz 5 rfl ?_
     refine W_seq ?_
     refine W_p 3 rfl ?_
     refine S_and 2 2 rfl rfl rfl rfl rfl rfl ?_
     refine S_seqnil ?_
     refine W_if rfl (fun hc37 => ?_) (fun hc37 => ?_)
     ·replace h := Go.L.ite_p hc37 h
      refine W_pz 2 rfl ?_
      refine W_ret ?_
      refine At_seq_ret ?_
      obtain rfl := Option.some.inj h
      refine At_body rfl rfl ?_
      exact ⟨hL36.ext, rfl⟩
     ·replace h := Go.L.ite_n hc37 h
      refine W_skip ?_
      refine At_seq ?_
      refine W_p 2 rfl ?_
      obtain ⟨hk41, h⟩ := Go.L.chk_some h
      refine S_sliceH rfl rfl underlying22 zr5 h0_0 hk41 rfl ?_
      intro v40 hv40
      refine S_v (r_str rfl underlying22 underlying5 underlying9 hv40 (hH.trans hL36.arg)) rfl ?_
      refine S_pz 3 rfl ?_
      refine W_ret ?_
      obtain rfl := Option.some.inj h
      refine At_body rfl rfl ?_
      exact ⟨hL36.ext, rfl⟩
end Go.Proofs.YtdiieblgeaehpaaGreatDoor
