/- Texts of a claim, merged. -/
import Derived.Test.YtmfiaecglndldaaGreatDoorKc2
import Derived.KernelRfl
set_option linter.unusedVariables false
set_option linter.unusedSimpArgs false
section
namespace Go.Proofs.YtmfiaecglndldaaGreatDoor
open Go Go.E Go.RowKit
set_option maxHeartbeats 1000000
set_option maxRecDepth 10000
open _root_.Go.Proofs.Tryz
noncomputable def slices_Index_int_int_k1 : Option (Int) :=
 some ((-1 : Int))
noncomputable def slices_Index_int_int_bl2 (a0 : List Int) (a1 : Int) : Int → Option ((Int) ⊕ (Int)) := fun s8_25 =>
 if s8_25 < (a0.length : Int) then Go.L.chk (0 ≤ s8_25 ∧ s8_25 < (a0.length : Int)) (if a1 = a0.getD s8_25.toNat default then Option.map Sum.inr (some (s8_25)) else Go.L.chk (Go.L.I64 (s8_25 + (1 : Int))) (some (Sum.inl (s8_25 + (1 : Int))))) else Option.map Sum.inr (slices_Index_int_int_k1)
noncomputable def slices_Index_int_int_l2 (a0 : List Int) (a1 : Int) (s : Int) : Option (Int) := Go.L.run (slices_Index_int_int_bl2 a0 a1) s
noncomputable def slices_Index_int_int (a0 : List Int) (a1 : Int) : Option (Int) :=
 (slices_Index_int_int_l2 a0 a1) (0 : Int)
theorem slices_Index_int_int_ok (w : World) (H : PH) (hH : Le H (hp w)) {a0 : List Int} {a1 : Int} {v0_0 : Value} (h0_0 : Vec (.int .i64) H v0_0 (a0)) {r : Int} (h : slices_Index_int_int a0 a1 = some r) :
  Ok Tryz.prog 175 [v0_0, .int .i64 a1] w (fun v w' => Ext w w' ∧ v = .int .i64 r) := by
 refine Ok_enter (n := 19) [(0, v0_0), (1, .int .i64 a1)] func175 rfl rfl rfl rfl rfl ?_
 have hL := Lcl.start w
 refine W_pz 1 rfl ?_
 refine W_cut (σ := Unit) (fun (_ : Unit) => []) (fun (_ : Unit) wr => Lcl w [] wr ∧ slices_Index_int_int_k1 = some r) ?_ ?_
 ·refine W_p 1 rfl ?_
  refine S_v (r_len rfl underlying52 h0_0) rfl ?_
  refine S_pz 1 rfl ?_
  refine W_block ?_
  obtain ⟨n26, h⟩ := Go.L.run_some h
  refine W_loop (σ := Int × Nat) (fun ⟨s8_25, n⟩ => [(0, v0_0), (1, .int .i64 a1), (7, .int .i64 (a0.length : Int)), (8, .int .i64 s8_25)]) (fun ⟨s8_25, n⟩ wr => Lcl w [] wr ∧ Go.L.itr (slices_Index_int_int_bl2 a0 a1) n s8_25 = some r) (fun ⟨s8_25, n⟩ => n) ((0 : Int), n26) (.cons rfl (.cons rfl (.cons rfl (.cons rfl (Sub.nil _))))) ⟨hL, h⟩ ?_
  rintro ⟨s8_25, nn26⟩ wr26 ⟨hL26, h⟩
  obtain ⟨n26, e26, rfl, h, hm26⟩ := Go.L.itr_some h
  refine W_pz 1 rfl ?_
  refine W_seq ?_
  refine W_if rfl (fun hc28 => ?_) (fun hc28 => ?_)
  ·replace h := Go.L.ite_p hc28 h
   refine W_skip ?_
   refine At_seq ?_
   refine W_seq ?_
   refine W_block ?_
   refine W_pz 2 rfl ?_
   refine W_p 3 rfl ?_
   obtain ⟨hk31, h⟩ := Go.L.chk_some h
   refine S_index rfl rfl underlying52 zr3 h0_0 s8_25.toNat (Int.toNat_of_nonneg hk31.1).symm (idx_lt hk31) rfl ?_
   rintro p30 _ rfl hp30
   refine S_v (r_load1 rfl underlying3 rfl hp30 (hH.trans hL26.arg)) rfl ?_
   refine S_pz 1 rfl ?_
   refine W_if rfl (fun hc32 => ?_) (fun hc32 => ?_)
   ·replace h := Go.L.ite_p hc32 h
    refine W_pz 2 rfl ?_
    refine W_ret ?_
    refine At_block_ret ?_
    refine At_seq_ret ?_
    refine At_loop_ret ?_
    replace h := Go.L.Nxt.out h hm26
    refine At_block_ret ?_
    refine At_cut_ret ?_
    obtain rfl := Option.some.inj h
    refine At_body rfl rfl ?_
    exact ⟨hL26.ext, rfl⟩
   ·replace h := Go.L.ite_n hc32 h
    refine W_skip ?_
    refine At_block ?_
    refine At_seq ?_
    refine W_region ?_
    obtain ⟨hk35, h⟩ := Go.L.chk_some h
    refine S_v (r_ar64 rfl rfl rfl hk35) rfl ?_
    refine S_pu 1 rfl ?_
    refine S_nil ?_
    have h := Go.L.Nxt.again h hm26
    refine At_round ((s8_25 + (1 : Int)), n26) (.cons rfl (.cons rfl (.cons rfl (.cons rfl (Sub.nil _))))) ⟨hL26, h⟩ (Nat.lt_succ_self _)
  ·replace h := Go.L.ite_n hc28 h
   refine W_exit ?_
   refine At_seq_exit ?_
   refine At_loop_exit ?_
   replace h := Go.L.Nxt.out h hm26
   refine At_exit ?_
   refine At_cut () (Sub.nil _) ⟨hL26, h⟩
 ·rintro _ wr13 ⟨hL13, h⟩
  refine W_pz 1 rfl ?_
  refine W_ret ?_
  obtain rfl := Option.some.inj h
  refine At_body rfl rfl ?_
  exact ⟨hL13.ext, rfl⟩
noncomputable def slices_Contains_int_int (a0 : List Int) (a1 : Int) : Option (Bool) :=
 Option.bind (slices_Index_int_int a0 a1) (fun x1 => some (decide ((0 : Int) ≤ x1)))
theorem slices_Contains_int_int_ok (w : World) (H : PH) (hH : Le H (hp w)) {a0 : List Int} {a1 : Int} {v0_0 : Value} (h0_0 : Vec (.int .i64) H v0_0 (a0)) {r : Bool} (h : slices_Contains_int_int a0 a1 = some r) :
  Ok Tryz.prog 153 [v0_0, .int .i64 a1] w (fun v w' => Ext w w' ∧ v = .bool r) := by
 refine Ok_enter (n := 9) [(0, v0_0), (1, .int .i64 a1)] func153 rfl rfl rfl rfl rfl ?_
 have hL := Lcl.start w
 refine W_pz 1 rfl ?_
 refine W_p 2 rfl ?_
 obtain ⟨x1, hb1, h⟩ := Go.L.bind_some h
 refine S_callL rfl rfl hL (slices_Index_int_int_ok _ _ (gz_le hH hL) (h0_0.mono (gz_left hH)) hb1) ?_
 rintro _ w2 rfl hx2 hL2 hle2
 refine S_pz 2 rfl ?_
 refine W_ret ?_
 obtain rfl := Option.some.inj h
 refine At_body rfl rfl ?_
 exact ⟨hL2.ext, rfl⟩
noncomputable def slices_Index_string_string_k1 : Option (Int) :=
 some ((-1 : Int))
noncomputable def slices_Index_string_string_bl2 (a0 : List (List UInt8)) (a1 : List UInt8) : Int → Option ((Int) ⊕ (Int)) := fun s8_25 =>
 if s8_25 < (a0.length : Int) then Go.L.chk (0 ≤ s8_25 ∧ s8_25 < (a0.length : Int)) (if a1 = a0.getD s8_25.toNat default then Option.map Sum.inr (some (s8_25)) else Go.L.chk (Go.L.I64 (s8_25 + (1 : Int))) (some (Sum.inl (s8_25 + (1 : Int))))) else Option.map Sum.inr (slices_Index_string_string_k1)
noncomputable def slices_Index_string_string_l2 (a0 : List (List UInt8)) (a1 : List UInt8) (s : Int) : Option (Int) := Go.L.run (slices_Index_string_string_bl2 a0 a1) s
noncomputable def slices_Index_string_string (a0 : List (List UInt8)) (a1 : List UInt8) : Option (Int) :=
 (slices_Index_string_string_l2 a0 a1) (0 : Int)
theorem slices_Index_string_string_ok (w : World) (H : PH) (hH : Le H (hp w)) {a0 : List (List UInt8)} {a1 : List UInt8} {v0_0 : Value} (h0_0 : Vec .st H v0_0 (a0)) {r : Int} (h : slices_Index_string_string a0 a1 = some r) :
  Ok Tryz.prog 176 [v0_0, .string ⟨(a1).toArray⟩] w (fun v w' => Ext w w' ∧ v = .int .i64 r) := by
 refine Ok_enter (n := 19) [(0, v0_0), (1, .string ⟨(a1).toArray⟩)] func176 rfl rfl rfl rfl rfl ?_
 have hL := Lcl.start w
 refine W_pz 1 rfl ?_
 refine W_cut (σ := Unit) (fun (_ : Unit) => []) (fun (_ : Unit) wr => Lcl w [] wr ∧ slices_Index_string_string_k1 = some r) ?_ ?_
 ·refine W_p 1 rfl ?_
  refine S_v (r_len rfl underlying30 h0_0) rfl ?_
  refine S_pz 1 rfl ?_
  refine W_block ?_
  obtain ⟨n26, h⟩ := Go.L.run_some h
  refine W_loop (σ := Int × Nat) (fun ⟨s8_25, n⟩ => [(0, v0_0), (1, .string ⟨(a1).toArray⟩), (7, .int .i64 (a0.length : Int)), (8, .int .i64 s8_25)]) (fun ⟨s8_25, n⟩ wr => Lcl w [] wr ∧ Go.L.itr (slices_Index_string_string_bl2 a0 a1) n s8_25 = some r) (fun ⟨s8_25, n⟩ => n) ((0 : Int), n26) (.cons rfl (.cons rfl (.cons rfl (.cons rfl (Sub.nil _))))) ⟨hL, h⟩ ?_
  rintro ⟨s8_25, nn26⟩ wr26 ⟨hL26, h⟩
  obtain ⟨n26, e26, rfl, h, hm26⟩ := Go.L.itr_some h
  refine W_pz 1 rfl ?_
  refine W_seq ?_
  refine W_if rfl (fun hc28 => ?_) (fun hc28 => ?_)
  ·replace h := Go.L.ite_p hc28 h
   refine W_skip ?_
   refine At_seq ?_
   refine W_seq ?_
   refine W_block ?_
   refine W_pz 2 rfl ?_
   refine W_p 3 rfl ?_
   obtain ⟨hk31, h⟩ := Go.L.chk_some h
   refine S_index rfl rfl underlying30 zr9 h0_0 s8_25.toNat (Int.toNat_of_nonneg hk31.1).symm (idx_lt hk31) rfl ?_
   rintro p30 _ rfl hp30
   refine S_v (r_load1 rfl underlying9 rfl hp30 (hH.trans hL26.arg)) rfl ?_
   refine S_v (r_seq rfl rfl) rfl ?_
   refine S_seqnil ?_
   refine W_if rfl (fun hc32 => ?_) (fun hc32 => ?_)
   ·replace h := Go.L.ite_p hc32 h
    refine W_pz 2 rfl ?_
    refine W_ret ?_
    refine At_block_ret ?_
    refine At_seq_ret ?_
    refine At_loop_ret ?_
    replace h := Go.L.Nxt.out h hm26
    refine At_block_ret ?_
    refine At_cut_ret ?_
    obtain rfl := Option.some.inj h
    refine At_body rfl rfl ?_
    exact ⟨hL26.ext, rfl⟩
   ·replace h := Go.L.ite_n hc32 h
    refine W_skip ?_
    refine At_block ?_
    refine At_seq ?_
    refine W_region ?_
    obtain ⟨hk35, h⟩ := Go.L.chk_some h
    refine S_v (r_ar64 rfl rfl rfl hk35) rfl ?_
    refine S_pu 1 rfl ?_
    refine S_nil ?_
    have h := Go.L.Nxt.again h hm26
    refine At_round ((s8_25 + (1 : Int)), n26) (.cons rfl (.cons rfl (.cons rfl (.cons rfl (Sub.nil _))))) ⟨hL26, h⟩ (Nat.lt_succ_self _)
  ·replace h := Go.L.ite_n hc28 h
   refine W_exit ?_
   refine At_seq_exit ?_
   refine At_loop_exit ?_
   replace h := Go.L.Nxt.out h hm26
   refine At_exit ?_
   refine At_cut () (Sub.nil _) ⟨hL26, h⟩
 ·rintro _ wr13 ⟨hL13, h⟩
  refine W_pz 1 rfl ?_
  refine W_ret ?_
  obtain rfl := Option.some.inj h
  refine At_body rfl rfl ?_
  exact ⟨hL13.ext, rfl⟩
noncomputable def slices_Contains_string_string (a0 : List (List UInt8)) (a1 : List UInt8) : Option (Bool) :=
 Option.bind (slices_Index_string_string a0 a1) (fun x1 => some (decide ((0 : Int) ≤ x1)))
theorem slices_Contains_string_string_ok (w : World) (H : PH) (hH : Le H (hp w)) {a0 : List (List UInt8)} {a1 : List UInt8} {v0_0 : Value} (h0_0 : Vec .st H v0_0 (a0)) {r : Bool} (h : slices_Contains_string_string a0 a1 = some r) :
  Ok Tryz.prog 155 [v0_0, .string ⟨(a1).toArray⟩] w (fun v w' => Ext w w' ∧ v = .bool r) := by
 refine Ok_enter (n := 9) [(0, v0_0), (1, .string ⟨(a1).toArray⟩)] func155 rfl rfl rfl rfl rfl ?_
 have hL := Lcl.start w
 refine W_pz 1 rfl ?_
 refine W_p 2 rfl ?_
 obtain ⟨x1, hb1, h⟩ := Go.L.bind_some h
 refine S_callL rfl rfl hL (slices_Index_string_string_ok _ _ (gz_le hH hL) (h0_0.mono (gz_left hH)) hb1) ?_
 rintro _ w2 rfl hx2 hL2 hle2
 refine S_pz 2 rfl ?_
 refine W_ret ?_
 obtain rfl := Option.some.inj h
 refine At_body rfl rfl ?_
 exact ⟨hL2.ext, rfl⟩
noncomputable def value_checkNode_1 (a0 : List Int) (a1 : Go.L.Pv) : Option (Bool × Go.L.Pv) :=
 Option.bind (slices_Contains_int_int a0 a1.f.1) (fun x2 => some (x2, a1))
theorem value_checkNode_1_fr {w0 w : World} {H : PH} (hH : Le H (hp w0)) {O : List Res} {a0 : List Int} {a1 : Go.L.Pv} {va0 : Value} {ba1 : Nat} {va1_2 : Value} {va1_3 : Value} {va1_4 : Value} (hL : Lcl w0 (HAppend.hAppend ([.box ba1 [.int .i64 a1.f.1, .int .i64 a1.f.2.1, va1_2, va1_3, va1_4] 38] : List Res) O) w) (ha0 : Vec (.int .i64) (gz H w0 w (HAppend.hAppend ([.box ba1 [.int .i64 a1.f.1, .int .i64 a1.f.2.1, va1_2, va1_3, va1_4] 38] : List Res) O)) va0 (a0)) (ha1_2 : Vec .byte (gz H w0 w (HAppend.hAppend ([.box ba1 [.int .i64 a1.f.1, .int .i64 a1.f.2.1, va1_2, va1_3, va1_4] 38] : List Res) O)) va1_2 (a1.f.2.2.1)) (ha1_3 : Vec .st (gz H w0 w (HAppend.hAppend ([.box ba1 [.int .i64 a1.f.1, .int .i64 a1.f.2.1, va1_2, va1_3, va1_4] 38] : List Res) O)) va1_3 (a1.f.2.2.2.1)) (ha1_4 : Vec .tree (gz H w0 w (HAppend.hAppend ([.box ba1 [.int .i64 a1.f.1, .int .i64 a1.f.2.1, va1_2, va1_3, va1_4] 38] : List Res) O)) va1_4 (a1.f.2.2.2.2)) {r : Bool × Go.L.Pv} (h : value_checkNode_1 a0 a1 = some r) :
  Ok Tryz.prog 152 [va0, .pointer (some ⟨ba1, 0, none⟩)] w (fun v w' => ∃ (u3 : Value) (u4 : Value) (u5 : Value), v = .bool r.1 ∧ Lcl w0 (HAppend.hAppend ([.box ba1 [.int .i64 r.2.f.1, .int .i64 r.2.f.2.1, u3, u4, u5] 38] : List Res) O) w' ∧ Le (fz w (HAppend.hAppend ([.box ba1 [.int .i64 a1.f.1, .int .i64 a1.f.2.1, va1_2, va1_3, va1_4] 38] : List Res) O)) (fz w' (HAppend.hAppend ([.box ba1 [.int .i64 r.2.f.1, .int .i64 r.2.f.2.1, u3, u4, u5] 38] : List Res) O)) ∧ Vec .byte (gz H w0 w' (HAppend.hAppend ([.box ba1 [.int .i64 r.2.f.1, .int .i64 r.2.f.2.1, u3, u4, u5] 38] : List Res) O)) u3 (r.2.f.2.2.1) ∧ Vec .st (gz H w0 w' (HAppend.hAppend ([.box ba1 [.int .i64 r.2.f.1, .int .i64 r.2.f.2.1, u3, u4, u5] 38] : List Res) O)) u4 (r.2.f.2.2.2.1) ∧ Vec .tree (gz H w0 w' (HAppend.hAppend ([.box ba1 [.int .i64 r.2.f.1, .int .i64 r.2.f.2.1, u3, u4, u5] 38] : List Res) O)) u5 (r.2.f.2.2.2.2)) := by
 refine Ok_enter (n := 8) [(0, va0), (1, .pointer (some ⟨ba1, 0, none⟩))] func152 rfl rfl rfl rfl rfl ?_
 have hT := Le.refl (fz w (HAppend.hAppend ([.box ba1 [.int .i64 a1.f.1, .int .i64 a1.f.2.1, va1_2, va1_3, va1_4] 38] : List Res) O))
 have hG1 := hL.rG H
 refine W_pz 1 rfl ?_
 refine W_p 1 rfl ?_
 refine S_v (r_field rfl underlying38 rfl zr3 (by decide)) rfl ?_
 refine S_v (r_loadB1 0 rfl underlying3 rfl hL rfl rfl) rfl ?_
 obtain ⟨x2, hb2, h⟩ := Go.L.bind_some h
 refine S_callL rfl rfl hL (slices_Contains_int_int_ok _ _ (gz_le hH hL) (ha0.mono hG1) hb2) ?_
 rintro _ w3 rfl hx3 hL3 hle3
 replace hG1 := hG1.trans (gz_mono hH hle3)
 replace hT := hT.trans hle3
 refine S_pz 1 rfl ?_
 refine W_ret ?_
 obtain rfl := Option.some.inj h
 refine At_body rfl rfl ?_
 exact ⟨va1_2, va1_3, va1_4, rfl, hL3, hT, (ha1_2.mono hG1), (ha1_3.mono hG1), (ha1_4.mono hG1)⟩
noncomputable def value_checkNode_k2 : Option (Int) :=
 some ((0 : Int))
noncomputable def value_checkNode_bl3 (c260 : List (List UInt8)) : Int → Option ((Int) ⊕ (Int)) := fun s76_573 =>
 if s76_573 < (c260.length : Int) then Go.L.chk (0 ≤ s76_573 ∧ s76_573 < (c260.length : Int)) (Go.L.chk (0 ≤ s76_573 ∧ s76_573 ≤ (c260.length : Int)) (Option.bind (slices_Contains_string_string (c260.take s76_573.toNat) (c260.getD s76_573.toNat default)) (fun x583 => if x583 then Option.map Sum.inr (some ((8 : Int))) else Go.L.chk (Go.L.I64 (s76_573 + (1 : Int))) (some (Sum.inl (s76_573 + (1 : Int))))))) else Option.map Sum.inr (value_checkNode_k2)
noncomputable def value_checkNode_l3 (c260 : List (List UInt8)) (s : Int) : Option (Int) := Go.L.run (value_checkNode_bl3 c260) s
noncomputable def value_checkNode_k1 (_c257 : Int) (_c258 : Int) (_c259 : List UInt8) (c260 : List (List UInt8)) (c261 : List Go.L.Pv) (s12_262 : Bool) : Option (Int) :=
 if s12_262 then some ((6 : Int)) else (if (600 : Int) < (c261.length : Int) then some ((14 : Int)) else Option.bind (conf_checkNode_2 c260) (fun x521 => if x521 then some ((7 : Int)) else (value_checkNode_l3 c260) (0 : Int)))
noncomputable def value_checkNode (a0 : Go.L.Pv) : Option (Int) :=
 Option.bind (value_checkNode_1 ([(1 : Int), (2 : Int), (3 : Int), (4 : Int)]) a0) (fun x3 => if !x3.1 then some ((5 : Int)) else (if x3.2.f.2.1 = (0 : Int) then if (0 : Int) < (x3.2.f.2.2.1.length : Int) then Option.bind (value_checkNode_1 ([(2 : Int)]) x3.2) (fun x397 => if !x397.1 then value_checkNode_k1 x397.2.f.1 x397.2.f.2.1 x397.2.f.2.2.1 x397.2.f.2.2.2.1 x397.2.f.2.2.2.2 (!x397.1) else (if (0 : Int) < (x397.2.f.2.2.2.1.length : Int) then Option.bind (value_checkNode_1 ([(4 : Int)]) x397.2) (fun x406 => if !x406.1 then value_checkNode_k1 x406.2.f.1 x406.2.f.2.1 x406.2.f.2.2.1 x406.2.f.2.2.2.1 x406.2.f.2.2.2.2 (!x406.1) else (if (0 : Int) < (x406.2.f.2.2.2.2.length : Int) then Option.bind (value_checkNode_1 ([(3 : Int), (4 : Int)]) x406.2) (fun x415 => if !x415.1 then value_checkNode_k1 x415.2.f.1 x415.2.f.2.1 x415.2.f.2.2.1 x415.2.f.2.2.2.1 x415.2.f.2.2.2.2 (!x415.1) else Option.bind (value_checkNode_1 ([(4 : Int)]) x415.2) (fun x422 => if x422.1 then value_checkNode_k1 x422.2.f.1 x422.2.f.2.1 x422.2.f.2.2.1 x422.2.f.2.2.2.1 x422.2.f.2.2.2.2 (!decide ((x422.2.f.2.2.2.1.length : Int) = (x422.2.f.2.2.2.2.length : Int))) else value_checkNode_k1 x422.2.f.1 x422.2.f.2.1 x422.2.f.2.2.1 x422.2.f.2.2.2.1 x422.2.f.2.2.2.2 false)) else Option.bind (value_checkNode_1 ([(4 : Int)]) x406.2) (fun x429 => if x429.1 then value_checkNode_k1 x429.2.f.1 x429.2.f.2.1 x429.2.f.2.2.1 x429.2.f.2.2.2.1 x429.2.f.2.2.2.2 (!decide ((x429.2.f.2.2.2.1.length : Int) = (x429.2.f.2.2.2.2.length : Int))) else value_checkNode_k1 x429.2.f.1 x429.2.f.2.1 x429.2.f.2.2.1 x429.2.f.2.2.2.1 x429.2.f.2.2.2.2 false))) else if (0 : Int) < (x397.2.f.2.2.2.2.length : Int) then Option.bind (value_checkNode_1 ([(3 : Int), (4 : Int)]) x397.2) (fun x438 => if !x438.1 then value_checkNode_k1 x438.2.f.1 x438.2.f.2.1 x438.2.f.2.2.1 x438.2.f.2.2.2.1 x438.2.f.2.2.2.2 (!x438.1) else Option.bind (value_checkNode_1 ([(4 : Int)]) x438.2) (fun x445 => if x445.1 then value_checkNode_k1 x445.2.f.1 x445.2.f.2.1 x445.2.f.2.2.1 x445.2.f.2.2.2.1 x445.2.f.2.2.2.2 (!decide ((x445.2.f.2.2.2.1.length : Int) = (x445.2.f.2.2.2.2.length : Int))) else value_checkNode_k1 x445.2.f.1 x445.2.f.2.1 x445.2.f.2.2.1 x445.2.f.2.2.2.1 x445.2.f.2.2.2.2 false)) else Option.bind (value_checkNode_1 ([(4 : Int)]) x397.2) (fun x452 => if x452.1 then value_checkNode_k1 x452.2.f.1 x452.2.f.2.1 x452.2.f.2.2.1 x452.2.f.2.2.2.1 x452.2.f.2.2.2.2 (!decide ((x452.2.f.2.2.2.1.length : Int) = (x452.2.f.2.2.2.2.length : Int))) else value_checkNode_k1 x452.2.f.1 x452.2.f.2.1 x452.2.f.2.2.1 x452.2.f.2.2.2.1 x452.2.f.2.2.2.2 false))) else if (0 : Int) < (x3.2.f.2.2.2.1.length : Int) then Option.bind (value_checkNode_1 ([(4 : Int)]) x3.2) (fun x461 => if !x461.1 then value_checkNode_k1 x461.2.f.1 x461.2.f.2.1 x461.2.f.2.2.1 x461.2.f.2.2.2.1 x461.2.f.2.2.2.2 (!x461.1) else (if (0 : Int) < (x461.2.f.2.2.2.2.length : Int) then Option.bind (value_checkNode_1 ([(3 : Int), (4 : Int)]) x461.2) (fun x470 => if !x470.1 then value_checkNode_k1 x470.2.f.1 x470.2.f.2.1 x470.2.f.2.2.1 x470.2.f.2.2.2.1 x470.2.f.2.2.2.2 (!x470.1) else Option.bind (value_checkNode_1 ([(4 : Int)]) x470.2) (fun x477 => if x477.1 then value_checkNode_k1 x477.2.f.1 x477.2.f.2.1 x477.2.f.2.2.1 x477.2.f.2.2.2.1 x477.2.f.2.2.2.2 (!decide ((x477.2.f.2.2.2.1.length : Int) = (x477.2.f.2.2.2.2.length : Int))) else value_checkNode_k1 x477.2.f.1 x477.2.f.2.1 x477.2.f.2.2.1 x477.2.f.2.2.2.1 x477.2.f.2.2.2.2 false)) else Option.bind (value_checkNode_1 ([(4 : Int)]) x461.2) (fun x484 => if x484.1 then value_checkNode_k1 x484.2.f.1 x484.2.f.2.1 x484.2.f.2.2.1 x484.2.f.2.2.2.1 x484.2.f.2.2.2.2 (!decide ((x484.2.f.2.2.2.1.length : Int) = (x484.2.f.2.2.2.2.length : Int))) else value_checkNode_k1 x484.2.f.1 x484.2.f.2.1 x484.2.f.2.2.1 x484.2.f.2.2.2.1 x484.2.f.2.2.2.2 false))) else if (0 : Int) < (x3.2.f.2.2.2.2.length : Int) then Option.bind (value_checkNode_1 ([(3 : Int), (4 : Int)]) x3.2) (fun x493 => if !x493.1 then value_checkNode_k1 x493.2.f.1 x493.2.f.2.1 x493.2.f.2.2.1 x493.2.f.2.2.2.1 x493.2.f.2.2.2.2 (!x493.1) else Option.bind (value_checkNode_1 ([(4 : Int)]) x493.2) (fun x500 => if x500.1 then value_checkNode_k1 x500.2.f.1 x500.2.f.2.1 x500.2.f.2.2.1 x500.2.f.2.2.2.1 x500.2.f.2.2.2.2 (!decide ((x500.2.f.2.2.2.1.length : Int) = (x500.2.f.2.2.2.2.length : Int))) else value_checkNode_k1 x500.2.f.1 x500.2.f.2.1 x500.2.f.2.2.1 x500.2.f.2.2.2.1 x500.2.f.2.2.2.2 false)) else Option.bind (value_checkNode_1 ([(4 : Int)]) x3.2) (fun x507 => if x507.1 then value_checkNode_k1 x507.2.f.1 x507.2.f.2.1 x507.2.f.2.2.1 x507.2.f.2.2.2.1 x507.2.f.2.2.2.2 (!decide ((x507.2.f.2.2.2.1.length : Int) = (x507.2.f.2.2.2.2.length : Int))) else value_checkNode_k1 x507.2.f.1 x507.2.f.2.1 x507.2.f.2.2.1 x507.2.f.2.2.2.1 x507.2.f.2.2.2.2 false) else Option.bind (value_checkNode_1 ([(1 : Int)]) x3.2) (fun x269 => if !x269.1 then value_checkNode_k1 x269.2.f.1 x269.2.f.2.1 x269.2.f.2.2.1 x269.2.f.2.2.2.1 x269.2.f.2.2.2.2 (!x269.1) else (if (0 : Int) < (x269.2.f.2.2.1.length : Int) then Option.bind (value_checkNode_1 ([(2 : Int)]) x269.2) (fun x278 => if !x278.1 then value_checkNode_k1 x278.2.f.1 x278.2.f.2.1 x278.2.f.2.2.1 x278.2.f.2.2.2.1 x278.2.f.2.2.2.2 (!x278.1) else (if (0 : Int) < (x278.2.f.2.2.2.1.length : Int) then Option.bind (value_checkNode_1 ([(4 : Int)]) x278.2) (fun x287 => if !x287.1 then value_checkNode_k1 x287.2.f.1 x287.2.f.2.1 x287.2.f.2.2.1 x287.2.f.2.2.2.1 x287.2.f.2.2.2.2 (!x287.1) else (if (0 : Int) < (x287.2.f.2.2.2.2.length : Int) then Option.bind (value_checkNode_1 ([(3 : Int), (4 : Int)]) x287.2) (fun x296 => if !x296.1 then value_checkNode_k1 x296.2.f.1 x296.2.f.2.1 x296.2.f.2.2.1 x296.2.f.2.2.2.1 x296.2.f.2.2.2.2 (!x296.1) else Option.bind (value_checkNode_1 ([(4 : Int)]) x296.2) (fun x303 => if x303.1 then value_checkNode_k1 x303.2.f.1 x303.2.f.2.1 x303.2.f.2.2.1 x303.2.f.2.2.2.1 x303.2.f.2.2.2.2 (!decide ((x303.2.f.2.2.2.1.length : Int) = (x303.2.f.2.2.2.2.length : Int))) else value_checkNode_k1 x303.2.f.1 x303.2.f.2.1 x303.2.f.2.2.1 x303.2.f.2.2.2.1 x303.2.f.2.2.2.2 false)) else Option.bind (value_checkNode_1 ([(4 : Int)]) x287.2) (fun x310 => if x310.1 then value_checkNode_k1 x310.2.f.1 x310.2.f.2.1 x310.2.f.2.2.1 x310.2.f.2.2.2.1 x310.2.f.2.2.2.2 (!decide ((x310.2.f.2.2.2.1.length : Int) = (x310.2.f.2.2.2.2.length : Int))) else value_checkNode_k1 x310.2.f.1 x310.2.f.2.1 x310.2.f.2.2.1 x310.2.f.2.2.2.1 x310.2.f.2.2.2.2 false))) else if (0 : Int) < (x278.2.f.2.2.2.2.length : Int) then Option.bind (value_checkNode_1 ([(3 : Int), (4 : Int)]) x278.2) (fun x319 => if !x319.1 then value_checkNode_k1 x319.2.f.1 x319.2.f.2.1 x319.2.f.2.2.1 x319.2.f.2.2.2.1 x319.2.f.2.2.2.2 (!x319.1) else Option.bind (value_checkNode_1 ([(4 : Int)]) x319.2) (fun x326 => if x326.1 then value_checkNode_k1 x326.2.f.1 x326.2.f.2.1 x326.2.f.2.2.1 x326.2.f.2.2.2.1 x326.2.f.2.2.2.2 (!decide ((x326.2.f.2.2.2.1.length : Int) = (x326.2.f.2.2.2.2.length : Int))) else value_checkNode_k1 x326.2.f.1 x326.2.f.2.1 x326.2.f.2.2.1 x326.2.f.2.2.2.1 x326.2.f.2.2.2.2 false)) else Option.bind (value_checkNode_1 ([(4 : Int)]) x278.2) (fun x333 => if x333.1 then value_checkNode_k1 x333.2.f.1 x333.2.f.2.1 x333.2.f.2.2.1 x333.2.f.2.2.2.1 x333.2.f.2.2.2.2 (!decide ((x333.2.f.2.2.2.1.length : Int) = (x333.2.f.2.2.2.2.length : Int))) else value_checkNode_k1 x333.2.f.1 x333.2.f.2.1 x333.2.f.2.2.1 x333.2.f.2.2.2.1 x333.2.f.2.2.2.2 false))) else if (0 : Int) < (x269.2.f.2.2.2.1.length : Int) then Option.bind (value_checkNode_1 ([(4 : Int)]) x269.2) (fun x342 => if !x342.1 then value_checkNode_k1 x342.2.f.1 x342.2.f.2.1 x342.2.f.2.2.1 x342.2.f.2.2.2.1 x342.2.f.2.2.2.2 (!x342.1) else (if (0 : Int) < (x342.2.f.2.2.2.2.length : Int) then Option.bind (value_checkNode_1 ([(3 : Int), (4 : Int)]) x342.2) (fun x351 => if !x351.1 then value_checkNode_k1 x351.2.f.1 x351.2.f.2.1 x351.2.f.2.2.1 x351.2.f.2.2.2.1 x351.2.f.2.2.2.2 (!x351.1) else Option.bind (value_checkNode_1 ([(4 : Int)]) x351.2) (fun x358 => if x358.1 then value_checkNode_k1 x358.2.f.1 x358.2.f.2.1 x358.2.f.2.2.1 x358.2.f.2.2.2.1 x358.2.f.2.2.2.2 (!decide ((x358.2.f.2.2.2.1.length : Int) = (x358.2.f.2.2.2.2.length : Int))) else value_checkNode_k1 x358.2.f.1 x358.2.f.2.1 x358.2.f.2.2.1 x358.2.f.2.2.2.1 x358.2.f.2.2.2.2 false)) else Option.bind (value_checkNode_1 ([(4 : Int)]) x342.2) (fun x365 => if x365.1 then value_checkNode_k1 x365.2.f.1 x365.2.f.2.1 x365.2.f.2.2.1 x365.2.f.2.2.2.1 x365.2.f.2.2.2.2 (!decide ((x365.2.f.2.2.2.1.length : Int) = (x365.2.f.2.2.2.2.length : Int))) else value_checkNode_k1 x365.2.f.1 x365.2.f.2.1 x365.2.f.2.2.1 x365.2.f.2.2.2.1 x365.2.f.2.2.2.2 false))) else if (0 : Int) < (x269.2.f.2.2.2.2.length : Int) then Option.bind (value_checkNode_1 ([(3 : Int), (4 : Int)]) x269.2) (fun x374 => if !x374.1 then value_checkNode_k1 x374.2.f.1 x374.2.f.2.1 x374.2.f.2.2.1 x374.2.f.2.2.2.1 x374.2.f.2.2.2.2 (!x374.1) else Option.bind (value_checkNode_1 ([(4 : Int)]) x374.2) (fun x381 => if x381.1 then value_checkNode_k1 x381.2.f.1 x381.2.f.2.1 x381.2.f.2.2.1 x381.2.f.2.2.2.1 x381.2.f.2.2.2.2 (!decide ((x381.2.f.2.2.2.1.length : Int) = (x381.2.f.2.2.2.2.length : Int))) else value_checkNode_k1 x381.2.f.1 x381.2.f.2.1 x381.2.f.2.2.1 x381.2.f.2.2.2.1 x381.2.f.2.2.2.2 false)) else Option.bind (value_checkNode_1 ([(4 : Int)]) x269.2) (fun x388 => if x388.1 then value_checkNode_k1 x388.2.f.1 x388.2.f.2.1 x388.2.f.2.2.1 x388.2.f.2.2.2.1 x388.2.f.2.2.2.2 (!decide ((x388.2.f.2.2.2.1.length : Int) = (x388.2.f.2.2.2.2.length : Int))) else value_checkNode_k1 x388.2.f.1 x388.2.f.2.1 x388.2.f.2.2.1 x388.2.f.2.2.2.1 x388.2.f.2.2.2.2 false)))))
theorem value_checkNode_ok (w : World) (H : PH) (hH : Le H (hp w)) {a0 : Go.L.Pv} {v0_0 : Value} {v0_1 : Value} {v0_2 : Value} (h0_0 : Vec .byte H v0_0 (a0.f.2.2.1)) (h0_1 : Vec .st H v0_1 (a0.f.2.2.2.1)) (h0_2 : Vec .tree H v0_2 (a0.f.2.2.2.2)) {r : Int} (h : value_checkNode a0 = some r) :
  Ok Tryz.prog 130 [.agg #[.int .i64 a0.f.1, .int .i64 a0.f.2.1, v0_0, v0_1, v0_2]] w (fun v w' => Ext w w' ∧ v = .int .i64 r) := by
 refine Ok_enter (n := 88) [(0, .agg #[.int .i64 a0.f.1, .int .i64 a0.f.2.1, v0_0, v0_1, v0_2])] func130 rfl rfl rfl rfl rfl ?_
 have hL := Lcl.start w
 refine W_seqr ?_
 refine S_box (t := 38) rfl rfl rfl hL ?_
 intro w1 b1 hL1 hle1 _
 refine S_pz 1 rfl ?_
 refine W_pz 2 rfl ?_
 refine W_seq ?_
 refine W_block ?_
 refine W_p 1 rfl ?_
 refine S_litE (r := (.int .i64)) (l := [(1 : Int), (2 : Int), (3 : Int), (4 : Int)]) rfl (fun _ => bsl52_4 _ _ _ _ _) rfl (show 4 ≤ 9223372036854775807 by decide) hH hL1 (.c1 rfl (.c1 rfl (.c1 rfl (.c1 rfl .nil)))) ?_
 intro v2 w2 hx2 hL2 hle2 hv2
 obtain ⟨x3, hb3, h⟩ := Go.L.bind_some h
 refine S_callv rfl rfl rfl (value_checkNode_1_fr (a0 := ([(1 : Int), (2 : Int), (3 : Int), (4 : Int)])) (a1 := a0) (O := []) hH hL2 hv2 (h0_0.mono (gz_left hH)) (h0_1.mono (gz_left hH)) (h0_2.mono (gz_left hH)) hb3) ?_
 rintro _ w4 ⟨u4_3, u4_4, u4_5, rfl, hL4, hle4, hf4_3, hf4_4, hf4_5⟩
 replace hv2 := hv2.mono (gz_mono hH hle4)
 refine S_pz 2 rfl ?_
 refine W_cond rfl (fun hc5 => ?_) (fun hc5 => ?_)
 ·replace h := Go.L.ite_t hc5 h
  have hG7 := hL4.rG H
  refine W_pz 1 rfl ?_
  refine W_ret ?_
  refine At_block_ret ?_
  refine At_seq_ret ?_
  obtain rfl := Option.some.inj h
  refine At_body rfl rfl ?_
  exact ⟨hL4.ext, rfl⟩
 ·replace h := Go.L.ite_f hc5 h
  refine W_cut (σ := Int × Int × (List UInt8) × (List (List UInt8)) × (List Go.L.Pv) × Bool × Value × Value × Value) (fun ⟨c257, c258, c259, c260, c261, s12_262, vc259, vc260, vc261⟩ => [(1, .pointer (some ⟨b1, 0, none⟩)), (12, .bool s12_262)]) (fun ⟨c257, c258, c259, c260, c261, s12_262, vc259, vc260, vc261⟩ wr => InO w [.box b1 [.int .i64 c257, .int .i64 c258, vc259, vc260, vc261] 38] wr fun Oz => Vec .byte (gz H w wr Oz) (vc259) (c259) ∧ Vec .st (gz H w wr Oz) (vc260) (c260) ∧ Vec .tree (gz H w wr Oz) (vc261) (c261) ∧ value_checkNode_k1 c257 c258 c259 c260 c261 s12_262 = some r) ?_ ?_
  ·have hG265 := hL4.rG H
   refine W_seqr ?_
   refine S_v (r_field rfl underlying38 rfl zr3 (by decide)) rfl ?_
   refine S_v (r_loadB1 0 rfl underlying3 rfl hL4 rfl rfl) rfl ?_
   refine S_pu 2 rfl ?_
   refine S_split (s := 16) rfl (fun hg266 => ?_) (fun hg266 => ?_)
   ·replace h := Go.L.ite_n (not_dec_t hg266) h
    refine S_guarded rfl rfl hg266 ?_
    refine S_v (RunsAt_pu rfl) rfl ?_
    refine S_guarded rfl rfl hg266 ?_
    refine S_litE (r := (.int .i64)) (l := [(1 : Int)]) rfl (fun _ => bsl52_1 _ _) rfl (show 1 ≤ 9223372036854775807 by decide) hH hL4 (.c1 rfl .nil) ?_
    intro v268 w268 hx268 hL268 hle268 hv268
    replace hG265 := hG265.trans (gz_mono hH hle268)
    refine S_guarded rfl rfl hg266 ?_
    obtain ⟨x269, hb269, h⟩ := Go.L.bind_some h
    refine S_callv rfl rfl rfl (value_checkNode_1_fr (a0 := ([(1 : Int)])) (a1 := x3.2) (O := []) hH hL268 hv268 (hf4_3.mono hG265) (hf4_4.mono hG265) (hf4_5.mono hG265) hb269) ?_
    rintro _ w270 ⟨u270_3, u270_4, u270_5, rfl, hL270, hle270, hf270_3, hf270_4, hf270_5⟩
    replace hv268 := hv268.mono (gz_mono hH hle270)
    replace hG265 := hG265.trans (gz_mono hH hle270)
    refine S_guarded rfl rfl hg266 ?_
    refine S_v (RunsAt_pu rfl) rfl ?_
    refine S_v (r_pickT rfl hg266 rfl) rfl ?_
    refine S_pz 1 rfl ?_
    refine W_cond rfl (fun hc271 => ?_) (fun hc271 => ?_)
    ·replace h := Go.L.ite_t hc271 h
     refine W_skip ?_
     refine At_cut (x269.2.f.1, x269.2.f.2.1, x269.2.f.2.2.1, x269.2.f.2.2.2.1, x269.2.f.2.2.2.2, !x269.1, u270_3, u270_4, u270_5) (.cons rfl (.cons rfl (Sub.nil _))) ⟨hL270, hf270_3, hf270_4, hf270_5, h⟩
    ·replace h := Go.L.ite_f hc271 h
     have hG274 := hL270.rG H
     refine W_seqr ?_
     refine S_v (r_field rfl underlying38 rfl zr35 (by decide)) rfl ?_
     refine S_v (r_loadB1 0 rfl underlying35 rfl hL270 rfl rfl) rfl ?_
     refine S_v (r_len rfl underlying35 (hf270_3.mono hG274)) rfl ?_
     refine S_pu 2 rfl ?_
     refine S_split (s := 26) rfl (fun hg275 => ?_) (fun hg275 => ?_)
     ·replace h := Go.L.ite_p (of_decide_eq_true hg275) h
      refine S_guarded rfl rfl hg275 ?_
      refine S_v (RunsAt_pu rfl) rfl ?_
      refine S_guarded rfl rfl hg275 ?_
      refine S_litE (r := (.int .i64)) (l := [(2 : Int)]) rfl (fun _ => bsl52_1 _ _) rfl (show 1 ≤ 9223372036854775807 by decide) hH hL270 (.c1 rfl .nil) ?_
      intro v277 w277 hx277 hL277 hle277 hv277
      replace hG274 := hG274.trans (gz_mono hH hle277)
      refine S_guarded rfl rfl hg275 ?_
      obtain ⟨x278, hb278, h⟩ := Go.L.bind_some h
      refine S_callv rfl rfl rfl (value_checkNode_1_fr (a0 := ([(2 : Int)])) (a1 := x269.2) (O := []) hH hL277 hv277 (hf270_3.mono hG274) (hf270_4.mono hG274) (hf270_5.mono hG274) hb278) ?_
      rintro _ w279 ⟨u279_3, u279_4, u279_5, rfl, hL279, hle279, hf279_3, hf279_4, hf279_5⟩
      replace hv277 := hv277.mono (gz_mono hH hle279)
      replace hG274 := hG274.trans (gz_mono hH hle279)
      refine S_guarded rfl rfl hg275 ?_
      refine S_v (RunsAt_pu rfl) rfl ?_
      refine S_v (r_pickT rfl hg275 rfl) rfl ?_
      refine S_pz 1 rfl ?_
      refine W_cond rfl (fun hc280 => ?_) (fun hc280 => ?_)
      ·replace h := Go.L.ite_t hc280 h
       refine W_skip ?_
       refine At_cut (x278.2.f.1, x278.2.f.2.1, x278.2.f.2.2.1, x278.2.f.2.2.2.1, x278.2.f.2.2.2.2, !x278.1, u279_3, u279_4, u279_5) (.cons rfl (.cons rfl (Sub.nil _))) ⟨hL279, hf279_3, hf279_4, hf279_5, h⟩
      ·replace h := Go.L.ite_f hc280 h
       have hG283 := hL279.rG H
       refine W_seqr ?_
       refine S_v (r_field rfl underlying38 rfl zr30 (by decide)) rfl ?_
       refine S_v (r_loadB1 0 rfl underlying30 rfl hL279 rfl rfl) rfl ?_
       refine S_v (r_len rfl underlying30 (hf279_4.mono hG283)) rfl ?_
       refine S_pu 2 rfl ?_
       refine S_split (s := 36) rfl (fun hg284 => ?_) (fun hg284 => ?_)
       ·replace h := Go.L.ite_p (of_decide_eq_true hg284) h
        refine S_guarded rfl rfl hg284 ?_
        refine S_v (RunsAt_pu rfl) rfl ?_
        refine S_guarded rfl rfl hg284 ?_
        refine S_litE (r := (.int .i64)) (l := [(4 : Int)]) rfl (fun _ => bsl52_1 _ _) rfl (show 1 ≤ 9223372036854775807 by decide) hH hL279 (.c1 rfl .nil) ?_
        intro v286 w286 hx286 hL286 hle286 hv286
        replace hG283 := hG283.trans (gz_mono hH hle286)
        refine S_guarded rfl rfl hg284 ?_
        obtain ⟨x287, hb287, h⟩ := Go.L.bind_some h
        refine S_callv rfl rfl rfl (value_checkNode_1_fr (a0 := ([(4 : Int)])) (a1 := x278.2) (O := []) hH hL286 hv286 (hf279_3.mono hG283) (hf279_4.mono hG283) (hf279_5.mono hG283) hb287) ?_
        rintro _ w288 ⟨u288_3, u288_4, u288_5, rfl, hL288, hle288, hf288_3, hf288_4, hf288_5⟩
        replace hv286 := hv286.mono (gz_mono hH hle288)
        replace hG283 := hG283.trans (gz_mono hH hle288)
        refine S_guarded rfl rfl hg284 ?_
        refine S_v (RunsAt_pu rfl) rfl ?_
        refine S_v (r_pickT rfl hg284 rfl) rfl ?_
        refine S_pz 1 rfl ?_
        refine W_cond rfl (fun hc289 => ?_) (fun hc289 => ?_)
        ·replace h := Go.L.ite_t hc289 h
         refine W_skip ?_
         refine At_cut (x287.2.f.1, x287.2.f.2.1, x287.2.f.2.2.1, x287.2.f.2.2.2.1, x287.2.f.2.2.2.2, !x287.1, u288_3, u288_4, u288_5) (.cons rfl (.cons rfl (Sub.nil _))) ⟨hL288, hf288_3, hf288_4, hf288_5, h⟩
        ·replace h := Go.L.ite_f hc289 h
         have hG292 := hL288.rG H
         refine W_seqr ?_
         refine S_v (r_field rfl underlying38 rfl zr36 (by decide)) rfl ?_
         refine S_v (r_loadB1 0 rfl underlying36 rfl hL288 rfl rfl) rfl ?_
         refine S_v (r_len rfl underlying36 (hf288_5.mono hG292)) rfl ?_
         refine S_pu 2 rfl ?_
         refine S_split (s := 46) rfl (fun hg293 => ?_) (fun hg293 => ?_)
         ·replace h := Go.L.ite_p (of_decide_eq_true hg293) h
          refine S_guarded rfl rfl hg293 ?_
          refine S_v (RunsAt_pu rfl) rfl ?_
          refine S_guarded rfl rfl hg293 ?_
          refine S_litE (r := (.int .i64)) (l := [(3 : Int), (4 : Int)]) rfl (fun _ => bsl52_2 _ _ _) rfl (show 2 ≤ 9223372036854775807 by decide) hH hL288 (.c1 rfl (.c1 rfl .nil)) ?_
          intro v295 w295 hx295 hL295 hle295 hv295
          replace hG292 := hG292.trans (gz_mono hH hle295)
          refine S_guarded rfl rfl hg293 ?_
          obtain ⟨x296, hb296, h⟩ := Go.L.bind_some h
          refine S_callv rfl rfl rfl (value_checkNode_1_fr (a0 := ([(3 : Int), (4 : Int)])) (a1 := x287.2) (O := []) hH hL295 hv295 (hf288_3.mono hG292) (hf288_4.mono hG292) (hf288_5.mono hG292) hb296) ?_
          rintro _ w297 ⟨u297_3, u297_4, u297_5, rfl, hL297, hle297, hf297_3, hf297_4, hf297_5⟩
          replace hv295 := hv295.mono (gz_mono hH hle297)
          replace hG292 := hG292.trans (gz_mono hH hle297)
          refine S_guarded rfl rfl hg293 ?_
          refine S_v (RunsAt_pu rfl) rfl ?_
          refine S_v (r_pickT rfl hg293 rfl) rfl ?_
          refine S_pz 1 rfl ?_
          refine W_cond rfl (fun hc298 => ?_) (fun hc298 => ?_)
          ·replace h := Go.L.ite_t hc298 h
           refine W_skip ?_
           refine At_cut (x296.2.f.1, x296.2.f.2.1, x296.2.f.2.2.1, x296.2.f.2.2.2.1, x296.2.f.2.2.2.2, !x296.1, u297_3, u297_4, u297_5) (.cons rfl (.cons rfl (Sub.nil _))) ⟨hL297, hf297_3, hf297_4, hf297_5, h⟩
          ·replace h := Go.L.ite_f hc298 h
           have hG301 := hL297.rG H
           refine W_region ?_
           refine S_pu 1 rfl ?_
           refine S_litE (r := (.int .i64)) (l := [(4 : Int)]) rfl (fun _ => bsl52_1 _ _) rfl (show 1 ≤ 9223372036854775807 by decide) hH hL297 (.c1 rfl .nil) ?_
           intro v302 w302 hx302 hL302 hle302 hv302
           replace hG301 := hG301.trans (gz_mono hH hle302)
           obtain ⟨x303, hb303, h⟩ := Go.L.bind_some h
           refine S_callv rfl rfl rfl (value_checkNode_1_fr (a0 := ([(4 : Int)])) (a1 := x296.2) (O := []) hH hL302 hv302 (hf297_3.mono hG301) (hf297_4.mono hG301) (hf297_5.mono hG301) hb303) ?_
           rintro _ w304 ⟨u304_3, u304_4, u304_5, rfl, hL304, hle304, hf304_3, hf304_4, hf304_5⟩
           replace hv302 := hv302.mono (gz_mono hH hle304)
           replace hG301 := hG301.trans (gz_mono hH hle304)
           refine S_pu 1 rfl ?_
           refine S_split (s := 55) rfl (fun hg305 => ?_) (fun hg305 => ?_)
           ·replace h := Go.L.ite_t hg305 h
            refine S_guarded rfl rfl hg305 ?_
            refine S_v (r_field rfl underlying38 rfl zr30 (by decide)) rfl ?_
            refine S_guarded rfl rfl hg305 ?_
            refine S_v (r_loadB1 0 rfl underlying30 rfl hL304 rfl rfl) rfl ?_
            refine S_guarded rfl rfl hg305 ?_
            refine S_v (r_len rfl underlying30 hf304_4) rfl ?_
            refine S_guarded rfl rfl hg305 ?_
            refine S_v (r_field rfl underlying38 rfl zr36 (by decide)) rfl ?_
            refine S_guarded rfl rfl hg305 ?_
            refine S_v (r_loadB1 0 rfl underlying36 rfl hL304 rfl rfl) rfl ?_
            refine S_guarded rfl rfl hg305 ?_
            refine S_v (r_len rfl underlying36 hf304_5) rfl ?_
            refine S_guarded rfl rfl hg305 ?_
            refine S_v (RunsAt_pu rfl) rfl ?_
            refine S_v (r_pickT rfl hg305 rfl) rfl ?_
            refine S_pu 1 rfl ?_
            refine S_nil ?_
            refine At_cut (x303.2.f.1, x303.2.f.2.1, x303.2.f.2.2.1, x303.2.f.2.2.2.1, x303.2.f.2.2.2.2, !decide ((x303.2.f.2.2.2.1.length : Int) = (x303.2.f.2.2.2.2.length : Int)), u304_3, u304_4, u304_5) (.cons rfl (.cons rfl (Sub.nil _))) ⟨hL304, hf304_3, hf304_4, hf304_5, h⟩
           ·replace h := Go.L.ite_f hg305 h
            iterate 7 refine S_unwanted rfl rfl hg305 rfl ?_
            refine S_v (r_pickF rfl hg305 rfl) rfl ?_
            refine S_pu 1 rfl ?_
            refine S_nil ?_
            refine At_cut (x303.2.f.1, x303.2.f.2.1, x303.2.f.2.2.1, x303.2.f.2.2.2.1, x303.2.f.2.2.2.2, false, u304_3, u304_4, u304_5) (.cons rfl (.cons rfl (Sub.nil _))) ⟨hL304, hf304_3, hf304_4, hf304_5, h⟩
         ·replace h := Go.L.ite_n (of_decide_eq_false hg293) h
          iterate 4 refine S_unwanted rfl rfl hg293 rfl ?_
          refine S_v (r_pickF rfl hg293 rfl) rfl ?_
          refine S_pz 1 rfl ?_
          refine W_false rfl ?_
          refine W_region ?_
          refine S_pu 1 rfl ?_
          refine S_litE (r := (.int .i64)) (l := [(4 : Int)]) rfl (fun _ => bsl52_1 _ _) rfl (show 1 ≤ 9223372036854775807 by decide) hH hL288 (.c1 rfl .nil) ?_
          intro v309 w309 hx309 hL309 hle309 hv309
          replace hG292 := hG292.trans (gz_mono hH hle309)
          obtain ⟨x310, hb310, h⟩ := Go.L.bind_some h
          refine S_callv rfl rfl rfl (value_checkNode_1_fr (a0 := ([(4 : Int)])) (a1 := x287.2) (O := []) hH hL309 hv309 (hf288_3.mono hG292) (hf288_4.mono hG292) (hf288_5.mono hG292) hb310) ?_
          rintro _ w311 ⟨u311_3, u311_4, u311_5, rfl, hL311, hle311, hf311_3, hf311_4, hf311_5⟩
          replace hv309 := hv309.mono (gz_mono hH hle311)
          replace hG292 := hG292.trans (gz_mono hH hle311)
          refine S_pu 1 rfl ?_
          refine S_split (s := 55) rfl (fun hg312 => ?_) (fun hg312 => ?_)
          ·replace h := Go.L.ite_t hg312 h
           refine S_guarded rfl rfl hg312 ?_
           refine S_v (r_field rfl underlying38 rfl zr30 (by decide)) rfl ?_
           refine S_guarded rfl rfl hg312 ?_
           refine S_v (r_loadB1 0 rfl underlying30 rfl hL311 rfl rfl) rfl ?_
           refine S_guarded rfl rfl hg312 ?_
           refine S_v (r_len rfl underlying30 hf311_4) rfl ?_
           refine S_guarded rfl rfl hg312 ?_
           refine S_v (r_field rfl underlying38 rfl zr36 (by decide)) rfl ?_
           refine S_guarded rfl rfl hg312 ?_
           refine S_v (r_loadB1 0 rfl underlying36 rfl hL311 rfl rfl) rfl ?_
           refine S_guarded rfl rfl hg312 ?_
           refine S_v (r_len rfl underlying36 hf311_5) rfl ?_
           refine S_guarded rfl rfl hg312 ?_
           refine S_v (RunsAt_pu rfl) rfl ?_
           refine S_v (r_pickT rfl hg312 rfl) rfl ?_
           refine S_pu 1 rfl ?_
           refine S_nil ?_
           refine At_cut (x310.2.f.1, x310.2.f.2.1, x310.2.f.2.2.1, x310.2.f.2.2.2.1, x310.2.f.2.2.2.2, !decide ((x310.2.f.2.2.2.1.length : Int) = (x310.2.f.2.2.2.2.length : Int)), u311_3, u311_4, u311_5) (.cons rfl (.cons rfl (Sub.nil _))) ⟨hL311, hf311_3, hf311_4, hf311_5, h⟩
          ·replace h := Go.L.ite_f hg312 h
           iterate 7 refine S_unwanted rfl rfl hg312 rfl ?_
           refine S_v (r_pickF rfl hg312 rfl) rfl ?_
           refine S_pu 1 rfl ?_
           refine S_nil ?_
           refine At_cut (x310.2.f.1, x310.2.f.2.1, x310.2.f.2.2.1, x310.2.f.2.2.2.1, x310.2.f.2.2.2.2, false, u311_3, u311_4, u311_5) (.cons rfl (.cons rfl (Sub.nil _))) ⟨hL311, hf311_3, hf311_4, hf311_5, h⟩
       ·replace h := Go.L.ite_n (of_decide_eq_false hg284) h
        iterate 4 refine S_unwanted rfl rfl hg284 rfl ?_
        refine S_v (r_pickF rfl hg284 rfl) rfl ?_
        refine S_pz 1 rfl ?_
        refine W_false rfl ?_
        refine W_seqr ?_
        refine S_v (r_field rfl underlying38 rfl zr36 (by decide)) rfl ?_
        refine S_v (r_loadB1 0 rfl underlying36 rfl hL279 rfl rfl) rfl ?_
        refine S_v (r_len rfl underlying36 (hf279_5.mono hG283)) rfl ?_
        refine S_pu 2 rfl ?_
        refine S_split (s := 46) rfl (fun hg316 => ?_) (fun hg316 => ?_)
        ·replace h := Go.L.ite_p (of_decide_eq_true hg316) h
         refine S_guarded rfl rfl hg316 ?_
         refine S_v (RunsAt_pu rfl) rfl ?_
         refine S_guarded rfl rfl hg316 ?_
         refine S_litE (r := (.int .i64)) (l := [(3 : Int), (4 : Int)]) rfl (fun _ => bsl52_2 _ _ _) rfl (show 2 ≤ 9223372036854775807 by decide) hH hL279 (.c1 rfl (.c1 rfl .nil)) ?_
         intro v318 w318 hx318 hL318 hle318 hv318
         replace hG283 := hG283.trans (gz_mono hH hle318)
         refine S_guarded rfl rfl hg316 ?_
         obtain ⟨x319, hb319, h⟩ := Go.L.bind_some h
         refine S_callv rfl rfl rfl (value_checkNode_1_fr (a0 := ([(3 : Int), (4 : Int)])) (a1 := x278.2) (O := []) hH hL318 hv318 (hf279_3.mono hG283) (hf279_4.mono hG283) (hf279_5.mono hG283) hb319) ?_
         rintro _ w320 ⟨u320_3, u320_4, u320_5, rfl, hL320, hle320, hf320_3, hf320_4, hf320_5⟩
         replace hv318 := hv318.mono (gz_mono hH hle320)
         replace hG283 := hG283.trans (gz_mono hH hle320)
         refine S_guarded rfl rfl hg316 ?_
         refine S_v (RunsAt_pu rfl) rfl ?_
         refine S_v (r_pickT rfl hg316 rfl) rfl ?_
         refine S_pz 1 rfl ?_
         refine W_cond rfl (fun hc321 => ?_) (fun hc321 => ?_)
         ·replace h := Go.L.ite_t hc321 h
          refine W_skip ?_
          refine At_cut (x319.2.f.1, x319.2.f.2.1, x319.2.f.2.2.1, x319.2.f.2.2.2.1, x319.2.f.2.2.2.2, !x319.1, u320_3, u320_4, u320_5) (.cons rfl (.cons rfl (Sub.nil _))) ⟨hL320, hf320_3, hf320_4, hf320_5, h⟩
         ·replace h := Go.L.ite_f hc321 h
          have hG324 := hL320.rG H
          refine W_region ?_
          refine S_pu 1 rfl ?_
          refine S_litE (r := (.int .i64)) (l := [(4 : Int)]) rfl (fun _ => bsl52_1 _ _) rfl (show 1 ≤ 9223372036854775807 by decide) hH hL320 (.c1 rfl .nil) ?_
          intro v325 w325 hx325 hL325 hle325 hv325
          replace hG324 := hG324.trans (gz_mono hH hle325)
          obtain ⟨x326, hb326, h⟩ := Go.L.bind_some h
          refine S_callv rfl rfl rfl (value_checkNode_1_fr (a0 := ([(4 : Int)])) (a1 := x319.2) (O := []) hH hL325 hv325 (hf320_3.mono hG324) (hf320_4.mono hG324) (hf320_5.mono hG324) hb326) ?_
          rintro _ w327 ⟨u327_3, u327_4, u327_5, rfl, hL327, hle327, hf327_3, hf327_4, hf327_5⟩
          replace hv325 := hv325.mono (gz_mono hH hle327)
          replace hG324 := hG324.trans (gz_mono hH hle327)
          refine S_pu 1 rfl ?_
          refine S_split (s := 55) rfl (fun hg328 => ?_) (fun hg328 => ?_)
          ·replace h := Go.L.ite_t hg328 h
           refine S_guarded rfl rfl hg328 ?_
           refine S_v (r_field rfl underlying38 rfl zr30 (by decide)) rfl ?_
           refine S_guarded rfl rfl hg328 ?_
           refine S_v (r_loadB1 0 rfl underlying30 rfl hL327 rfl rfl) rfl ?_
           refine S_guarded rfl rfl hg328 ?_
           refine S_v (r_len rfl underlying30 hf327_4) rfl ?_
           refine S_guarded rfl rfl hg328 ?_
           refine S_v (r_field rfl underlying38 rfl zr36 (by decide)) rfl ?_
           refine S_guarded rfl rfl hg328 ?_
           refine S_v (r_loadB1 0 rfl underlying36 rfl hL327 rfl rfl) rfl ?_
           refine S_guarded rfl rfl hg328 ?_
           refine S_v (r_len rfl underlying36 hf327_5) rfl ?_
           refine S_guarded rfl rfl hg328 ?_
           refine S_v (RunsAt_pu rfl) rfl ?_
           refine S_v (r_pickT rfl hg328 rfl) rfl ?_
           refine S_pu 1 rfl ?_
           refine S_nil ?_
           refine At_cut (x326.2.f.1, x326.2.f.2.1, x326.2.f.2.2.1, x326.2.f.2.2.2.1, x326.2.f.2.2.2.2, !decide ((x326.2.f.2.2.2.1.length : Int) = (x326.2.f.2.2.2.2.length : Int)), u327_3, u327_4, u327_5) (.cons rfl (.cons rfl (Sub.nil _))) ⟨hL327, hf327_3, hf327_4, hf327_5, h⟩
          ·replace h := Go.L.ite_f hg328 h
           iterate 7 refine S_unwanted rfl rfl hg328 rfl ?_
           refine S_v (r_pickF rfl hg328 rfl) rfl ?_
           refine S_pu 1 rfl ?_
           refine S_nil ?_
           refine At_cut (x326.2.f.1, x326.2.f.2.1, x326.2.f.2.2.1, x326.2.f.2.2.2.1, x326.2.f.2.2.2.2, false, u327_3, u327_4, u327_5) (.cons rfl (.cons rfl (Sub.nil _))) ⟨hL327, hf327_3, hf327_4, hf327_5, h⟩
        ·replace h := Go.L.ite_n (of_decide_eq_false hg316) h
         iterate 4 refine S_unwanted rfl rfl hg316 rfl ?_
         refine S_v (r_pickF rfl hg316 rfl) rfl ?_
         refine S_pz 1 rfl ?_
         refine W_false rfl ?_
         refine W_region ?_
         refine S_pu 1 rfl ?_
         refine S_litE (r := (.int .i64)) (l := [(4 : Int)]) rfl (fun _ => bsl52_1 _ _) rfl (show 1 ≤ 9223372036854775807 by decide) hH hL279 (.c1 rfl .nil) ?_
         intro v332 w332 hx332 hL332 hle332 hv332
         replace hG283 := hG283.trans (gz_mono hH hle332)
         obtain ⟨x333, hb333, h⟩ := Go.L.bind_some h
         refine S_callv rfl rfl rfl (value_checkNode_1_fr (a0 := ([(4 : Int)])) (a1 := x278.2) (O := []) hH hL332 hv332 (hf279_3.mono hG283) (hf279_4.mono hG283) (hf279_5.mono hG283) hb333) ?_
         rintro _ w334 ⟨u334_3, u334_4, u334_5, rfl, hL334, hle334, hf334_3, hf334_4, hf334_5⟩
         replace hv332 := hv332.mono (gz_mono hH hle334)
         replace hG283 := hG283.trans (gz_mono hH hle334)
         refine S_pu 1 rfl ?_
         refine S_split (s := 55) rfl (fun hg335 => ?_) (fun hg335 => ?_)
         ·replace h := Go.L.ite_t hg335 h
          refine S_guarded rfl rfl hg335 ?_
          refine S_v (r_field rfl underlying38 rfl zr30 (by decide)) rfl ?_
          refine S_guarded rfl rfl hg335 ?_
          refine S_v (r_loadB1 0 rfl underlying30 rfl hL334 rfl rfl) rfl ?_
          refine S_guarded rfl rfl hg335 ?_
          refine S_v (r_len rfl underlying30 hf334_4) rfl ?_
          refine S_guarded rfl rfl hg335 ?_
          refine S_v (r_field rfl underlying38 rfl zr36 (by decide)) rfl ?_
          refine S_guarded rfl rfl hg335 ?_
          refine S_v (r_loadB1 0 rfl underlying36 rfl hL334 rfl rfl) rfl ?_
          refine S_guarded rfl rfl hg335 ?_
          refine S_v (r_len rfl underlying36 hf334_5) rfl ?_
          refine S_guarded rfl rfl hg335 ?_
          refine S_v (RunsAt_pu rfl) rfl ?_
          refine S_v (r_pickT rfl hg335 rfl) rfl ?_
          refine S_pu 1 rfl ?_
          refine S_nil ?_
          refine At_cut (x333.2.f.1, x333.2.f.2.1, x333.2.f.2.2.1, x333.2.f.2.2.2.1, x333.2.f.2.2.2.2, !decide ((x333.2.f.2.2.2.1.length : Int) = (x333.2.f.2.2.2.2.length : Int)), u334_3, u334_4, u334_5) (.cons rfl (.cons rfl (Sub.nil _))) ⟨hL334, hf334_3, hf334_4, hf334_5, h⟩
         ·replace h := Go.L.ite_f hg335 h
          iterate 7 refine S_unwanted rfl rfl hg335 rfl ?_
          refine S_v (r_pickF rfl hg335 rfl) rfl ?_
          refine S_pu 1 rfl ?_
          refine S_nil ?_
          refine At_cut (x333.2.f.1, x333.2.f.2.1, x333.2.f.2.2.1, x333.2.f.2.2.2.1, x333.2.f.2.2.2.2, false, u334_3, u334_4, u334_5) (.cons rfl (.cons rfl (Sub.nil _))) ⟨hL334, hf334_3, hf334_4, hf334_5, h⟩
     ·replace h := Go.L.ite_n (of_decide_eq_false hg275) h
      iterate 4 refine S_unwanted rfl rfl hg275 rfl ?_
      refine S_v (r_pickF rfl hg275 rfl) rfl ?_
      refine S_pz 1 rfl ?_
      refine W_false rfl ?_
      refine W_seqr ?_
      refine S_v (r_field rfl underlying38 rfl zr30 (by decide)) rfl ?_
      refine S_v (r_loadB1 0 rfl underlying30 rfl hL270 rfl rfl) rfl ?_
      refine S_v (r_len rfl underlying30 (hf270_4.mono hG274)) rfl ?_
      refine S_pu 2 rfl ?_
      refine S_split (s := 36) rfl (fun hg339 => ?_) (fun hg339 => ?_)
      ·replace h := Go.L.ite_p (of_decide_eq_true hg339) h
       refine S_guarded rfl rfl hg339 ?_
       refine S_v (RunsAt_pu rfl) rfl ?_
       refine S_guarded rfl rfl hg339 ?_
       refine S_litE (r := (.int .i64)) (l := [(4 : Int)]) rfl (fun _ => bsl52_1 _ _) rfl (show 1 ≤ 9223372036854775807 by decide) hH hL270 (.c1 rfl .nil) ?_
       intro v341 w341 hx341 hL341 hle341 hv341
       replace hG274 := hG274.trans (gz_mono hH hle341)
       refine S_guarded rfl rfl hg339 ?_
       obtain ⟨x342, hb342, h⟩ := Go.L.bind_some h
       refine S_callv rfl rfl rfl (value_checkNode_1_fr (a0 := ([(4 : Int)])) (a1 := x269.2) (O := []) hH hL341 hv341 (hf270_3.mono hG274) (hf270_4.mono hG274) (hf270_5.mono hG274) hb342) ?_
       rintro _ w343 ⟨u343_3, u343_4, u343_5, rfl, hL343, hle343, hf343_3, hf343_4, hf343_5⟩
       replace hv341 := hv341.mono (gz_mono hH hle343)
       replace hG274 := hG274.trans (gz_mono hH hle343)
       refine S_guarded rfl rfl hg339 ?_
       refine S_v (RunsAt_pu rfl) rfl ?_
       refine S_v (r_pickT rfl hg339 rfl) rfl ?_
       refine S_pz 1 rfl ?_
       refine W_cond rfl (fun hc344 => ?_) (fun hc344 => ?_)
       ·replace h := Go.L.ite_t hc344 h
        refine W_skip ?_
        refine At_cut (x342.2.f.1, x342.2.f.2.1, x342.2.f.2.2.1, x342.2.f.2.2.2.1, x342.2.f.2.2.2.2, !x342.1, u343_3, u343_4, u343_5) (.cons rfl (.cons rfl (Sub.nil _))) ⟨hL343, hf343_3, hf343_4, hf343_5, h⟩
       ·replace h := Go.L.ite_f hc344 h
        have hG347 := hL343.rG H
        refine W_seqr ?_
        refine S_v (r_field rfl underlying38 rfl zr36 (by decide)) rfl ?_
        refine S_v (r_loadB1 0 rfl underlying36 rfl hL343 rfl rfl) rfl ?_
        refine S_v (r_len rfl underlying36 (hf343_5.mono hG347)) rfl ?_
        refine S_pu 2 rfl ?_
        refine S_split (s := 46) rfl (fun hg348 => ?_) (fun hg348 => ?_)
        ·replace h := Go.L.ite_p (of_decide_eq_true hg348) h
         refine S_guarded rfl rfl hg348 ?_
         refine S_v (RunsAt_pu rfl) rfl ?_
         refine S_guarded rfl rfl hg348 ?_
         refine S_litE (r := (.int .i64)) (l := [(3 : Int), (4 : Int)]) rfl (fun _ => bsl52_2 _ _ _) rfl (show 2 ≤ 9223372036854775807 by decide) hH hL343 (.c1 rfl (.c1 rfl .nil)) ?_
         intro v350 w350 hx350 hL350 hle350 hv350
         replace hG347 := hG347.trans (gz_mono hH hle350)
         refine S_guarded rfl rfl hg348 ?_
         obtain ⟨x351, hb351, h⟩ := Go.L.bind_some h
         refine S_callv rfl rfl rfl (value_checkNode_1_fr (a0 := ([(3 : Int), (4 : Int)])) (a1 := x342.2) (O := []) hH hL350 hv350 (hf343_3.mono hG347) (hf343_4.mono hG347) (hf343_5.mono hG347) hb351) ?_
         rintro _ w352 ⟨u352_3, u352_4, u352_5, rfl, hL352, hle352, hf352_3, hf352_4, hf352_5⟩
         replace hv350 := hv350.mono (gz_mono hH hle352)
         replace hG347 := hG347.trans (gz_mono hH hle352)
         refine S_guarded rfl rfl hg348 ?_
         refine S_v (RunsAt_pu rfl) rfl ?_
         refine S_v (r_pickT rfl hg348 rfl) rfl ?_
         refine S_pz 1 rfl ?_
         refine W_cond rfl (fun hc353 => ?_) (fun hc353 => ?_)
         ·replace h := Go.L.ite_t hc353 h
          refine W_skip ?_
          refine At_cut (x351.2.f.1, x351.2.f.2.1, x351.2.f.2.2.1, x351.2.f.2.2.2.1, x351.2.f.2.2.2.2, !x351.1, u352_3, u352_4, u352_5) (.cons rfl (.cons rfl (Sub.nil _))) ⟨hL352, hf352_3, hf352_4, hf352_5, h⟩
         ·replace h := Go.L.ite_f hc353 h
          have hG356 := hL352.rG H
          refine W_region ?_
          refine S_pu 1 rfl ?_
          refine S_litE (r := (.int .i64)) (l := [(4 : Int)]) rfl (fun _ => bsl52_1 _ _) rfl (show 1 ≤ 9223372036854775807 by decide) hH hL352 (.c1 rfl .nil) ?_
          intro v357 w357 hx357 hL357 hle357 hv357
          replace hG356 := hG356.trans (gz_mono hH hle357)
          obtain ⟨x358, hb358, h⟩ := Go.L.bind_some h
          refine S_callv rfl rfl rfl (value_checkNode_1_fr (a0 := ([(4 : Int)])) (a1 := x351.2) (O := []) hH hL357 hv357 (hf352_3.mono hG356) (hf352_4.mono hG356) (hf352_5.mono hG356) hb358) ?_
          rintro _ w359 ⟨u359_3, u359_4, u359_5, rfl, hL359, hle359, hf359_3, hf359_4, hf359_5⟩
          replace hv357 := hv357.mono (gz_mono hH hle359)
          replace hG356 := hG356.trans (gz_mono hH hle359)
          refine S_pu 1 rfl ?_
          refine S_split (s := 55) rfl (fun hg360 => ?_) (fun hg360 => ?_)
          ·replace h := Go.L.ite_t hg360 h
           refine S_guarded rfl rfl hg360 ?_
           refine S_v (r_field rfl underlying38 rfl zr30 (by decide)) rfl ?_
           refine S_guarded rfl rfl hg360 ?_
           refine S_v (r_loadB1 0 rfl underlying30 rfl hL359 rfl rfl) rfl ?_
           refine S_guarded rfl rfl hg360 ?_
           refine S_v (r_len rfl underlying30 hf359_4) rfl ?_
           refine S_guarded rfl rfl hg360 ?_
           refine S_v (r_field rfl underlying38 rfl zr36 (by decide)) rfl ?_
           refine S_guarded rfl rfl hg360 ?_
           refine S_v (r_loadB1 0 rfl underlying36 rfl hL359 rfl rfl) rfl ?_
           refine S_guarded rfl rfl hg360 ?_
           refine S_v (r_len rfl underlying36 hf359_5) rfl ?_
           refine S_guarded rfl rfl hg360 ?_
           refine S_v (RunsAt_pu rfl) rfl ?_
           refine S_v (r_pickT rfl hg360 rfl) rfl ?_
           refine S_pu 1 rfl ?_
           refine S_nil ?_
           refine At_cut (x358.2.f.1, x358.2.f.2.1, x358.2.f.2.2.1, x358.2.f.2.2.2.1, x358.2.f.2.2.2.2, !decide ((x358.2.f.2.2.2.1.length : Int) = (x358.2.f.2.2.2.2.length : Int)), u359_3, u359_4, u359_5) (.cons rfl (.cons rfl (Sub.nil _))) ⟨hL359, hf359_3, hf359_4, hf359_5, h⟩
          ·replace h := Go.L.ite_f hg360 h
           iterate 7 refine S_unwanted rfl rfl hg360 rfl ?_
           refine S_v (r_pickF rfl hg360 rfl) rfl ?_
           refine S_pu 1 rfl ?_
           refine S_nil ?_
           refine At_cut (x358.2.f.1, x358.2.f.2.1, x358.2.f.2.2.1, x358.2.f.2.2.2.1, x358.2.f.2.2.2.2, false, u359_3, u359_4, u359_5) (.cons rfl (.cons rfl (Sub.nil _))) ⟨hL359, hf359_3, hf359_4, hf359_5, h⟩
        ·replace h := Go.L.ite_n (of_decide_eq_false hg348) h
         iterate 4 refine S_unwanted rfl rfl hg348 rfl ?_
         refine S_v (r_pickF rfl hg348 rfl) rfl ?_
         refine S_pz 1 rfl ?_
         refine W_false rfl ?_
         refine W_region ?_
         refine S_pu 1 rfl ?_
         refine S_litE (r := (.int .i64)) (l := [(4 : Int)]) rfl (fun _ => bsl52_1 _ _) rfl (show 1 ≤ 9223372036854775807 by decide) hH hL343 (.c1 rfl .nil) ?_
         intro v364 w364 hx364 hL364 hle364 hv364
         replace hG347 := hG347.trans (gz_mono hH hle364)
         obtain ⟨x365, hb365, h⟩ := Go.L.bind_some h
         refine S_callv rfl rfl rfl (value_checkNode_1_fr (a0 := ([(4 : Int)])) (a1 := x342.2) (O := []) hH hL364 hv364 (hf343_3.mono hG347) (hf343_4.mono hG347) (hf343_5.mono hG347) hb365) ?_
         rintro _ w366 ⟨u366_3, u366_4, u366_5, rfl, hL366, hle366, hf366_3, hf366_4, hf366_5⟩
         replace hv364 := hv364.mono (gz_mono hH hle366)
         replace hG347 := hG347.trans (gz_mono hH hle366)
         refine S_pu 1 rfl ?_
         refine S_split (s := 55) rfl (fun hg367 => ?_) (fun hg367 => ?_)
         ·replace h := Go.L.ite_t hg367 h
          refine S_guarded rfl rfl hg367 ?_
          refine S_v (r_field rfl underlying38 rfl zr30 (by decide)) rfl ?_
          refine S_guarded rfl rfl hg367 ?_
          refine S_v (r_loadB1 0 rfl underlying30 rfl hL366 rfl rfl) rfl ?_
          refine S_guarded rfl rfl hg367 ?_
          refine S_v (r_len rfl underlying30 hf366_4) rfl ?_
          refine S_guarded rfl rfl hg367 ?_
          refine S_v (r_field rfl underlying38 rfl zr36 (by decide)) rfl ?_
          refine S_guarded rfl rfl hg367 ?_
          refine S_v (r_loadB1 0 rfl underlying36 rfl hL366 rfl rfl) rfl ?_
          refine S_guarded rfl rfl hg367 ?_
          refine S_v (r_len rfl underlying36 hf366_5) rfl ?_
          refine S_guarded rfl rfl hg367 ?_
          refine S_v (RunsAt_pu rfl) rfl ?_
          refine S_v (r_pickT rfl hg367 rfl) rfl ?_
          refine S_pu 1 rfl ?_
          refine S_nil ?_
          refine At_cut (x365.2.f.1, x365.2.f.2.1, x365.2.f.2.2.1, x365.2.f.2.2.2.1, x365.2.f.2.2.2.2, !decide ((x365.2.f.2.2.2.1.length : Int) = (x365.2.f.2.2.2.2.length : Int)), u366_3, u366_4, u366_5) (.cons rfl (.cons rfl (Sub.nil _))) ⟨hL366, hf366_3, hf366_4, hf366_5, h⟩
         ·replace h := Go.L.ite_f hg367 h
          iterate 7 refine S_unwanted rfl rfl hg367 rfl ?_
          refine S_v (r_pickF rfl hg367 rfl) rfl ?_
          refine S_pu 1 rfl ?_
          refine S_nil ?_
          refine At_cut (x365.2.f.1, x365.2.f.2.1, x365.2.f.2.2.1, x365.2.f.2.2.2.1, x365.2.f.2.2.2.2, false, u366_3, u366_4, u366_5) (.cons rfl (.cons rfl (Sub.nil _))) ⟨hL366, hf366_3, hf366_4, hf366_5, h⟩
      ·replace h := Go.L.ite_n (of_decide_eq_false hg339) h
       iterate 4 refine S_unwanted rfl rfl hg339 rfl ?_
       refine S_v (r_pickF rfl hg339 rfl) rfl ?_
       refine S_pz 1 rfl ?_
       refine W_false rfl ?_
       refine W_seqr ?_
       refine S_v (r_field rfl underlying38 rfl zr36 (by decide)) rfl ?_
       refine S_v (r_loadB1 0 rfl underlying36 rfl hL270 rfl rfl) rfl ?_
       refine S_v (r_len rfl underlying36 (hf270_5.mono hG274)) rfl ?_
       refine S_pu 2 rfl ?_
       refine S_split (s := 46) rfl (fun hg371 => ?_) (fun hg371 => ?_)
       ·replace h := Go.L.ite_p (of_decide_eq_true hg371) h
        refine S_guarded rfl rfl hg371 ?_
        refine S_v (RunsAt_pu rfl) rfl ?_
        refine S_guarded rfl rfl hg371 ?_
        refine S_litE (r := (.int .i64)) (l := [(3 : Int), (4 : Int)]) rfl (fun _ => bsl52_2 _ _ _) rfl (show 2 ≤ 9223372036854775807 by decide) hH hL270 (.c1 rfl (.c1 rfl .nil)) ?_
        intro v373 w373 hx373 hL373 hle373 hv373
        replace hG274 := hG274.trans (gz_mono hH hle373)
        refine S_guarded rfl rfl hg371 ?_
        obtain ⟨x374, hb374, h⟩ := Go.L.bind_some h
        refine S_callv rfl rfl rfl (value_checkNode_1_fr (a0 := ([(3 : Int), (4 : Int)])) (a1 := x269.2) (O := []) hH hL373 hv373 (hf270_3.mono hG274) (hf270_4.mono hG274) (hf270_5.mono hG274) hb374) ?_
        rintro _ w375 ⟨u375_3, u375_4, u375_5, rfl, hL375, hle375, hf375_3, hf375_4, hf375_5⟩
        replace hv373 := hv373.mono (gz_mono hH hle375)
        replace hG274 := hG274.trans (gz_mono hH hle375)
        refine S_guarded rfl rfl hg371 ?_
        refine S_v (RunsAt_pu rfl) rfl ?_
        refine S_v (r_pickT rfl hg371 rfl) rfl ?_
        refine S_pz 1 rfl ?_
        refine W_cond rfl (fun hc376 => ?_) (fun hc376 => ?_)
        ·replace h := Go.L.ite_t hc376 h
         refine W_skip ?_
         refine At_cut (x374.2.f.1, x374.2.f.2.1, x374.2.f.2.2.1, x374.2.f.2.2.2.1, x374.2.f.2.2.2.2, !x374.1, u375_3, u375_4, u375_5) (.cons rfl (.cons rfl (Sub.nil _))) ⟨hL375, hf375_3, hf375_4, hf375_5, h⟩
        ·replace h := Go.L.ite_f hc376 h
         have hG379 := hL375.rG H
         refine W_region ?_
         refine S_pu 1 rfl ?_
         refine S_litE (r := (.int .i64)) (l := [(4 : Int)]) rfl (fun _ => bsl52_1 _ _) rfl (show 1 ≤ 9223372036854775807 by decide) hH hL375 (.c1 rfl .nil) ?_
         intro v380 w380 hx380 hL380 hle380 hv380
         replace hG379 := hG379.trans (gz_mono hH hle380)
         obtain ⟨x381, hb381, h⟩ := Go.L.bind_some h
         refine S_callv rfl rfl rfl (value_checkNode_1_fr (a0 := ([(4 : Int)])) (a1 := x374.2) (O := []) hH hL380 hv380 (hf375_3.mono hG379) (hf375_4.mono hG379) (hf375_5.mono hG379) hb381) ?_
         rintro _ w382 ⟨u382_3, u382_4, u382_5, rfl, hL382, hle382, hf382_3, hf382_4, hf382_5⟩
         replace hv380 := hv380.mono (gz_mono hH hle382)
         replace hG379 := hG379.trans (gz_mono hH hle382)
         refine S_pu 1 rfl ?_
         refine S_split (s := 55) rfl (fun hg383 => ?_) (fun hg383 => ?_)
         ·replace h := Go.L.ite_t hg383 h
          refine S_guarded rfl rfl hg383 ?_
          refine S_v (r_field rfl underlying38 rfl zr30 (by decide)) rfl ?_
          refine S_guarded rfl rfl hg383 ?_
          refine S_v (r_loadB1 0 rfl underlying30 rfl hL382 rfl rfl) rfl ?_
          refine S_guarded rfl rfl hg383 ?_
          refine S_v (r_len rfl underlying30 hf382_4) rfl ?_
          refine S_guarded rfl rfl hg383 ?_
          refine S_v (r_field rfl underlying38 rfl zr36 (by decide)) rfl ?_
          refine S_guarded rfl rfl hg383 ?_
          refine S_v (r_loadB1 0 rfl underlying36 rfl hL382 rfl rfl) rfl ?_
          refine S_guarded rfl rfl hg383 ?_
          refine S_v (r_len rfl underlying36 hf382_5) rfl ?_
          refine S_guarded rfl rfl hg383 ?_
          refine S_v (RunsAt_pu rfl) rfl ?_
          refine S_v (r_pickT rfl hg383 rfl) rfl ?_
          refine S_pu 1 rfl ?_
          refine S_nil ?_
          refine At_cut (x381.2.f.1, x381.2.f.2.1, x381.2.f.2.2.1, x381.2.f.2.2.2.1, x381.2.f.2.2.2.2, !decide ((x381.2.f.2.2.2.1.length : Int) = (x381.2.f.2.2.2.2.length : Int)), u382_3, u382_4, u382_5) (.cons rfl (.cons rfl (Sub.nil _))) ⟨hL382, hf382_3, hf382_4, hf382_5, h⟩
         ·replace h := Go.L.ite_f hg383 h
          iterate 7 refine S_unwanted rfl rfl hg383 rfl ?_
          refine S_v (r_pickF rfl hg383 rfl) rfl ?_
          refine S_pu 1 rfl ?_
          refine S_nil ?_
          refine At_cut (x381.2.f.1, x381.2.f.2.1, x381.2.f.2.2.1, x381.2.f.2.2.2.1, x381.2.f.2.2.2.2, false, u382_3, u382_4, u382_5) (.cons rfl (.cons rfl (Sub.nil _))) ⟨hL382, hf382_3, hf382_4, hf382_5, h⟩
       ·replace h := Go.L.ite_n (of_decide_eq_false hg371) h
        iterate 4 refine S_unwanted rfl rfl hg371 rfl ?_
        refine S_v (r_pickF rfl hg371 rfl) rfl ?_
        refine S_pz 1 rfl ?_
        refine W_false rfl ?_
        refine W_region ?_
        refine S_pu 1 rfl ?_
        refine S_litE (r := (.int .i64)) (l := [(4 : Int)]) rfl (fun _ => bsl52_1 _ _) rfl (show 1 ≤ 9223372036854775807 by decide) hH hL270 (.c1 rfl .nil) ?_
        intro v387 w387 hx387 hL387 hle387 hv387
        replace hG274 := hG274.trans (gz_mono hH hle387)
        obtain ⟨x388, hb388, h⟩ := Go.L.bind_some h
        refine S_callv rfl rfl rfl (value_checkNode_1_fr (a0 := ([(4 : Int)])) (a1 := x269.2) (O := []) hH hL387 hv387 (hf270_3.mono hG274) (hf270_4.mono hG274) (hf270_5.mono hG274) hb388) ?_
        rintro _ w389 ⟨u389_3, u389_4, u389_5, rfl, hL389, hle389, hf389_3, hf389_4, hf389_5⟩
        replace hv387 := hv387.mono (gz_mono hH hle389)
        replace hG274 := hG274.trans (gz_mono hH hle389)
        refine S_pu 1 rfl ?_
        refine S_split (s := 55) rfl (fun hg390 => ?_) (fun hg390 => ?_)
        ·replace h := Go.L.ite_t hg390 h
         refine S_guarded rfl rfl hg390 ?_
         refine S_v (r_field rfl underlying38 rfl zr30 (by decide)) rfl ?_
         refine S_guarded rfl rfl hg390 ?_
         refine S_v (r_loadB1 0 rfl underlying30 rfl hL389 rfl rfl) rfl ?_
         refine S_guarded rfl rfl hg390 ?_
         refine S_v (r_len rfl underlying30 hf389_4) rfl ?_
         refine S_guarded rfl rfl hg390 ?_
         refine S_v (r_field rfl underlying38 rfl zr36 (by decide)) rfl ?_
         refine S_guarded rfl rfl hg390 ?_
         refine S_v (r_loadB1 0 rfl underlying36 rfl hL389 rfl rfl) rfl ?_
         refine S_guarded rfl rfl hg390 ?_
         refine S_v (r_len rfl underlying36 hf389_5) rfl ?_
         refine S_guarded rfl rfl hg390 ?_
         refine S_v (RunsAt_pu rfl) rfl ?_
         refine S_v (r_pickT rfl hg390 rfl) rfl ?_
         refine S_pu 1 rfl ?_
         refine S_nil ?_
         refine At_cut (x388.2.f.1, x388.2.f.2.1, x388.2.f.2.2.1, x388.2.f.2.2.2.1, x388.2.f.2.2.2.2, !decide ((x388.2.f.2.2.2.1.length : Int) = (x388.2.f.2.2.2.2.length : Int)), u389_3, u389_4, u389_5) (.cons rfl (.cons rfl (Sub.nil _))) ⟨hL389, hf389_3, hf389_4, hf389_5, h⟩
        ·replace h := Go.L.ite_f hg390 h
         iterate 7 refine S_unwanted rfl rfl hg390 rfl ?_
         refine S_v (r_pickF rfl hg390 rfl) rfl ?_
         refine S_pu 1 rfl ?_
         refine S_nil ?_
         refine At_cut (x388.2.f.1, x388.2.f.2.1, x388.2.f.2.2.1, x388.2.f.2.2.2.1, x388.2.f.2.2.2.2, false, u389_3, u389_4, u389_5) (.cons rfl (.cons rfl (Sub.nil _))) ⟨hL389, hf389_3, hf389_4, hf389_5, h⟩
   ·replace h := Go.L.ite_p (not_dec_f hg266) h
    iterate 4 refine S_unwanted rfl rfl hg266 rfl ?_
    refine S_v (r_pickF rfl hg266 rfl) rfl ?_
    refine S_pz 1 rfl ?_
    refine W_false rfl ?_
    refine W_seqr ?_
    refine S_v (r_field rfl underlying38 rfl zr35 (by decide)) rfl ?_
    refine S_v (r_loadB1 0 rfl underlying35 rfl hL4 rfl rfl) rfl ?_
    refine S_v (r_len rfl underlying35 (hf4_3.mono hG265)) rfl ?_
    refine S_pu 2 rfl ?_
    refine S_split (s := 26) rfl (fun hg394 => ?_) (fun hg394 => ?_)
    ·replace h := Go.L.ite_p (of_decide_eq_true hg394) h
     refine S_guarded rfl rfl hg394 ?_
     refine S_v (RunsAt_pu rfl) rfl ?_
     refine S_guarded rfl rfl hg394 ?_
     refine S_litE (r := (.int .i64)) (l := [(2 : Int)]) rfl (fun _ => bsl52_1 _ _) rfl (show 1 ≤ 9223372036854775807 by decide) hH hL4 (.c1 rfl .nil) ?_
     intro v396 w396 hx396 hL396 hle396 hv396
     replace hG265 := hG265.trans (gz_mono hH hle396)
     refine S_guarded rfl rfl hg394 ?_
     obtain ⟨x397, hb397, h⟩ := Go.L.bind_some h
     refine S_callv rfl rfl rfl (value_checkNode_1_fr (a0 := ([(2 : Int)])) (a1 := x3.2) (O := []) hH hL396 hv396 (hf4_3.mono hG265) (hf4_4.mono hG265) (hf4_5.mono hG265) hb397) ?_
     rintro _ w398 ⟨u398_3, u398_4, u398_5, rfl, hL398, hle398, hf398_3, hf398_4, hf398_5⟩
     replace hv396 := hv396.mono (gz_mono hH hle398)
     replace hG265 := hG265.trans (gz_mono hH hle398)
     refine S_guarded rfl rfl hg394 ?_
     refine S_v (RunsAt_pu rfl) rfl ?_
     refine S_v (r_pickT rfl hg394 rfl) rfl ?_
     refine S_pz 1 rfl ?_
     refine W_cond rfl (fun hc399 => ?_) (fun hc399 => ?_)
     ·replace h := Go.L.ite_t hc399 h
      refine W_skip ?_
      refine At_cut (x397.2.f.1, x397.2.f.2.1, x397.2.f.2.2.1, x397.2.f.2.2.2.1, x397.2.f.2.2.2.2, !x397.1, u398_3, u398_4, u398_5) (.cons rfl (.cons rfl (Sub.nil _))) ⟨hL398, hf398_3, hf398_4, hf398_5, h⟩
     ·replace h := Go.L.ite_f hc399 h
      have hG402 := hL398.rG H
      refine W_seqr ?_
      refine S_v (r_field rfl underlying38 rfl zr30 (by decide)) rfl ?_
      refine S_v (r_loadB1 0 rfl underlying30 rfl hL398 rfl rfl) rfl ?_
      refine S_v (r_len rfl underlying30 (hf398_4.mono hG402)) rfl ?_
      refine S_pu 2 rfl ?_
      refine S_split (s := 36) rfl (fun hg403 => ?_) (fun hg403 => ?_)
      ·replace h := Go.L.ite_p (of_decide_eq_true hg403) h
       refine S_guarded rfl rfl hg403 ?_
       refine S_v (RunsAt_pu rfl) rfl ?_
       refine S_guarded rfl rfl hg403 ?_
       refine S_litE (r := (.int .i64)) (l := [(4 : Int)]) rfl (fun _ => bsl52_1 _ _) rfl (show 1 ≤ 9223372036854775807 by decide) hH hL398 (.c1 rfl .nil) ?_
       intro v405 w405 hx405 hL405 hle405 hv405
       replace hG402 := hG402.trans (gz_mono hH hle405)
       refine S_guarded rfl rfl hg403 ?_
       obtain ⟨x406, hb406, h⟩ := Go.L.bind_some h
       refine S_callv rfl rfl rfl (value_checkNode_1_fr (a0 := ([(4 : Int)])) (a1 := x397.2) (O := []) hH hL405 hv405 (hf398_3.mono hG402) (hf398_4.mono hG402) (hf398_5.mono hG402) hb406) ?_
       rintro _ w407 ⟨u407_3, u407_4, u407_5, rfl, hL407, hle407, hf407_3, hf407_4, hf407_5⟩
       replace hv405 := hv405.mono (gz_mono hH hle407)
       replace hG402 := hG402.trans (gz_mono hH hle407)
       refine S_guarded rfl rfl hg403 ?_
       refine S_v (RunsAt_pu rfl) rfl ?_
       refine S_v (r_pickT rfl hg403 rfl) rfl ?_
       refine S_pz 1 rfl ?_
       refine W_cond rfl (fun hc408 => ?_) (fun hc408 => ?_)
       ·replace h := Go.L.ite_t hc408 h
        refine W_skip ?_
        refine At_cut (x406.2.f.1, x406.2.f.2.1, x406.2.f.2.2.1, x406.2.f.2.2.2.1, x406.2.f.2.2.2.2, !x406.1, u407_3, u407_4, u407_5) (.cons rfl (.cons rfl (Sub.nil _))) ⟨hL407, hf407_3, hf407_4, hf407_5, h⟩
       ·replace h := Go.L.ite_f hc408 h
        have hG411 := hL407.rG H
        refine W_seqr ?_
        refine S_v (r_field rfl underlying38 rfl zr36 (by decide)) rfl ?_
        refine S_v (r_loadB1 0 rfl underlying36 rfl hL407 rfl rfl) rfl ?_
        refine S_v (r_len rfl underlying36 (hf407_5.mono hG411)) rfl ?_
        refine S_pu 2 rfl ?_
        refine S_split (s := 46) rfl (fun hg412 => ?_) (fun hg412 => ?_)
        ·replace h := Go.L.ite_p (of_decide_eq_true hg412) h
         refine S_guarded rfl rfl hg412 ?_
         refine S_v (RunsAt_pu rfl) rfl ?_
         refine S_guarded rfl rfl hg412 ?_
         refine S_litE (r := (.int .i64)) (l := [(3 : Int), (4 : Int)]) rfl (fun _ => bsl52_2 _ _ _) rfl (show 2 ≤ 9223372036854775807 by decide) hH hL407 (.c1 rfl (.c1 rfl .nil)) ?_
         intro v414 w414 hx414 hL414 hle414 hv414
         replace hG411 := hG411.trans (gz_mono hH hle414)
         refine S_guarded rfl rfl hg412 ?_
         obtain ⟨x415, hb415, h⟩ := Go.L.bind_some h
         refine S_callv rfl rfl rfl (value_checkNode_1_fr (a0 := ([(3 : Int), (4 : Int)])) (a1 := x406.2) (O := []) hH hL414 hv414 (hf407_3.mono hG411) (hf407_4.mono hG411) (hf407_5.mono hG411) hb415) ?_
         rintro _ w416 ⟨u416_3, u416_4, u416_5, rfl, hL416, hle416, hf416_3, hf416_4, hf416_5⟩
         replace hv414 := hv414.mono (gz_mono hH hle416)
         replace hG411 := hG411.trans (gz_mono hH hle416)
         refine S_guarded rfl rfl hg412 ?_
         refine S_v (RunsAt_pu rfl) rfl ?_
         refine S_v (r_pickT rfl hg412 rfl) rfl ?_
         refine S_pz 1 rfl ?_
         refine W_cond rfl (fun hc417 => ?_) (fun hc417 => ?_)
         ·replace h := Go.L.ite_t hc417 h
          refine W_skip ?_
          refine At_cut (x415.2.f.1, x415.2.f.2.1, x415.2.f.2.2.1, x415.2.f.2.2.2.1, x415.2.f.2.2.2.2, !x415.1, u416_3, u416_4, u416_5) (.cons rfl (.cons rfl (Sub.nil _))) ⟨hL416, hf416_3, hf416_4, hf416_5, h⟩
         ·replace h := Go.L.ite_f hc417 h
          have hG420 := hL416.rG H
          refine W_region ?_
          refine S_pu 1 rfl ?_
          refine S_litE (r := (.int .i64)) (l := [(4 : Int)]) rfl (fun _ => bsl52_1 _ _) rfl (show 1 ≤ 9223372036854775807 by decide) hH hL416 (.c1 rfl .nil) ?_
          intro v421 w421 hx421 hL421 hle421 hv421
          replace hG420 := hG420.trans (gz_mono hH hle421)
          obtain ⟨x422, hb422, h⟩ := Go.L.bind_some h
          refine S_callv rfl rfl rfl (value_checkNode_1_fr (a0 := ([(4 : Int)])) (a1 := x415.2) (O := []) hH hL421 hv421 (hf416_3.mono hG420) (hf416_4.mono hG420) (hf416_5.mono hG420) hb422) ?_
          rintro _ w423 ⟨u423_3, u423_4, u423_5, rfl, hL423, hle423, hf423_3, hf423_4, hf423_5⟩
          replace hv421 := hv421.mono (gz_mono hH hle423)
          replace hG420 := hG420.trans (gz_mono hH hle423)
          refine S_pu 1 rfl ?_
          refine S_split (s := 55) rfl (fun hg424 => ?_) (fun hg424 => ?_)
          ·replace h := Go.L.ite_t hg424 h
           refine S_guarded rfl rfl hg424 ?_
           refine S_v (r_field rfl underlying38 rfl zr30 (by decide)) rfl ?_
           refine S_guarded rfl rfl hg424 ?_
           refine S_v (r_loadB1 0 rfl underlying30 rfl hL423 rfl rfl) rfl ?_
           refine S_guarded rfl rfl hg424 ?_
           refine S_v (r_len rfl underlying30 hf423_4) rfl ?_
           refine S_guarded rfl rfl hg424 ?_
           refine S_v (r_field rfl underlying38 rfl zr36 (by decide)) rfl ?_
           refine S_guarded rfl rfl hg424 ?_
           refine S_v (r_loadB1 0 rfl underlying36 rfl hL423 rfl rfl) rfl ?_
           refine S_guarded rfl rfl hg424 ?_
           refine S_v (r_len rfl underlying36 hf423_5) rfl ?_
           refine S_guarded rfl rfl hg424 ?_
           refine S_v (RunsAt_pu rfl) rfl ?_
           refine S_v (r_pickT rfl hg424 rfl) rfl ?_
           refine S_pu 1 rfl ?_
           refine S_nil ?_
           refine At_cut (x422.2.f.1, x422.2.f.2.1, x422.2.f.2.2.1, x422.2.f.2.2.2.1, x422.2.f.2.2.2.2, !decide ((x422.2.f.2.2.2.1.length : Int) = (x422.2.f.2.2.2.2.length : Int)), u423_3, u423_4, u423_5) (.cons rfl (.cons rfl (Sub.nil _))) ⟨hL423, hf423_3, hf423_4, hf423_5, h⟩
          ·replace h := Go.L.ite_f hg424 h
           iterate 7 refine S_unwanted rfl rfl hg424 rfl ?_
           refine S_v (r_pickF rfl hg424 rfl) rfl ?_
           refine S_pu 1 rfl ?_
           refine S_nil ?_
           refine At_cut (x422.2.f.1, x422.2.f.2.1, x422.2.f.2.2.1, x422.2.f.2.2.2.1, x422.2.f.2.2.2.2, false, u423_3, u423_4, u423_5) (.cons rfl (.cons rfl (Sub.nil _))) ⟨hL423, hf423_3, hf423_4, hf423_5, h⟩
        ·replace h := Go.L.ite_n (of_decide_eq_false hg412) h
         iterate 4 refine S_unwanted rfl rfl hg412 rfl ?_
         refine S_v (r_pickF rfl hg412 rfl) rfl ?_
         refine S_pz 1 rfl ?_
         refine W_false rfl ?_
         refine W_region ?_
         refine S_pu 1 rfl ?_
         refine S_litE (r := (.int .i64)) (l := [(4 : Int)]) rfl (fun _ => bsl52_1 _ _) rfl (show 1 ≤ 9223372036854775807 by decide) hH hL407 (.c1 rfl .nil) ?_
         intro v428 w428 hx428 hL428 hle428 hv428
         replace hG411 := hG411.trans (gz_mono hH hle428)
         obtain ⟨x429, hb429, h⟩ := Go.L.bind_some h
         refine S_callv rfl rfl rfl (value_checkNode_1_fr (a0 := ([(4 : Int)])) (a1 := x406.2) (O := []) hH hL428 hv428 (hf407_3.mono hG411) (hf407_4.mono hG411) (hf407_5.mono hG411) hb429) ?_
         rintro _ w430 ⟨u430_3, u430_4, u430_5, rfl, hL430, hle430, hf430_3, hf430_4, hf430_5⟩
         replace hv428 := hv428.mono (gz_mono hH hle430)
         replace hG411 := hG411.trans (gz_mono hH hle430)
         refine S_pu 1 rfl ?_
         refine S_split (s := 55) rfl (fun hg431 => ?_) (fun hg431 => ?_)
         ·replace h := Go.L.ite_t hg431 h
          refine S_guarded rfl rfl hg431 ?_
          refine S_v (r_field rfl underlying38 rfl zr30 (by decide)) rfl ?_
          refine S_guarded rfl rfl hg431 ?_
          refine S_v (r_loadB1 0 rfl underlying30 rfl hL430 rfl rfl) rfl ?_
          refine S_guarded rfl rfl hg431 ?_
          refine S_v (r_len rfl underlying30 hf430_4) rfl ?_
          refine S_guarded rfl rfl hg431 ?_
          refine S_v (r_field rfl underlying38 rfl zr36 (by decide)) rfl ?_
          refine S_guarded rfl rfl hg431 ?_
          refine S_v (r_loadB1 0 rfl underlying36 rfl hL430 rfl rfl) rfl ?_
          refine S_guarded rfl rfl hg431 ?_
          refine S_v (r_len rfl underlying36 hf430_5) rfl ?_
          refine S_guarded rfl rfl hg431 ?_
          refine S_v (RunsAt_pu rfl) rfl ?_
          refine S_v (r_pickT rfl hg431 rfl) rfl ?_
          refine S_pu 1 rfl ?_
          refine S_nil ?_
          refine At_cut (x429.2.f.1, x429.2.f.2.1, x429.2.f.2.2.1, x429.2.f.2.2.2.1, x429.2.f.2.2.2.2, !decide ((x429.2.f.2.2.2.1.length : Int) = (x429.2.f.2.2.2.2.length : Int)), u430_3, u430_4, u430_5) (.cons rfl (.cons rfl (Sub.nil _))) ⟨hL430, hf430_3, hf430_4, hf430_5, h⟩
         ·replace h := Go.L.ite_f hg431 h
          iterate 7 refine S_unwanted rfl rfl hg431 rfl ?_
          refine S_v (r_pickF rfl hg431 rfl) rfl ?_
          refine S_pu 1 rfl ?_
          refine S_nil ?_
          refine At_cut (x429.2.f.1, x429.2.f.2.1, x429.2.f.2.2.1, x429.2.f.2.2.2.1, x429.2.f.2.2.2.2, false, u430_3, u430_4, u430_5) (.cons rfl (.cons rfl (Sub.nil _))) ⟨hL430, hf430_3, hf430_4, hf430_5, h⟩
      ·replace h := Go.L.ite_n (of_decide_eq_false hg403) h
       iterate 4 refine S_unwanted rfl rfl hg403 rfl ?_
       refine S_v (r_pickF rfl hg403 rfl) rfl ?_
       refine S_pz 1 rfl ?_
       refine W_false rfl ?_
       refine W_seqr ?_
       refine S_v (r_field rfl underlying38 rfl zr36 (by decide)) rfl ?_
       refine S_v (r_loadB1 0 rfl underlying36 rfl hL398 rfl rfl) rfl ?_
       refine S_v (r_len rfl underlying36 (hf398_5.mono hG402)) rfl ?_
       refine S_pu 2 rfl ?_
       refine S_split (s := 46) rfl (fun hg435 => ?_) (fun hg435 => ?_)
       ·replace h := Go.L.ite_p (of_decide_eq_true hg435) h
        refine S_guarded rfl rfl hg435 ?_
        refine S_v (RunsAt_pu rfl) rfl ?_
        refine S_guarded rfl rfl hg435 ?_
        refine S_litE (r := (.int .i64)) (l := [(3 : Int), (4 : Int)]) rfl (fun _ => bsl52_2 _ _ _) rfl (show 2 ≤ 9223372036854775807 by decide) hH hL398 (.c1 rfl (.c1 rfl .nil)) ?_
        intro v437 w437 hx437 hL437 hle437 hv437
        replace hG402 := hG402.trans (gz_mono hH hle437)
        refine S_guarded rfl rfl hg435 ?_
        obtain ⟨x438, hb438, h⟩ := Go.L.bind_some h
        refine S_callv rfl rfl rfl (value_checkNode_1_fr (a0 := ([(3 : Int), (4 : Int)])) (a1 := x397.2) (O := []) hH hL437 hv437 (hf398_3.mono hG402) (hf398_4.mono hG402) (hf398_5.mono hG402) hb438) ?_
        rintro _ w439 ⟨u439_3, u439_4, u439_5, rfl, hL439, hle439, hf439_3, hf439_4, hf439_5⟩
        replace hv437 := hv437.mono (gz_mono hH hle439)
        replace hG402 := hG402.trans (gz_mono hH hle439)
        refine S_guarded rfl rfl hg435 ?_
        refine S_v (RunsAt_pu rfl) rfl ?_
        refine S_v (r_pickT rfl hg435 rfl) rfl ?_
        refine S_pz 1 rfl ?_
        refine W_cond rfl (fun hc440 => ?_) (fun hc440 => ?_)
        ·replace h := Go.L.ite_t hc440 h
         refine W_skip ?_
         refine At_cut (x438.2.f.1, x438.2.f.2.1, x438.2.f.2.2.1, x438.2.f.2.2.2.1, x438.2.f.2.2.2.2, !x438.1, u439_3, u439_4, u439_5) (.cons rfl (.cons rfl (Sub.nil _))) ⟨hL439, hf439_3, hf439_4, hf439_5, h⟩
        ·replace h := Go.L.ite_f hc440 h
         have hG443 := hL439.rG H
         refine W_region ?_
         refine S_pu 1 rfl ?_
         refine S_litE (r := (.int .i64)) (l := [(4 : Int)]) rfl (fun _ => bsl52_1 _ _) rfl (show 1 ≤ 9223372036854775807 by decide) hH hL439 (.c1 rfl .nil) ?_
         intro v444 w444 hx444 hL444 hle444 hv444
         replace hG443 := hG443.trans (gz_mono hH hle444)
         obtain ⟨x445, hb445, h⟩ := Go.L.bind_some h
         refine S_callv rfl rfl rfl (value_checkNode_1_fr (a0 := ([(4 : Int)])) (a1 := x438.2) (O := []) hH hL444 hv444 (hf439_3.mono hG443) (hf439_4.mono hG443) (hf439_5.mono hG443) hb445) ?_
         rintro _ w446 ⟨u446_3, u446_4, u446_5, rfl, hL446, hle446, hf446_3, hf446_4, hf446_5⟩
         replace hv444 := hv444.mono (gz_mono hH hle446)
         replace hG443 := hG443.trans (gz_mono hH hle446)
         refine S_pu 1 rfl ?_
         refine S_split (s := 55) rfl (fun hg447 => ?_) (fun hg447 => ?_)
         ·replace h := Go.L.ite_t hg447 h
          refine S_guarded rfl rfl hg447 ?_
          refine S_v (r_field rfl underlying38 rfl zr30 (by decide)) rfl ?_
          refine S_guarded rfl rfl hg447 ?_
          refine S_v (r_loadB1 0 rfl underlying30 rfl hL446 rfl rfl) rfl ?_
          refine S_guarded rfl rfl hg447 ?_
          refine S_v (r_len rfl underlying30 hf446_4) rfl ?_
          refine S_guarded rfl rfl hg447 ?_
          refine S_v (r_field rfl underlying38 rfl zr36 (by decide)) rfl ?_
          refine S_guarded rfl rfl hg447 ?_
          refine S_v (r_loadB1 0 rfl underlying36 rfl hL446 rfl rfl) rfl ?_
          refine S_guarded rfl rfl hg447 ?_
          refine S_v (r_len rfl underlying36 hf446_5) rfl ?_
          refine S_guarded rfl rfl hg447 ?_
          refine S_v (RunsAt_pu rfl) rfl ?_
          refine S_v (r_pickT rfl hg447 rfl) rfl ?_
          refine S_pu 1 rfl ?_
          refine S_nil ?_
          refine At_cut (x445.2.f.1, x445.2.f.2.1, x445.2.f.2.2.1, x445.2.f.2.2.2.1, x445.2.f.2.2.2.2, !decide ((x445.2.f.2.2.2.1.length : Int) = (x445.2.f.2.2.2.2.length : Int)), u446_3, u446_4, u446_5) (.cons rfl (.cons rfl (Sub.nil _))) ⟨hL446, hf446_3, hf446_4, hf446_5, h⟩
         ·replace h := Go.L.ite_f hg447 h
          iterate 7 refine S_unwanted rfl rfl hg447 rfl ?_
          refine S_v (r_pickF rfl hg447 rfl) rfl ?_
          refine S_pu 1 rfl ?_
          refine S_nil ?_
          refine At_cut (x445.2.f.1, x445.2.f.2.1, x445.2.f.2.2.1, x445.2.f.2.2.2.1, x445.2.f.2.2.2.2, false, u446_3, u446_4, u446_5) (.cons rfl (.cons rfl (Sub.nil _))) ⟨hL446, hf446_3, hf446_4, hf446_5, h⟩
       ·replace h := Go.L.ite_n (of_decide_eq_false hg435) h
        iterate 4 refine S_unwanted rfl rfl hg435 rfl ?_
        refine S_v (r_pickF rfl hg435 rfl) rfl ?_
        refine S_pz 1 rfl ?_
        refine W_false rfl ?_
        refine W_region ?_
        refine S_pu 1 rfl ?_
        refine S_litE (r := (.int .i64)) (l := [(4 : Int)]) rfl (fun _ => bsl52_1 _ _) rfl (show 1 ≤ 9223372036854775807 by decide) hH hL398 (.c1 rfl .nil) ?_
        intro v451 w451 hx451 hL451 hle451 hv451
        replace hG402 := hG402.trans (gz_mono hH hle451)
        obtain ⟨x452, hb452, h⟩ := Go.L.bind_some h
        refine S_callv rfl rfl rfl (value_checkNode_1_fr (a0 := ([(4 : Int)])) (a1 := x397.2) (O := []) hH hL451 hv451 (hf398_3.mono hG402) (hf398_4.mono hG402) (hf398_5.mono hG402) hb452) ?_
        rintro _ w453 ⟨u453_3, u453_4, u453_5, rfl, hL453, hle453, hf453_3, hf453_4, hf453_5⟩
        replace hv451 := hv451.mono (gz_mono hH hle453)
        replace hG402 := hG402.trans (gz_mono hH hle453)
        refine S_pu 1 rfl ?_
        refine S_split (s := 55) rfl (fun hg454 => ?_) (fun hg454 => ?_)
        ·replace h := Go.L.ite_t hg454 h
         refine S_guarded rfl rfl hg454 ?_
         refine S_v (r_field rfl underlying38 rfl zr30 (by decide)) rfl ?_
         refine S_guarded rfl rfl hg454 ?_
         refine S_v (r_loadB1 0 rfl underlying30 rfl hL453 rfl rfl) rfl ?_
         refine S_guarded rfl rfl hg454 ?_
         refine S_v (r_len rfl underlying30 hf453_4) rfl ?_
         refine S_guarded rfl rfl hg454 ?_
         refine S_v (r_field rfl underlying38 rfl zr36 (by decide)) rfl ?_
         refine S_guarded rfl rfl hg454 ?_
         refine S_v (r_loadB1 0 rfl underlying36 rfl hL453 rfl rfl) rfl ?_
         refine S_guarded rfl rfl hg454 ?_
         refine S_v (r_len rfl underlying36 hf453_5) rfl ?_
         refine S_guarded rfl rfl hg454 ?_
         refine S_v (RunsAt_pu rfl) rfl ?_
         refine S_v (r_pickT rfl hg454 rfl) rfl ?_
         refine S_pu 1 rfl ?_
         refine S_nil ?_
         refine At_cut (x452.2.f.1, x452.2.f.2.1, x452.2.f.2.2.1, x452.2.f.2.2.2.1, x452.2.f.2.2.2.2, !decide ((x452.2.f.2.2.2.1.length : Int) = (x452.2.f.2.2.2.2.length : Int)), u453_3, u453_4, u453_5) (.cons rfl (.cons rfl (Sub.nil _))) ⟨hL453, hf453_3, hf453_4, hf453_5, h⟩
        ·replace h := Go.L.ite_f hg454 h
         iterate 7 refine S_unwanted rfl rfl hg454 rfl ?_
         refine S_v (r_pickF rfl hg454 rfl) rfl ?_
         refine S_pu 1 rfl ?_
         refine S_nil ?_
         refine At_cut (x452.2.f.1, x452.2.f.2.1, x452.2.f.2.2.1, x452.2.f.2.2.2.1, x452.2.f.2.2.2.2, false, u453_3, u453_4, u453_5) (.cons rfl (.cons rfl (Sub.nil _))) ⟨hL453, hf453_3, hf453_4, hf453_5, h⟩
    ·replace h := Go.L.ite_n (of_decide_eq_false hg394) h
     iterate 4 refine S_unwanted rfl rfl hg394 rfl ?_
     refine S_v (r_pickF rfl hg394 rfl) rfl ?_
     refine S_pz 1 rfl ?_
     refine W_false rfl ?_
     refine W_seqr ?_
     refine S_v (r_field rfl underlying38 rfl zr30 (by decide)) rfl ?_
     refine S_v (r_loadB1 0 rfl underlying30 rfl hL4 rfl rfl) rfl ?_
     refine S_v (r_len rfl underlying30 (hf4_4.mono hG265)) rfl ?_
     refine S_pu 2 rfl ?_
     refine S_split (s := 36) rfl (fun hg458 => ?_) (fun hg458 => ?_)
     ·replace h := Go.L.ite_p (of_decide_eq_true hg458) h
      refine S_guarded rfl rfl hg458 ?_
      refine S_v (RunsAt_pu rfl) rfl ?_
      refine S_guarded rfl rfl hg458 ?_
      refine S_litE (r := (.int .i64)) (l := [(4 : Int)]) rfl (fun _ => bsl52_1 _ _) rfl (show 1 ≤ 9223372036854775807 by decide) hH hL4 (.c1 rfl .nil) ?_
      intro v460 w460 hx460 hL460 hle460 hv460
      replace hG265 := hG265.trans (gz_mono hH hle460)
      refine S_guarded rfl rfl hg458 ?_
      obtain ⟨x461, hb461, h⟩ := Go.L.bind_some h
      refine S_callv rfl rfl rfl (value_checkNode_1_fr (a0 := ([(4 : Int)])) (a1 := x3.2) (O := []) hH hL460 hv460 (hf4_3.mono hG265) (hf4_4.mono hG265) (hf4_5.mono hG265) hb461) ?_
      rintro _ w462 ⟨u462_3, u462_4, u462_5, rfl, hL462, hle462, hf462_3, hf462_4, hf462_5⟩
      replace hv460 := hv460.mono (gz_mono hH hle462)
      replace hG265 := hG265.trans (gz_mono hH hle462)
      refine S_guarded rfl rfl hg458 ?_
      refine S_v (RunsAt_pu rfl) rfl ?_
      refine S_v (r_pickT rfl hg458 rfl) rfl ?_
      refine S_pz 1 rfl ?_
      refine W_cond rfl (fun hc463 => ?_) (fun hc463 => ?_)
      ·replace h := Go.L.ite_t hc463 h
       refine W_skip ?_
       refine At_cut (x461.2.f.1, x461.2.f.2.1, x461.2.f.2.2.1, x461.2.f.2.2.2.1, x461.2.f.2.2.2.2, !x461.1, u462_3, u462_4, u462_5) (.cons rfl (.cons rfl (Sub.nil _))) ⟨hL462, hf462_3, hf462_4, hf462_5, h⟩
      ·replace h := Go.L.ite_f hc463 h
       have hG466 := hL462.rG H
       refine W_seqr ?_
       refine S_v (r_field rfl underlying38 rfl zr36 (by decide)) rfl ?_
       refine S_v (r_loadB1 0 rfl underlying36 rfl hL462 rfl rfl) rfl ?_
       refine S_v (r_len rfl underlying36 (hf462_5.mono hG466)) rfl ?_
       refine S_pu 2 rfl ?_
       refine S_split (s := 46) rfl (fun hg467 => ?_) (fun hg467 => ?_)
       ·replace h := Go.L.ite_p (of_decide_eq_true hg467) h
        refine S_guarded rfl rfl hg467 ?_
        refine S_v (RunsAt_pu rfl) rfl ?_
        refine S_guarded rfl rfl hg467 ?_
        refine S_litE (r := (.int .i64)) (l := [(3 : Int), (4 : Int)]) rfl (fun _ => bsl52_2 _ _ _) rfl (show 2 ≤ 9223372036854775807 by decide) hH hL462 (.c1 rfl (.c1 rfl .nil)) ?_
        intro v469 w469 hx469 hL469 hle469 hv469
        replace hG466 := hG466.trans (gz_mono hH hle469)
        refine S_guarded rfl rfl hg467 ?_
        obtain ⟨x470, hb470, h⟩ := Go.L.bind_some h
        refine S_callv rfl rfl rfl (value_checkNode_1_fr (a0 := ([(3 : Int), (4 : Int)])) (a1 := x461.2) (O := []) hH hL469 hv469 (hf462_3.mono hG466) (hf462_4.mono hG466) (hf462_5.mono hG466) hb470) ?_
        rintro _ w471 ⟨u471_3, u471_4, u471_5, rfl, hL471, hle471, hf471_3, hf471_4, hf471_5⟩
        replace hv469 := hv469.mono (gz_mono hH hle471)
        replace hG466 := hG466.trans (gz_mono hH hle471)
        refine S_guarded rfl rfl hg467 ?_
        refine S_v (RunsAt_pu rfl) rfl ?_
        refine S_v (r_pickT rfl hg467 rfl) rfl ?_
        refine S_pz 1 rfl ?_
        refine W_cond rfl (fun hc472 => ?_) (fun hc472 => ?_)
        ·replace h := Go.L.ite_t hc472 h
         refine W_skip ?_
         refine At_cut (x470.2.f.1, x470.2.f.2.1, x470.2.f.2.2.1, x470.2.f.2.2.2.1, x470.2.f.2.2.2.2, !x470.1, u471_3, u471_4, u471_5) (.cons rfl (.cons rfl (Sub.nil _))) ⟨hL471, hf471_3, hf471_4, hf471_5, h⟩
        ·replace h := Go.L.ite_f hc472 h
         have hG475 := hL471.rG H
         refine W_region ?_
         refine S_pu 1 rfl ?_
         refine S_litE (r := (.int .i64)) (l := [(4 : Int)]) rfl (fun _ => bsl52_1 _ _) rfl (show 1 ≤ 9223372036854775807 by decide) hH hL471 (.c1 rfl .nil) ?_
         intro v476 w476 hx476 hL476 hle476 hv476
         replace hG475 := hG475.trans (gz_mono hH hle476)
         obtain ⟨x477, hb477, h⟩ := Go.L.bind_some h
         refine S_callv rfl rfl rfl (value_checkNode_1_fr (a0 := ([(4 : Int)])) (a1 := x470.2) (O := []) hH hL476 hv476 (hf471_3.mono hG475) (hf471_4.mono hG475) (hf471_5.mono hG475) hb477) ?_
         rintro _ w478 ⟨u478_3, u478_4, u478_5, rfl, hL478, hle478, hf478_3, hf478_4, hf478_5⟩
         replace hv476 := hv476.mono (gz_mono hH hle478)
         replace hG475 := hG475.trans (gz_mono hH hle478)
         refine S_pu 1 rfl ?_
         refine S_split (s := 55) rfl (fun hg479 => ?_) (fun hg479 => ?_)
         ·replace h := Go.L.ite_t hg479 h
          refine S_guarded rfl rfl hg479 ?_
          refine S_v (r_field rfl underlying38 rfl zr30 (by decide)) rfl ?_
          refine S_guarded rfl rfl hg479 ?_
          refine S_v (r_loadB1 0 rfl underlying30 rfl hL478 rfl rfl) rfl ?_
          refine S_guarded rfl rfl hg479 ?_
          refine S_v (r_len rfl underlying30 hf478_4) rfl ?_
          refine S_guarded rfl rfl hg479 ?_
          refine S_v (r_field rfl underlying38 rfl zr36 (by decide)) rfl ?_
          refine S_guarded rfl rfl hg479 ?_
          refine S_v (r_loadB1 0 rfl underlying36 rfl hL478 rfl rfl) rfl ?_
          refine S_guarded rfl rfl hg479 ?_
          refine S_v (r_len rfl underlying36 hf478_5) rfl ?_
          refine S_guarded rfl rfl hg479 ?_
          refine S_v (RunsAt_pu rfl) rfl ?_
          refine S_v (r_pickT rfl hg479 rfl) rfl ?_
          refine S_pu 1 rfl ?_
          refine S_nil ?_
          refine At_cut (x477.2.f.1, x477.2.f.2.1, x477.2.f.2.2.1, x477.2.f.2.2.2.1, x477.2.f.2.2.2.2, !decide ((x477.2.f.2.2.2.1.length : Int) = (x477.2.f.2.2.2.2.length : Int)), u478_3, u478_4, u478_5) (.cons rfl (.cons rfl (Sub.nil _))) ⟨hL478, hf478_3, hf478_4, hf478_5, h⟩
         ·replace h := Go.L.ite_f hg479 h
          iterate 7 refine S_unwanted rfl rfl hg479 rfl ?_
          refine S_v (r_pickF rfl hg479 rfl) rfl ?_
          refine S_pu 1 rfl ?_
          refine S_nil ?_
          refine At_cut (x477.2.f.1, x477.2.f.2.1, x477.2.f.2.2.1, x477.2.f.2.2.2.1, x477.2.f.2.2.2.2, false, u478_3, u478_4, u478_5) (.cons rfl (.cons rfl (Sub.nil _))) ⟨hL478, hf478_3, hf478_4, hf478_5, h⟩
       ·replace h := Go.L.ite_n (of_decide_eq_false hg467) h
        iterate 4 refine S_unwanted rfl rfl hg467 rfl ?_
        refine S_v (r_pickF rfl hg467 rfl) rfl ?_
        refine S_pz 1 rfl ?_
        refine W_false rfl ?_
        refine W_region ?_
        refine S_pu 1 rfl ?_
        refine S_litE (r := (.int .i64)) (l := [(4 : Int)]) rfl (fun _ => bsl52_1 _ _) rfl (show 1 ≤ 9223372036854775807 by decide) hH hL462 (.c1 rfl .nil) ?_
        intro v483 w483 hx483 hL483 hle483 hv483
        replace hG466 := hG466.trans (gz_mono hH hle483)
        obtain ⟨x484, hb484, h⟩ := Go.L.bind_some h
        refine S_callv rfl rfl rfl (value_checkNode_1_fr (a0 := ([(4 : Int)])) (a1 := x461.2) (O := []) hH hL483 hv483 (hf462_3.mono hG466) (hf462_4.mono hG466) (hf462_5.mono hG466) hb484) ?_
        rintro _ w485 ⟨u485_3, u485_4, u485_5, rfl, hL485, hle485, hf485_3, hf485_4, hf485_5⟩
        replace hv483 := hv483.mono (gz_mono hH hle485)
        replace hG466 := hG466.trans (gz_mono hH hle485)
        refine S_pu 1 rfl ?_
        refine S_split (s := 55) rfl (fun hg486 => ?_) (fun hg486 => ?_)
        ·replace h := Go.L.ite_t hg486 h
         refine S_guarded rfl rfl hg486 ?_
         refine S_v (r_field rfl underlying38 rfl zr30 (by decide)) rfl ?_
         refine S_guarded rfl rfl hg486 ?_
         refine S_v (r_loadB1 0 rfl underlying30 rfl hL485 rfl rfl) rfl ?_
         refine S_guarded rfl rfl hg486 ?_
         refine S_v (r_len rfl underlying30 hf485_4) rfl ?_
         refine S_guarded rfl rfl hg486 ?_
         refine S_v (r_field rfl underlying38 rfl zr36 (by decide)) rfl ?_
         refine S_guarded rfl rfl hg486 ?_
         refine S_v (r_loadB1 0 rfl underlying36 rfl hL485 rfl rfl) rfl ?_
         refine S_guarded rfl rfl hg486 ?_
         refine S_v (r_len rfl underlying36 hf485_5) rfl ?_
         refine S_guarded rfl rfl hg486 ?_
         refine S_v (RunsAt_pu rfl) rfl ?_
         refine S_v (r_pickT rfl hg486 rfl) rfl ?_
         refine S_pu 1 rfl ?_
         refine S_nil ?_
         refine At_cut (x484.2.f.1, x484.2.f.2.1, x484.2.f.2.2.1, x484.2.f.2.2.2.1, x484.2.f.2.2.2.2, !decide ((x484.2.f.2.2.2.1.length : Int) = (x484.2.f.2.2.2.2.length : Int)), u485_3, u485_4, u485_5) (.cons rfl (.cons rfl (Sub.nil _))) ⟨hL485, hf485_3, hf485_4, hf485_5, h⟩
        ·replace h := Go.L.ite_f hg486 h
         iterate 7 refine S_unwanted rfl rfl hg486 rfl ?_
         refine S_v (r_pickF rfl hg486 rfl) rfl ?_
         refine S_pu 1 rfl ?_
         refine S_nil ?_
         refine At_cut (x484.2.f.1, x484.2.f.2.1, x484.2.f.2.2.1, x484.2.f.2.2.2.1, x484.2.f.2.2.2.2, false, u485_3, u485_4, u485_5) (.cons rfl (.cons rfl (Sub.nil _))) ⟨hL485, hf485_3, hf485_4, hf485_5, h⟩
     ·replace h := Go.L.ite_n (of_decide_eq_false hg458) h
      iterate 4 refine S_unwanted rfl rfl hg458 rfl ?_
      refine S_v (r_pickF rfl hg458 rfl) rfl ?_
      refine S_pz 1 rfl ?_
      refine W_false rfl ?_
      refine W_seqr ?_
      refine S_v (r_field rfl underlying38 rfl zr36 (by decide)) rfl ?_
      refine S_v (r_loadB1 0 rfl underlying36 rfl hL4 rfl rfl) rfl ?_
      refine S_v (r_len rfl underlying36 (hf4_5.mono hG265)) rfl ?_
      refine S_pu 2 rfl ?_
      refine S_split (s := 46) rfl (fun hg490 => ?_) (fun hg490 => ?_)
      ·replace h := Go.L.ite_p (of_decide_eq_true hg490) h
       refine S_guarded rfl rfl hg490 ?_
       refine S_v (RunsAt_pu rfl) rfl ?_
       refine S_guarded rfl rfl hg490 ?_
       refine S_litE (r := (.int .i64)) (l := [(3 : Int), (4 : Int)]) rfl (fun _ => bsl52_2 _ _ _) rfl (show 2 ≤ 9223372036854775807 by decide) hH hL4 (.c1 rfl (.c1 rfl .nil)) ?_
       intro v492 w492 hx492 hL492 hle492 hv492
       replace hG265 := hG265.trans (gz_mono hH hle492)
       refine S_guarded rfl rfl hg490 ?_
       obtain ⟨x493, hb493, h⟩ := Go.L.bind_some h
       refine S_callv rfl rfl rfl (value_checkNode_1_fr (a0 := ([(3 : Int), (4 : Int)])) (a1 := x3.2) (O := []) hH hL492 hv492 (hf4_3.mono hG265) (hf4_4.mono hG265) (hf4_5.mono hG265) hb493) ?_
       rintro _ w494 ⟨u494_3, u494_4, u494_5, rfl, hL494, hle494, hf494_3, hf494_4, hf494_5⟩
       replace hv492 := hv492.mono (gz_mono hH hle494)
       replace hG265 := hG265.trans (gz_mono hH hle494)
       refine S_guarded rfl rfl hg490 ?_
       refine S_v (RunsAt_pu rfl) rfl ?_
       refine S_v (r_pickT rfl hg490 rfl) rfl ?_
       refine S_pz 1 rfl ?_
       refine W_cond rfl (fun hc495 => ?_) (fun hc495 => ?_)
       ·replace h := Go.L.ite_t hc495 h
        refine W_skip ?_
        refine At_cut (x493.2.f.1, x493.2.f.2.1, x493.2.f.2.2.1, x493.2.f.2.2.2.1, x493.2.f.2.2.2.2, !x493.1, u494_3, u494_4, u494_5) (.cons rfl (.cons rfl (Sub.nil _))) ⟨hL494, hf494_3, hf494_4, hf494_5, h⟩
       ·replace h := Go.L.ite_f hc495 h
        have hG498 := hL494.rG H
        refine W_region ?_
        refine S_pu 1 rfl ?_
        refine S_litE (r := (.int .i64)) (l := [(4 : Int)]) rfl (fun _ => bsl52_1 _ _) rfl (show 1 ≤ 9223372036854775807 by decide) hH hL494 (.c1 rfl .nil) ?_
        intro v499 w499 hx499 hL499 hle499 hv499
        replace hG498 := hG498.trans (gz_mono hH hle499)
        obtain ⟨x500, hb500, h⟩ := Go.L.bind_some h
        refine S_callv rfl rfl rfl (value_checkNode_1_fr (a0 := ([(4 : Int)])) (a1 := x493.2) (O := []) hH hL499 hv499 (hf494_3.mono hG498) (hf494_4.mono hG498) (hf494_5.mono hG498) hb500) ?_
        rintro _ w501 ⟨u501_3, u501_4, u501_5, rfl, hL501, hle501, hf501_3, hf501_4, hf501_5⟩
        replace hv499 := hv499.mono (gz_mono hH hle501)
        replace hG498 := hG498.trans (gz_mono hH hle501)
        refine S_pu 1 rfl ?_
        refine S_split (s := 55) rfl (fun hg502 => ?_) (fun hg502 => ?_)
        ·replace h := Go.L.ite_t hg502 h
         refine S_guarded rfl rfl hg502 ?_
         refine S_v (r_field rfl underlying38 rfl zr30 (by decide)) rfl ?_
         refine S_guarded rfl rfl hg502 ?_
         refine S_v (r_loadB1 0 rfl underlying30 rfl hL501 rfl rfl) rfl ?_
         refine S_guarded rfl rfl hg502 ?_
         refine S_v (r_len rfl underlying30 hf501_4) rfl ?_
         refine S_guarded rfl rfl hg502 ?_
         refine S_v (r_field rfl underlying38 rfl zr36 (by decide)) rfl ?_
         refine S_guarded rfl rfl hg502 ?_
         refine S_v (r_loadB1 0 rfl underlying36 rfl hL501 rfl rfl) rfl ?_
         refine S_guarded rfl rfl hg502 ?_
         refine S_v (r_len rfl underlying36 hf501_5) rfl ?_
         refine S_guarded rfl rfl hg502 ?_
         refine S_v (RunsAt_pu rfl) rfl ?_
         refine S_v (r_pickT rfl hg502 rfl) rfl ?_
         refine S_pu 1 rfl ?_
         refine S_nil ?_
         refine At_cut (x500.2.f.1, x500.2.f.2.1, x500.2.f.2.2.1, x500.2.f.2.2.2.1, x500.2.f.2.2.2.2, !decide ((x500.2.f.2.2.2.1.length : Int) = (x500.2.f.2.2.2.2.length : Int)), u501_3, u501_4, u501_5) (.cons rfl (.cons rfl (Sub.nil _))) ⟨hL501, hf501_3, hf501_4, hf501_5, h⟩
        ·replace h := Go.L.ite_f hg502 h
         iterate 7 refine S_unwanted rfl rfl hg502 rfl ?_
         refine S_v (r_pickF rfl hg502 rfl) rfl ?_
         refine S_pu 1 rfl ?_
         refine S_nil ?_
         refine At_cut (x500.2.f.1, x500.2.f.2.1, x500.2.f.2.2.1, x500.2.f.2.2.2.1, x500.2.f.2.2.2.2, false, u501_3, u501_4, u501_5) (.cons rfl (.cons rfl (Sub.nil _))) ⟨hL501, hf501_3, hf501_4, hf501_5, h⟩
      ·replace h := Go.L.ite_n (of_decide_eq_false hg490) h
       iterate 4 refine S_unwanted rfl rfl hg490 rfl ?_
       refine S_v (r_pickF rfl hg490 rfl) rfl ?_
       refine S_pz 1 rfl ?_
       refine W_false rfl ?_
       refine W_region ?_
       refine S_pu 1 rfl ?_
       refine S_litE (r := (.int .i64)) (l := [(4 : Int)]) rfl (fun _ => bsl52_1 _ _) rfl (show 1 ≤ 9223372036854775807 by decide) hH hL4 (.c1 rfl .nil) ?_
       intro v506 w506 hx506 hL506 hle506 hv506
       replace hG265 := hG265.trans (gz_mono hH hle506)
       obtain ⟨x507, hb507, h⟩ := Go.L.bind_some h
       refine S_callv rfl rfl rfl (value_checkNode_1_fr (a0 := ([(4 : Int)])) (a1 := x3.2) (O := []) hH hL506 hv506 (hf4_3.mono hG265) (hf4_4.mono hG265) (hf4_5.mono hG265) hb507) ?_
       rintro _ w508 ⟨u508_3, u508_4, u508_5, rfl, hL508, hle508, hf508_3, hf508_4, hf508_5⟩
       replace hv506 := hv506.mono (gz_mono hH hle508)
       replace hG265 := hG265.trans (gz_mono hH hle508)
       refine S_pu 1 rfl ?_
       refine S_split (s := 55) rfl (fun hg509 => ?_) (fun hg509 => ?_)
       ·replace h := Go.L.ite_t hg509 h
        refine S_guarded rfl rfl hg509 ?_
        refine S_v (r_field rfl underlying38 rfl zr30 (by decide)) rfl ?_
        refine S_guarded rfl rfl hg509 ?_
        refine S_v (r_loadB1 0 rfl underlying30 rfl hL508 rfl rfl) rfl ?_
        refine S_guarded rfl rfl hg509 ?_
        refine S_v (r_len rfl underlying30 hf508_4) rfl ?_
        refine S_guarded rfl rfl hg509 ?_
        refine S_v (r_field rfl underlying38 rfl zr36 (by decide)) rfl ?_
        refine S_guarded rfl rfl hg509 ?_
        refine S_v (r_loadB1 0 rfl underlying36 rfl hL508 rfl rfl) rfl ?_
        refine S_guarded rfl rfl hg509 ?_
        refine S_v (r_len rfl underlying36 hf508_5) rfl ?_
        refine S_guarded rfl rfl hg509 ?_
        refine S_v (RunsAt_pu rfl) rfl ?_
        refine S_v (r_pickT rfl hg509 rfl) rfl ?_
        refine S_pu 1 rfl ?_
        refine S_nil ?_
        refine At_cut (x507.2.f.1, x507.2.f.2.1, x507.2.f.2.2.1, x507.2.f.2.2.2.1, x507.2.f.2.2.2.2, !decide ((x507.2.f.2.2.2.1.length : Int) = (x507.2.f.2.2.2.2.length : Int)), u508_3, u508_4, u508_5) (.cons rfl (.cons rfl (Sub.nil _))) ⟨hL508, hf508_3, hf508_4, hf508_5, h⟩
       ·replace h := Go.L.ite_f hg509 h
        iterate 7 refine S_unwanted rfl rfl hg509 rfl ?_
        refine S_v (r_pickF rfl hg509 rfl) rfl ?_
        refine S_pu 1 rfl ?_
        refine S_nil ?_
        refine At_cut (x507.2.f.1, x507.2.f.2.1, x507.2.f.2.2.1, x507.2.f.2.2.2.1, x507.2.f.2.2.2.2, false, u508_3, u508_4, u508_5) (.cons rfl (.cons rfl (Sub.nil _))) ⟨hL508, hf508_3, hf508_4, hf508_5, h⟩
  ·rintro ⟨c257, c258, c259, c260, c261, s12_262, vc259, vc260, vc261⟩ wr263 ⟨hL263, hfc259, hfc260, hfc261, h⟩
   refine W_cond rfl (fun hc513 => ?_) (fun hc513 => ?_)
   ·replace h := Go.L.ite_t hc513 h
    have hG515 := hL263.rG H
    refine W_pz 1 rfl ?_
    refine W_ret ?_
    refine At_block_ret ?_
    refine At_seq_ret ?_
    obtain rfl := Option.some.inj h
    refine At_body rfl rfl ?_
    exact ⟨hL263.ext, rfl⟩
   ·replace h := Go.L.ite_f hc513 h
    have hG517 := hL263.rG H
    refine W_seqr ?_
    refine S_v (r_field rfl underlying38 rfl zr36 (by decide)) rfl ?_
    refine S_v (r_loadB1 0 rfl underlying36 rfl hL263 rfl rfl) rfl ?_
    refine S_v (r_len rfl underlying36 (hfc261.mono hG517)) rfl ?_
    refine S_pz 2 rfl ?_
    refine W_if rfl (fun hc518 => ?_) (fun hc518 => ?_)
    ·replace h := Go.L.ite_p hc518 h
     refine W_pz 1 rfl ?_
     refine W_ret ?_
     refine At_block_ret ?_
     refine At_seq_ret ?_
     obtain rfl := Option.some.inj h
     refine At_body rfl rfl ?_
     exact ⟨hL263.ext, rfl⟩
    ·replace h := Go.L.ite_n hc518 h
     refine W_seqr ?_
     refine S_v (r_field rfl underlying38 rfl zr30 (by decide)) rfl ?_
     refine S_v (r_loadB1 0 rfl underlying30 rfl hL263 rfl rfl) rfl ?_
     obtain ⟨x521, hb521, h⟩ := Go.L.bind_some h
     refine S_callL rfl rfl hL263 (conf_checkNode_2_ok _ _ (gz_le hH hL263) (hfc260.mono hG517) hb521) ?_
     rintro _ w522 rfl hx522 hL522 hle522
     replace hG517 := hG517.trans (gz_mono hH hle522)
     refine S_pz 1 rfl ?_
     refine W_cond rfl (fun hc523 => ?_) (fun hc523 => ?_)
     ·replace h := Go.L.ite_t hc523 h
      refine W_pz 1 rfl ?_
      refine W_ret ?_
      refine At_block_ret ?_
      refine At_seq_ret ?_
      obtain rfl := Option.some.inj h
      refine At_body rfl rfl ?_
      exact ⟨hL522.ext, rfl⟩
     ·replace h := Go.L.ite_f hc523 h
      refine W_skip ?_
      refine At_block ?_
      refine At_seq ?_
      refine W_cut (σ := Unit) (fun (_ : Unit) => []) (fun (_ : Unit) wr => InO w [.box b1 [.int .i64 c257, .int .i64 c258, vc259, vc260, vc261] 38] wr fun Oz => Vec .byte (gz H w wr Oz) (vc259) (c259) ∧ Vec .st (gz H w wr Oz) (vc260) (c260) ∧ Vec .tree (gz H w wr Oz) (vc261) (c261) ∧ value_checkNode_k2 = some r) ?_ ?_
      ·refine W_seqr ?_
       refine S_v (r_field rfl underlying38 rfl zr30 (by decide)) rfl ?_
       refine S_v (r_loadB1 0 rfl underlying30 rfl hL522 rfl rfl) rfl ?_
       refine S_v (r_len rfl underlying30 (hfc260.mono hG517)) rfl ?_
       refine S_pz 1 rfl ?_
       refine W_block ?_
       obtain ⟨n574, h⟩ := Go.L.run_some h
       refine W_loop (σ := Int × Nat) (fun ⟨s76_573, n⟩ => [(1, .pointer (some ⟨b1, 0, none⟩)), (74, vc260), (75, .int .i64 (c260.length : Int)), (76, .int .i64 s76_573)]) (fun ⟨s76_573, n⟩ wr => InO w [.box b1 [.int .i64 c257, .int .i64 c258, vc259, vc260, vc261] 38] wr fun Oz => Vec .st (gz H w wr Oz) (vc260) (c260) ∧ Vec .byte (gz H w wr Oz) (vc259) (c259) ∧ Vec .tree (gz H w wr Oz) (vc261) (c261) ∧ Go.L.itr (value_checkNode_bl3 c260) n s76_573 = some r) (fun ⟨s76_573, n⟩ => n) ((0 : Int), n574) (.cons rfl (.cons rfl (.cons rfl (.cons rfl (Sub.nil _))))) ⟨hL522, (hfc260.mono hG517), (hfc259.mono hG517), (hfc261.mono hG517), h⟩ ?_
       rintro ⟨s76_573, nn574⟩ wr574 ⟨hL574, hf574_0, hf574_1, hf574_2, h⟩
       obtain ⟨n574, e574, rfl, h, hm574⟩ := Go.L.itr_some h
       have hG576 := hL574.rG H
       refine W_pz 1 rfl ?_
       refine W_seq ?_
       refine W_if rfl (fun hc577 => ?_) (fun hc577 => ?_)
       ·replace h := Go.L.ite_p hc577 h
        refine W_skip ?_
        refine At_seq ?_
        refine W_seq ?_
        refine W_block ?_
        refine W_p 1 rfl ?_
        obtain ⟨hk580, h⟩ := Go.L.chk_some h
        refine S_index rfl rfl underlying30 zr9 (hf574_0.mono hG576) s76_573.toNat (Int.toNat_of_nonneg hk580.1).symm (idx_lt hk580) rfl ?_
        rintro p579 _ rfl hp579
        refine S_v (r_load1 rfl underlying9 rfl hp579 (gz_le hH hL574)) rfl ?_
        refine S_pz 2 rfl ?_
        refine W_seqr ?_
        refine S_v (r_field rfl underlying38 rfl zr30 (by decide)) rfl ?_
        refine S_v (r_loadB1 0 rfl underlying30 rfl hL574 rfl rfl) rfl ?_
        refine S_pu 1 rfl ?_
        obtain ⟨hk582, h⟩ := Go.L.chk_some h
        refine S_sliceH rfl rfl underlying30 zr9 (hf574_0.mono hG576) hk582 rfl ?_
        intro v581 hv581
        refine S_pu 1 rfl ?_
        obtain ⟨x583, hb583, h⟩ := Go.L.bind_some h
        refine S_callL rfl rfl hL574 (slices_Contains_string_string_ok _ _ (gz_le hH hL574) hv581 hb583) ?_
        rintro _ w584 rfl hx584 hL584 hle584
        replace hv581 := hv581.mono (gz_mono hH hle584)
        replace hG576 := hG576.trans (gz_mono hH hle584)
        refine S_seqnil ?_
        refine W_cond rfl (fun hc585 => ?_) (fun hc585 => ?_)
        ·replace h := Go.L.ite_t hc585 h
         refine W_pz 1 rfl ?_
         refine W_ret ?_
         refine At_block_ret ?_
         refine At_seq_ret ?_
         refine At_loop_ret ?_
         replace h := Go.L.Nxt.out h hm574
         refine At_block_ret ?_
         refine At_cut_ret ?_
         obtain rfl := Option.some.inj h
         refine At_body rfl rfl ?_
         exact ⟨hL584.ext, rfl⟩
        ·replace h := Go.L.ite_f hc585 h
         refine W_skip ?_
         refine At_block ?_
         refine At_seq ?_
         refine W_region ?_
         obtain ⟨hk588, h⟩ := Go.L.chk_some h
         refine S_v (r_ar64 rfl rfl rfl hk588) rfl ?_
         refine S_pu 1 rfl ?_
         refine S_nil ?_
         have h := Go.L.Nxt.again h hm574
         refine At_round ((s76_573 + (1 : Int)), n574) (.cons rfl (.cons rfl (.cons rfl (.cons rfl (Sub.nil _))))) ⟨hL584, (hf574_0.mono hG576), (hf574_1.mono hG576), (hf574_2.mono hG576), h⟩ (Nat.lt_succ_self _)
       ·replace h := Go.L.ite_n hc577 h
        refine W_exit ?_
        refine At_seq_exit ?_
        refine At_loop_exit ?_
        replace h := Go.L.Nxt.out h hm574
        refine At_exit ?_
        refine At_cut () (Sub.nil _) ⟨hL574, (hf574_1.mono hG576), (hf574_0.mono hG576), (hf574_2.mono hG576), h⟩
      ·rintro _ wr557 ⟨hL557, hf557_0, hf557_1, hf557_2, h⟩
       have hG591 := hL557.rG H
       refine W_pz 1 rfl ?_
       refine W_ret ?_
       obtain rfl := Option.some.inj h
       refine At_body rfl rfl ?_
       exact ⟨hL557.ext, rfl⟩
noncomputable def value_check_body_k1 (s9_65 : Int) : Option (Int × (Int × Int)) :=
 some (s9_65, ((0 : Int), (0 : Int)))
noncomputable def value_check_body_bl2 (a0 : Go.L.Pv) (a2 : Int) (self : Go.L.Pv → Int → Int → Option (Int × (Int × Int))) : Int × Int → Option ((Int × Int) ⊕ (Int × (Int × Int))) := fun ⟨s9_90, s33_91⟩ =>
 if s33_91 < (a0.f.2.2.2.2.length : Int) then Go.L.chk (0 ≤ s33_91 ∧ s33_91 < (a0.f.2.2.2.2.length : Int)) (Go.L.chk (Go.L.I64 (a2 + (1 : Int))) (Option.bind (self (a0.f.2.2.2.2.getD s33_91.toNat default) s9_90 (a2 + (1 : Int))) (fun x102 => if x102.2.1 = (0 : Int) ∧ x102.2.2 = (0 : Int) then Go.L.chk (Go.L.I64 (s33_91 + (1 : Int))) (some (Sum.inl (x102.1, (s33_91 + (1 : Int))))) else Option.map Sum.inr (some ((0 : Int), (x102.2.1, x102.2.2)))))) else Option.map Sum.inr (value_check_body_k1 s9_90)
noncomputable def value_check_body_l2 (a0 : Go.L.Pv) (a2 : Int) (self : Go.L.Pv → Int → Int → Option (Int × (Int × Int))) (s : Int × Int) : Option (Int × (Int × Int)) := Go.L.run (value_check_body_bl2 a0 a2 self) s
noncomputable def value_check_body (self : Go.L.Pv → Int → Int → Option (Int × (Int × Int))) (a0 : Go.L.Pv) (a1 : Int) (a2 : Int) : Option (Int × (Int × Int)) :=
 if ((600 : Int) ≤ a1) ∨ ((10 : Int) < a2) then Option.bind (value_fault (2 : Int) a1) (fun x5 => some ((0 : Int), (x5.1, x5.2))) else Option.bind (value_checkNode a0) (fun x9 => if x9 = (0 : Int) then Go.L.chk (Go.L.I64 (a1 + (1 : Int))) ((value_check_body_l2 a0 a2 self) ((a1 + (1 : Int)), (0 : Int))) else Option.bind (value_fault x9 a1) (fun x13 => some ((0 : Int), (x13.1, x13.2))))
noncomputable def value_check_n : Nat → Go.L.Pv → Int → Int → Option (Int × (Int × Int))
 | 0 => fun _ _ _ => none
 | n + 1 => value_check_body (value_check_n n)
noncomputable def value_check : Go.L.Pv → Int → Int → Option (Int × (Int × Int)) := value_check_n 1000
theorem value_check_body_ok (self : Go.L.Pv → Int → Int → Option (Int × (Int × Int))) (hself : ∀ (w : World) (H : PH) (hH : Le H (hp w)) {a0 : Go.L.Pv} {a1 : Int} {a2 : Int} {v0_0 : Value} {v0_1 : Value} {v0_2 : Value} (h0_0 : Vec .byte H v0_0 (a0.f.2.2.1)) (h0_1 : Vec .st H v0_1 (a0.f.2.2.2.1)) (h0_2 : Vec .tree H v0_2 (a0.f.2.2.2.2)) {r : Int × (Int × Int)} (h : self a0 a1 a2 = some r), Ok Tryz.prog 93 [.agg #[.int .i64 a0.f.1, .int .i64 a0.f.2.1, v0_0, v0_1, v0_2], .int .i64 a1, .int .i64 a2] w (fun v w' => Ext w w' ∧ v = .tuple #[.int .i64 r.1, .agg #[.int .i64 r.2.1, .int .i64 r.2.2]])) (w : World) (H : PH) (hH : Le H (hp w)) {a0 : Go.L.Pv} {a1 : Int} {a2 : Int} {v0_0 : Value} {v0_1 : Value} {v0_2 : Value} (h0_0 : Vec .byte H v0_0 (a0.f.2.2.1)) (h0_1 : Vec .st H v0_1 (a0.f.2.2.2.1)) (h0_2 : Vec .tree H v0_2 (a0.f.2.2.2.2)) {r : Int × (Int × Int)} (h : value_check_body self a0 a1 a2 = some r) :
  Ok Tryz.prog 93 [.agg #[.int .i64 a0.f.1, .int .i64 a0.f.2.1, v0_0, v0_1, v0_2], .int .i64 a1, .int .i64 a2] w (fun v w' => Ext w w' ∧ v = .tuple #[.int .i64 r.1, .agg #[.int .i64 r.2.1, .int .i64 r.2.2]]) := by
 refine Ok_enter (n := 52) [(0, .agg #[.int .i64 a0.f.1, .int .i64 a0.f.2.1, v0_0, v0_1, v0_2]), (1, .int .i64 a1), (2, .int .i64 a2)] func93 rfl rfl rfl rfl rfl ?_
 have hL := Lcl.start w
 refine W_seqr ?_
 refine S_box (t := 38) rfl rfl rfl hL ?_
 intro w1 b1 hL1 hle1 _
 refine S_pu 1 rfl ?_
 refine S_alloc zr23 rfl rfl hL1 ?_
 intro w2 b2 hL2 hle2 _
 refine S_seqnil ?_
 refine W_seq ?_
 refine W_p 3 rfl ?_
 refine S_or 2 2 rfl rfl rfl rfl rfl rfl ?_
 refine S_seqnil ?_
 refine W_if rfl (fun hc3 => ?_) (fun hc3 => ?_)
 ·replace h := Go.L.ite_p hc3 h
  refine W_p 1 rfl ?_
  obtain ⟨x5, hb5, h⟩ := Go.L.bind_some h
  refine S_callL rfl rfl hL2 (value_fault_ok _ _ (gz_le hH hL2) hb5) ?_
  rintro _ w6 rfl hx6 hL6 hle6
  refine S_pu 1 rfl ?_
  refine S_storeBN 0 rfl rfl rfl zr23 hL6 rfl rfl (onc rfl (onc rfl on0)) ?_
  intro w7 hL7 hle7
  refine S_seqnil ?_
  refine W_ret ?_
  refine At_seq_ret ?_
  obtain rfl := Option.some.inj h
  refine At_got2 rfl (.tmp rfl) (.cell rfl underlying23 rfl zr23 (box_ptr (i := 0) hL7 rfl)) ?_
  exact ⟨hL7.ext, rfl⟩
 ·replace h := Go.L.ite_n hc3 h
  refine W_skip ?_
  refine At_seq ?_
  refine W_seq ?_
  refine W_seqr ?_
  refine S_v (r_loadBN 1 rfl underlying38 rfl zr38 hL2 rfl) rfl ?_
  obtain ⟨x9, hb9, h⟩ := Go.L.bind_some h
  refine S_callL rfl rfl hL2 (value_checkNode_ok (a0 := a0) _ _ (gz_le hH hL2) (h0_0.mono (gz_left hH)) (h0_1.mono (gz_left hH)) (h0_2.mono (gz_left hH)) hb9) ?_
  rintro _ w10 rfl hx10 hL10 hle10
  refine S_pz 1 rfl ?_
  refine W_pz 2 rfl ?_
  refine W_ifn rfl (fun hc11 => ?_) (fun hc11 => ?_)
  ·replace h := Go.L.ite_n hc11 h
   refine W_p 2 rfl ?_
   obtain ⟨x13, hb13, h⟩ := Go.L.bind_some h
   refine S_callL rfl rfl hL10 (value_fault_ok _ _ (gz_le hH hL10) hb13) ?_
   rintro _ w14 rfl hx14 hL14 hle14
   refine S_pu 1 rfl ?_
   refine S_storeBN 0 rfl rfl rfl zr23 hL14 rfl rfl (onc rfl (onc rfl on0)) ?_
   intro w15 hL15 hle15
   refine S_seqnil ?_
   refine W_ret ?_
   refine At_seq_ret ?_
   obtain rfl := Option.some.inj h
   refine At_got2 rfl (.tmp rfl) (.cell rfl underlying23 rfl zr23 (box_ptr (i := 0) hL15 rfl)) ?_
   exact ⟨hL15.ext, rfl⟩
  ·replace h := Go.L.ite_p hc11 h
   refine W_skip ?_
   refine At_seq ?_
   refine W_p 1 rfl ?_
   obtain ⟨hk17, h⟩ := Go.L.chk_some h
   refine S_v (r_ar64 rfl rfl rfl hk17) rfl ?_
   refine S_pz 1 rfl ?_
   refine W_cut (σ := Int) (fun s9_65 => [(7, .pointer (some ⟨b2, 0, none⟩)), (9, .int .i64 s9_65)]) (fun s9_65 wr => Lcl w [.box b2 [.int .i64 (0 : Int), .int .i64 (0 : Int)] 23, .box b1 [.int .i64 a0.f.1, .int .i64 a0.f.2.1, v0_0, v0_1, v0_2] 38] wr ∧ value_check_body_k1 s9_65 = some r) ?_ ?_
   ·refine W_seqr ?_
    refine S_v (r_field rfl underlying38 rfl zr36 (by decide)) rfl ?_
    refine S_v (r_loadB1 1 rfl underlying36 rfl hL10 rfl rfl) rfl ?_
    refine S_v (r_len rfl underlying36 h0_2) rfl ?_
    refine S_pz 1 rfl ?_
    refine W_block ?_
    obtain ⟨n92, h⟩ := Go.L.run_some h
    refine W_loop (σ := Int × Int × Nat) (fun ⟨s9_90, s33_91, n⟩ => [(2, .int .i64 a2), (7, .pointer (some ⟨b2, 0, none⟩)), (9, .int .i64 s9_90), (31, v0_2), (32, .int .i64 (a0.f.2.2.2.2.length : Int)), (33, .int .i64 s33_91)]) (fun ⟨s9_90, s33_91, n⟩ wr => Lcl w [.box b2 [.int .i64 (0 : Int), .int .i64 (0 : Int)] 23, .box b1 [.int .i64 a0.f.1, .int .i64 a0.f.2.1, v0_0, v0_1, v0_2] 38] wr ∧ Go.L.itr (value_check_body_bl2 a0 a2 self) n (s9_90, s33_91) = some r) (fun ⟨s9_90, s33_91, n⟩ => n) ((a1 + (1 : Int)), (0 : Int), n92) (.cons rfl (.cons rfl (.cons rfl (.cons rfl (.cons rfl (.cons rfl (Sub.nil _))))))) ⟨hL10, h⟩ ?_
    rintro ⟨s9_90, s33_91, nn92⟩ wr92 ⟨hL92, h⟩
    obtain ⟨n92, e92, rfl, h, hm92⟩ := Go.L.itr_some h
    refine W_pz 1 rfl ?_
    refine W_seq ?_
    refine W_if rfl (fun hc94 => ?_) (fun hc94 => ?_)
    ·replace h := Go.L.ite_p hc94 h
     refine W_skip ?_
     refine At_seq ?_
     refine W_seq ?_
     refine W_block ?_
     refine W_seqr ?_
     obtain ⟨hk97, h⟩ := Go.L.chk_some h
     refine S_index rfl rfl underlying36 zr38 h0_2 s33_91.toNat (Int.toNat_of_nonneg hk97.1).symm (idx_lt hk97) rfl ?_
     rintro p96 _ e96t0 hp96
     obtain ⟨_, _, rfl, rfl, ⟨_, _, rfl, rfl, ⟨_, _, rfl, ⟨e96v2, rfl, e96h2⟩, ⟨_, _, rfl, ⟨e96v3, rfl, e96h3⟩, ⟨e96v4, rfl, e96h4⟩⟩⟩⟩⟩ := Go.E.Rp.tree_open e96t0
     refine S_v (r_loadN rfl underlying38 rfl zr38 hp96 (hH.trans hL92.arg)) rfl ?_
     refine S_alloc zr38 rfl rfl hL92 ?_
     intro w98 b98 hL98 hle98 _
     refine S_storeBN 0 rfl rfl rfl zr38 hL98 rfl rfl (onc rfl (onc rfl (onc e96h2.one (onc e96h3.one (onc e96h4.one on0))))) ?_
     intro w99 hL99 hle99
     refine S_seqnil ?_
     refine W_seqr ?_
     refine S_alloc zr23 rfl rfl hL99 ?_
     intro w100 b100 hL100 hle100 _
     refine S_seqnil ?_
     refine W_seqr ?_
     refine S_v (r_loadBN 1 rfl underlying38 rfl zr38 hL100 rfl) rfl ?_
     refine S_pu 2 rfl ?_
     obtain ⟨hk101, h⟩ := Go.L.chk_some h
     refine S_v (r_ar64 rfl rfl rfl hk101) rfl ?_
     obtain ⟨x102, hb102, h⟩ := Go.L.bind_some h
     refine S_callL rfl rfl hL100 (hself _ _ (gz_le hH hL100) (e96h2.mono (gz_left hH)) (e96h3.mono (gz_left hH)) (e96h4.mono (gz_left hH)) hb102) ?_
     rintro _ w103 rfl hx103 hL103 hle103
     refine S_pu 4 rfl ?_
     refine S_storeBN 0 rfl rfl rfl zr23 hL103 rfl rfl (onc rfl (onc rfl on0)) ?_
     intro w104 hL104 hle104
     refine S_seqnil ?_
     refine W_seqr ?_
     refine S_v (r_loadBN 0 rfl underlying23 rfl zr23 hL104 rfl) rfl ?_
     refine S_v (r_build rfl (fun _ => bld23_z _)) rfl ?_
     refine S_v (r_neA rfl rfl eqg23 (eq23 _ _ _ _ )) rfl ?_
     refine S_seqnil ?_
     refine W_ifn rfl (fun hc105 => ?_) (fun hc105 => ?_)
     ·replace h := Go.L.ite_n hc105 h
      refine W_seqd (.q 0 (.q 1 (.tail 2))) mixed (by kernel_rfl) (fun w107 hx107 => ?_)
      have hL108 := hL104.call hx107
      refine D_v (r_loadBN 0 rfl underlying23 rfl zr23 hL108 rfl) rfl rfl ?_
      refine D_pu 1 rfl ?_
      refine D_tail (fun w109 hx109 => ?_)
      have hL110 := hL108.call hx109
      refine S_storeBN 2 rfl rfl rfl zr23 hL110 rfl rfl (onc rfl (onc rfl on0)) ?_
      intro w111 hL111 hle111
      refine S_seqnil ?_
      refine W_ret ?_
      refine At_block_ret ?_
      refine At_seq_ret ?_
      refine At_loop_ret ?_
      replace h := Go.L.Nxt.out h hm92
      refine At_block_ret ?_
      refine At_cut_ret ?_
      obtain rfl := Option.some.inj h
      refine At_got2 rfl (.tmp rfl) (.cell rfl underlying23 rfl zr23 (box_ptr (i := 2) hL111 rfl)) ?_
      exact ⟨hL111.ext, rfl⟩
     ·replace h := Go.L.ite_p hc105 h
      refine W_skip ?_
      refine At_block ?_
      refine At_seq ?_
      refine W_region ?_
      obtain ⟨hk113, h⟩ := Go.L.chk_some h
      refine S_v (r_ar64 rfl rfl rfl hk113) rfl ?_
      refine S_pu 1 rfl ?_
      refine S_nil ?_
      have hL114 := hL104.dropAt (i := 0) rfl
      have hL115 := hL114.dropAt (i := 0) rfl
      have h := Go.L.Nxt.again h hm92
      refine At_round (x102.1, (s33_91 + (1 : Int)), n92) (.cons rfl (.cons rfl (.cons rfl (.cons rfl (.cons rfl (.cons rfl (Sub.nil _))))))) ⟨hL115, h⟩ (Nat.lt_succ_self _)
    ·replace h := Go.L.ite_n hc94 h
     refine W_exit ?_
     refine At_seq_exit ?_
     refine At_loop_exit ?_
     replace h := Go.L.Nxt.out h hm92
     refine At_exit ?_
     refine At_cut s9_90 (.cons rfl (.cons rfl (Sub.nil _))) ⟨hL92, h⟩
   ·rintro s9_65 wr66 ⟨hL66, h⟩
    refine W_p 1 rfl ?_
    refine S_v (r_build rfl (fun _ => bld23_z _)) rfl ?_
    refine S_pu 1 rfl ?_
    refine S_storeBN 0 rfl rfl rfl zr23 hL66 rfl rfl (onc rfl (onc rfl on0)) ?_
    intro w118 hL118 hle118
    refine S_seqnil ?_
    refine W_ret ?_
    obtain rfl := Option.some.inj h
    refine At_got2 rfl (.tmp rfl) (.cell rfl underlying23 rfl zr23 (box_ptr (i := 0) hL118 rfl)) ?_
    exact ⟨hL118.ext, rfl⟩
theorem value_check_n_ok (n : Nat) : ∀ (w : World) (H : PH) (hH : Le H (hp w)) {a0 : Go.L.Pv} {a1 : Int} {a2 : Int} {v0_0 : Value} {v0_1 : Value} {v0_2 : Value} (h0_0 : Vec .byte H v0_0 (a0.f.2.2.1)) (h0_1 : Vec .st H v0_1 (a0.f.2.2.2.1)) (h0_2 : Vec .tree H v0_2 (a0.f.2.2.2.2)) {r : Int × (Int × Int)} (h : value_check_n n a0 a1 a2 = some r), Ok Tryz.prog 93 [.agg #[.int .i64 a0.f.1, .int .i64 a0.f.2.1, v0_0, v0_1, v0_2], .int .i64 a1, .int .i64 a2] w (fun v w' => Ext w w' ∧ v = .tuple #[.int .i64 r.1, .agg #[.int .i64 r.2.1, .int .i64 r.2.2]]) := by
 induction n with
 | zero => intros; rename_i h; cases h
 | succ n ih => exact @value_check_body_ok (value_check_n n) ih
theorem value_check_ok (w : World) (H : PH) (hH : Le H (hp w)) {a0 : Go.L.Pv} {a1 : Int} {a2 : Int} {v0_0 : Value} {v0_1 : Value} {v0_2 : Value} (h0_0 : Vec .byte H v0_0 (a0.f.2.2.1)) (h0_1 : Vec .st H v0_1 (a0.f.2.2.2.1)) (h0_2 : Vec .tree H v0_2 (a0.f.2.2.2.2)) {r : Int × (Int × Int)} (h : value_check a0 a1 a2 = some r) : Ok Tryz.prog 93 [.agg #[.int .i64 a0.f.1, .int .i64 a0.f.2.1, v0_0, v0_1, v0_2], .int .i64 a1, .int .i64 a2] w (fun v w' => Ext w w' ∧ v = .tuple #[.int .i64 r.1, .agg #[.int .i64 r.2.1, .int .i64 r.2.2]]) := value_check_n_ok 1000 w H hH h0_0 h0_1 h0_2 h
noncomputable def wire_Number_k1 (l12 : List UInt8) (s3_13 : Int) : Option ((List UInt8)) :=
 Go.L.chk (Go.E.Cap 1 (l12.length + ([(Go.L.u8 s3_13)]).length)) (some ((l12 ++ [(Go.L.u8 s3_13)])))
noncomputable def wire_Number_bl2 : (List UInt8) × Int → Option (((List UInt8) × Int) ⊕ ((List UInt8))) := fun ⟨l23, s3_24⟩ =>
 if (128 : Int) ≤ s3_24 then Go.L.chk (Go.E.Cap 1 (l23.length + ([((Go.L.u8 s3_24) ||| (128 : UInt8))]).length)) (some (Sum.inl ((l23 ++ [((Go.L.u8 s3_24) ||| (128 : UInt8))]), (s3_24 / 128)))) else Option.map Sum.inr (wire_Number_k1 l23 s3_24)
noncomputable def wire_Number_l2 (s : (List UInt8) × Int) : Option ((List UInt8)) := Go.L.run (wire_Number_bl2) s
noncomputable def wire_Number (a0 : Int) : Option ((List UInt8)) :=
 Go.L.chk ((0 ≤ (IntKind.u64.wrap ((IntKind.u64.wrap a0) * 2)) ∧ (IntKind.u64.wrap ((IntKind.u64.wrap a0) * 2)) < 2 ^ 64) ∧ (0 ≤ (IntKind.u64.wrap (a0 / 9223372036854775808)) ∧ (IntKind.u64.wrap (a0 / 9223372036854775808)) < 2 ^ 64)) (wire_Number_l2 (([] : List UInt8), (((IntKind.u64.wrap ((IntKind.u64.wrap a0) * 2)).toNat ^^^ (IntKind.u64.wrap (a0 / 9223372036854775808)).toNat : Nat) : Int)))
theorem wire_Number_ok (w : World) (H : PH) (hH : Le H (hp w)) {a0 : Int}   {r : (List UInt8)} (h : wire_Number a0 = some r) :
  Ok Tryz.prog 74 [.int .i64 a0] w (fun v w' => Ext w w' ∧ ∃ u0, v = u0 ∧ OwnH 5 .byte H w w' u0 (r)) := by
 refine Ok_enter (n := 27) [(0, .int .i64 a0)] func74 rfl rfl rfl rfl rfl ?_
 have hL := Lcl.start w
 refine W_pz 1 rfl ?_
 refine W_p 1 rfl ?_
 refine S_v (r_conv underlying3 underlying136 rfl rfl) rfl ?_
 refine S_v (r_shl (c := 1) (m := 2) rfl rfl rfl (by decide) rfl) rfl ?_
 refine S_pu 1 rfl ?_
 refine S_v (r_shr (c := 63) (m := 9223372036854775808) rfl rfl rfl (by decide)) rfl ?_
 refine S_v (r_conv underlying3 underlying136 rfl rfl) rfl ?_
 obtain ⟨hk1, h⟩ := Go.L.chk_some h
 refine S_v (r_bitU rfl rfl rfl hk1) rfl ?_
 refine S_pz 1 rfl ?_
 refine W_p 1 rfl ?_
 obtain ⟨hL2, hle2, he2⟩ := row_nilE .byte H 5 hL
 refine S_seqnil ?_
 refine W_cut (σ := (List UInt8) × Int × Value × (List Value)) (fun ⟨l12, s3_13, vl12, xsl12⟩ => [(3, .int .u64 s3_13), (4, vl12)]) (fun ⟨l12, s3_13, vl12, xsl12⟩ wr => InO w [.row (vl12) 5 1 (l12).length (xsl12)] wr fun Oz => Elems .byte (gz H w wr Oz) (l12) (xsl12) ∧ wire_Number_k1 l12 s3_13 = some r) ?_ ?_
 ·refine W_block ?_
  obtain ⟨n25, h⟩ := Go.L.run_some h
  refine W_loop (σ := (List UInt8) × Int × Value × (List Value) × Nat) (fun ⟨l23, s3_24, vl23, xsl23, n⟩ => [(3, .int .u64 s3_24), (4, vl23)]) (fun ⟨l23, s3_24, vl23, xsl23, n⟩ wr => InO w [.row (vl23) 5 1 (l23).length (xsl23)] wr fun Oz => Elems .byte (gz H w wr Oz) (l23) (xsl23) ∧ Go.L.itr wire_Number_bl2 n (l23, s3_24) = some r) (fun ⟨l23, s3_24, vl23, xsl23, n⟩ => n) (([] : List UInt8), (((IntKind.u64.wrap ((IntKind.u64.wrap a0) * 2)).toNat ^^^ (IntKind.u64.wrap (a0 / 9223372036854775808)).toNat : Nat) : Int), .slice none 0 0, [], n25) (.cons rfl (.cons rfl (Sub.nil _))) ⟨hL2, he2, h⟩ ?_
  rintro ⟨l23, s3_24, vl23, xsl23, nn25⟩ wr25 ⟨hL25, hel23, h⟩
  obtain ⟨n25, e25, rfl, h, hm25⟩ := Go.L.itr_some h
  refine W_seq ?_
  refine W_pz 2 rfl ?_
  refine W_if rfl (fun hc27 => ?_) (fun hc27 => ?_)
  ·replace h := Go.L.ite_p hc27 h
   refine W_skip ?_
   refine At_seq ?_
   refine W_seq ?_
   refine W_block ?_
   refine W_region ?_
   refine S_pu 2 rfl ?_
   refine S_v (r_conv underlying136 underlying5 rfl (conv_64_u8 _)) rfl ?_
   refine S_v (r_bit8 (b := 128) rfl rfl rfl) rfl ?_
   refine S_litE (r := .byte) (l := [((Go.L.u8 s3_24) ||| (128 : UInt8))]) rfl (fun _ => bsl35_1 _ _) rfl (show 1 ≤ 9223372036854775807 by decide) hH hL25 (.c1 rfl .nil) ?_
   intro v29 w29 hx29 hL29 hle29 hv29
   replace hel23 := hel23.mono (gz_mono hH hle29)
   obtain ⟨hk31, h⟩ := Go.L.chk_some h
   refine S_appE (r := .byte) (l := l23) (m := [((Go.L.u8 s3_24) ||| (128 : UInt8))]) 0 rfl rfl underlying35 zr5 rfl (by decide) rfl hH hL29 rfl hel23 hv29 hk31 ?_
   intro v30 w30 xs30 hL30 hle30 he30
   replace hv29 := hv29.mono (gz_mono hH hle30)
   refine S_pu 1 rfl ?_
   refine S_nil ?_
   refine At_block ?_
   refine At_seq ?_
   refine W_region ?_
   refine S_pu 1 rfl ?_
   refine S_v (r_shr (c := 7) (m := 128) rfl rfl rfl (by decide)) rfl ?_
   refine S_pu 1 rfl ?_
   refine S_nil ?_
   have h := Go.L.Nxt.again h hm25
   refine At_round ((l23 ++ [((Go.L.u8 s3_24) ||| (128 : UInt8))]), (s3_24 / 128), v30, xs30, n25) (.cons rfl (.cons rfl (Sub.nil _))) ⟨hL30, he30, h⟩ (Nat.lt_succ_self _)
  ·replace h := Go.L.ite_n hc27 h
   refine W_exit ?_
   refine At_seq_exit ?_
   refine At_loop_exit ?_
   replace h := Go.L.Nxt.out h hm25
   refine At_exit ?_
   refine At_cut (l23, s3_24, vl23, xsl23) (.cons rfl (.cons rfl (Sub.nil _))) ⟨hL25, hel23, h⟩
 ·rintro ⟨l12, s3_13, vl12, xsl12⟩ wr14 ⟨hL14, hel12, h⟩
  refine W_p 2 rfl ?_
  refine S_v (r_conv underlying136 underlying5 rfl (conv_64_u8 _)) rfl ?_
  refine S_litE (r := .byte) (l := [(Go.L.u8 s3_13)]) rfl (fun _ => bsl35_1 _ _) rfl (show 1 ≤ 9223372036854775807 by decide) hH hL14 (.c1 rfl .nil) ?_
  intro v34 w34 hx34 hL34 hle34 hv34
  replace hel12 := hel12.mono (gz_mono hH hle34)
  obtain ⟨hk36, h⟩ := Go.L.chk_some h
  refine S_appE (r := .byte) (l := l12) (m := [(Go.L.u8 s3_13)]) 0 rfl rfl underlying35 zr5 rfl (by decide) rfl hH hL34 rfl hel12 hv34 hk36 ?_
  intro v35 w35 xs35 hL35 hle35 he35
  replace hv34 := hv34.mono (gz_mono hH hle35)
  refine S_pz 1 rfl ?_
  refine W_ret ?_
  obtain rfl := Option.some.inj h
  refine At_body rfl rfl ?_
  exact ⟨hL35.ext, _, rfl, (hL35.ownH hH (i := 0) rfl he35)⟩
noncomputable def wire_Chunk (a0 : List UInt8) : Option ((List UInt8)) :=
 Option.bind (wire_Number (a0.length : Int)) (fun x1 => Go.L.chk (Go.E.Cap 1 (x1.length + a0.length)) (some ((x1 ++ a0))))
theorem wire_Chunk_ok (w : World) (H : PH) (hH : Le H (hp w)) {a0 : List UInt8} {v0_0 : Value} (h0_0 : Vec .byte H v0_0 (a0)) {r : (List UInt8)} (h : wire_Chunk a0 = some r) :
  Ok Tryz.prog 109 [v0_0] w (fun v w' => Ext w w' ∧ ∃ u0, v = u0 ∧ OwnH 5 .byte H w w' u0 (r)) := by
 refine Ok_enter (n := 8) [(0, v0_0)] func109 rfl rfl rfl rfl rfl ?_
 have hL := Lcl.start w
 refine W_pz 1 rfl ?_
 refine W_p 1 rfl ?_
 refine S_v (r_len rfl underlying35 h0_0) rfl ?_
 obtain ⟨x1, hb1, h⟩ := Go.L.bind_some h
 refine S_callL rfl rfl hL (wire_Number_ok _ _ (gz_le hH hL) hb1) ?_
 rintro u2_0 w2 ⟨_, rfl, hR2_0⟩ hx2 hL2 hle2
 obtain ⟨xs2, hL2, hle2, he2⟩ := hR2_0.take hH hL hx2
 refine S_pu 1 rfl ?_
 obtain ⟨hk4, h⟩ := Go.L.chk_some h
 refine S_appE (r := .byte) (l := x1) (m := a0) 0 rfl rfl underlying35 zr5 rfl (by decide) rfl hH hL2 rfl he2 (h0_0.mono (gz_left hH)) hk4 ?_
 intro v3 w3 xs3 hL3 hle3 he3
 refine S_pz 1 rfl ?_
 refine W_ret ?_
 obtain rfl := Option.some.inj h
 refine At_body rfl rfl ?_
 exact ⟨hL3.ext, _, rfl, (hL3.ownH hH (i := 0) rfl he3)⟩
noncomputable def value_encode_body_k3 (a0 : Go.L.Pv) (s34_107 : Int) (self : Go.L.Pv → Option ((List UInt8))) (l128 : List UInt8) : Option (((List UInt8) × Int) ⊕ ((List UInt8))) :=
 Option.bind (self (a0.f.2.2.2.2.getD s34_107.toNat default)) (fun x143 => Go.L.chk (Go.E.Cap 1 (l128.length + x143.length)) (Go.L.chk (Go.L.I64 (s34_107 + (1 : Int))) (some (Sum.inl ((l128 ++ x143), (s34_107 + (1 : Int)))))))
noncomputable def value_encode_body_k1 (l77 : List UInt8) : Option ((List UInt8)) :=
 some (l77)
noncomputable def value_encode_body_bl2 (a0 : Go.L.Pv) (self : Go.L.Pv → Option ((List UInt8))) : (List UInt8) × Int → Option (((List UInt8) × Int) ⊕ ((List UInt8))) := fun ⟨l106, s34_107⟩ =>
 if s34_107 < (a0.f.2.2.2.2.length : Int) then Go.L.chk (0 ≤ s34_107 ∧ s34_107 < (a0.f.2.2.2.2.length : Int)) (if a0.f.1 = (4 : Int) then Go.L.chk (0 ≤ s34_107 ∧ s34_107 < (a0.f.2.2.2.1.length : Int)) (Go.L.chk ((a0.f.2.2.2.1.getD s34_107.toNat default).length ≤ 9223372036854775807) (Option.bind (wire_Chunk (a0.f.2.2.2.1.getD s34_107.toNat default)) (fun x137 => Go.L.chk (Go.E.Cap 1 (l106.length + x137.length)) ((value_encode_body_k3 a0 s34_107 self) (l106 ++ x137))))) else (value_encode_body_k3 a0 s34_107 self) l106) else Option.map Sum.inr (value_encode_body_k1 l106)
noncomputable def value_encode_body_l2 (a0 : Go.L.Pv) (self : Go.L.Pv → Option ((List UInt8))) (s : (List UInt8) × Int) : Option ((List UInt8)) := Go.L.run (value_encode_body_bl2 a0 self) s
noncomputable def value_encode_body (self : Go.L.Pv → Option ((List UInt8))) (a0 : Go.L.Pv) : Option ((List UInt8)) :=
 Option.bind (wire_Number a0.f.1) (fun x2 => if a0.f.1 = (1 : Int) then Option.bind (wire_Number a0.f.2.1) (fun x6 => Go.L.chk (Go.E.Cap 1 (x2.length + x6.length)) (some ((x2 ++ x6)))) else (if a0.f.1 = (2 : Int) then Option.bind (wire_Chunk a0.f.2.2.1) (fun x13 => Go.L.chk (Go.E.Cap 1 (x2.length + x13.length)) (some ((x2 ++ x13)))) else Option.bind (wire_Number (a0.f.2.2.2.2.length : Int)) (fun x18 => Go.L.chk (Go.E.Cap 1 (x2.length + x18.length)) ((value_encode_body_l2 a0 self) ((x2 ++ x18), (0 : Int))))))
noncomputable def value_encode_n : Nat → Go.L.Pv → Option ((List UInt8))
 | 0 => fun _ => none
 | n + 1 => value_encode_body (value_encode_n n)
noncomputable def value_encode : Go.L.Pv → Option ((List UInt8)) := value_encode_n 1000
theorem value_encode_body_ok (self : Go.L.Pv → Option ((List UInt8))) (hself : ∀ (w : World) (H : PH) (hH : Le H (hp w)) {a0 : Go.L.Pv} {v0_0 : Value} {v0_1 : Value} {v0_2 : Value} (h0_0 : Vec .byte H v0_0 (a0.f.2.2.1)) (h0_1 : Vec .st H v0_1 (a0.f.2.2.2.1)) (h0_2 : Vec .tree H v0_2 (a0.f.2.2.2.2)) {r : (List UInt8)} (h : self a0 = some r), Ok Tryz.prog 94 [.agg #[.int .i64 a0.f.1, .int .i64 a0.f.2.1, v0_0, v0_1, v0_2]] w (fun v w' => Ext w w' ∧ ∃ u0, v = u0 ∧ OwnH 5 .byte H w w' u0 (r))) (w : World) (H : PH) (hH : Le H (hp w)) {a0 : Go.L.Pv} {v0_0 : Value} {v0_1 : Value} {v0_2 : Value} (h0_0 : Vec .byte H v0_0 (a0.f.2.2.1)) (h0_1 : Vec .st H v0_1 (a0.f.2.2.2.1)) (h0_2 : Vec .tree H v0_2 (a0.f.2.2.2.2)) {r : (List UInt8)} (h : value_encode_body self a0 = some r) :
  Ok Tryz.prog 94 [.agg #[.int .i64 a0.f.1, .int .i64 a0.f.2.1, v0_0, v0_1, v0_2]] w (fun v w' => Ext w w' ∧ ∃ u0, v = u0 ∧ OwnH 5 .byte H w w' u0 (r)) := by
 refine Ok_enter (n := 57) [(0, .agg #[.int .i64 a0.f.1, .int .i64 a0.f.2.1, v0_0, v0_1, v0_2])] func94 rfl rfl rfl rfl rfl ?_
 have hL := Lcl.start w
 refine W_seqr ?_
 refine S_box (t := 38) rfl rfl rfl hL ?_
 intro w1 b1 hL1 hle1 _
 refine S_pz 1 rfl ?_
 refine W_seqr ?_
 refine S_v (r_field rfl underlying38 rfl zr3 (by decide)) rfl ?_
 refine S_v (r_loadB1 0 rfl underlying3 rfl hL1 rfl rfl) rfl ?_
 obtain ⟨x2, hb2, h⟩ := Go.L.bind_some h
 refine S_callL rfl rfl hL1 (wire_Number_ok _ _ (gz_le hH hL1) hb2) ?_
 rintro u3_0 w3 ⟨_, rfl, hR3_0⟩ hx3 hL3 hle3
 obtain ⟨xs3, hL3, hle3, he3⟩ := hR3_0.take hH hL1 hx3
 refine S_pz 1 rfl ?_
 refine W_seq ?_
 refine W_seqr ?_
 refine S_v (r_field rfl underlying38 rfl zr3 (by decide)) rfl ?_
 refine S_v (r_loadB1 1 rfl underlying3 rfl hL3 rfl rfl) rfl ?_
 refine S_seqnil ?_
 refine W_block ?_
 refine W_pz 2 rfl ?_
 refine W_if rfl (fun hc4 => ?_) (fun hc4 => ?_)
 ·replace h := Go.L.ite_p hc4 h
  refine W_p 1 rfl ?_
  refine S_v (r_field rfl underlying38 rfl zr3 (by decide)) rfl ?_
  refine S_v (r_loadB1 1 rfl underlying3 rfl hL3 rfl rfl) rfl ?_
  obtain ⟨x6, hb6, h⟩ := Go.L.bind_some h
  refine S_callL rfl rfl hL3 (wire_Number_ok _ _ (gz_le hH hL3) hb6) ?_
  rintro u7_0 w7 ⟨_, rfl, hR7_0⟩ hx7 hL7 hle7
  have hv7_0 := hR7_0.vecG hH hL3 hx7
  replace he3 := he3.mono (gz_mono hH hle7)
  obtain ⟨hk9, h⟩ := Go.L.chk_some h
  refine S_appE (r := .byte) (l := x2) (m := x6) 0 rfl rfl underlying35 zr5 rfl (by decide) rfl hH hL7 rfl he3 hv7_0 hk9 ?_
  intro v8 w8 xs8 hL8 hle8 he8
  replace hv7_0 := hv7_0.mono (gz_mono hH hle8)
  refine S_pz 1 rfl ?_
  refine W_ret ?_
  refine At_block_ret ?_
  refine At_seq_ret ?_
  obtain rfl := Option.some.inj h
  refine At_body rfl rfl ?_
  exact ⟨hL8.ext, _, rfl, (hL8.ownH hH (i := 0) rfl he8)⟩
 ·replace h := Go.L.ite_n hc4 h
  refine W_pz 2 rfl ?_
  refine W_if rfl (fun hc11 => ?_) (fun hc11 => ?_)
  ·replace h := Go.L.ite_p hc11 h
   refine W_p 1 rfl ?_
   refine S_v (r_field rfl underlying38 rfl zr35 (by decide)) rfl ?_
   refine S_v (r_loadB1 1 rfl underlying35 rfl hL3 rfl rfl) rfl ?_
   obtain ⟨x13, hb13, h⟩ := Go.L.bind_some h
   refine S_callL rfl rfl hL3 (wire_Chunk_ok _ _ (gz_le hH hL3) (h0_0.mono (gz_left hH)) hb13) ?_
   rintro u14_0 w14 ⟨_, rfl, hR14_0⟩ hx14 hL14 hle14
   have hv14_0 := hR14_0.vecG hH hL3 hx14
   replace he3 := he3.mono (gz_mono hH hle14)
   obtain ⟨hk16, h⟩ := Go.L.chk_some h
   refine S_appE (r := .byte) (l := x2) (m := x13) 0 rfl rfl underlying35 zr5 rfl (by decide) rfl hH hL14 rfl he3 hv14_0 hk16 ?_
   intro v15 w15 xs15 hL15 hle15 he15
   replace hv14_0 := hv14_0.mono (gz_mono hH hle15)
   refine S_pz 1 rfl ?_
   refine W_ret ?_
   refine At_block_ret ?_
   refine At_seq_ret ?_
   obtain rfl := Option.some.inj h
   refine At_body rfl rfl ?_
   exact ⟨hL15.ext, _, rfl, (hL15.ownH hH (i := 0) rfl he15)⟩
  ·replace h := Go.L.ite_n hc11 h
   refine W_skip ?_
   refine At_block ?_
   refine At_seq ?_
   refine W_p 1 rfl ?_
   refine S_v (r_field rfl underlying38 rfl zr36 (by decide)) rfl ?_
   refine S_v (r_loadB1 1 rfl underlying36 rfl hL3 rfl rfl) rfl ?_
   refine S_v (r_len rfl underlying36 h0_2) rfl ?_
   obtain ⟨x18, hb18, h⟩ := Go.L.bind_some h
   refine S_callL rfl rfl hL3 (wire_Number_ok _ _ (gz_le hH hL3) hb18) ?_
   rintro u19_0 w19 ⟨_, rfl, hR19_0⟩ hx19 hL19 hle19
   have hv19_0 := hR19_0.vecG hH hL3 hx19
   replace he3 := he3.mono (gz_mono hH hle19)
   obtain ⟨hk21, h⟩ := Go.L.chk_some h
   refine S_appE (r := .byte) (l := x2) (m := x18) 0 rfl rfl underlying35 zr5 rfl (by decide) rfl hH hL19 rfl he3 hv19_0 hk21 ?_
   intro v20 w20 xs20 hL20 hle20 he20
   replace hv19_0 := hv19_0.mono (gz_mono hH hle20)
   refine S_pz 1 rfl ?_
   refine W_cut (σ := (List UInt8) × Value × (List Value)) (fun ⟨l77, vl77, xsl77⟩ => [(3, vl77)]) (fun ⟨l77, vl77, xsl77⟩ wr => InO w [.row (vl77) 5 1 (l77).length (xsl77), .box b1 [.int .i64 a0.f.1, .int .i64 a0.f.2.1, v0_0, v0_1, v0_2] 38] wr fun Oz => Elems .byte (gz H w wr Oz) (l77) (xsl77) ∧ value_encode_body_k1 l77 = some r) ?_ ?_
   ·refine W_seqr ?_
    refine S_v (r_field rfl underlying38 rfl zr36 (by decide)) rfl ?_
    refine S_v (r_loadB1 1 rfl underlying36 rfl hL20 rfl rfl) rfl ?_
    refine S_v (r_len rfl underlying36 h0_2) rfl ?_
    refine S_pz 1 rfl ?_
    refine W_block ?_
    obtain ⟨n108, h⟩ := Go.L.run_some h
    refine W_loop (σ := (List UInt8) × Int × Value × (List Value) × Nat) (fun ⟨l106, s34_107, vl106, xsl106, n⟩ => [(1, .pointer (some ⟨b1, 0, none⟩)), (3, vl106), (32, v0_2), (33, .int .i64 (a0.f.2.2.2.2.length : Int)), (34, .int .i64 s34_107)]) (fun ⟨l106, s34_107, vl106, xsl106, n⟩ wr => InO w [.row (vl106) 5 1 (l106).length (xsl106), .box b1 [.int .i64 a0.f.1, .int .i64 a0.f.2.1, v0_0, v0_1, v0_2] 38] wr fun Oz => Elems .byte (gz H w wr Oz) (l106) (xsl106) ∧ Go.L.itr (value_encode_body_bl2 a0 self) n (l106, s34_107) = some r) (fun ⟨l106, s34_107, vl106, xsl106, n⟩ => n) ((x2 ++ x18), (0 : Int), v20, xs20, n108) (.cons rfl (.cons rfl (.cons rfl (.cons rfl (.cons rfl (Sub.nil _)))))) ⟨hL20, he20, h⟩ ?_
    rintro ⟨l106, s34_107, vl106, xsl106, nn108⟩ wr108 ⟨hL108, hel106, h⟩
    obtain ⟨n108, e108, rfl, h, hm108⟩ := Go.L.itr_some h
    refine W_pz 1 rfl ?_
    refine W_seq ?_
    refine W_if rfl (fun hc110 => ?_) (fun hc110 => ?_)
    ·replace h := Go.L.ite_p hc110 h
     refine W_skip ?_
     refine At_seq ?_
     refine W_seq ?_
     refine W_block ?_
     refine W_p 1 rfl ?_
     obtain ⟨hk113, h⟩ := Go.L.chk_some h
     refine S_index rfl rfl underlying36 zr38 h0_2 s34_107.toNat (Int.toNat_of_nonneg hk113.1).symm (idx_lt hk113) rfl ?_
     rintro p112 _ e112t0 hp112
     obtain ⟨_, _, rfl, rfl, ⟨_, _, rfl, rfl, ⟨_, _, rfl, ⟨e112v2, rfl, e112h2⟩, ⟨_, _, rfl, ⟨e112v3, rfl, e112h3⟩, ⟨e112v4, rfl, e112h4⟩⟩⟩⟩⟩ := Go.E.Rp.tree_open e112t0
     refine S_v (r_loadN rfl underlying38 rfl zr38 hp112 (hH.trans hL108.arg)) rfl ?_
     refine S_alloc zr38 rfl rfl hL108 ?_
     intro w114 b114 hL114 hle114 _
     replace hel106 := hel106.mono (gz_mono hH hle114)
     refine S_pu 1 rfl ?_
     refine S_storeBN 0 rfl rfl rfl zr38 hL114 rfl rfl (onc rfl (onc rfl (onc e112h2.one (onc e112h3.one (onc e112h4.one on0))))) ?_
     intro w115 hL115 hle115
     replace hel106 := hel106.mono (gz_mono hH hle115)
     refine S_seqnil ?_
     refine W_cut (σ := (List UInt8) × Value × (List Value)) (fun ⟨l128, vl128, xsl128⟩ => [(1, .pointer (some ⟨b1, 0, none⟩)), (3, vl128), (5, .pointer (some ⟨b114, 0, none⟩)), (32, v0_2), (33, .int .i64 (a0.f.2.2.2.2.length : Int)), (34, .int .i64 s34_107)]) (fun ⟨l128, vl128, xsl128⟩ wr => InO w [.box b114 [.int .i64 ((a0.f.2.2.2.2.getD s34_107.toNat default).f.1), .int .i64 ((a0.f.2.2.2.2.getD s34_107.toNat default).f.2.1), e112v2, e112v3, e112v4] 38, .row (vl128) 5 1 (l128).length (xsl128), .box b1 [.int .i64 a0.f.1, .int .i64 a0.f.2.1, v0_0, v0_1, v0_2] 38] wr fun Oz => Elems .byte (gz H w wr Oz) (l128) (xsl128) ∧ (value_encode_body_k3 a0 s34_107 self) l128 = some e108) ?_ ?_
     ·refine W_seqr ?_
      refine S_v (r_field rfl underlying38 rfl zr3 (by decide)) rfl ?_
      refine S_v (r_loadB1 2 rfl underlying3 rfl hL115 rfl rfl) rfl ?_
      refine S_pz 1 rfl ?_
      refine W_if rfl (fun hc131 => ?_) (fun hc131 => ?_)
      ·replace h := Go.L.ite_p hc131 h
       refine W_region ?_
       refine S_pu 1 rfl ?_
       refine S_v (r_field rfl underlying38 rfl zr30 (by decide)) rfl ?_
       refine S_v (r_loadB1 2 rfl underlying30 rfl hL115 rfl rfl) rfl ?_
       refine S_pu 1 rfl ?_
       obtain ⟨hk134, h⟩ := Go.L.chk_some h
       refine S_index rfl rfl underlying30 zr9 h0_1 s34_107.toNat (Int.toNat_of_nonneg hk134.1).symm (idx_lt hk134) rfl ?_
       rintro p133 _ rfl hp133
       refine S_v (r_load1 rfl underlying9 rfl hp133 (hH.trans hL115.arg)) rfl ?_
       obtain ⟨hk136, h⟩ := Go.L.chk_some h
       refine S_s2b (H := H) rfl underlying9 underlying35 underlying5 rfl hL115 hk136 ?_
       intro v135 w135 hx135 hL135 hle135 hv135
       replace hel106 := hel106.mono (gz_mono hH hle135)
       obtain ⟨x137, hb137, h⟩ := Go.L.bind_some h
       refine S_callL rfl rfl hL135 (wire_Chunk_ok _ _ (gz_le hH hL135) hv135 hb137) ?_
       rintro u138_0 w138 ⟨_, rfl, hR138_0⟩ hx138 hL138 hle138
       have hv138_0 := hR138_0.vecG hH hL135 hx138
       replace hel106 := hel106.mono (gz_mono hH hle138)
       replace hv135 := hv135.mono (gz_mono hH hle138)
       obtain ⟨hk140, h⟩ := Go.L.chk_some h
       refine S_appE (r := .byte) (l := l106) (m := x137) 1 rfl rfl underlying35 zr5 rfl (by decide) rfl hH hL138 rfl hel106 hv138_0 hk140 ?_
       intro v139 w139 xs139 hL139 hle139 he139
       replace hv135 := hv135.mono (gz_mono hH hle139)
       replace hv138_0 := hv138_0.mono (gz_mono hH hle139)
       refine S_pu 1 rfl ?_
       refine S_nil ?_
       refine At_cut ((l106 ++ x137), v139, xs139) (.cons rfl (.cons rfl (.cons rfl (.cons rfl (.cons rfl (.cons rfl (Sub.nil _))))))) ⟨hL139, he139, h⟩
      ·replace h := Go.L.ite_n hc131 h
       refine W_skip ?_
       refine At_cut (l106, vl106, xsl106) (.cons rfl (.cons rfl (.cons rfl (.cons rfl (.cons rfl (.cons rfl (Sub.nil _))))))) ⟨hL115, hel106, h⟩
     ·rintro ⟨l128, vl128, xsl128⟩ wr129 ⟨hL129, hel128, h⟩
      refine W_region ?_
      refine S_pu 1 rfl ?_
      refine S_v (r_loadBN 0 rfl underlying38 rfl zr38 hL129 rfl) rfl ?_
      obtain ⟨x143, hb143, h⟩ := Go.L.bind_some h
      refine S_callL rfl rfl hL129 (hself _ _ (gz_le hH hL129) (e112h2.mono (gz_left hH)) (e112h3.mono (gz_left hH)) (e112h4.mono (gz_left hH)) hb143) ?_
      rintro u144_0 w144 ⟨_, rfl, hR144_0⟩ hx144 hL144 hle144
      have hv144_0 := hR144_0.vecG hH hL129 hx144
      replace hel128 := hel128.mono (gz_mono hH hle144)
      obtain ⟨hk146, h⟩ := Go.L.chk_some h
      refine S_appE (r := .byte) (l := l128) (m := x143) 1 rfl rfl underlying35 zr5 rfl (by decide) rfl hH hL144 rfl hel128 hv144_0 hk146 ?_
      intro v145 w145 xs145 hL145 hle145 he145
      replace hv144_0 := hv144_0.mono (gz_mono hH hle145)
      refine S_pu 1 rfl ?_
      refine S_nil ?_
      refine At_block ?_
      refine At_seq ?_
      refine W_region ?_
      obtain ⟨hk147, h⟩ := Go.L.chk_some h
      refine S_v (r_ar64 rfl rfl rfl hk147) rfl ?_
      refine S_pu 1 rfl ?_
      refine S_nil ?_
      have hL148 := hL145.dropAt (i := 0) rfl
      replace he145 := he145.mono (gz_mono hH (fz_dropAt (i := 0) rfl))
      have h := Go.L.Nxt.again h hm108
      refine At_round ((l128 ++ x143), (s34_107 + (1 : Int)), v145, xs145, n108) (.cons rfl (.cons rfl (.cons rfl (.cons rfl (.cons rfl (Sub.nil _)))))) ⟨hL148, he145, h⟩ (Nat.lt_succ_self _)
    ·replace h := Go.L.ite_n hc110 h
     refine W_exit ?_
     refine At_seq_exit ?_
     refine At_loop_exit ?_
     replace h := Go.L.Nxt.out h hm108
     refine At_exit ?_
     refine At_cut (l106, vl106, xsl106) (.cons rfl (Sub.nil _)) ⟨hL108, hel106, h⟩
   ·rintro ⟨l77, vl77, xsl77⟩ wr78 ⟨hL78, hel77, h⟩
    refine W_pz 2 rfl ?_
    refine W_ret ?_
    obtain rfl := Option.some.inj h
    refine At_body rfl rfl ?_
    exact ⟨hL78.ext, _, rfl, (hL78.ownH hH (i := 0) rfl hel77)⟩
theorem value_encode_n_ok (n : Nat) : ∀ (w : World) (H : PH) (hH : Le H (hp w)) {a0 : Go.L.Pv} {v0_0 : Value} {v0_1 : Value} {v0_2 : Value} (h0_0 : Vec .byte H v0_0 (a0.f.2.2.1)) (h0_1 : Vec .st H v0_1 (a0.f.2.2.2.1)) (h0_2 : Vec .tree H v0_2 (a0.f.2.2.2.2)) {r : (List UInt8)} (h : value_encode_n n a0 = some r), Ok Tryz.prog 94 [.agg #[.int .i64 a0.f.1, .int .i64 a0.f.2.1, v0_0, v0_1, v0_2]] w (fun v w' => Ext w w' ∧ ∃ u0, v = u0 ∧ OwnH 5 .byte H w w' u0 (r)) := by
 induction n with
 | zero => intros; rename_i h; cases h
 | succ n ih => exact @value_encode_body_ok (value_encode_n n) ih
theorem value_encode_ok (w : World) (H : PH) (hH : Le H (hp w)) {a0 : Go.L.Pv} {v0_0 : Value} {v0_1 : Value} {v0_2 : Value} (h0_0 : Vec .byte H v0_0 (a0.f.2.2.1)) (h0_1 : Vec .st H v0_1 (a0.f.2.2.2.1)) (h0_2 : Vec .tree H v0_2 (a0.f.2.2.2.2)) {r : (List UInt8)} (h : value_encode a0 = some r) : Ok Tryz.prog 94 [.agg #[.int .i64 a0.f.1, .int .i64 a0.f.2.1, v0_0, v0_1, v0_2]] w (fun v w' => Ext w w' ∧ ∃ u0, v = u0 ∧ OwnH 5 .byte H w w' u0 (r)) := value_encode_n_ok 1000 w H hH h0_0 h0_1 h0_2 h
noncomputable def value_Encode (a0 : Go.L.Pv) : Option ((List UInt8) × (Int × Int)) :=
 Option.bind (value_check a0 (0 : Int) (1 : Int)) (fun x3 => if x3.2.1 = (0 : Int) ∧ x3.2.2 = (0 : Int) then Option.bind (value_encode a0) (fun x15 => if (4000 : Int) < (x15.length : Int) then Option.bind (value_fault (14 : Int) (-1 : Int)) (fun x19 => some ([], (x19.1, x19.2))) else some (x15, ((0 : Int), (0 : Int)))) else some ([], (x3.2.1, x3.2.2)))
theorem value_Encode_ok (w : World) (H : PH) (hH : Le H (hp w)) {a0 : Go.L.Pv} {v0_0 : Value} {v0_1 : Value} {v0_2 : Value} (h0_0 : Vec .byte H v0_0 (a0.f.2.2.1)) (h0_1 : Vec .st H v0_1 (a0.f.2.2.2.1)) (h0_2 : Vec .tree H v0_2 (a0.f.2.2.2.2)) {r : (List UInt8) × (Int × Int)} (h : value_Encode a0 = some r) :
  Ok Tryz.prog 55 [.agg #[.int .i64 a0.f.1, .int .i64 a0.f.2.1, v0_0, v0_1, v0_2]] w (fun v w' => Ext w w' ∧ ∃ u0, v = .tuple #[u0, .agg #[.int .i64 r.2.1, .int .i64 r.2.2]] ∧ OwnH 5 .byte H w w' u0 (r.1)) := by
 refine Ok_enter (n := 24) [(0, .agg #[.int .i64 a0.f.1, .int .i64 a0.f.2.1, v0_0, v0_1, v0_2])] func55 rfl rfl rfl rfl rfl ?_
 have hL := Lcl.start w
 refine W_seqr ?_
 refine S_box (t := 38) rfl rfl rfl hL ?_
 intro w1 b1 hL1 hle1 _
 refine S_pu 1 rfl ?_
 refine S_alloc zr23 rfl rfl hL1 ?_
 intro w2 b2 hL2 hle2 _
 refine S_seqnil ?_
 refine W_seq ?_
 refine W_seqr ?_
 refine S_v (r_loadBN 1 rfl underlying38 rfl zr38 hL2 rfl) rfl ?_
 obtain ⟨x3, hb3, h⟩ := Go.L.bind_some h
 refine S_callL rfl rfl hL2 (value_check_ok (a0 := a0) _ _ (gz_le hH hL2) (h0_0.mono (gz_left hH)) (h0_1.mono (gz_left hH)) (h0_2.mono (gz_left hH)) hb3) ?_
 rintro _ w4 rfl hx4 hL4 hle4
 refine S_pu 3 rfl ?_
 refine S_alloc zr23 rfl rfl hL4 ?_
 intro w5 b5 hL5 hle5 _
 refine S_pu 1 rfl ?_
 refine S_storeBN 0 rfl rfl rfl zr23 hL5 rfl rfl (onc rfl (onc rfl on0)) ?_
 intro w6 hL6 hle6
 refine S_seqnil ?_
 refine W_seqr ?_
 refine S_v (r_loadBN 0 rfl underlying23 rfl zr23 hL6 rfl) rfl ?_
 refine S_v (r_build rfl (fun _ => bld23_z _)) rfl ?_
 refine S_v (r_neA rfl rfl eqg23 (eq23 _ _ _ _ )) rfl ?_
 refine S_seqnil ?_
 refine W_ifn rfl (fun hc7 => ?_) (fun hc7 => ?_)
 ·replace h := Go.L.ite_n hc7 h
  refine W_seqd (.q 0 (.q 1 (.tail 2))) mixed (by kernel_rfl) (fun w9 hx9 => ?_)
  have hL10 := hL6.call hx9
  refine D_v (r_loadBN 0 rfl underlying23 rfl zr23 hL10 rfl) rfl rfl ?_
  refine D_pu 1 rfl ?_
  refine D_tail (fun w11 hx11 => ?_)
  have hL12 := hL10.call hx11
  refine S_storeBN 1 rfl rfl rfl zr23 hL12 rfl rfl (onc rfl (onc rfl on0)) ?_
  intro w13 hL13 hle13
  refine S_seqnil ?_
  refine W_ret ?_
  refine At_seq_ret ?_
  obtain rfl := Option.some.inj h
  refine At_got2 rfl (.tmp rfl) (.cell rfl underlying23 rfl zr23 (box_ptr (i := 1) hL13 rfl)) ?_
  exact ⟨hL13.ext, _, rfl, OwnH.nil⟩
 ·replace h := Go.L.ite_p hc7 h
  refine W_skip ?_
  refine At_seq ?_
  refine W_seqr ?_
  refine S_v (r_loadBN 2 rfl underlying38 rfl zr38 hL6 rfl) rfl ?_
  obtain ⟨x15, hb15, h⟩ := Go.L.bind_some h
  refine S_callL rfl rfl hL6 (value_encode_ok (a0 := a0) _ _ (gz_le hH hL6) (h0_0.mono (gz_left hH)) (h0_1.mono (gz_left hH)) (h0_2.mono (gz_left hH)) hb15) ?_
  rintro u16_0 w16 ⟨_, rfl, hR16_0⟩ hx16 hL16 hle16
  obtain ⟨xs16, hL16, hle16, he16⟩ := hR16_0.take hH hL6 hx16
  refine S_pz 1 rfl ?_
  refine W_seq ?_
  refine W_p 1 rfl ?_
  refine S_v (r_lenR (i := 0) rfl underlying35 hL16 rfl) rfl ?_
  refine S_pz 1 rfl ?_
  refine W_if rfl (fun hc17 => ?_) (fun hc17 => ?_)
  ·replace h := Go.L.ite_p hc17 h
   refine W_seqr ?_
   obtain ⟨x19, hb19, h⟩ := Go.L.bind_some h
   refine S_callL rfl rfl hL16 (value_fault_ok _ _ (gz_le hH hL16) hb19) ?_
   rintro _ w20 rfl hx20 hL20 hle20
   replace he16 := he16.mono (gz_mono hH hle20)
   refine S_pu 1 rfl ?_
   refine S_storeBN 2 rfl rfl rfl zr23 hL20 rfl rfl (onc rfl (onc rfl on0)) ?_
   intro w21 hL21 hle21
   replace he16 := he16.mono (gz_mono hH hle21)
   refine S_seqnil ?_
   refine W_ret ?_
   refine At_seq_ret ?_
   obtain rfl := Option.some.inj h
   refine At_got2 rfl (.tmp rfl) (.cell rfl underlying23 rfl zr23 (box_ptr (i := 2) hL21 rfl)) ?_
   exact ⟨hL21.ext, _, rfl, OwnH.nil⟩
  ·replace h := Go.L.ite_n hc17 h
   refine W_skip ?_
   refine At_seq ?_
   refine W_p 1 rfl ?_
   refine S_v (r_build rfl (fun _ => bld23_z _)) rfl ?_
   refine S_pu 1 rfl ?_
   refine S_storeBN 2 rfl rfl rfl zr23 hL16 rfl rfl (onc rfl (onc rfl on0)) ?_
   intro w23 hL23 hle23
   replace he16 := he16.mono (gz_mono hH hle23)
   refine S_seqnil ?_
   refine W_ret ?_
   obtain rfl := Option.some.inj h
   refine At_got2 rfl (.tmp rfl) (.cell rfl underlying23 rfl zr23 (box_ptr (i := 2) hL23 rfl)) ?_
   exact ⟨hL23.ext, _, rfl, (hL23.ownH hH (i := 0) rfl he16)⟩
noncomputable def value_Validate (a0 : Go.L.Pv) : Option ((Int × Int)) :=
 Option.bind (value_Encode a0) (fun x3 => some ((x3.2.1, x3.2.2)))
theorem value_Validate_ok (w : World) (H : PH) (hH : Le H (hp w)) {a0 : Go.L.Pv} {v0_0 : Value} {v0_1 : Value} {v0_2 : Value} (h0_0 : Vec .byte H v0_0 (a0.f.2.2.1)) (h0_1 : Vec .st H v0_1 (a0.f.2.2.2.1)) (h0_2 : Vec .tree H v0_2 (a0.f.2.2.2.2)) {r : (Int × Int)} (h : value_Validate a0 = some r) :
  Ok Tryz.prog 22 [.agg #[.int .i64 a0.f.1, .int .i64 a0.f.2.1, v0_0, v0_1, v0_2]] w (fun v w' => Ext w w' ∧ v = .agg #[.int .i64 r.1, .int .i64 r.2]) := by
 refine Ok_enter (n := 11) [(0, .agg #[.int .i64 a0.f.1, .int .i64 a0.f.2.1, v0_0, v0_1, v0_2])] func22 rfl rfl rfl rfl rfl ?_
 have hL := Lcl.start w
 refine W_seqr ?_
 refine S_box (t := 38) rfl rfl rfl hL ?_
 intro w1 b1 hL1 hle1 _
 refine S_alloc zr23 rfl rfl hL1 ?_
 intro w2 b2 hL2 hle2 _
 refine S_seqnil ?_
 refine W_seqr ?_
 refine S_v (r_loadBN 1 rfl underlying38 rfl zr38 hL2 rfl) rfl ?_
 obtain ⟨x3, hb3, h⟩ := Go.L.bind_some h
 refine S_callL rfl rfl hL2 (value_Encode_ok (a0 := a0) _ _ (gz_le hH hL2) (h0_0.mono (gz_left hH)) (h0_1.mono (gz_left hH)) (h0_2.mono (gz_left hH)) hb3) ?_
 rintro _ w4 ⟨u4_0, rfl, hR4_0⟩ hx4 hL4 hle4
 have hv4_0 := hR4_0.vecG hH hL2 hx4
 refine S_pu 3 rfl ?_
 refine S_alloc zr23 rfl rfl hL4 ?_
 intro w5 b5 hL5 hle5 _
 replace hv4_0 := hv4_0.mono (gz_mono hH hle5)
 refine S_pu 1 rfl ?_
 refine S_storeBN 0 rfl rfl rfl zr23 hL5 rfl rfl (onc rfl (onc rfl on0)) ?_
 intro w6 hL6 hle6
 replace hv4_0 := hv4_0.mono (gz_mono hH hle6)
 refine S_seqnil ?_
 refine W_seqr ?_
 refine S_v (r_loadBN 0 rfl underlying23 rfl zr23 hL6 rfl) rfl ?_
 refine S_storeBN 1 rfl rfl rfl zr23 hL6 rfl rfl (onc rfl (onc rfl on0)) ?_
 intro w7 hL7 hle7
 refine S_seqnil ?_
 refine W_ret ?_
 obtain rfl := Option.some.inj h
 refine At_got1 rfl (.cell rfl underlying23 rfl zr23 (box_ptr (i := 1) hL7 rfl)) ?_
 exact ⟨hL7.ext, rfl⟩
end Go.Proofs.YtmfiaecglndldaaGreatDoor
end
section
namespace Go.Proofs.YtmfiaecglndldaaGreatDoor
open Go Go.E Go.RowKit
set_option maxHeartbeats 1000000
set_option maxRecDepth 10000
open _root_.Go.Proofs.Tryz
noncomputable def ref3_At (a0 : Int) (a1 : Int) : Option ((Int × Int)) :=
 some ((a0, a1))
theorem ref3_At_ok (w : World) (H : PH) (_hH : Le H (hp w)) {a0 : Int} {a1 : Int}   {r : (Int × Int)} (h : ref3_At a0 a1 = some r) :
  Ok Tryz.prog 16 [.int .i64 a0, .int .i64 a1] w (fun v w' => Ext w w' ∧ v = .agg #[.int .i64 r.1, .int .i64 r.2]) := by
 refine Ok_enter (n := 8) [(0, .int .i64 a0), (1, .int .i64 a1)] func16 rfl rfl rfl rfl rfl ?_
 have hL := Lcl.start w
 refine W_seqr ?_
 refine S_alloc zr23 rfl rfl hL ?_
 intro w1 b1 hL1 hle1 _
 refine S_seqnil ?_
 refine W_p 2 rfl ?_
 refine S_v (r_build rfl (fun _ => bld23_0_1 _ _ _)) rfl ?_
 refine S_storeBN 0 rfl rfl rfl zr23 hL1 rfl rfl (onc rfl (onc rfl on0)) ?_
 intro w2 hL2 hle2
 refine S_seqnil ?_
 refine W_ret ?_
 obtain rfl := Option.some.inj h
 refine At_got1 rfl (.cell rfl underlying23 rfl zr23 (box_ptr (i := 0) hL2 rfl)) ?_
 exact ⟨hL2.ext, rfl⟩
noncomputable def ref3_Ints_k1 : Option (Bool) :=
 some (true)
noncomputable def ref3_Ints_bl2 (a0 : List Int) (a1 : List Int) : Int → Option ((Int) ⊕ (Bool)) := fun s5_40 =>
 if s5_40 < (a0.length : Int) then Go.L.chk (0 ≤ s5_40 ∧ s5_40 < (a0.length : Int)) (Go.L.chk (0 ≤ s5_40 ∧ s5_40 < (a1.length : Int)) (if a0.getD s5_40.toNat default = a1.getD s5_40.toNat default then Go.L.chk (Go.L.I64 (s5_40 + (1 : Int))) (some (Sum.inl (s5_40 + (1 : Int)))) else Option.map Sum.inr (some (false)))) else Option.map Sum.inr (ref3_Ints_k1)
noncomputable def ref3_Ints_l2 (a0 : List Int) (a1 : List Int) (s : Int) : Option (Bool) := Go.L.run (ref3_Ints_bl2 a0 a1) s
noncomputable def ref3_Ints (a0 : List Int) (a1 : List Int) : Option (Bool) :=
 if (a0.length : Int) = (a1.length : Int) then (ref3_Ints_l2 a0 a1) (0 : Int) else some (false)
theorem ref3_Ints_ok (w : World) (H : PH) (hH : Le H (hp w)) {a0 : List Int} {a1 : List Int} {v0_0 : Value} {v1_0 : Value} (h0_0 : Vec (.int .i64) H v0_0 (a0)) (h1_0 : Vec (.int .i64) H v1_0 (a1)) {r : Bool} (h : ref3_Ints a0 a1 = some r) :
  Ok Tryz.prog 34 [v0_0, v1_0] w (fun v w' => Ext w w' ∧ v = .bool r) := by
 refine Ok_enter (n := 26) [(0, v0_0), (1, v1_0)] func34 rfl rfl rfl rfl rfl ?_
 have hL := Lcl.start w
 refine W_pz 1 rfl ?_
 refine W_seq ?_
 refine W_p 1 rfl ?_
 refine S_v (r_len rfl underlying52 h0_0) rfl ?_
 refine S_pu 1 rfl ?_
 refine S_v (r_len rfl underlying52 h1_0) rfl ?_
 refine S_pz 1 rfl ?_
 refine W_ifn rfl (fun hc1 => ?_) (fun hc1 => ?_)
 ·replace h := Go.L.ite_n hc1 h
  refine W_pz 1 rfl ?_
  refine W_ret ?_
  refine At_seq_ret ?_
  obtain rfl := Option.some.inj h
  refine At_body rfl rfl ?_
  exact ⟨hL.ext, rfl⟩
 ·replace h := Go.L.ite_p hc1 h
  refine W_skip ?_
  refine At_seq ?_
  refine W_cut (σ := Unit) (fun (_ : Unit) => []) (fun (_ : Unit) wr => Lcl w [] wr ∧ ref3_Ints_k1 = some r) ?_ ?_
  ·refine W_pz 1 rfl ?_
   refine W_block ?_
   obtain ⟨n41, h⟩ := Go.L.run_some h
   refine W_loop (σ := Int × Nat) (fun ⟨s5_40, n⟩ => [(0, v0_0), (1, v1_0), (5, .int .i64 s5_40)]) (fun ⟨s5_40, n⟩ wr => Lcl w [] wr ∧ Go.L.itr (ref3_Ints_bl2 a0 a1) n s5_40 = some r) (fun ⟨s5_40, n⟩ => n) ((0 : Int), n41) (.cons rfl (.cons rfl (.cons rfl (Sub.nil _)))) ⟨hL, h⟩ ?_
   rintro ⟨s5_40, nn41⟩ wr41 ⟨hL41, h⟩
   obtain ⟨n41, e41, rfl, h, hm41⟩ := Go.L.itr_some h
   refine W_seq ?_
   refine W_p 2 rfl ?_
   refine S_v (r_len rfl underlying52 h0_0) rfl ?_
   refine S_pz 1 rfl ?_
   refine W_if rfl (fun hc43 => ?_) (fun hc43 => ?_)
   ·replace h := Go.L.ite_p hc43 h
    refine W_skip ?_
    refine At_seq ?_
    refine W_seq ?_
    refine W_block ?_
    refine W_seqd (.q 0 (.q 1 (.q 2 (.q 3 (.q 4 (.q 5 (.q 6 (.q 7 (.q 8 (.tail 9)))))))))) mixed (by kernel_rfl) (fun w45 hx45 => ?_)
    have hL46 := hL41.call hx45
    refine D_pu 2 rfl ?_
    obtain ⟨hk48, h⟩ := Go.L.chk_some h
    refine D_index rfl rfl rfl underlying52 zr3 h0_0 s5_40.toNat (Int.toNat_of_nonneg hk48.1).symm (idx_lt hk48) rfl ?_
    rintro p47 _ rfl hp47
    refine D_v (r_load1 rfl underlying3 rfl hp47 (hH.trans hL46.arg)) rfl rfl ?_
    refine D_pu 2 rfl ?_
    obtain ⟨hk50, h⟩ := Go.L.chk_some h
    refine D_index rfl rfl rfl underlying52 zr3 h1_0 s5_40.toNat (Int.toNat_of_nonneg hk50.1).symm (idx_lt hk50) rfl ?_
    rintro p49 _ rfl hp49
    refine D_v (r_load1 rfl underlying3 rfl hp49 (hH.trans hL46.arg)) rfl rfl ?_
    refine D_pu 1 rfl ?_
    refine D_tail (fun w51 hx51 => ?_)
    have hL52 := hL46.call hx51
    refine S_seqnil ?_
    refine W_ifn rfl (fun hc53 => ?_) (fun hc53 => ?_)
    ·replace h := Go.L.ite_n hc53 h
     refine W_pz 1 rfl ?_
     refine W_ret ?_
     refine At_block_ret ?_
     refine At_seq_ret ?_
     refine At_loop_ret ?_
     replace h := Go.L.Nxt.out h hm41
     refine At_block_ret ?_
     refine At_cut_ret ?_
     obtain rfl := Option.some.inj h
     refine At_body rfl rfl ?_
     exact ⟨hL52.ext, rfl⟩
    ·replace h := Go.L.ite_p hc53 h
     refine W_skip ?_
     refine At_block ?_
     refine At_seq ?_
     refine W_region ?_
     refine S_pu 1 rfl ?_
     obtain ⟨hk56, h⟩ := Go.L.chk_some h
     refine S_v (r_ar64 rfl rfl rfl hk56) rfl ?_
     refine S_pu 1 rfl ?_
     refine S_nil ?_
     have h := Go.L.Nxt.again h hm41
     refine At_round ((s5_40 + (1 : Int)), n41) (.cons rfl (.cons rfl (.cons rfl (Sub.nil _)))) ⟨hL52, h⟩ (Nat.lt_succ_self _)
   ·replace h := Go.L.ite_n hc43 h
    refine W_exit ?_
    refine At_seq_exit ?_
    refine At_loop_exit ?_
    replace h := Go.L.Nxt.out h hm41
    refine At_exit ?_
    refine At_cut () (Sub.nil _) ⟨hL41, h⟩
  ·rintro _ wr22 ⟨hL22, h⟩
   refine W_pz 1 rfl ?_
   refine W_ret ?_
   obtain rfl := Option.some.inj h
   refine At_body rfl rfl ?_
   exact ⟨hL22.ext, rfl⟩
noncomputable def ref4_Texts_k1 : Option (Bool) :=
 some (true)
noncomputable def ref4_Texts_bl2 (a0 : List (List UInt8)) (a1 : List (List UInt8)) : Int → Option ((Int) ⊕ (Bool)) := fun s5_40 =>
 if s5_40 < (a0.length : Int) then Go.L.chk (0 ≤ s5_40 ∧ s5_40 < (a0.length : Int)) (Go.L.chk (0 ≤ s5_40 ∧ s5_40 < (a1.length : Int)) (if a0.getD s5_40.toNat default = a1.getD s5_40.toNat default then Go.L.chk (Go.L.I64 (s5_40 + (1 : Int))) (some (Sum.inl (s5_40 + (1 : Int)))) else Option.map Sum.inr (some (false)))) else Option.map Sum.inr (ref4_Texts_k1)
noncomputable def ref4_Texts_l2 (a0 : List (List UInt8)) (a1 : List (List UInt8)) (s : Int) : Option (Bool) := Go.L.run (ref4_Texts_bl2 a0 a1) s
noncomputable def ref4_Texts (a0 : List (List UInt8)) (a1 : List (List UInt8)) : Option (Bool) :=
 if (a0.length : Int) = (a1.length : Int) then (ref4_Texts_l2 a0 a1) (0 : Int) else some (false)
theorem ref4_Texts_ok (w : World) (H : PH) (hH : Le H (hp w)) {a0 : List (List UInt8)} {a1 : List (List UInt8)} {v0_0 : Value} {v1_0 : Value} (h0_0 : Vec .st H v0_0 (a0)) (h1_0 : Vec .st H v1_0 (a1)) {r : Bool} (h : ref4_Texts a0 a1 = some r) :
  Ok Tryz.prog 23 [v0_0, v1_0] w (fun v w' => Ext w w' ∧ v = .bool r) := by
 refine Ok_enter (n := 26) [(0, v0_0), (1, v1_0)] func23 rfl rfl rfl rfl rfl ?_
 have hL := Lcl.start w
 refine W_pz 1 rfl ?_
 refine W_seq ?_
 refine W_p 1 rfl ?_
 refine S_v (r_len rfl underlying30 h0_0) rfl ?_
 refine S_pu 1 rfl ?_
 refine S_v (r_len rfl underlying30 h1_0) rfl ?_
 refine S_pz 1 rfl ?_
 refine W_ifn rfl (fun hc1 => ?_) (fun hc1 => ?_)
 ·replace h := Go.L.ite_n hc1 h
  refine W_pz 1 rfl ?_
  refine W_ret ?_
  refine At_seq_ret ?_
  obtain rfl := Option.some.inj h
  refine At_body rfl rfl ?_
  exact ⟨hL.ext, rfl⟩
 ·replace h := Go.L.ite_p hc1 h
  refine W_skip ?_
  refine At_seq ?_
  refine W_cut (σ := Unit) (fun (_ : Unit) => []) (fun (_ : Unit) wr => Lcl w [] wr ∧ ref4_Texts_k1 = some r) ?_ ?_
  ·refine W_pz 1 rfl ?_
   refine W_block ?_
   obtain ⟨n41, h⟩ := Go.L.run_some h
   refine W_loop (σ := Int × Nat) (fun ⟨s5_40, n⟩ => [(0, v0_0), (1, v1_0), (5, .int .i64 s5_40)]) (fun ⟨s5_40, n⟩ wr => Lcl w [] wr ∧ Go.L.itr (ref4_Texts_bl2 a0 a1) n s5_40 = some r) (fun ⟨s5_40, n⟩ => n) ((0 : Int), n41) (.cons rfl (.cons rfl (.cons rfl (Sub.nil _)))) ⟨hL, h⟩ ?_
   rintro ⟨s5_40, nn41⟩ wr41 ⟨hL41, h⟩
   obtain ⟨n41, e41, rfl, h, hm41⟩ := Go.L.itr_some h
   refine W_seq ?_
   refine W_p 2 rfl ?_
   refine S_v (r_len rfl underlying30 h0_0) rfl ?_
   refine S_pz 1 rfl ?_
   refine W_if rfl (fun hc43 => ?_) (fun hc43 => ?_)
   ·replace h := Go.L.ite_p hc43 h
    refine W_skip ?_
    refine At_seq ?_
    refine W_seq ?_
    refine W_block ?_
    refine W_seqd (.q 0 (.q 1 (.q 2 (.q 3 (.q 4 (.q 5 (.q 6 (.q 7 (.q 8 (.tail 9)))))))))) mixed (by kernel_rfl) (fun w45 hx45 => ?_)
    have hL46 := hL41.call hx45
    refine D_pu 2 rfl ?_
    obtain ⟨hk48, h⟩ := Go.L.chk_some h
    refine D_index rfl rfl rfl underlying30 zr9 h0_0 s5_40.toNat (Int.toNat_of_nonneg hk48.1).symm (idx_lt hk48) rfl ?_
    rintro p47 _ rfl hp47
    refine D_v (r_load1 rfl underlying9 rfl hp47 (hH.trans hL46.arg)) rfl rfl ?_
    refine D_pu 2 rfl ?_
    obtain ⟨hk50, h⟩ := Go.L.chk_some h
    refine D_index rfl rfl rfl underlying30 zr9 h1_0 s5_40.toNat (Int.toNat_of_nonneg hk50.1).symm (idx_lt hk50) rfl ?_
    rintro p49 _ rfl hp49
    refine D_v (r_load1 rfl underlying9 rfl hp49 (hH.trans hL46.arg)) rfl rfl ?_
    refine D_v (r_sne rfl rfl) rfl rfl ?_
    refine D_tail (fun w51 hx51 => ?_)
    have hL52 := hL46.call hx51
    refine S_seqnil ?_
    refine W_ifn rfl (fun hc53 => ?_) (fun hc53 => ?_)
    ·replace h := Go.L.ite_n hc53 h
     refine W_pz 1 rfl ?_
     refine W_ret ?_
     refine At_block_ret ?_
     refine At_seq_ret ?_
     refine At_loop_ret ?_
     replace h := Go.L.Nxt.out h hm41
     refine At_block_ret ?_
     refine At_cut_ret ?_
     obtain rfl := Option.some.inj h
     refine At_body rfl rfl ?_
     exact ⟨hL52.ext, rfl⟩
    ·replace h := Go.L.ite_p hc53 h
     refine W_skip ?_
     refine At_block ?_
     refine At_seq ?_
     refine W_region ?_
     refine S_pu 1 rfl ?_
     obtain ⟨hk56, h⟩ := Go.L.chk_some h
     refine S_v (r_ar64 rfl rfl rfl hk56) rfl ?_
     refine S_pu 1 rfl ?_
     refine S_nil ?_
     have h := Go.L.Nxt.again h hm41
     refine At_round ((s5_40 + (1 : Int)), n41) (.cons rfl (.cons rfl (.cons rfl (Sub.nil _)))) ⟨hL52, h⟩ (Nat.lt_succ_self _)
   ·replace h := Go.L.ite_n hc43 h
    refine W_exit ?_
    refine At_seq_exit ?_
    refine At_loop_exit ?_
    replace h := Go.L.Nxt.out h hm41
    refine At_exit ?_
    refine At_cut () (Sub.nil _) ⟨hL41, h⟩
  ·rintro _ wr22 ⟨hL22, h⟩
   refine W_pz 1 rfl ?_
   refine W_ret ?_
   obtain rfl := Option.some.inj h
   refine At_body rfl rfl ?_
   exact ⟨hL22.ext, rfl⟩
noncomputable def ref4_HasText_k1 : Option (Bool) :=
 some (false)
noncomputable def ref4_HasText_bl2 (a0 : List (List UInt8)) (a1 : List UInt8) : Int → Option ((Int) ⊕ (Bool)) := fun s5_25 =>
 if s5_25 < (a0.length : Int) then Go.L.chk (0 ≤ s5_25 ∧ s5_25 < (a0.length : Int)) (if a0.getD s5_25.toNat default = a1 then Option.map Sum.inr (some (true)) else Go.L.chk (Go.L.I64 (s5_25 + (1 : Int))) (some (Sum.inl (s5_25 + (1 : Int))))) else Option.map Sum.inr (ref4_HasText_k1)
noncomputable def ref4_HasText_l2 (a0 : List (List UInt8)) (a1 : List UInt8) (s : Int) : Option (Bool) := Go.L.run (ref4_HasText_bl2 a0 a1) s
noncomputable def ref4_HasText (a0 : List (List UInt8)) (a1 : List UInt8) : Option (Bool) :=
 (ref4_HasText_l2 a0 a1) (0 : Int)
theorem ref4_HasText_ok (w : World) (H : PH) (hH : Le H (hp w)) {a0 : List (List UInt8)} {a1 : List UInt8} {v0_0 : Value} (h0_0 : Vec .st H v0_0 (a0)) {r : Bool} (h : ref4_HasText a0 a1 = some r) :
  Ok Tryz.prog 96 [v0_0, .string ⟨(a1).toArray⟩] w (fun v w' => Ext w w' ∧ v = .bool r) := by
 refine Ok_enter (n := 18) [(0, v0_0), (1, .string ⟨(a1).toArray⟩)] func96 rfl rfl rfl rfl rfl ?_
 have hL := Lcl.start w
 refine W_pz 1 rfl ?_
 refine W_cut (σ := Unit) (fun (_ : Unit) => []) (fun (_ : Unit) wr => Lcl w [] wr ∧ ref4_HasText_k1 = some r) ?_ ?_
 ·refine W_pz 1 rfl ?_
  refine W_block ?_
  obtain ⟨n26, h⟩ := Go.L.run_some h
  refine W_loop (σ := Int × Nat) (fun ⟨s5_25, n⟩ => [(0, v0_0), (1, .string ⟨(a1).toArray⟩), (5, .int .i64 s5_25)]) (fun ⟨s5_25, n⟩ wr => Lcl w [] wr ∧ Go.L.itr (ref4_HasText_bl2 a0 a1) n s5_25 = some r) (fun ⟨s5_25, n⟩ => n) ((0 : Int), n26) (.cons rfl (.cons rfl (.cons rfl (Sub.nil _)))) ⟨hL, h⟩ ?_
  rintro ⟨s5_25, nn26⟩ wr26 ⟨hL26, h⟩
  obtain ⟨n26, e26, rfl, h, hm26⟩ := Go.L.itr_some h
  refine W_seq ?_
  refine W_p 2 rfl ?_
  refine S_v (r_len rfl underlying30 h0_0) rfl ?_
  refine S_pz 1 rfl ?_
  refine W_if rfl (fun hc28 => ?_) (fun hc28 => ?_)
  ·replace h := Go.L.ite_p hc28 h
   refine W_skip ?_
   refine At_seq ?_
   refine W_seq ?_
   refine W_block ?_
   refine W_p 2 rfl ?_
   obtain ⟨hk31, h⟩ := Go.L.chk_some h
   refine S_index rfl rfl underlying30 zr9 h0_0 s5_25.toNat (Int.toNat_of_nonneg hk31.1).symm (idx_lt hk31) rfl ?_
   rintro p30 _ rfl hp30
   refine S_v (r_load1 rfl underlying9 rfl hp30 (hH.trans hL26.arg)) rfl ?_
   refine S_pu 1 rfl ?_
   refine S_v (r_seq rfl rfl) rfl ?_
   refine S_seqnil ?_
   refine W_if rfl (fun hc32 => ?_) (fun hc32 => ?_)
   ·replace h := Go.L.ite_p hc32 h
    refine W_pz 1 rfl ?_
    refine W_ret ?_
    refine At_block_ret ?_
    refine At_seq_ret ?_
    refine At_loop_ret ?_
    replace h := Go.L.Nxt.out h hm26
    refine At_block_ret ?_
    refine At_cut_ret ?_
    obtain rfl := Option.some.inj h
    refine At_body rfl rfl ?_
    exact ⟨hL26.ext, rfl⟩
   ·replace h := Go.L.ite_n hc32 h
    refine W_skip ?_
    refine At_block ?_
    refine At_seq ?_
    refine W_region ?_
    refine S_pu 1 rfl ?_
    obtain ⟨hk35, h⟩ := Go.L.chk_some h
    refine S_v (r_ar64 rfl rfl rfl hk35) rfl ?_
    refine S_pu 1 rfl ?_
    refine S_nil ?_
    have h := Go.L.Nxt.again h hm26
    refine At_round ((s5_25 + (1 : Int)), n26) (.cons rfl (.cons rfl (.cons rfl (Sub.nil _)))) ⟨hL26, h⟩ (Nat.lt_succ_self _)
  ·replace h := Go.L.ite_n hc28 h
   refine W_exit ?_
   refine At_seq_exit ?_
   refine At_loop_exit ?_
   replace h := Go.L.Nxt.out h hm26
   refine At_exit ?_
   refine At_cut () (Sub.nil _) ⟨hL26, h⟩
 ·rintro _ wr13 ⟨hL13, h⟩
  refine W_pz 1 rfl ?_
  refine W_ret ?_
  obtain rfl := Option.some.inj h
  refine At_body rfl rfl ?_
  exact ⟨hL13.ext, rfl⟩
noncomputable def law4_number (a0 : Int) : Option (Go.L.Pv) :=
 some ((Go.L.Pv.mk (1 : Int) a0 ([]) ([]) ([])))
theorem law4_number_ok (w : World) (H : PH) (_hH : Le H (hp w)) {a0 : Int}   {r : Go.L.Pv} (h : law4_number a0 = some r) :
  Ok Tryz.prog 46 [.int .i64 a0] w (fun v w' => Ext w w' ∧ ∃ u0 u1 u2, v = .agg #[.int .i64 r.f.1, .int .i64 r.f.2.1, u0, u1, u2] ∧ OwnH 5 .byte H w w' u0 (r.f.2.2.1) ∧ OwnH 9 .st H w w' u1 (r.f.2.2.2.1) ∧ OwnH 38 .tree H w w' u2 (r.f.2.2.2.2)) := by
 refine Ok_enter (n := 5) [(0, .int .i64 a0)] func46 rfl rfl rfl rfl rfl ?_
 have hL := Lcl.start w
 refine W_seqr ?_
 refine S_alloc zr38 rfl rfl hL ?_
 intro w1 b1 hL1 hle1 _
 refine S_seqnil ?_
 refine W_p 1 rfl ?_
 refine S_v (r_build rfl (fun _ => bld38_0_1 _ _ _)) rfl ?_
 refine S_storeBN 0 rfl rfl rfl zr38 hL1 rfl rfl (onc rfl (onc rfl (onc rfl (onc rfl (onc rfl on0))))) ?_
 intro w2 hL2 hle2
 refine S_seqnil ?_
 refine W_ret ?_
 obtain rfl := Option.some.inj h
 refine At_got1 rfl (.cell rfl underlying38 rfl zr38 (box_ptr (i := 0) hL2 rfl)) ?_
 exact ⟨hL2.ext, _, _, _, rfl, OwnH.nil, OwnH.nil, OwnH.nil⟩
noncomputable def law4_record (a0 : Int) : Option (Go.L.Pv) :=
 Option.bind (law4_number a0) (fun x3 => some ((Go.L.Pv.mk (4 : Int) (0 : Int) ([]) ([([97] : List UInt8)]) ([x3]))))
theorem law4_record_ok (w : World) (H : PH) (hH : Le H (hp w)) {a0 : Int}   {r : Go.L.Pv} (h : law4_record a0 = some r) :
  Ok Tryz.prog 45 [.int .i64 a0] w (fun v w' => Ext w w' ∧ ∃ u0 u1 u2, v = .agg #[.int .i64 r.f.1, .int .i64 r.f.2.1, u0, u1, u2] ∧ OwnH 5 .byte H w w' u0 (r.f.2.2.1) ∧ Vec .st (un H (nw w w')) u1 (r.f.2.2.2.1) ∧ Vec .tree (un H (nw w w')) u2 (r.f.2.2.2.2)) := by
 refine Ok_enter (n := 8) [(0, .int .i64 a0)] func45 rfl rfl rfl rfl rfl ?_
 have hL := Lcl.start w
 refine W_seqr ?_
 refine S_alloc zr38 rfl rfl hL ?_
 intro w1 b1 hL1 hle1 _
 refine S_seqnil ?_
 refine W_seqr ?_
 refine S_litE (r := .st) (l := [([97] : List UInt8)]) rfl (fun _ => bsl30_1 _ rfl _) rfl (show 1 ≤ 9223372036854775807 by decide) hH hL1 (.c1 rfl .nil) ?_
 intro v2 w2 hx2 hL2 hle2 hv2
 refine S_pu 1 rfl ?_
 obtain ⟨x3, hb3, h⟩ := Go.L.bind_some h
 refine S_callL rfl rfl hL2 (law4_number_ok _ _ (gz_le hH hL2) hb3) ?_
 rintro _ w4 ⟨u4_0, u4_1, u4_2, rfl, hR4_0, hR4_1, hR4_2⟩ hx4 hL4 hle4
 have hv4_0 := hR4_0.vecG hH hL2 hx4
 have hv4_1 := hR4_1.vecG hH hL2 hx4
 have hv4_2 := hR4_2.vecG hH hL2 hx4
 replace hv2 := hv2.mono (gz_mono hH hle4)
 refine S_litE (r := .tree) (l := [x3]) rfl (fun _ => bsl36_1 _ _ _ _ _ _) rfl (show 1 ≤ 9223372036854775807 by decide) hH hL4 (.c5 (Go.E.Rp.tree_close ⟨_, _, rfl, rfl, ⟨_, _, rfl, rfl, ⟨_, _, rfl, ⟨_, rfl, hv4_0⟩, ⟨_, _, rfl, ⟨_, rfl, hv4_1⟩, ⟨_, rfl, hv4_2⟩⟩⟩⟩⟩) .nil) ?_
 intro v5 w5 hx5 hL5 hle5 hv5
 replace hv2 := hv2.mono (gz_mono hH hle5)
 replace hv4_0 := hv4_0.mono (gz_mono hH hle5)
 replace hv4_1 := hv4_1.mono (gz_mono hH hle5)
 replace hv4_2 := hv4_2.mono (gz_mono hH hle5)
 refine S_v (r_build rfl (fun _ => bld38_0_3_4 _ _ hv2.one _ hv5.one _)) rfl ?_
 refine S_storeBN 0 rfl rfl rfl zr38 hL5 rfl rfl (onc rfl (onc rfl (onc rfl (onc hv2.one (onc hv5.one on0))))) ?_
 intro w6 hL6 hle6
 replace hv2 := hv2.mono (gz_mono hH hle6)
 replace hv4_0 := hv4_0.mono (gz_mono hH hle6)
 replace hv4_1 := hv4_1.mono (gz_mono hH hle6)
 replace hv4_2 := hv4_2.mono (gz_mono hH hle6)
 replace hv5 := hv5.mono (gz_mono hH hle6)
 refine S_seqnil ?_
 refine W_ret ?_
 obtain rfl := Option.some.inj h
 refine At_got1 rfl (.cell rfl underlying38 rfl zr38 (box_ptr (i := 0) hL6 rfl)) ?_
 exact ⟨hL6.ext, _, _, _, rfl, OwnH.nil, (hv2.mono (gz_res hH)), (hv5.mono (gz_res hH))⟩
end Go.Proofs.YtmfiaecglndldaaGreatDoor
end
section
namespace Go.L
/-- The bytes of steps, each with a slash. -/
def tot : List (List UInt8) → Nat
  | [] => 0
  | x :: l => x.length + 1 + tot l
/-- A letter of a name. -/
def nch (c : UInt8) : Bool := decide ((97 ≤ c.toNat ∧ c.toNat ≤ 122) ∨ (48 ≤ c.toNat ∧ c.toNat ≤ 57) ∨ c.toNat = 45 ∨ c.toNat = 95 ∨ c.toNat = 46)
/-- A name. -/
def nok (s : List UInt8) : Bool := decide (1 ≤ s.length ∧ s.length ≤ 32 ∧ 97 ≤ (s.getD 0 default).toNat ∧ (s.getD 0 default).toNat ≤ 122) && s.all nch
/-- The place of the first wrong step, or -1. -/
def wr (w : Bool) : Int → List (List UInt8) → Int
  | _, [] => -1
  | a, x :: l => if (nok x || decide (x = [35]) || (w && (decide (x = [42]) || decide (x = [42, 42])))) = true then wr w (a + x.length + 1) l else a
theorem drop_cons {α : Type} [Inhabited α] {l : List α} {i : Nat} (h : i < l.length) : l.drop i = l.getD i default :: l.drop (i + 1) := by
  rw [List.drop_eq_getElem_cons h]; simp [List.getD_eq_getElem?_getD, List.getElem?_eq_getElem h]
theorem getD_mem {α : Type} [Inhabited α] {l : List α} {i : Nat} (h : i < l.length) : l.getD i default ∈ l := by
  rw [List.getD_eq_getElem?_getD, List.getElem?_eq_getElem h]; exact List.getElem_mem h
end Go.L
namespace Go.Proofs.YtmfiaecglndldaaGreatDoor
open Go Go.L
/-! ### Names -/
theorem get_bang (l : List UInt8) (k : Nat) : ((ByteArray.mk l.toArray).get! k).toNat = (l.getD k default).toNat := by
  simp [ByteArray.get!, List.getD_eq_getElem?_getD, getElem!_def]
  cases l[k]? <;> rfl
theorem dec_low {l : List UInt8} {p : Nat} (h : (l.getD p default).toNat < 128) : Utf8.decode ⟨l.toArray⟩ p = ((l.getD p default).toNat, 1) := by
  unfold Utf8.decode
  simp only [Nat.add_zero, get_bang]
  rw [if_pos h]
theorem dec_high {l : List UInt8} {p : Nat} (h : ¬ (l.getD p default).toNat < 128) : 128 ≤ (Utf8.decode ⟨l.toArray⟩ p).1 := by
  unfold Utf8.decode
  simp only [Nat.add_zero, get_bang]
  rw [if_neg h]
  split
  · split
    · rename_i h2; simpa using h2
    · decide
  · split
    · split
      · rename_i h2; simp only [ge_iff_le, Bool.and_eq_true, decide_eq_true_eq] at h2; show 128 ≤ _; omega
      · decide
    · split
      · split
        · rename_i h2; simp only [ge_iff_le, Bool.and_eq_true, decide_eq_true_eq] at h2; show 128 ≤ _; omega
        · decide
      · decide
theorem badR_nch (c : UInt8) : badR c.toNat = !(nch c) := by
  unfold badR nch
  generalize c.toNat = n
  rw [Bool.eq_iff_iff]
  simp
  omega
theorem cf_run {a : List UInt8} : ∀ (f p : Nat), a.length ≤ p + f → (0 ≤ Lib.idxFuncFrom badR true ⟨a.toArray⟩ f p ↔ (a.drop p).all nch = false)
  | 0, p, h => by
    rw [List.drop_eq_nil_of_le (by omega)]
    simp [Lib.idxFuncFrom]
  | f + 1, p, h => by
    have hsz : (ByteArray.mk a.toArray).size = a.length := by simp [ByteArray.size]
    unfold Lib.idxFuncFrom
    rw [hsz]
    by_cases hp : p < a.length
    · rw [if_pos hp, drop_cons hp, List.all_cons]
      by_cases hc : (a.getD p default).toNat < 128
      · rw [dec_low hc]
        simp only [badR_nch]
        by_cases hn : nch (a.getD p default) = true
        · rw [hn, if_neg (by decide), Bool.true_and]
          exact cf_run f (p + 1) (by omega)
        · have hn' : nch (a.getD p default) = false := by simpa using hn
          rw [hn', if_pos (by decide)]
          simp
      · have hb : badR (Utf8.decode ⟨a.toArray⟩ p).1 = true := by
          have := dec_high hc
          unfold badR
          simp
          omega
        have hn : nch (a.getD p default) = false := by
          unfold nch
          rw [decide_eq_false_iff_not]
          omega
        rw [hb, if_pos rfl, hn]
        simp
    · rw [if_neg hp, List.drop_eq_nil_of_le (by omega)]
      simp
theorem nameCF_eq (a : List UInt8) : nameCF a = some (!(a.all nch)) := by
  unfold nameCF Lib.idxFunc
  congr 1
  have := cf_run (a := a) (ByteArray.mk a.toArray).size 0 (by simp [ByteArray.size])
  rw [List.drop_zero] at this
  rw [Bool.eq_iff_iff, decide_eq_true_eq, this]
  simp
theorem name_eq (s : List UInt8) : value_Name s = some (nok s) := by
  unfold value_Name nok
  by_cases h0 : s = []
  · subst h0; rfl
  · have hl : 0 < s.length := List.length_pos_iff.2 h0
    rw [if_neg h0]
    by_cases h1 : (32 : Int) < (s.length : Int)
    · rw [if_pos h1, show decide (1 ≤ s.length ∧ s.length ≤ 32 ∧ 97 ≤ (s.getD 0 default).toNat ∧ (s.getD 0 default).toNat ≤ 122) = false by rw [decide_eq_false_iff_not]; omega]
      rfl
    · rw [if_neg h1, chk_pos (by omega), Int.toNat_zero]
      by_cases h2 : ((s.getD 0 default).toNat : Int) < 97
      · rw [if_pos h2, show decide (1 ≤ s.length ∧ s.length ≤ 32 ∧ 97 ≤ (s.getD 0 default).toNat ∧ (s.getD 0 default).toNat ≤ 122) = false by rw [decide_eq_false_iff_not]; omega]
        rfl
      · rw [if_neg h2, chk_pos (by omega)]
        by_cases h3 : 122 < ((s.getD 0 default).toNat : Int)
        · rw [if_pos h3, show decide (1 ≤ s.length ∧ s.length ≤ 32 ∧ 97 ≤ (s.getD 0 default).toNat ∧ (s.getD 0 default).toNat ≤ 122) = false by rw [decide_eq_false_iff_not]; omega]
          rfl
        · rw [if_neg h3, nameCF_eq, show decide (1 ≤ s.length ∧ s.length ≤ 32 ∧ 97 ≤ (s.getD 0 default).toNat ∧ (s.getD 0 default).toNat ≤ 122) = true by rw [decide_eq_true_eq]; omega]
          simp
/-! ### Checks -/
end Go.Proofs.YtmfiaecglndldaaGreatDoor
end
section
namespace Go.L
/-- A number without its sign. -/
def zz (a : Int) : Nat := if 0 ≤ a then (2 * a).toNat else (-2 * a - 1).toNat
theorem zz_lt {a : Int} (h : I64 a) : zz a < 18446744073709551616 := by unfold zz; unfold I64 at h; split <;> omega
/-- Groups of seven bits, the lowest first. -/
def vintN : Nat → Nat → List UInt8
  | 0, _ => []
  | n + 1, u => if 128 ≤ u then UInt8.ofNat (u % 128 + 128) :: vintN n (u / 128) else [UInt8.ofNat u]
def vint (u : Nat) : List UInt8 := vintN 10 u
theorem vintN_len : ∀ n u, (vintN n u).length ≤ n
  | 0, _ => by simp [vintN]
  | n + 1, u => by
    unfold vintN
    split
    · have := vintN_len n (u / 128); simp only [List.length_cons]; omega
    · simp
theorem vint_len (u : Nat) : (vint u).length ≤ 10 := vintN_len 10 u
set_option maxRecDepth 20000 in
theorem or128 (u : Nat) : u8 (u : Int) ||| 128 = UInt8.ofNat (u % 128 + 128) := by
  have h : ∀ b : Fin 256, (UInt8.ofNat b.val ||| 128) = UInt8.ofNat (b.val % 128 + 128) := by decide
  have := h ⟨u % 256, Nat.mod_lt _ (by decide)⟩
  dsimp only at this
  unfold u8
  rw [show ((u : Int) % 256).toNat = u % 256 by omega, this]
  congr 2
  omega
theorem u8_small {u : Nat} : u8 (u : Int) = UInt8.ofNat u := by
  unfold u8
  rw [show ((u : Int) % 256).toNat = u % 256 by omega]
  apply UInt8.toNat.inj
  simp
end Go.L
namespace Go.Proofs.YtmfiaecglndldaaGreatDoor
open Go Go.L
theorem wnum_run : ∀ (n u : Nat) (L : List UInt8), u < 128 ^ n → L.length + n ≤ 1000 → n ≤ 10 → 1 ≤ n → Go.L.run wire_Number_bl2 (L, (u : Int)) = some (L ++ vintN n u)
  | 0, _, _, _, _, _, h => absurd h (by omega)
  | n + 1, u, L, hu, hL, hn, _ => by
    unfold vintN
    by_cases h : 128 ≤ u
    · have h1 : 1 ≤ n := by
        rcases Nat.eq_zero_or_pos n with h0 | h0
        · subst h0; simp at hu; omega
        · exact h0
      have e : wire_Number_bl2 (L, (u : Int)) = some (.inl (L ++ [UInt8.ofNat (u % 128 + 128)], ((u / 128 : Nat) : Int))) := by
        unfold wire_Number_bl2
        dsimp only
        rw [if_pos (by omega), chk_pos (by unfold Go.E.Cap; simp; omega), or128]
        rfl
      rw [run_inl e, wnum_run n (u / 128) _ (Nat.div_lt_of_lt_mul (by rw [Nat.pow_succ, Nat.mul_comm] at hu; exact hu)) (by simp; omega) (by omega) h1, if_pos h]
      simp
    · rw [if_neg h]
      refine run_inr (m := some (L ++ [UInt8.ofNat u])) ?_
      unfold wire_Number_bl2 wire_Number_k1
      dsimp only
      rw [if_neg (by omega), chk_pos (by unfold Go.E.Cap; simp; omega), u8_small]
theorem wrap_u {x : Int} : IntKind.u64.wrap x = x % 18446744073709551616 := by
  simp only [IntKind.wrap]
  simp [IntKind.bits, IntKind.signed]
theorem xor_all {k : Nat} (h : k < 2 ^ 64) : k ^^^ 18446744073709551615 = 18446744073709551615 - k := by
  have h2 : (BitVec.ofNat 64 k ^^^ BitVec.allOnes 64).toNat = (~~~ (BitVec.ofNat 64 k)).toNat := by rw [BitVec.xor_allOnes]
  rw [BitVec.toNat_xor, BitVec.toNat_not, BitVec.toNat_ofNat, BitVec.toNat_allOnes, Nat.mod_eq_of_lt h] at h2
  exact h2
theorem number_eq {a : Int} (h : I64 a) : wire_Number a = some (vint (zz a)) := by
  have hz := zz_lt h
  unfold I64 at h
  unfold wire_Number
  simp only [wrap_u]
  rw [chk_pos (by omega)]
  unfold wire_Number_l2 vint
  have key : ((((a % 18446744073709551616 * 2 % 18446744073709551616).toNat ^^^ (a / 9223372036854775808 % 18446744073709551616).toNat : Nat)) : Int) = ((zz a : Nat) : Int) := by
    unfold zz
    by_cases h0 : 0 ≤ a
    · rw [if_pos h0, show a / 9223372036854775808 % 18446744073709551616 = 0 by omega]
      simp only [Int.toNat_zero, Nat.xor_zero]
      omega
    · rw [if_neg h0, show (a / 9223372036854775808 % 18446744073709551616).toNat = 18446744073709551615 by omega, xor_all (by omega)]
      omega
  rw [key, wnum_run 10 (zz a) [] (Nat.lt_trans hz (by decide)) (by decide) (by decide) (by decide)]
  rfl
end Go.Proofs.YtmfiaecglndldaaGreatDoor
end
section
namespace Go.L
structure NodeOk (v : Pv) : Prop where
  kind : v.f.1 = 1 ∨ v.f.1 = 2 ∨ v.f.1 = 3 ∨ v.f.1 = 4
  num : v.f.1 = 1 ∨ v.f.2.1 = 0
  bytes : v.f.1 = 2 ∨ v.f.2.2.1 = []
  names : v.f.1 = 4 ∨ v.f.2.2.2.1 = []
  parts : v.f.1 = 3 ∨ v.f.1 = 4 ∨ v.f.2.2.2.2 = []
  same : v.f.1 = 4 → v.f.2.2.2.1.length = v.f.2.2.2.2.length
  many : v.f.2.2.2.2.length ≤ 600
  nok : ∀ x ∈ v.f.2.2.2.1, nok x = true
  nd : v.f.2.2.2.1.Nodup
/-- Valid, of at most so many levels. -/
def Vd : Nat → Pv → Prop
  | 0, _ => False
  | d + 1, v => NodeOk v ∧ ∀ p ∈ v.f.2.2.2.2, Vd d p
/-- Nothing in it is greater than that. -/
def Sm (B : Nat) : Nat → Pv → Prop
  | 0, _ => True
  | d + 1, v => v.f.2.2.1.length ≤ B ∧ v.f.2.2.2.1.length ≤ B ∧ v.f.2.2.2.2.length ≤ B ∧ (∀ x ∈ v.f.2.2.2.1, x.length ≤ B) ∧ I64 v.f.1 ∧ I64 v.f.2.1 ∧ ∀ p ∈ v.f.2.2.2.2, Sm B d p
/-- The nodes of some levels. -/
def nodes : Nat → Pv → Nat
  | 0, _ => 0
  | d + 1, v => 1 + (v.f.2.2.2.2.map (nodes d)).sum
end Go.L
namespace Go.Proofs.YtmfiaecglndldaaGreatDoor
open Go Go.L
theorem cont_int {l : List Int} (hl : l.length ≤ 1000) (a : Int) : slices_Contains_int_int l a = some (decide (a ∈ l)) := by
  have key : ∀ (d i : Nat), i + d = l.length → ∃ r, Go.L.run (slices_Index_int_int_bl2 l a) (i : Int) = some r ∧ (0 ≤ r ↔ a ∈ l.drop i) := by
    intro d
    induction d with
    | zero =>
      intro i hi
      refine ⟨-1, run_inr (m := some (-1)) ?_, by rw [List.drop_eq_nil_of_le (by omega)]; simp⟩
      unfold slices_Index_int_int_bl2 slices_Index_int_int_k1
      rw [if_neg (by omega)]
    | succ d ih =>
      intro i hi
      have hil : i < l.length := by omega
      rw [drop_cons hil]
      have hb : slices_Index_int_int_bl2 l a (i : Int) = if a = l.getD i default then some (.inr (i : Int)) else some (.inl ((i + 1 : Nat) : Int)) := by
        unfold slices_Index_int_int_bl2
        rw [if_pos (by omega), chk_pos (by omega), Int.toNat_natCast, chk_pos (by unfold I64; omega)]
        rfl
      by_cases h : a = l.getD i default
      · rw [if_pos h] at hb
        exact ⟨_, run_inr (m := some (i : Int)) hb, by rw [h]; simp⟩
      · rw [if_neg h] at hb
        obtain ⟨r, h1, h2⟩ := ih (i + 1) (by omega)
        refine ⟨r, by rw [run_inl hb, h1], h2.trans ?_⟩
        rw [List.mem_cons]
        exact ⟨.inr, fun hh => hh.resolve_left h⟩
  unfold slices_Contains_int_int slices_Index_int_int slices_Index_int_int_l2
  obtain ⟨r, h1, h2⟩ := key l.length 0 (by omega)
  rw [show ((0 : Int)) = ((0 : Nat) : Int) from rfl, h1, Option.bind_some]
  rw [List.drop_zero] at h2
  congr 1
  rw [Bool.eq_iff_iff, decide_eq_true_eq, decide_eq_true_eq]
  exact h2
theorem cont_str {l : List (List UInt8)} (hl : l.length ≤ 1000000000000) (a : List UInt8) : slices_Contains_string_string l a = some (decide (a ∈ l)) := by
  have key : ∀ (d i : Nat), i + d = l.length → ∃ r, Go.L.run (slices_Index_string_string_bl2 l a) (i : Int) = some r ∧ (0 ≤ r ↔ a ∈ l.drop i) := by
    intro d
    induction d with
    | zero =>
      intro i hi
      refine ⟨-1, run_inr (m := some (-1)) ?_, by rw [List.drop_eq_nil_of_le (by omega)]; simp⟩
      unfold slices_Index_string_string_bl2 slices_Index_string_string_k1
      rw [if_neg (by omega)]
    | succ d ih =>
      intro i hi
      have hil : i < l.length := by omega
      rw [drop_cons hil]
      have hb : slices_Index_string_string_bl2 l a (i : Int) = if a = l.getD i default then some (.inr (i : Int)) else some (.inl ((i + 1 : Nat) : Int)) := by
        unfold slices_Index_string_string_bl2
        rw [if_pos (by omega), chk_pos (by omega), Int.toNat_natCast, chk_pos (by unfold I64; omega)]
        rfl
      by_cases h : a = l.getD i default
      · rw [if_pos h] at hb
        exact ⟨_, run_inr (m := some (i : Int)) hb, by rw [h]; simp⟩
      · rw [if_neg h] at hb
        obtain ⟨r, h1, h2⟩ := ih (i + 1) (by omega)
        refine ⟨r, by rw [run_inl hb, h1], h2.trans ?_⟩
        rw [List.mem_cons]
        exact ⟨.inr, fun hh => hh.resolve_left h⟩
  unfold slices_Contains_string_string slices_Index_string_string slices_Index_string_string_l2
  obtain ⟨r, h1, h2⟩ := key l.length 0 (by omega)
  rw [show ((0 : Int)) = ((0 : Nat) : Int) from rfl, h1, Option.bind_some]
  rw [List.drop_zero] at h2
  congr 1
  rw [Bool.eq_iff_iff, decide_eq_true_eq, decide_eq_true_eq]
  exact h2
theorem cn2_eq {l : List (List UInt8)} (hl : l.length ≤ 1000000000000) : conf_checkNode_2 l = some (l.any fun x => !nok x) := by
  have key : ∀ (d i : Nat), i + d = l.length → ∃ r, Go.L.run (idxf_checkNode_2_bl2 l) (i : Int) = some r ∧ (0 ≤ r ↔ (l.drop i).any (fun x => !nok x) = true) := by
    intro d
    induction d with
    | zero =>
      intro i hi
      refine ⟨-1, run_inr (m := some (-1)) ?_, by rw [List.drop_eq_nil_of_le (by omega)]; simp⟩
      unfold idxf_checkNode_2_bl2 idxf_checkNode_2_k1
      rw [if_neg (by omega)]
    | succ d ih =>
      intro i hi
      have hil : i < l.length := by omega
      rw [drop_cons hil]
      have hb : idxf_checkNode_2_bl2 l (i : Int) = if (!nok (l.getD i default)) = true then some (.inr (i : Int)) else some (.inl ((i + 1 : Nat) : Int)) := by
        unfold idxf_checkNode_2_bl2 value_checkNode_2
        rw [if_pos (by omega), chk_pos (by omega), Int.toNat_natCast, name_eq, chk_pos (by unfold I64; omega)]
        rfl
      by_cases h : (!nok (l.getD i default)) = true
      · rw [if_pos h] at hb
        exact ⟨_, run_inr (m := some (i : Int)) hb, by rw [List.any_cons, h]; simp⟩
      · rw [if_neg h] at hb
        obtain ⟨r, h1, h2⟩ := ih (i + 1) (by omega)
        refine ⟨r, by rw [run_inl hb, h1], h2.trans ?_⟩
        have hf : (!nok (l.getD i default)) = false := by simpa using h
        rw [List.any_cons, hf, Bool.false_or]
  unfold conf_checkNode_2 idxf_checkNode_2 idxf_checkNode_2_l2
  obtain ⟨r, h1, h2⟩ := key l.length 0 (by omega)
  rw [show ((0 : Int)) = ((0 : Nat) : Int) from rfl, h1, Option.bind_some]
  rw [List.drop_zero] at h2
  congr 1
  rw [Bool.eq_iff_iff, decide_eq_true_eq]
  exact h2
theorem dup_run {l : List (List UInt8)} (hl : l.length ≤ 1000000000000) : ∀ (d i : Nat), i + d = l.length → (l.take i).Nodup → ∃ c, Go.L.run (value_checkNode_bl3 l) (i : Int) = some c ∧ (c = 0 → l.Nodup)
  | 0, i, hi, hn => by
    refine ⟨0, run_inr (m := some 0) ?_, fun _ => ?_⟩
    · unfold value_checkNode_bl3 value_checkNode_k2
      rw [if_neg (by omega)]
    · rwa [List.take_of_length_le (by omega)] at hn
  | d + 1, i, hi, hn => by
    have hil : i < l.length := by omega
    have hb : value_checkNode_bl3 l (i : Int) = if l.getD i default ∈ l.take i then some (.inr 8) else some (.inl ((i + 1 : Nat) : Int)) := by
      unfold value_checkNode_bl3
      rw [if_pos (by omega), chk_pos (by omega), chk_pos (by omega), Int.toNat_natCast, cont_str (by rw [List.length_take]; omega), Option.bind_some, chk_pos (by unfold I64; omega)]
      by_cases h : l.getD i default ∈ l.take i <;> simp [h]
    by_cases h : l.getD i default ∈ l.take i
    · rw [if_pos h] at hb
      exact ⟨8, run_inr (m := some 8) hb, fun hc => by cases hc⟩
    · rw [if_neg h] at hb
      obtain ⟨c, h1, h2⟩ := dup_run hl d (i + 1) (by omega) (by
        rw [List.take_add_one, List.getElem?_eq_getElem hil]
        have e : l[i] = l.getD i default := by rw [List.getD_eq_getElem?_getD, List.getElem?_eq_getElem hil]; rfl
        rw [e]
        exact List.nodup_append.2 ⟨hn, List.pairwise_singleton _ _, fun a ha b hb e => by rw [Option.toList_some, List.mem_singleton] at hb; subst hb; subst e; exact h ha⟩)
      exact ⟨c, by rw [run_inl hb, h1], h2⟩
theorem cn_k1 (a b : Int) (c : List UInt8) {ns : List (List UInt8)} (hn : ns.length ≤ 1000000000000) (ps : List Pv) (fl : Bool) : ∃ r, value_checkNode_k1 a b c ns ps fl = some r ∧ (r = 0 → fl = false ∧ ps.length ≤ 600 ∧ (∀ x ∈ ns, nok x = true) ∧ ns.Nodup) := by
  unfold value_checkNode_k1
  cases fl with
  | true => exact ⟨6, rfl, fun h => by cases h⟩
  | false =>
    rw [if_neg (by decide)]
    by_cases h1 : (600 : Int) < (ps.length : Int)
    · rw [if_pos h1]; exact ⟨14, rfl, fun h => by cases h⟩
    · rw [if_neg h1, cn2_eq hn, Option.bind_some]
      by_cases h2 : (ns.any fun x => !nok x) = true
      · rw [if_pos h2]; exact ⟨7, rfl, fun h => by cases h⟩
      · rw [if_neg h2]
        obtain ⟨r, h3, h4⟩ := dup_run hn ns.length 0 (by omega) (by simp)
        refine ⟨r, h3, fun h => ⟨rfl, by omega, fun x hx => ?_, h4 h⟩⟩
        cases hk : nok x with
        | true => rfl
        | false => exact absurd (List.any_eq_true.2 ⟨x, hx, by simp [hk]⟩) h2
theorem vc1 {l : List Int} (hl : l.length ≤ 1000) (v : Pv) : value_checkNode_1 l v = some (decide (v.f.1 ∈ l), v) := by
  unfold value_checkNode_1
  rw [cont_int hl]
  rfl
set_option maxHeartbeats 4000000 in
theorem checkNode_ex (v : Pv) (hn : v.f.2.2.2.1.length ≤ 1000000000000) : ∃ c, value_checkNode v = some c ∧ (c = 0 → NodeOk v) := by
  have fin : ∀ fl : Bool, (fl = false → (v.f.1 = 1 ∨ v.f.1 = 2 ∨ v.f.1 = 3 ∨ v.f.1 = 4) ∧ (v.f.1 = 1 ∨ v.f.2.1 = 0) ∧ (v.f.1 = 2 ∨ v.f.2.2.1 = []) ∧ (v.f.1 = 4 ∨ v.f.2.2.2.1 = []) ∧ (v.f.1 = 3 ∨ v.f.1 = 4 ∨ v.f.2.2.2.2 = []) ∧ (v.f.1 = 4 → v.f.2.2.2.1.length = v.f.2.2.2.2.length)) →
      ∃ c, value_checkNode_k1 v.f.1 v.f.2.1 v.f.2.2.1 v.f.2.2.2.1 v.f.2.2.2.2 fl = some c ∧ (c = 0 → NodeOk v) := by
    intro fl hfl
    obtain ⟨r, h1, h2⟩ := cn_k1 v.f.1 v.f.2.1 v.f.2.2.1 hn v.f.2.2.2.2 fl
    refine ⟨r, h1, fun hr => ?_⟩
    obtain ⟨k1, k2, k3, k4⟩ := h2 hr
    obtain ⟨g1, g2, g3, g4, g5, g6⟩ := hfl k1
    exact ⟨g1, g2, g3, g4, g5, g6, k2, k3, k4⟩
  have e0 := vc1 (l := [1, 2, 3, 4]) (by decide) v
  have e1 := vc1 (l := [1]) (by decide) v
  have e2 := vc1 (l := [2]) (by decide) v
  have e3 := vc1 (l := [3, 4]) (by decide) v
  have e4 := vc1 (l := [4]) (by decide) v
  by_cases hk : v.f.1 = 1 ∨ v.f.1 = 2 ∨ v.f.1 = 3 ∨ v.f.1 = 4
  · unfold value_checkNode
    simp only [e0, e1, e2, e3, e4, Option.bind_some]
    generalize v.f.1 = k at *
    generalize v.f.2.1 = n at *
    generalize v.f.2.2.1 = b at *
    generalize v.f.2.2.2.1 = ns at *
    generalize v.f.2.2.2.2 = ps at *
    have hb : b = [] ∨ (0 : Int) < (b.length : Int) := by cases b with
      | nil => exact .inl rfl
      | cons _ _ => exact .inr (by simp only [List.length_cons]; omega)
    have hm : ns = [] ∨ (0 : Int) < (ns.length : Int) := by cases ns with
      | nil => exact .inl rfl
      | cons _ _ => exact .inr (by simp only [List.length_cons]; omega)
    have hp : ps = [] ∨ (0 : Int) < (ps.length : Int) := by cases ps with
      | nil => exact .inl rfl
      | cons _ _ => exact .inr (by simp only [List.length_cons]; omega)
    rcases hk with rfl | rfl | rfl | rfl <;> by_cases hz : n = 0 <;> rcases hb with rfl | hb <;> rcases hm with rfl | hm <;> rcases hp with rfl | hp <;>
      simp +decide only [*, if_true, if_false, List.length_nil, Bool.not_true, Bool.not_false, Bool.false_eq_true, decide_true, decide_false, Int.lt_irrefl, Int.natCast_zero] <;>
      (refine fin _ fun hfl => ?_) <;> simp_all <;> omega
  · refine ⟨5, ?_, fun h => by cases h⟩
    unfold value_checkNode
    rw [e0, Option.bind_some]
    rw [if_pos (by simp [hk])]
end Go.Proofs.YtmfiaecglndldaaGreatDoor
end
section
namespace Go.L
/-- Steps with slashes between them. -/
def jn : List (List UInt8) → List UInt8
  | [] => []
  | x :: l => if l = [] then x else x ++ 47 :: jn l
theorem jn_snoc : ∀ (l : List (List UInt8)) (x : List UInt8), jn (l ++ [x]) = if l = [] then x else jn l ++ 47 :: x
  | [], x => by simp [jn]
  | y :: l, x => by
    have ih := jn_snoc l x
    simp only [List.cons_append, jn, List.append_eq_nil_iff, List.cons_ne_nil, and_false, if_false, reduceCtorEq]
    rw [ih]
    by_cases h : l = []
    · subst h; simp
    · simp [h]
theorem jn_len : ∀ {l : List (List UInt8)}, l ≠ [] → (jn l).length + 1 = tot l
  | x :: l, _ => by
    unfold jn tot
    by_cases h : l = []
    · subst h; simp [tot]
    · have := jn_len h
      rw [if_neg h, List.length_append, List.length_cons]
      omega
/-- A step of a path. -/
def stp (x : List UInt8) : Bool := nok x || decide (x = [35])
theorem stp_ne {x : List UInt8} (h : stp x = true) : x ≠ [] ∧ 47 ∉ x ∧ x ≠ [42] ∧ x ≠ [42, 42] := by
  unfold stp at h
  rw [Bool.or_eq_true, decide_eq_true_eq] at h
  rcases h with h | rfl
  · unfold nok at h
    rw [Bool.and_eq_true, decide_eq_true_eq] at h
    obtain ⟨h1, h2⟩ := h
    have hall := List.all_eq_true.1 h2
    refine ⟨fun e => by subst e; simp at h1, fun hh => ?_, fun e => by subst e; simp at h1, fun e => by subst e; simp at h1⟩
    have := hall 47 hh
    revert this; decide
  · decide
end Go.L
end
section
namespace Go.E
open Go Go.RowKit
/-- The function value f (with cap) turns what J says of the state, leaf by leaf, as step says. -/
structure Cb (P : Program) (w0 : World) (H : PH) (f : FuncId) (cap : List Value) {σ : Type} (J : σ → List Res → PH → Prop) (step : σ → List UInt8 × Int × Int × List UInt8 → Option σ) : Prop where
  mono : ∀ {s : σ} {R : List Res} {G G' : PH}, Le G G' → J s R G → J s R G'
  ok : ∀ {w : World} {O R : List Res} {s s' : σ} {x : List UInt8 × Int × Int × List UInt8}, Lcl w0 (HAppend.hAppend O R) w → J s R (gz H w0 w (HAppend.hAppend O R)) → step s x = some s' →
    Ok P f (encLf x :: cap) w (fun v w' => v = .tuple #[] ∧ ∃ R' : List Res, Lcl w0 (HAppend.hAppend O R') w' ∧ Le (fz w (HAppend.hAppend O R)) (fz w' (HAppend.hAppend O R')) ∧ J s' R' (gz H w0 w' (HAppend.hAppend O R')))
end Go.E
end
section
namespace Go.Proofs.YtmfiaecglndldaaGreatDoor
open Go Go.E Go.RowKit
set_option maxHeartbeats 1000000
set_option maxRecDepth 10000
open _root_.Go.Proofs.Tryz
noncomputable def slices_Clone_string_string (a0 : List (List UInt8)) : Option ((List (List UInt8))) :=
 Go.L.chk (Go.E.Cap 16 (([] : List (List UInt8)).length + a0.length)) (some ((([] : List (List UInt8)) ++ a0)))
theorem slices_Clone_string_string_ok (w : World) (H : PH) (hH : Le H (hp w)) {a0 : List (List UInt8)} {v0_0 : Value} (h0_0 : Vec .st H v0_0 (a0)) {r : (List (List UInt8))} (h : slices_Clone_string_string a0 = some r) :
  Ok Tryz.prog 90 [v0_0] w (fun v w' => Ext w w' ∧ ∃ u0, v = u0 ∧ OwnH 9 .st H w w' u0 (r)) := by
 refine Ok_enter (n := 8) [(0, v0_0)] func90 rfl rfl rfl rfl rfl ?_
 have hL := Lcl.start w
 refine W_pz 1 rfl ?_
 refine W_seq ?_
 refine W_p 1 rfl ?_
 rcases nil_or h0_0 with ⟨rfl, rfl⟩ | hnn
 ·refine S_v (r_nilT rfl rfl underlying30) rfl ?_
  refine S_seqnil ?_
  refine W_true rfl ?_
  refine W_pz 1 rfl ?_
  refine W_ret ?_
  obtain ⟨_, h⟩ := Go.L.chk_some h
  obtain rfl := Option.some.inj h
  refine At_seq_ret ?_
  refine At_body rfl rfl ?_
  exact ⟨hL.ext, _, rfl, ownNil _ hL hH⟩
 refine S_v (r_nilF rfl rfl underlying30 hnn) rfl ?_
 refine S_seqnil ?_
 refine W_false rfl ?_
 refine W_skip ?_
 refine At_seq ?_
 refine W_seqr ?_
 refine S_litO (r := .st) (l := ([] : List (List UInt8))) rfl (fun _ => bsl30_0 _) rfl (show 0 ≤ 9223372036854775807 by decide) hH hL .nil ?_
 intro v1 w1 xs1 hL1 hle1 he1
 refine S_pu 1 rfl ?_
 obtain ⟨hk3, h⟩ := Go.L.chk_some h
 refine S_appE (r := .st) (l := ([] : List (List UInt8))) (m := a0) 0 rfl rfl underlying30 zr9 rfl (by decide) rfl hH hL1 rfl he1 (h0_0.mono (gz_left hH)) hk3 ?_
 intro v2 w2 xs2 hL2 hle2 he2
 refine S_pz 1 rfl ?_
 refine W_ret ?_
 obtain rfl := Option.some.inj h
 refine At_body rfl rfl ?_
 exact ⟨hL2.ext, _, rfl, (hL2.ownH hH (i := 0) rfl he2)⟩
noncomputable def shapes_leaves_body_k2 {σ : Type} (a0 : Go.L.Pv) (a1 : List (List UInt8)) (s24_45 : Int) (self : Go.L.Pv → (List (List UInt8)) → σ → Option σ) (s8_62 : List UInt8) (sJ63 : σ) : Option ((Int × σ) ⊕ (σ)) :=
 Option.bind (slices_Clone_string_string a1) (fun x75 => Go.L.chk (Go.E.Cap 16 (x75.length + ([s8_62]).length)) (Option.bind (self (a0.f.2.2.2.2.getD s24_45.toNat default) (x75 ++ [s8_62]) sJ63) (fun x82 => Go.L.chk (Go.L.I64 (s24_45 + (1 : Int))) (some (Sum.inl ((s24_45 + (1 : Int)), x82))))))
noncomputable def shapes_leaves_body_bl1 {σ : Type} (a0 : Go.L.Pv) (a1 : List (List UInt8)) (self : Go.L.Pv → (List (List UInt8)) → σ → Option σ) : Int × σ → Option ((Int × σ) ⊕ (σ)) := fun ⟨s24_45, sJ46⟩ =>
 if s24_45 < (a0.f.2.2.2.2.length : Int) then Go.L.chk (0 ≤ s24_45 ∧ s24_45 < (a0.f.2.2.2.2.length : Int)) (if a0.f.1 = (4 : Int) then Go.L.chk (0 ≤ s24_45 ∧ s24_45 < (a0.f.2.2.2.1.length : Int)) ((shapes_leaves_body_k2 a0 a1 s24_45 self) (a0.f.2.2.2.1.getD s24_45.toNat default) sJ46) else (shapes_leaves_body_k2 a0 a1 s24_45 self) ([35] : List UInt8) sJ46) else Option.map Sum.inr (some sJ46)
noncomputable def shapes_leaves_body_l1 {σ : Type} (a0 : Go.L.Pv) (a1 : List (List UInt8)) (self : Go.L.Pv → (List (List UInt8)) → σ → Option σ) (s : Int × σ) : Option (σ) := Go.L.run (shapes_leaves_body_bl1 a0 a1 self) s
noncomputable def shapes_leaves_body {σ : Type} (step : σ → ((List UInt8) × Int × Int × (List UInt8)) → Option σ) (self : Go.L.Pv → (List (List UInt8)) → σ → Option σ) (a0 : Go.L.Pv) (a1 : List (List UInt8)) (s : σ) : Option (σ) :=
 Option.bind (joinL a1 ([47] : List UInt8)) (fun x5 => Option.bind (step s (x5, a0.f.1, a0.f.2.1, a0.f.2.2.1)) (fun x10 => (shapes_leaves_body_l1 a0 a1 self) ((0 : Int), x10)))
noncomputable def shapes_leaves_n {σ : Type} (step : σ → ((List UInt8) × Int × Int × (List UInt8)) → Option σ) : Nat → Go.L.Pv → (List (List UInt8)) → σ → Option σ
 | 0 => fun _ _ _ => none
 | n + 1 => shapes_leaves_body step (shapes_leaves_n step n)
noncomputable def shapes_leaves {σ : Type} (step : σ → ((List UInt8) × Int × Int × (List UInt8)) → Option σ) : Go.L.Pv → (List (List UInt8)) → σ → Option σ := shapes_leaves_n step 1000
theorem shapes_leaves_body_J {σ : Type} {w0 : World} {H : PH} (hH : Le H (hp w0)) {fc : FuncId} {cap : List Value} {J : σ → List Res → PH → Prop} {step : σ → ((List UInt8) × Int × Int × (List UInt8)) → Option σ} (hcb : Cb Tryz.prog w0 H fc cap J step) {self : Go.L.Pv → (List (List UInt8)) → σ → Option σ} (hself : ∀ {w : World} {O R : List Res} {s : σ} {a0 : Go.L.Pv} {a1 : List (List UInt8)} {va0_2 : Value} {va0_3 : Value} {va0_4 : Value} {va1 : Value} (hL : Lcl w0 (HAppend.hAppend O R) w) (ha0_2 : Vec .byte (gz H w0 w (HAppend.hAppend O R)) va0_2 (a0.f.2.2.1)) (ha0_3 : Vec .st (gz H w0 w (HAppend.hAppend O R)) va0_3 (a0.f.2.2.2.1)) (ha0_4 : Vec .tree (gz H w0 w (HAppend.hAppend O R)) va0_4 (a0.f.2.2.2.2)) (ha1 : Vec .st (gz H w0 w (HAppend.hAppend O R)) va1 (a1)) (hJ : J s R (gz H w0 w (HAppend.hAppend O R))) {r : σ} (h : self a0 a1 s = some r), Ok Tryz.prog 51 [.agg #[.int .i64 a0.f.1, .int .i64 a0.f.2.1, va0_2, va0_3, va0_4], va1, .func (.func fc) #[] cap.toArray] w (fun v w' => v = .tuple #[] ∧ ∃ R' : List Res, Lcl w0 (HAppend.hAppend O R') w' ∧ Le (fz w (HAppend.hAppend O R)) (fz w' (HAppend.hAppend O R')) ∧ J r R' (gz H w0 w' (HAppend.hAppend O R')))) {w : World} {O R : List Res} {s : σ} {a0 : Go.L.Pv} {a1 : List (List UInt8)} {va0_2 : Value} {va0_3 : Value} {va0_4 : Value} {va1 : Value} (hL : Lcl w0 (HAppend.hAppend O R) w) (ha0_2 : Vec .byte (gz H w0 w (HAppend.hAppend O R)) va0_2 (a0.f.2.2.1)) (ha0_3 : Vec .st (gz H w0 w (HAppend.hAppend O R)) va0_3 (a0.f.2.2.2.1)) (ha0_4 : Vec .tree (gz H w0 w (HAppend.hAppend O R)) va0_4 (a0.f.2.2.2.2)) (ha1 : Vec .st (gz H w0 w (HAppend.hAppend O R)) va1 (a1)) (hJ : J s R (gz H w0 w (HAppend.hAppend O R))) {r : σ} (h : shapes_leaves_body step self a0 a1 s = some r) :
  Ok Tryz.prog 51 [.agg #[.int .i64 a0.f.1, .int .i64 a0.f.2.1, va0_2, va0_3, va0_4], va1, .func (.func fc) #[] cap.toArray] w (fun v w' => v = .tuple #[] ∧ ∃ R' : List Res, Lcl w0 (HAppend.hAppend O R') w' ∧ Le (fz w (HAppend.hAppend O R)) (fz w' (HAppend.hAppend O R')) ∧ J r R' (gz H w0 w' (HAppend.hAppend O R'))) := by
 refine Ok_enter (n := 46) [(0, .agg #[.int .i64 a0.f.1, .int .i64 a0.f.2.1, va0_2, va0_3, va0_4]), (1, va1), (2, .func (.func fc) #[] cap.toArray)] func51 rfl rfl rfl rfl rfl ?_
 have hT := Le.refl (fz w (HAppend.hAppend O R))
 have hG1 := hL.rG H
 refine W_seqr ?_
 refine S_box (t := 38) rfl rfl rfl hL ?_
 intro w2 b2 hL2 hle2 _
 replace hG1 := hG1.trans (gz_mono hH hle2)
 replace hJ := hcb.mono (gz_mono hH hle2) hJ
 replace hT := hT.trans hle2
 refine S_seqnil ?_
 refine W_seqd (.q 0 (.q 1 (.q 2 (.q 3 (.q 4 (.q 5 (.q 6 (.q 7 (.q 8 (.q 9 (.q 10 (.tail 11)))))))))))) mixed (by kernel_rfl) (fun w3 hx3 => ?_)
 have hL4 := hL2.call hx3
 have hle4 := fz_ext hL2 hx3
 replace hG1 := hG1.trans (gz_mono hH hle4)
 replace hJ := hcb.mono (gz_mono hH hle4) hJ
 replace hT := hT.trans hle4
 refine D_pu 2 rfl ?_
 obtain ⟨x5, hb5, h⟩ := Go.L.bind_some h
 refine D_call rfl rfl rfl (fun w6 hx6 => join_ok _ _ (Le.refl _) (((ha1.mono hG1).mono (gz_le hH hL4)).mono hx6.le) hb5) ?_
 refine D_v (r_field rfl underlying38 rfl zr3 (by decide)) rfl rfl ?_
 refine D_v (r_loadB1 0 rfl underlying3 rfl hL4 rfl rfl) rfl rfl ?_
 refine D_v (r_field rfl underlying38 rfl zr3 (by decide)) rfl rfl ?_
 refine D_v (r_loadB1 0 rfl underlying3 rfl hL4 rfl rfl) rfl rfl ?_
 refine D_v (r_field rfl underlying38 rfl zr35 (by decide)) rfl rfl ?_
 refine D_v (r_loadB1 0 rfl underlying35 rfl hL4 rfl rfl) rfl rfl ?_
 refine D_v (r_str rfl underlying35 underlying5 underlying9 (ha0_2.mono hG1) (gz_le hH hL4)) rfl rfl ?_
 refine D_v (r_build rfl (fun _ => bld84_0_1_2_3 _ rfl _ _ _ rfl _)) rfl rfl ?_
 refine D_tail (fun w7 hx7 => ?_)
 have hL8 := hL4.call hx7
 have hle8 := fz_ext hL4 hx7
 replace hG1 := hG1.trans (gz_mono hH hle8)
 replace hJ := hcb.mono (gz_mono hH hle8) hJ
 replace hT := hT.trans hle8
 obtain ⟨x10, hb10, h⟩ := Go.L.bind_some h
 refine S_callv (cap := cap) rfl rfl rfl (hcb.ok (O := (HAppend.hAppend ([.box b2 [.int .i64 a0.f.1, .int .i64 a0.f.2.1, va0_2, va0_3, va0_4] 38] : List Res) O)) (R := R) (x := (x5, a0.f.1, a0.f.2.1, a0.f.2.2.1)) hL8 hJ hb10) ?_
 rintro _ w9 ⟨rfl, R9, hL9, hle9, hJ9⟩
 replace hL9 : Lcl w0 (HAppend.hAppend ([.box b2 [.int .i64 a0.f.1, .int .i64 a0.f.2.1, va0_2, va0_3, va0_4] 38] : List Res) (HAppend.hAppend O R9)) w9 := hL9
 replace hle9 : Le (fz w7 (HAppend.hAppend ([.box b2 [.int .i64 a0.f.1, .int .i64 a0.f.2.1, va0_2, va0_3, va0_4] 38] : List Res) (HAppend.hAppend O R))) (fz w9 (HAppend.hAppend ([.box b2 [.int .i64 a0.f.1, .int .i64 a0.f.2.1, va0_2, va0_3, va0_4] 38] : List Res) (HAppend.hAppend O R9))) := hle9
 replace hG1 := hG1.trans (gz_mono hH hle9)
 replace hT := hT.trans hle9
 replace hJ : J x10 R9 (gz H w0 w9 (HAppend.hAppend ([.box b2 [.int .i64 a0.f.1, .int .i64 a0.f.2.1, va0_2, va0_3, va0_4] 38] : List Res) (HAppend.hAppend O R9))) := hJ9
 refine S_seqnil ?_
 refine W_seqr ?_
 refine S_v (r_field rfl underlying38 rfl zr36 (by decide)) rfl ?_
 refine S_v (r_loadB1 0 rfl underlying36 rfl hL9 rfl rfl) rfl ?_
 refine S_v (r_len rfl underlying36 (ha0_4.mono hG1)) rfl ?_
 refine S_pz 1 rfl ?_
 refine W_block ?_
 obtain ⟨n46, h⟩ := Go.L.run_some h
 refine W_loop (σ := Int × σ × (List Res) × Nat) (fun ⟨s24_45, sJ46, RJ46, n⟩ => [(1, va1), (2, .func (.func fc) #[] cap.toArray), (3, .pointer (some ⟨b2, 0, none⟩)), (22, va0_4), (23, .int .i64 (a0.f.2.2.2.2.length : Int)), (24, .int .i64 s24_45)]) (fun ⟨s24_45, sJ46, RJ46, n⟩ wr => InO w0 (HAppend.hAppend ([.box b2 [.int .i64 a0.f.1, .int .i64 a0.f.2.1, va0_2, va0_3, va0_4] 38] : List Res) (HAppend.hAppend O RJ46)) wr fun Oz => Vec .st (gz H w0 wr Oz) (va1) (a1) ∧ Vec .tree (gz H w0 wr Oz) (va0_4) (a0.f.2.2.2.2) ∧ Vec .byte (gz H w0 wr Oz) (va0_2) (a0.f.2.2.1) ∧ Vec .st (gz H w0 wr Oz) (va0_3) (a0.f.2.2.2.1) ∧ Le (fz w (HAppend.hAppend O R)) (fz wr Oz) ∧ J sJ46 RJ46 (gz H w0 wr Oz) ∧ Go.L.itr (shapes_leaves_body_bl1 a0 a1 self) n (s24_45, sJ46) = some r) (fun ⟨s24_45, sJ46, RJ46, n⟩ => n) ((0 : Int), x10, R9, n46) (.cons rfl (.cons rfl (.cons rfl (.cons rfl (.cons rfl (.cons rfl (Sub.nil _))))))) ⟨hL9, (ha1.mono hG1), (ha0_4.mono hG1), (ha0_2.mono hG1), (ha0_3.mono hG1), hT, hJ, h⟩ ?_
 rintro ⟨s24_45, sJ46, RJ46, nn46⟩ wr46 ⟨hL46, hf46_0, hf46_1, hf46_2, hf46_3, hT, hJ, h⟩
 obtain ⟨n46, e46, rfl, h, hm46⟩ := Go.L.itr_some h
 have hG48 := hL46.rG H
 refine W_pz 1 rfl ?_
 refine W_seq ?_
 refine W_if rfl (fun hc49 => ?_) (fun hc49 => ?_)
 ·replace h := Go.L.ite_p hc49 h
  refine W_skip ?_
  refine At_seq ?_
  refine W_seq ?_
  refine W_block ?_
  refine W_p 1 rfl ?_
  obtain ⟨hk52, h⟩ := Go.L.chk_some h
  refine S_index rfl rfl underlying36 zr38 (hf46_1.mono hG48) s24_45.toNat (Int.toNat_of_nonneg hk52.1).symm (idx_lt hk52) rfl ?_
  rintro p51 _ e51t0 hp51
  obtain ⟨_, _, rfl, rfl, ⟨_, _, rfl, rfl, ⟨_, _, rfl, ⟨e51v2, rfl, e51h2⟩, ⟨_, _, rfl, ⟨e51v3, rfl, e51h3⟩, ⟨e51v4, rfl, e51h4⟩⟩⟩⟩⟩ := Go.E.Rp.tree_open e51t0
  refine S_v (r_loadN rfl underlying38 rfl zr38 hp51 (gz_le hH hL46)) rfl ?_
  refine S_alloc zr38 rfl rfl hL46 ?_
  intro w53 b53 hL53 hle53 _
  replace hp51 := hp51.mono (gz_mono hH hle53)
  replace e51h2 := e51h2.mono (gz_mono hH hle53)
  replace e51h3 := e51h3.mono (gz_mono hH hle53)
  replace e51h4 := e51h4.mono (gz_mono hH hle53)
  replace hG48 := hG48.trans (gz_mono hH hle53)
  replace hJ := hcb.mono (gz_mono hH hle53) hJ
  replace hT := hT.trans hle53
  refine S_pu 1 rfl ?_
  refine S_storeBN 0 rfl rfl rfl zr38 hL53 rfl rfl (onc rfl (onc rfl (onc e51h2.one (onc e51h3.one (onc e51h4.one on0))))) ?_
  intro w54 hL54 hle54
  replace hp51 := hp51.mono (gz_mono hH hle54)
  replace e51h2 := e51h2.mono (gz_mono hH hle54)
  replace e51h3 := e51h3.mono (gz_mono hH hle54)
  replace e51h4 := e51h4.mono (gz_mono hH hle54)
  replace hG48 := hG48.trans (gz_mono hH hle54)
  replace hJ := hcb.mono (gz_mono hH hle54) hJ
  replace hT := hT.trans hle54
  refine S_seqnil ?_
  have hG55 := hL54.rG H
  refine W_pz 1 rfl ?_
  refine W_cut (σ := (List UInt8) × σ × (List Res)) (fun ⟨s8_62, sJ63, RJ63⟩ => [(1, va1), (2, .func (.func fc) #[] cap.toArray), (3, .pointer (some ⟨b2, 0, none⟩)), (7, .pointer (some ⟨b53, 0, none⟩)), (8, .string ⟨(s8_62).toArray⟩), (22, va0_4), (23, .int .i64 (a0.f.2.2.2.2.length : Int)), (24, .int .i64 s24_45)]) (fun ⟨s8_62, sJ63, RJ63⟩ wr => InO w0 (HAppend.hAppend ([.box b53 [.int .i64 ((a0.f.2.2.2.2.getD s24_45.toNat default).f.1), .int .i64 ((a0.f.2.2.2.2.getD s24_45.toNat default).f.2.1), e51v2, e51v3, e51v4] 38, .box b2 [.int .i64 a0.f.1, .int .i64 a0.f.2.1, va0_2, va0_3, va0_4] 38] : List Res) (HAppend.hAppend O RJ63)) wr fun Oz => Vec .st (gz H w0 wr Oz) (va1) (a1) ∧ Vec .tree (gz H w0 wr Oz) (va0_4) (a0.f.2.2.2.2) ∧ Vec .byte (gz H w0 wr Oz) (e51v2) ((a0.f.2.2.2.2.getD s24_45.toNat default).f.2.2.1) ∧ Vec .st (gz H w0 wr Oz) (e51v3) ((a0.f.2.2.2.2.getD s24_45.toNat default).f.2.2.2.1) ∧ Vec .tree (gz H w0 wr Oz) (e51v4) ((a0.f.2.2.2.2.getD s24_45.toNat default).f.2.2.2.2) ∧ Vec .byte (gz H w0 wr Oz) (va0_2) (a0.f.2.2.1) ∧ Vec .st (gz H w0 wr Oz) (va0_3) (a0.f.2.2.2.1) ∧ Le (fz w (HAppend.hAppend O R)) (fz wr Oz) ∧ J sJ63 RJ63 (gz H w0 wr Oz) ∧ (shapes_leaves_body_k2 a0 a1 s24_45 self) s8_62 sJ63 = some e46) ?_ ?_
  ·refine W_seqr ?_
   refine S_v (r_field rfl underlying38 rfl zr3 (by decide)) rfl ?_
   refine S_v (r_loadB1 1 rfl underlying3 rfl hL54 rfl rfl) rfl ?_
   refine S_pz 1 rfl ?_
   refine W_if rfl (fun hc65 => ?_) (fun hc65 => ?_)
   ·replace h := Go.L.ite_p hc65 h
    refine W_region ?_
    refine S_v (r_field rfl underlying38 rfl zr30 (by decide)) rfl ?_
    refine S_v (r_loadB1 1 rfl underlying30 rfl hL54 rfl rfl) rfl ?_
    refine S_pu 1 rfl ?_
    obtain ⟨hk68, h⟩ := Go.L.chk_some h
    refine S_index rfl rfl underlying30 zr9 ((hf46_3.mono hG48).mono hG55) s24_45.toNat (Int.toNat_of_nonneg hk68.1).symm (idx_lt hk68) rfl ?_
    rintro p67 _ rfl hp67
    refine S_v (r_load1 rfl underlying9 rfl hp67 (gz_le hH hL54)) rfl ?_
    refine S_pu 1 rfl ?_
    refine S_nil ?_
    refine At_cut (a0.f.2.2.2.1.getD s24_45.toNat default, sJ46, RJ46) (.cons rfl (.cons rfl (.cons rfl (.cons rfl (.cons rfl (.cons rfl (.cons rfl (.cons rfl (Sub.nil _))))))))) ⟨hL54, ((hf46_0.mono hG48).mono hG55), ((hf46_1.mono hG48).mono hG55), (e51h2.mono hG55), (e51h3.mono hG55), (e51h4.mono hG55), ((hf46_2.mono hG48).mono hG55), ((hf46_3.mono hG48).mono hG55), hT, hJ, h⟩
   ·replace h := Go.L.ite_n hc65 h
    refine W_skip ?_
    refine At_cut (([35] : List UInt8), sJ46, RJ46) (.cons rfl (.cons rfl (.cons rfl (.cons rfl (.cons rfl (.cons rfl (.cons rfl (.cons rfl (Sub.nil _))))))))) ⟨hL54, ((hf46_0.mono hG48).mono hG55), ((hf46_1.mono hG48).mono hG55), (e51h2.mono hG55), (e51h3.mono hG55), (e51h4.mono hG55), ((hf46_2.mono hG48).mono hG55), ((hf46_3.mono hG48).mono hG55), hT, hJ, h⟩
  ·rintro ⟨s8_62, sJ63, RJ63⟩ wr63 ⟨hL63, hf63_0, hf63_1, hf63_2, hf63_3, hf63_4, hf63_5, hf63_6, hT, hJ, h⟩
   have hG71 := hL63.rG H
   refine W_naiveI (fun z0 z => Le (gz H w0 z0 (HAppend.hAppend ([.box b53 [.int .i64 ((a0.f.2.2.2.2.getD s24_45.toNat default).f.1), .int .i64 ((a0.f.2.2.2.2.getD s24_45.toNat default).f.2.1), e51v2, e51v3, e51v4] 38, .box b2 [.int .i64 a0.f.1, .int .i64 a0.f.2.1, va0_2, va0_3, va0_4] 38] : List Res) (HAppend.hAppend O RJ63))) (hp z) ∧ z.heap[b53]? = some (.cells [.int .i64 ((a0.f.2.2.2.2.getD s24_45.toNat default).f.1), .int .i64 ((a0.f.2.2.2.2.getD s24_45.toNat default).f.2.1), e51v2, e51v3, e51v4].toArray 38 (0, 0)) ∧ z.heap[b2]? = some (.cells [.int .i64 a0.f.1, .int .i64 a0.f.2.1, va0_2, va0_3, va0_4].toArray 38 (0, 0))) mixed rfl (fun w72 hx72 => ?_)
   have hL73 := hL63.call hx72
   have hle73 := fz_ext hL63 hx72
   replace hG71 := hG71.trans (gz_mono hH hle73)
   replace hJ := hcb.mono (gz_mono hH hle73) hJ
   replace hT := hT.trans hle73
   have hG74 := hL73.rG H
   refine NI_hoist 0 (np_block (np_seq (np_loop (np_block np_body)))) ⟨hG74.trans (gz_le hH hL73), hL73.at (i := 0) rfl, hL73.at (i := 1) rfl⟩ (by kernel_rfl) rfl (fun _ hI => r_loadHN rfl underlying38 rfl zr38 hI.2.1) rfl ?_
   refine NI_hoist 1 (np_block (np_seq (np_loop (np_block np_body)))) ⟨hG74.trans (gz_le hH hL73), hL73.at (i := 0) rfl, hL73.at (i := 1) rfl⟩ (by kernel_rfl) rfl (fun _ _ => RunsAt_pu rfl) rfl ?_
   refine NI_hoist 3 (np_block (np_seq (np_loop (np_block np_body)))) ⟨hG74.trans (gz_le hH hL73), hL73.at (i := 0) rfl, hL73.at (i := 1) rfl⟩ (by kernel_rfl) rfl (fun _ _ => RunsAt_pu rfl) rfl ?_
   refine NI_hoist 6 (np_block (np_seq (np_loop (np_block np_body)))) ⟨hG74.trans (gz_le hH hL73), hL73.at (i := 0) rfl, hL73.at (i := 1) rfl⟩ (by kernel_rfl) rfl (fun _ _ => RunsAt_pu rfl) rfl ?_
   refine NI2 (i := 2) (j := 4) (by kernel_rfl) rfl rfl ?_ ?_
   ·obtain ⟨x75, hb75, h⟩ := Go.L.bind_some h
    refine S_callL rfl rfl hL73 (slices_Clone_string_string_ok _ _ (gz_le hH hL73) ((hf63_0.mono hG71).mono hG74) hb75) ?_
    rintro u76_0 w76 ⟨_, rfl, hR76_0⟩ hx76 hL76 hle76
    obtain ⟨xs76, hL76, hle76, he76⟩ := hR76_0.take hH hL73 hx76
    replace hG74 := hG74.trans (gz_mono hH hle76)
    replace hJ := hcb.mono (gz_mono hH hle76) hJ
    replace hT := hT.trans hle76
    refine NI_nil ⟨hG74.trans (gz_le hH hL76), hL76.at (i := 1) rfl, hL76.at (i := 2) rfl⟩ ?_
    refine NI1 (i := 4) (by kernel_rfl) rfl ?_
    refine S_litE (r := .st) (l := [s8_62]) rfl (fun _ => bsl30_1 _ rfl _) rfl (show 1 ≤ 9223372036854775807 by decide) hH hL76 (.c1 rfl .nil) ?_
    intro v77 w77 hx77 hL77 hle77 hv77
    replace he76 := he76.mono (gz_mono hH hle77)
    replace hG74 := hG74.trans (gz_mono hH hle77)
    replace hJ := hcb.mono (gz_mono hH hle77) hJ
    replace hT := hT.trans hle77
    refine NI_nil ⟨hG74.trans (gz_le hH hL77), hL77.at (i := 1) rfl, hL77.at (i := 2) rfl⟩ ?_
    refine NI1 (i := 5) (by kernel_rfl) rfl ?_
    obtain ⟨hk79, h⟩ := Go.L.chk_some h
    refine S_appE (r := .st) (l := x75) (m := [s8_62]) 0 rfl rfl underlying30 zr9 rfl (by decide) rfl hH hL77 rfl he76 hv77 hk79 ?_
    intro v78 w78 xs78 hL78 hle78 he78
    replace hv77 := hv77.mono (gz_mono hH hle78)
    replace hG74 := hG74.trans (gz_mono hH hle78)
    replace hJ := hcb.mono (gz_mono hH hle78) hJ
    replace hT := hT.trans hle78
    refine NI_nil ⟨hG74.trans (gz_le hH hL78), hL78.at (i := 1) rfl, hL78.at (i := 2) rfl⟩ ?_
    refine NI1 (i := 7) (by kernel_rfl) rfl ?_
    have hv80 := hL78.vecG hH (i := 0) rfl he78
    have hL80 := hL78.dropAt (i := 0) rfl
    replace hv77 := hv77.mono (gz_mono hH (fz_dropAt (i := 0) rfl))
    replace hG74 := hG74.trans (gz_mono hH (fz_dropAt (i := 0) rfl))
    replace hJ := hcb.mono (gz_mono hH (fz_dropAt (i := 0) rfl)) hJ
    replace hT := hT.trans (fz_dropAt (i := 0) rfl)
    obtain ⟨x82, hb82, h⟩ := Go.L.bind_some h
    refine S_call rfl rfl (hself (O := (HAppend.hAppend ([.box b53 [.int .i64 ((a0.f.2.2.2.2.getD s24_45.toNat default).f.1), .int .i64 ((a0.f.2.2.2.2.getD s24_45.toNat default).f.2.1), e51v2, e51v3, e51v4] 38, .box b2 [.int .i64 a0.f.1, .int .i64 a0.f.2.1, va0_2, va0_3, va0_4] 38] : List Res) O)) (R := RJ63) hL80 ((hf63_2.mono hG71).mono hG74) ((hf63_3.mono hG71).mono hG74) ((hf63_4.mono hG71).mono hG74) hv80 hJ hb82) ?_
    rintro _ w81 ⟨rfl, R81, hL81, hle81, hJ81⟩
    replace hL81 : Lcl w0 (HAppend.hAppend ([.box b53 [.int .i64 ((a0.f.2.2.2.2.getD s24_45.toNat default).f.1), .int .i64 ((a0.f.2.2.2.2.getD s24_45.toNat default).f.2.1), e51v2, e51v3, e51v4] 38, .box b2 [.int .i64 a0.f.1, .int .i64 a0.f.2.1, va0_2, va0_3, va0_4] 38] : List Res) (HAppend.hAppend O R81)) w81 := hL81
    replace hle81 : Le (fz w78 (HAppend.hAppend ([.box b53 [.int .i64 ((a0.f.2.2.2.2.getD s24_45.toNat default).f.1), .int .i64 ((a0.f.2.2.2.2.getD s24_45.toNat default).f.2.1), e51v2, e51v3, e51v4] 38, .box b2 [.int .i64 a0.f.1, .int .i64 a0.f.2.1, va0_2, va0_3, va0_4] 38] : List Res) (HAppend.hAppend O RJ63))) (fz w81 (HAppend.hAppend ([.box b53 [.int .i64 ((a0.f.2.2.2.2.getD s24_45.toNat default).f.1), .int .i64 ((a0.f.2.2.2.2.getD s24_45.toNat default).f.2.1), e51v2, e51v3, e51v4] 38, .box b2 [.int .i64 a0.f.1, .int .i64 a0.f.2.1, va0_2, va0_3, va0_4] 38] : List Res) (HAppend.hAppend O R81))) := hle81
    replace hv77 := hv77.mono (gz_mono hH hle81)
    replace hv80 := hv80.mono (gz_mono hH hle81)
    replace hG74 := hG74.trans (gz_mono hH hle81)
    replace hT := hT.trans hle81
    replace hJ : J x82 R81 (gz H w0 w81 (HAppend.hAppend ([.box b53 [.int .i64 ((a0.f.2.2.2.2.getD s24_45.toNat default).f.1), .int .i64 ((a0.f.2.2.2.2.getD s24_45.toNat default).f.2.1), e51v2, e51v3, e51v4] 38, .box b2 [.int .i64 a0.f.1, .int .i64 a0.f.2.1, va0_2, va0_3, va0_4] 38] : List Res) (HAppend.hAppend O R81))) := hJ81
    refine NI_nil ⟨hG74.trans (gz_le hH hL81), hL81.at (i := 0) rfl, hL81.at (i := 1) rfl⟩ ?_
    refine NI_end (by kernel_rfl) ?_
    refine At_block ?_
    refine At_seq ?_
    refine W_region ?_
    obtain ⟨hk83, h⟩ := Go.L.chk_some h
    refine S_v (r_ar64 rfl rfl rfl hk83) rfl ?_
    refine S_pu 1 rfl ?_
    refine S_nil ?_
    have hL84 := hL81.dropAt (i := 0) rfl
    replace hG74 := hG74.trans (gz_mono hH (fz_dropAt (i := 0) rfl))
    replace hJ := hcb.mono (gz_mono hH (fz_dropAt (i := 0) rfl)) hJ
    replace hT := hT.trans (fz_dropAt (i := 0) rfl)
    have h := Go.L.Nxt.again h hm46
    refine At_round ((s24_45 + (1 : Int)), x82, R81, n46) (.cons rfl (.cons rfl (.cons rfl (.cons rfl (.cons rfl (.cons rfl (Sub.nil _))))))) ⟨hL84, ((hf63_0.mono hG71).mono hG74), ((hf63_1.mono hG71).mono hG74), ((hf63_5.mono hG71).mono hG74), ((hf63_6.mono hG71).mono hG74), hT, hJ, h⟩ (Nat.lt_succ_self _)
   ·obtain ⟨x75, hb75, h⟩ := Go.L.bind_some h
    obtain ⟨hk79, h⟩ := Go.L.chk_some h
    obtain ⟨x82, hb82, h⟩ := Go.L.bind_some h
    obtain ⟨hk83, h⟩ := Go.L.chk_some h
    refine S_litE (r := .st) (l := [s8_62]) rfl (fun _ => bsl30_1 _ rfl _) rfl (show 1 ≤ 9223372036854775807 by decide) hH hL73 (.c1 rfl .nil) ?_
    intro v85 w85 hx85 hL85 hle85 hv85
    replace hG74 := hG74.trans (gz_mono hH hle85)
    replace hJ := hcb.mono (gz_mono hH hle85) hJ
    replace hT := hT.trans hle85
    refine NI_nil ⟨hG74.trans (gz_le hH hL85), hL85.at (i := 0) rfl, hL85.at (i := 1) rfl⟩ ?_
    refine NI1 (i := 2) (by kernel_rfl) rfl ?_
    refine S_callL rfl rfl hL85 (slices_Clone_string_string_ok _ _ (gz_le hH hL85) ((hf63_0.mono hG71).mono hG74) hb75) ?_
    rintro u86_0 w86 ⟨_, rfl, hR86_0⟩ hx86 hL86 hle86
    obtain ⟨xs86, hL86, hle86, he86⟩ := hR86_0.take hH hL85 hx86
    replace hv85 := hv85.mono (gz_mono hH hle86)
    replace hG74 := hG74.trans (gz_mono hH hle86)
    replace hJ := hcb.mono (gz_mono hH hle86) hJ
    replace hT := hT.trans hle86
    refine NI_nil ⟨hG74.trans (gz_le hH hL86), hL86.at (i := 1) rfl, hL86.at (i := 2) rfl⟩ ?_
    refine NI1 (i := 5) (by kernel_rfl) rfl ?_
    refine S_appE (r := .st) (l := x75) (m := [s8_62]) 0 rfl rfl underlying30 zr9 rfl (by decide) rfl hH hL86 rfl he86 hv85 hk79 ?_
    intro v87 w87 xs87 hL87 hle87 he87
    replace hv85 := hv85.mono (gz_mono hH hle87)
    replace hG74 := hG74.trans (gz_mono hH hle87)
    replace hJ := hcb.mono (gz_mono hH hle87) hJ
    replace hT := hT.trans hle87
    refine NI_nil ⟨hG74.trans (gz_le hH hL87), hL87.at (i := 1) rfl, hL87.at (i := 2) rfl⟩ ?_
    refine NI1 (i := 7) (by kernel_rfl) rfl ?_
    have hv88 := hL87.vecG hH (i := 0) rfl he87
    have hL88 := hL87.dropAt (i := 0) rfl
    replace hv85 := hv85.mono (gz_mono hH (fz_dropAt (i := 0) rfl))
    replace hG74 := hG74.trans (gz_mono hH (fz_dropAt (i := 0) rfl))
    replace hJ := hcb.mono (gz_mono hH (fz_dropAt (i := 0) rfl)) hJ
    replace hT := hT.trans (fz_dropAt (i := 0) rfl)
    refine S_call rfl rfl (hself (O := (HAppend.hAppend ([.box b53 [.int .i64 ((a0.f.2.2.2.2.getD s24_45.toNat default).f.1), .int .i64 ((a0.f.2.2.2.2.getD s24_45.toNat default).f.2.1), e51v2, e51v3, e51v4] 38, .box b2 [.int .i64 a0.f.1, .int .i64 a0.f.2.1, va0_2, va0_3, va0_4] 38] : List Res) O)) (R := RJ63) hL88 ((hf63_2.mono hG71).mono hG74) ((hf63_3.mono hG71).mono hG74) ((hf63_4.mono hG71).mono hG74) hv88 hJ hb82) ?_
    rintro _ w89 ⟨rfl, R89, hL89, hle89, hJ89⟩
    replace hL89 : Lcl w0 (HAppend.hAppend ([.box b53 [.int .i64 ((a0.f.2.2.2.2.getD s24_45.toNat default).f.1), .int .i64 ((a0.f.2.2.2.2.getD s24_45.toNat default).f.2.1), e51v2, e51v3, e51v4] 38, .box b2 [.int .i64 a0.f.1, .int .i64 a0.f.2.1, va0_2, va0_3, va0_4] 38] : List Res) (HAppend.hAppend O R89)) w89 := hL89
    replace hle89 : Le (fz w87 (HAppend.hAppend ([.box b53 [.int .i64 ((a0.f.2.2.2.2.getD s24_45.toNat default).f.1), .int .i64 ((a0.f.2.2.2.2.getD s24_45.toNat default).f.2.1), e51v2, e51v3, e51v4] 38, .box b2 [.int .i64 a0.f.1, .int .i64 a0.f.2.1, va0_2, va0_3, va0_4] 38] : List Res) (HAppend.hAppend O RJ63))) (fz w89 (HAppend.hAppend ([.box b53 [.int .i64 ((a0.f.2.2.2.2.getD s24_45.toNat default).f.1), .int .i64 ((a0.f.2.2.2.2.getD s24_45.toNat default).f.2.1), e51v2, e51v3, e51v4] 38, .box b2 [.int .i64 a0.f.1, .int .i64 a0.f.2.1, va0_2, va0_3, va0_4] 38] : List Res) (HAppend.hAppend O R89))) := hle89
    replace hv85 := hv85.mono (gz_mono hH hle89)
    replace hv88 := hv88.mono (gz_mono hH hle89)
    replace hG74 := hG74.trans (gz_mono hH hle89)
    replace hT := hT.trans hle89
    replace hJ : J x82 R89 (gz H w0 w89 (HAppend.hAppend ([.box b53 [.int .i64 ((a0.f.2.2.2.2.getD s24_45.toNat default).f.1), .int .i64 ((a0.f.2.2.2.2.getD s24_45.toNat default).f.2.1), e51v2, e51v3, e51v4] 38, .box b2 [.int .i64 a0.f.1, .int .i64 a0.f.2.1, va0_2, va0_3, va0_4] 38] : List Res) (HAppend.hAppend O R89))) := hJ89
    refine NI_nil ⟨hG74.trans (gz_le hH hL89), hL89.at (i := 0) rfl, hL89.at (i := 1) rfl⟩ ?_
    refine NI_end (by kernel_rfl) ?_
    refine At_block ?_
    refine At_seq ?_
    refine W_region ?_
    refine S_v (r_ar64 rfl rfl rfl hk83) rfl ?_
    refine S_pu 1 rfl ?_
    refine S_nil ?_
    have hL90 := hL89.dropAt (i := 0) rfl
    replace hG74 := hG74.trans (gz_mono hH (fz_dropAt (i := 0) rfl))
    replace hJ := hcb.mono (gz_mono hH (fz_dropAt (i := 0) rfl)) hJ
    replace hT := hT.trans (fz_dropAt (i := 0) rfl)
    have h := Go.L.Nxt.again h hm46
    refine At_round ((s24_45 + (1 : Int)), x82, R89, n46) (.cons rfl (.cons rfl (.cons rfl (.cons rfl (.cons rfl (.cons rfl (Sub.nil _))))))) ⟨hL90, ((hf63_0.mono hG71).mono hG74), ((hf63_1.mono hG71).mono hG74), ((hf63_5.mono hG71).mono hG74), ((hf63_6.mono hG71).mono hG74), hT, hJ, h⟩ (Nat.lt_succ_self _)
 ·replace h := Go.L.ite_n hc49 h
  refine W_exit ?_
  refine At_seq_exit ?_
  refine At_loop_exit ?_
  replace h := Go.L.Nxt.out h hm46
  refine At_exit ?_
  obtain rfl := Option.some.inj h
  refine At_got0e rfl ?_
  have hL92 := hL46.dropAt (i := 0) rfl
  replace hG48 := hG48.trans (gz_mono hH (fz_dropAt (i := 0) rfl))
  replace hJ := hcb.mono (gz_mono hH (fz_dropAt (i := 0) rfl)) hJ
  replace hT := hT.trans (fz_dropAt (i := 0) rfl)
  exact ⟨rfl, RJ46, hL92, hT, hJ⟩
theorem shapes_leaves_n_J {σ : Type} {w0 : World} {H : PH} (hH : Le H (hp w0)) {fc : FuncId} {cap : List Value} {J : σ → List Res → PH → Prop} {step : σ → ((List UInt8) × Int × Int × (List UInt8)) → Option σ} (hcb : Cb Tryz.prog w0 H fc cap J step) (n : Nat) : ∀ {w : World} {O R : List Res} {s : σ} {a0 : Go.L.Pv} {a1 : List (List UInt8)} {va0_2 : Value} {va0_3 : Value} {va0_4 : Value} {va1 : Value} (hL : Lcl w0 (HAppend.hAppend O R) w) (ha0_2 : Vec .byte (gz H w0 w (HAppend.hAppend O R)) va0_2 (a0.f.2.2.1)) (ha0_3 : Vec .st (gz H w0 w (HAppend.hAppend O R)) va0_3 (a0.f.2.2.2.1)) (ha0_4 : Vec .tree (gz H w0 w (HAppend.hAppend O R)) va0_4 (a0.f.2.2.2.2)) (ha1 : Vec .st (gz H w0 w (HAppend.hAppend O R)) va1 (a1)) (hJ : J s R (gz H w0 w (HAppend.hAppend O R))) {r : σ} (h : shapes_leaves_n step n a0 a1 s = some r), Ok Tryz.prog 51 [.agg #[.int .i64 a0.f.1, .int .i64 a0.f.2.1, va0_2, va0_3, va0_4], va1, .func (.func fc) #[] cap.toArray] w (fun v w' => v = .tuple #[] ∧ ∃ R' : List Res, Lcl w0 (HAppend.hAppend O R') w' ∧ Le (fz w (HAppend.hAppend O R)) (fz w' (HAppend.hAppend O R')) ∧ J r R' (gz H w0 w' (HAppend.hAppend O R'))) := by
 induction n with
 | zero => intros; rename_i h; cases h
 | succ n ih => exact fun {_} {_} {_} {_} {_} {_} {_} {_} {_} {_} hL ha0_2 ha0_3 ha0_4 ha1 hJ {_} h => shapes_leaves_body_J hH hcb (self := shapes_leaves_n step n) ih hL ha0_2 ha0_3 ha0_4 ha1 hJ h
theorem shapes_leaves_J {σ : Type} {w0 : World} {H : PH} (hH : Le H (hp w0)) {fc : FuncId} {cap : List Value} {J : σ → List Res → PH → Prop} {step : σ → ((List UInt8) × Int × Int × (List UInt8)) → Option σ} (hcb : Cb Tryz.prog w0 H fc cap J step) {w : World} {O R : List Res} {s : σ} {a0 : Go.L.Pv} {a1 : List (List UInt8)} {va0_2 : Value} {va0_3 : Value} {va0_4 : Value} {va1 : Value} (hL : Lcl w0 (HAppend.hAppend O R) w) (ha0_2 : Vec .byte (gz H w0 w (HAppend.hAppend O R)) va0_2 (a0.f.2.2.1)) (ha0_3 : Vec .st (gz H w0 w (HAppend.hAppend O R)) va0_3 (a0.f.2.2.2.1)) (ha0_4 : Vec .tree (gz H w0 w (HAppend.hAppend O R)) va0_4 (a0.f.2.2.2.2)) (ha1 : Vec .st (gz H w0 w (HAppend.hAppend O R)) va1 (a1)) (hJ : J s R (gz H w0 w (HAppend.hAppend O R))) {r : σ} (h : shapes_leaves step a0 a1 s = some r) : Ok Tryz.prog 51 [.agg #[.int .i64 a0.f.1, .int .i64 a0.f.2.1, va0_2, va0_3, va0_4], va1, .func (.func fc) #[] cap.toArray] w (fun v w' => v = .tuple #[] ∧ ∃ R' : List Res, Lcl w0 (HAppend.hAppend O R') w' ∧ Le (fz w (HAppend.hAppend O R)) (fz w' (HAppend.hAppend O R')) ∧ J r R' (gz H w0 w' (HAppend.hAppend O R'))) := shapes_leaves_n_J hH hcb 1000 hL ha0_2 ha0_3 ha0_4 ha1 hJ h
end Go.Proofs.YtmfiaecglndldaaGreatDoor
end
