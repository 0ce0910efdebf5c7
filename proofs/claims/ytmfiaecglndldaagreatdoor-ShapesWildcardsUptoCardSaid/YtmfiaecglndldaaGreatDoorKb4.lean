/- Texts of a claim, merged. -/
import Derived.Test.YtmfiaecglndldaaGreatDoorKb3
import Derived.KernelRfl
import Derived.Shelf.Sort.Plain
import Derived.Shelf.Slices.In.SortNone
import Derived.Shelf.Slices.CompactI
import Derived.Shelf.Slices.CompactS
import Derived.Shelf.SlSortCmp.NoneTotal
set_option linter.unusedVariables false
set_option linter.unusedSimpArgs false
section
namespace Go.Proofs.YtmfiaecglndldaaGreatDoor
open Go Go.E Go.RowKit
set_option maxHeartbeats 1000000
set_option maxRecDepth 10000
open _root_.Go.Proofs.Tryz
noncomputable def slices_Index_int_int_k1 : Option (Int) :=
 some ((-1 : Int))
noncomputable def slices_Index_int_int_bl2 (a0 : List Int) (a1 : Int) : Int → Option ((Int) ⊕ (Int)) := fun s8_25 =>
 if s8_25 < (a0.length : Int) then Go.L.chk (0 ≤ s8_25 ∧ s8_25 < (a0.length : Int)) (if a1 = a0.getD s8_25.toNat default then Option.map Sum.inr (some (s8_25)) else Go.L.chk (Go.L.I64 (s8_25 + (1 : Int))) (some (Sum.inl (s8_25 + (1 : Int))))) else Option.map Sum.inr (slices_Index_int_int_k1)
noncomputable def slices_Index_int_int_l2 (a0 : List Int) (a1 : Int) (s : Int) : Option (Int) := Go.L.run (slices_Index_int_int_bl2 a0 a1) s
noncomputable def slices_Index_int_int (a0 : List Int) (a1 : Int) : Option (Int) :=
 (slices_Index_int_int_l2 a0 a1) (0 : Int)
theorem slices_Index_int_int_ok (w : World) (H : PH) (hH : Le H (hp w)) {a0 : List Int} {a1 : Int} {v0_0 : Value} (h0_0 : Vec (.int .i64) H v0_0 (a0)) {r : Int} (h : slices_Index_int_int a0 a1 = some r) :
  Ok Tryz.prog 175 [v0_0, .int .i64 a1] w (fun v w' => Ext w w' ∧ v = .int .i64 r) := by
 refine Ok_enter (n := 19) [(0, v0_0), (1, .int .i64 a1)] func175 rfl rfl rfl rfl rfl ?_
 have hL := Lcl.start w
 refine W_pz 1 rfl ?_
 refine W_cut (σ := Unit) (fun (_ : Unit) => []) (fun (_ : Unit) wr => Lcl w [] wr ∧ slices_Index_int_int_k1 = some r) ?_ ?_
 ·refine W_p 1 rfl ?_
  refine S_v (r_len rfl underlying52 h0_0) rfl ?_
  refine S_pz 1 rfl ?_
  refine W_block ?_
  obtain ⟨n26, h⟩ := Go.L.run_some h
  refine W_loop (σ := Int × Nat) (fun ⟨s8_25, n⟩ => [(0, v0_0), (1, .int .i64 a1), (7, .int .i64 (a0.length : Int)), (8, .int .i64 s8_25)]) (fun ⟨s8_25, n⟩ wr => Lcl w [] wr ∧ Go.L.itr (slices_Index_int_int_bl2 a0 a1) n s8_25 = some r) (fun ⟨s8_25, n⟩ => n) ((0 : Int), n26) (.cons rfl (.cons rfl (.cons rfl (.cons rfl (Sub.nil _))))) ⟨hL, h⟩ ?_
  rintro ⟨s8_25, nn26⟩ wr26 ⟨hL26, h⟩
  obtain ⟨n26, e26, rfl, h, hm26⟩ := Go.L.itr_some h
  refine W_pz 1 rfl ?_
  refine W_seq ?_
  refine W_if rfl (fun hc28 => ?_) (fun hc28 => ?_)
  ·replace h := Go.L.ite_p hc28 h
   refine W_skip ?_
   refine At_seq ?_
   refine W_seq ?_
   refine W_block ?_
   refine W_pz 2 rfl ?_
   refine W_p 3 rfl ?_
   obtain ⟨hk31, h⟩ := Go.L.chk_some h
   refine S_index rfl rfl underlying52 zr3 h0_0 s8_25.toNat (Int.toNat_of_nonneg hk31.1).symm (idx_lt hk31) rfl ?_
   rintro p30 _ rfl hp30
   refine S_v (r_load1 rfl underlying3 rfl hp30 (hH.trans hL26.arg)) rfl ?_
   refine S_pz 1 rfl ?_
   refine W_if rfl (fun hc32 => ?_) (fun hc32 => ?_)
   ·replace h := Go.L.ite_p hc32 h
    refine W_pz 2 rfl ?_
    refine W_ret ?_
    refine At_block_ret ?_
    refine At_seq_ret ?_
    refine At_loop_ret ?_
    replace h := Go.L.Nxt.out h hm26
    refine At_block_ret ?_
    refine At_cut_ret ?_
    obtain rfl := Option.some.inj h
    refine At_body rfl rfl ?_
    exact ⟨hL26.ext, rfl⟩
   ·replace h := Go.L.ite_n hc32 h
    refine W_skip ?_
    refine At_block ?_
    refine At_seq ?_
    refine W_region ?_
    obtain ⟨hk35, h⟩ := Go.L.chk_some h
    refine S_v (r_ar64 rfl rfl rfl hk35) rfl ?_
    refine S_pu 1 rfl ?_
    refine S_nil ?_
    have h := Go.L.Nxt.again h hm26
    refine At_round ((s8_25 + (1 : Int)), n26) (.cons rfl (.cons rfl (.cons rfl (.cons rfl (Sub.nil _))))) ⟨hL26, h⟩ (Nat.lt_succ_self _)
  ·replace h := Go.L.ite_n hc28 h
   refine W_exit ?_
   refine At_seq_exit ?_
   refine At_loop_exit ?_
   replace h := Go.L.Nxt.out h hm26
   refine At_exit ?_
   refine At_cut () (Sub.nil _) ⟨hL26, h⟩
 ·rintro _ wr13 ⟨hL13, h⟩
  refine W_pz 1 rfl ?_
  refine W_ret ?_
  obtain rfl := Option.some.inj h
  refine At_body rfl rfl ?_
  exact ⟨hL13.ext, rfl⟩
noncomputable def slices_Contains_int_int (a0 : List Int) (a1 : Int) : Option (Bool) :=
 Option.bind (slices_Index_int_int a0 a1) (fun x1 => some (decide ((0 : Int) ≤ x1)))
theorem slices_Contains_int_int_ok (w : World) (H : PH) (hH : Le H (hp w)) {a0 : List Int} {a1 : Int} {v0_0 : Value} (h0_0 : Vec (.int .i64) H v0_0 (a0)) {r : Bool} (h : slices_Contains_int_int a0 a1 = some r) :
  Ok Tryz.prog 153 [v0_0, .int .i64 a1] w (fun v w' => Ext w w' ∧ v = .bool r) := by
 refine Ok_enter (n := 9) [(0, v0_0), (1, .int .i64 a1)] func153 rfl rfl rfl rfl rfl ?_
 have hL := Lcl.start w
 refine W_pz 1 rfl ?_
 refine W_p 2 rfl ?_
 obtain ⟨x1, hb1, h⟩ := Go.L.bind_some h
 refine S_callL rfl rfl hL (slices_Index_int_int_ok _ _ (gz_le hH hL) (h0_0.mono (gz_left hH)) hb1) ?_
 rintro _ w2 rfl hx2 hL2 hle2
 refine S_pz 2 rfl ?_
 refine W_ret ?_
 obtain rfl := Option.some.inj h
 refine At_body rfl rfl ?_
 exact ⟨hL2.ext, rfl⟩
noncomputable def slices_Index_string_string_k1 : Option (Int) :=
 some ((-1 : Int))
noncomputable def slices_Index_string_string_bl2 (a0 : List (List UInt8)) (a1 : List UInt8) : Int → Option ((Int) ⊕ (Int)) := fun s8_25 =>
 if s8_25 < (a0.length : Int) then Go.L.chk (0 ≤ s8_25 ∧ s8_25 < (a0.length : Int)) (if a1 = a0.getD s8_25.toNat default then Option.map Sum.inr (some (s8_25)) else Go.L.chk (Go.L.I64 (s8_25 + (1 : Int))) (some (Sum.inl (s8_25 + (1 : Int))))) else Option.map Sum.inr (slices_Index_string_string_k1)
noncomputable def slices_Index_string_string_l2 (a0 : List (List UInt8)) (a1 : List UInt8) (s : Int) : Option (Int) := Go.L.run (slices_Index_string_string_bl2 a0 a1) s
noncomputable def slices_Index_string_string (a0 : List (List UInt8)) (a1 : List UInt8) : Option (Int) :=
 (slices_Index_string_string_l2 a0 a1) (0 : Int)
theorem slices_Index_string_string_ok (w : World) (H : PH) (hH : Le H (hp w)) {a0 : List (List UInt8)} {a1 : List UInt8} {v0_0 : Value} (h0_0 : Vec .st H v0_0 (a0)) {r : Int} (h : slices_Index_string_string a0 a1 = some r) :
  Ok Tryz.prog 176 [v0_0, .string ⟨(a1).toArray⟩] w (fun v w' => Ext w w' ∧ v = .int .i64 r) := by
 refine Ok_enter (n := 19) [(0, v0_0), (1, .string ⟨(a1).toArray⟩)] func176 rfl rfl rfl rfl rfl ?_
 have hL := Lcl.start w
 refine W_pz 1 rfl ?_
 refine W_cut (σ := Unit) (fun (_ : Unit) => []) (fun (_ : Unit) wr => Lcl w [] wr ∧ slices_Index_string_string_k1 = some r) ?_ ?_
 ·refine W_p 1 rfl ?_
  refine S_v (r_len rfl underlying30 h0_0) rfl ?_
  refine S_pz 1 rfl ?_
  refine W_block ?_
  obtain ⟨n26, h⟩ := Go.L.run_some h
  refine W_loop (σ := Int × Nat) (fun ⟨s8_25, n⟩ => [(0, v0_0), (1, .string ⟨(a1).toArray⟩), (7, .int .i64 (a0.length : Int)), (8, .int .i64 s8_25)]) (fun ⟨s8_25, n⟩ wr => Lcl w [] wr ∧ Go.L.itr (slices_Index_string_string_bl2 a0 a1) n s8_25 = some r) (fun ⟨s8_25, n⟩ => n) ((0 : Int), n26) (.cons rfl (.cons rfl (.cons rfl (.cons rfl (Sub.nil _))))) ⟨hL, h⟩ ?_
  rintro ⟨s8_25, nn26⟩ wr26 ⟨hL26, h⟩
  obtain ⟨n26, e26, rfl, h, hm26⟩ := Go.L.itr_some h
  refine W_pz 1 rfl ?_
  refine W_seq ?_
  refine W_if rfl (fun hc28 => ?_) (fun hc28 => ?_)
  ·replace h := Go.L.ite_p hc28 h
   refine W_skip ?_
   refine At_seq ?_
   refine W_seq ?_
   refine W_block ?_
   refine W_pz 2 rfl ?_
   refine W_p 3 rfl ?_
   obtain ⟨hk31, h⟩ := Go.L.chk_some h
   refine S_index rfl rfl underlying30 zr9 h0_0 s8_25.toNat (Int.toNat_of_nonneg hk31.1).symm (idx_lt hk31) rfl ?_
   rintro p30 _ rfl hp30
   refine S_v (r_load1 rfl underlying9 rfl hp30 (hH.trans hL26.arg)) rfl ?_
   refine S_v (r_seq rfl rfl) rfl ?_
   refine S_seqnil ?_
   refine W_if rfl (fun hc32 => ?_) (fun hc32 => ?_)
   ·replace h := Go.L.ite_p hc32 h
    refine W_pz 2 rfl ?_
    refine W_ret ?_
    refine At_block_ret ?_
    refine At_seq_ret ?_
    refine At_loop_ret ?_
    replace h := Go.L.Nxt.out h hm26
    refine At_block_ret ?_
    refine At_cut_ret ?_
    obtain rfl := Option.some.inj h
    refine At_body rfl rfl ?_
    exact ⟨hL26.ext, rfl⟩
   ·replace h := Go.L.ite_n hc32 h
    refine W_skip ?_
    refine At_block ?_
    refine At_seq ?_
    refine W_region ?_
    obtain ⟨hk35, h⟩ := Go.L.chk_some h
    refine S_v (r_ar64 rfl rfl rfl hk35) rfl ?_
    refine S_pu 1 rfl ?_
    refine S_nil ?_
    have h := Go.L.Nxt.again h hm26
    refine At_round ((s8_25 + (1 : Int)), n26) (.cons rfl (.cons rfl (.cons rfl (.cons rfl (Sub.nil _))))) ⟨hL26, h⟩ (Nat.lt_succ_self _)
  ·replace h := Go.L.ite_n hc28 h
   refine W_exit ?_
   refine At_seq_exit ?_
   refine At_loop_exit ?_
   replace h := Go.L.Nxt.out h hm26
   refine At_exit ?_
   refine At_cut () (Sub.nil _) ⟨hL26, h⟩
 ·rintro _ wr13 ⟨hL13, h⟩
  refine W_pz 1 rfl ?_
  refine W_ret ?_
  obtain rfl := Option.some.inj h
  refine At_body rfl rfl ?_
  exact ⟨hL13.ext, rfl⟩
noncomputable def slices_Contains_string_string (a0 : List (List UInt8)) (a1 : List UInt8) : Option (Bool) :=
 Option.bind (slices_Index_string_string a0 a1) (fun x1 => some (decide ((0 : Int) ≤ x1)))
theorem slices_Contains_string_string_ok (w : World) (H : PH) (hH : Le H (hp w)) {a0 : List (List UInt8)} {a1 : List UInt8} {v0_0 : Value} (h0_0 : Vec .st H v0_0 (a0)) {r : Bool} (h : slices_Contains_string_string a0 a1 = some r) :
  Ok Tryz.prog 155 [v0_0, .string ⟨(a1).toArray⟩] w (fun v w' => Ext w w' ∧ v = .bool r) := by
 refine Ok_enter (n := 9) [(0, v0_0), (1, .string ⟨(a1).toArray⟩)] func155 rfl rfl rfl rfl rfl ?_
 have hL := Lcl.start w
 refine W_pz 1 rfl ?_
 refine W_p 2 rfl ?_
 obtain ⟨x1, hb1, h⟩ := Go.L.bind_some h
 refine S_callL rfl rfl hL (slices_Index_string_string_ok _ _ (gz_le hH hL) (h0_0.mono (gz_left hH)) hb1) ?_
 rintro _ w2 rfl hx2 hL2 hle2
 refine S_pz 2 rfl ?_
 refine W_ret ?_
 obtain rfl := Option.some.inj h
 refine At_body rfl rfl ?_
 exact ⟨hL2.ext, rfl⟩
noncomputable def value_checkNode_1 (a0 : List Int) (a1 : Go.L.Pv) : Option (Bool × Go.L.Pv) :=
 Option.bind (slices_Contains_int_int a0 a1.f.1) (fun x2 => some (x2, a1))
theorem value_checkNode_1_fr {w0 w : World} {H : PH} (hH : Le H (hp w0)) {O : List Res} {a0 : List Int} {a1 : Go.L.Pv} {va0 : Value} {ba1 : Nat} {va1_2 : Value} {va1_3 : Value} {va1_4 : Value} (hL : Lcl w0 (HAppend.hAppend ([.box ba1 [.int .i64 a1.f.1, .int .i64 a1.f.2.1, va1_2, va1_3, va1_4] 38] : List Res) O) w) (ha0 : Vec (.int .i64) (gz H w0 w (HAppend.hAppend ([.box ba1 [.int .i64 a1.f.1, .int .i64 a1.f.2.1, va1_2, va1_3, va1_4] 38] : List Res) O)) va0 (a0)) (ha1_2 : Vec .byte (gz H w0 w (HAppend.hAppend ([.box ba1 [.int .i64 a1.f.1, .int .i64 a1.f.2.1, va1_2, va1_3, va1_4] 38] : List Res) O)) va1_2 (a1.f.2.2.1)) (ha1_3 : Vec .st (gz H w0 w (HAppend.hAppend ([.box ba1 [.int .i64 a1.f.1, .int .i64 a1.f.2.1, va1_2, va1_3, va1_4] 38] : List Res) O)) va1_3 (a1.f.2.2.2.1)) (ha1_4 : Vec .tree (gz H w0 w (HAppend.hAppend ([.box ba1 [.int .i64 a1.f.1, .int .i64 a1.f.2.1, va1_2, va1_3, va1_4] 38] : List Res) O)) va1_4 (a1.f.2.2.2.2)) {r : Bool × Go.L.Pv} (h : value_checkNode_1 a0 a1 = some r) :
  Ok Tryz.prog 152 [va0, .pointer (some ⟨ba1, 0, none⟩)] w (fun v w' => ∃ (u3 : Value) (u4 : Value) (u5 : Value), v = .bool r.1 ∧ Lcl w0 (HAppend.hAppend ([.box ba1 [.int .i64 r.2.f.1, .int .i64 r.2.f.2.1, u3, u4, u5] 38] : List Res) O) w' ∧ Le (fz w (HAppend.hAppend ([.box ba1 [.int .i64 a1.f.1, .int .i64 a1.f.2.1, va1_2, va1_3, va1_4] 38] : List Res) O)) (fz w' (HAppend.hAppend ([.box ba1 [.int .i64 r.2.f.1, .int .i64 r.2.f.2.1, u3, u4, u5] 38] : List Res) O)) ∧ Vec .byte (gz H w0 w' (HAppend.hAppend ([.box ba1 [.int .i64 r.2.f.1, .int .i64 r.2.f.2.1, u3, u4, u5] 38] : List Res) O)) u3 (r.2.f.2.2.1) ∧ Vec .st (gz H w0 w' (HAppend.hAppend ([.box ba1 [.int .i64 r.2.f.1, .int .i64 r.2.f.2.1, u3, u4, u5] 38] : List Res) O)) u4 (r.2.f.2.2.2.1) ∧ Vec .tree (gz H w0 w' (HAppend.hAppend ([.box ba1 [.int .i64 r.2.f.1, .int .i64 r.2.f.2.1, u3, u4, u5] 38] : List Res) O)) u5 (r.2.f.2.2.2.2)) := by
 refine Ok_enter (n := 8) [(0, va0), (1, .pointer (some ⟨ba1, 0, none⟩))] func152 rfl rfl rfl rfl rfl ?_
 have hT := Le.refl (fz w (HAppend.hAppend ([.box ba1 [.int .i64 a1.f.1, .int .i64 a1.f.2.1, va1_2, va1_3, va1_4] 38] : List Res) O))
 have hG1 := hL.rG H
 refine W_pz 1 rfl ?_
 refine W_p 1 rfl ?_
 refine S_v (r_field rfl underlying38 rfl zr3 (by decide)) rfl ?_
 refine S_v (r_loadB1 0 rfl underlying3 rfl hL rfl rfl) rfl ?_
 obtain ⟨x2, hb2, h⟩ := Go.L.bind_some h
 refine S_callL rfl rfl hL (slices_Contains_int_int_ok _ _ (gz_le hH hL) (ha0.mono hG1) hb2) ?_
 rintro _ w3 rfl hx3 hL3 hle3
 replace hG1 := hG1.trans (gz_mono hH hle3)
 replace hT := hT.trans hle3
 refine S_pz 1 rfl ?_
 refine W_ret ?_
 obtain rfl := Option.some.inj h
 refine At_body rfl rfl ?_
 exact ⟨va1_2, va1_3, va1_4, rfl, hL3, hT, (ha1_2.mono hG1), (ha1_3.mono hG1), (ha1_4.mono hG1)⟩
noncomputable def value_checkNode_k2 : Option (Int) :=
 some ((0 : Int))
noncomputable def value_checkNode_bl3 (c260 : List (List UInt8)) : Int → Option ((Int) ⊕ (Int)) := fun s76_573 =>
 if s76_573 < (c260.length : Int) then Go.L.chk (0 ≤ s76_573 ∧ s76_573 < (c260.length : Int)) (Go.L.chk (0 ≤ s76_573 ∧ s76_573 ≤ (c260.length : Int)) (Option.bind (slices_Contains_string_string (c260.take s76_573.toNat) (c260.getD s76_573.toNat default)) (fun x583 => if x583 then Option.map Sum.inr (some ((8 : Int))) else Go.L.chk (Go.L.I64 (s76_573 + (1 : Int))) (some (Sum.inl (s76_573 + (1 : Int))))))) else Option.map Sum.inr (value_checkNode_k2)
noncomputable def value_checkNode_l3 (c260 : List (List UInt8)) (s : Int) : Option (Int) := Go.L.run (value_checkNode_bl3 c260) s
noncomputable def value_checkNode_k1 (_c257 : Int) (_c258 : Int) (_c259 : List UInt8) (c260 : List (List UInt8)) (c261 : List Go.L.Pv) (s12_262 : Bool) : Option (Int) :=
 if s12_262 then some ((6 : Int)) else (if (600 : Int) < (c261.length : Int) then some ((14 : Int)) else Option.bind (conf_checkNode_2 c260) (fun x521 => if x521 then some ((7 : Int)) else (value_checkNode_l3 c260) (0 : Int)))
noncomputable def value_checkNode (a0 : Go.L.Pv) : Option (Int) :=
 Option.bind (value_checkNode_1 ([(1 : Int), (2 : Int), (3 : Int), (4 : Int)]) a0) (fun x3 => if !x3.1 then some ((5 : Int)) else (if x3.2.f.2.1 = (0 : Int) then if (0 : Int) < (x3.2.f.2.2.1.length : Int) then Option.bind (value_checkNode_1 ([(2 : Int)]) x3.2) (fun x397 => if !x397.1 then value_checkNode_k1 x397.2.f.1 x397.2.f.2.1 x397.2.f.2.2.1 x397.2.f.2.2.2.1 x397.2.f.2.2.2.2 (!x397.1) else (if (0 : Int) < (x397.2.f.2.2.2.1.length : Int) then Option.bind (value_checkNode_1 ([(4 : Int)]) x397.2) (fun x406 => if !x406.1 then value_checkNode_k1 x406.2.f.1 x406.2.f.2.1 x406.2.f.2.2.1 x406.2.f.2.2.2.1 x406.2.f.2.2.2.2 (!x406.1) else (if (0 : Int) < (x406.2.f.2.2.2.2.length : Int) then Option.bind (value_checkNode_1 ([(3 : Int), (4 : Int)]) x406.2) (fun x415 => if !x415.1 then value_checkNode_k1 x415.2.f.1 x415.2.f.2.1 x415.2.f.2.2.1 x415.2.f.2.2.2.1 x415.2.f.2.2.2.2 (!x415.1) else Option.bind (value_checkNode_1 ([(4 : Int)]) x415.2) (fun x422 => if x422.1 then value_checkNode_k1 x422.2.f.1 x422.2.f.2.1 x422.2.f.2.2.1 x422.2.f.2.2.2.1 x422.2.f.2.2.2.2 (!decide ((x422.2.f.2.2.2.1.length : Int) = (x422.2.f.2.2.2.2.length : Int))) else value_checkNode_k1 x422.2.f.1 x422.2.f.2.1 x422.2.f.2.2.1 x422.2.f.2.2.2.1 x422.2.f.2.2.2.2 false)) else Option.bind (value_checkNode_1 ([(4 : Int)]) x406.2) (fun x429 => if x429.1 then value_checkNode_k1 x429.2.f.1 x429.2.f.2.1 x429.2.f.2.2.1 x429.2.f.2.2.2.1 x429.2.f.2.2.2.2 (!decide ((x429.2.f.2.2.2.1.length : Int) = (x429.2.f.2.2.2.2.length : Int))) else value_checkNode_k1 x429.2.f.1 x429.2.f.2.1 x429.2.f.2.2.1 x429.2.f.2.2.2.1 x429.2.f.2.2.2.2 false))) else if (0 : Int) < (x397.2.f.2.2.2.2.length : Int) then Option.bind (value_checkNode_1 ([(3 : Int), (4 : Int)]) x397.2) (fun x438 => if !x438.1 then value_checkNode_k1 x438.2.f.1 x438.2.f.2.1 x438.2.f.2.2.1 x438.2.f.2.2.2.1 x438.2.f.2.2.2.2 (!x438.1) else Option.bind (value_checkNode_1 ([(4 : Int)]) x438.2) (fun x445 => if x445.1 then value_checkNode_k1 x445.2.f.1 x445.2.f.2.1 x445.2.f.2.2.1 x445.2.f.2.2.2.1 x445.2.f.2.2.2.2 (!decide ((x445.2.f.2.2.2.1.length : Int) = (x445.2.f.2.2.2.2.length : Int))) else value_checkNode_k1 x445.2.f.1 x445.2.f.2.1 x445.2.f.2.2.1 x445.2.f.2.2.2.1 x445.2.f.2.2.2.2 false)) else Option.bind (value_checkNode_1 ([(4 : Int)]) x397.2) (fun x452 => if x452.1 then value_checkNode_k1 x452.2.f.1 x452.2.f.2.1 x452.2.f.2.2.1 x452.2.f.2.2.2.1 x452.2.f.2.2.2.2 (!decide ((x452.2.f.2.2.2.1.length : Int) = (x452.2.f.2.2.2.2.length : Int))) else value_checkNode_k1 x452.2.f.1 x452.2.f.2.1 x452.2.f.2.2.1 x452.2.f.2.2.2.1 x452.2.f.2.2.2.2 false))) else if (0 : Int) < (x3.2.f.2.2.2.1.length : Int) then Option.bind (value_checkNode_1 ([(4 : Int)]) x3.2) (fun x461 => if !x461.1 then value_checkNode_k1 x461.2.f.1 x461.2.f.2.1 x461.2.f.2.2.1 x461.2.f.2.2.2.1 x461.2.f.2.2.2.2 (!x461.1) else (if (0 : Int) < (x461.2.f.2.2.2.2.length : Int) then Option.bind (value_checkNode_1 ([(3 : Int), (4 : Int)]) x461.2) (fun x470 => if !x470.1 then value_checkNode_k1 x470.2.f.1 x470.2.f.2.1 x470.2.f.2.2.1 x470.2.f.2.2.2.1 x470.2.f.2.2.2.2 (!x470.1) else Option.bind (value_checkNode_1 ([(4 : Int)]) x470.2) (fun x477 => if x477.1 then value_checkNode_k1 x477.2.f.1 x477.2.f.2.1 x477.2.f.2.2.1 x477.2.f.2.2.2.1 x477.2.f.2.2.2.2 (!decide ((x477.2.f.2.2.2.1.length : Int) = (x477.2.f.2.2.2.2.length : Int))) else value_checkNode_k1 x477.2.f.1 x477.2.f.2.1 x477.2.f.2.2.1 x477.2.f.2.2.2.1 x477.2.f.2.2.2.2 false)) else Option.bind (value_checkNode_1 ([(4 : Int)]) x461.2) (fun x484 => if x484.1 then value_checkNode_k1 x484.2.f.1 x484.2.f.2.1 x484.2.f.2.2.1 x484.2.f.2.2.2.1 x484.2.f.2.2.2.2 (!decide ((x484.2.f.2.2.2.1.length : Int) = (x484.2.f.2.2.2.2.length : Int))) else value_checkNode_k1 x484.2.f.1 x484.2.f.2.1 x484.2.f.2.2.1 x484.2.f.2.2.2.1 x484.2.f.2.2.2.2 false))) else if (0 : Int) < (x3.2.f.2.2.2.2.length : Int) then Option.bind (value_checkNode_1 ([(3 : Int), (4 : Int)]) x3.2) (fun x493 => if !x493.1 then value_checkNode_k1 x493.2.f.1 x493.2.f.2.1 x493.2.f.2.2.1 x493.2.f.2.2.2.1 x493.2.f.2.2.2.2 (!x493.1) else Option.bind (value_checkNode_1 ([(4 : Int)]) x493.2) (fun x500 => if x500.1 then value_checkNode_k1 x500.2.f.1 x500.2.f.2.1 x500.2.f.2.2.1 x500.2.f.2.2.2.1 x500.2.f.2.2.2.2 (!decide ((x500.2.f.2.2.2.1.length : Int) = (x500.2.f.2.2.2.2.length : Int))) else value_checkNode_k1 x500.2.f.1 x500.2.f.2.1 x500.2.f.2.2.1 x500.2.f.2.2.2.1 x500.2.f.2.2.2.2 false)) else Option.bind (value_checkNode_1 ([(4 : Int)]) x3.2) (fun x507 => if x507.1 then value_checkNode_k1 x507.2.f.1 x507.2.f.2.1 x507.2.f.2.2.1 x507.2.f.2.2.2.1 x507.2.f.2.2.2.2 (!decide ((x507.2.f.2.2.2.1.length : Int) = (x507.2.f.2.2.2.2.length : Int))) else value_checkNode_k1 x507.2.f.1 x507.2.f.2.1 x507.2.f.2.2.1 x507.2.f.2.2.2.1 x507.2.f.2.2.2.2 false) else Option.bind (value_checkNode_1 ([(1 : Int)]) x3.2) (fun x269 => if !x269.1 then value_checkNode_k1 x269.2.f.1 x269.2.f.2.1 x269.2.f.2.2.1 x269.2.f.2.2.2.1 x269.2.f.2.2.2.2 (!x269.1) else (if (0 : Int) < (x269.2.f.2.2.1.length : Int) then Option.bind (value_checkNode_1 ([(2 : Int)]) x269.2) (fun x278 => if !x278.1 then value_checkNode_k1 x278.2.f.1 x278.2.f.2.1 x278.2.f.2.2.1 x278.2.f.2.2.2.1 x278.2.f.2.2.2.2 (!x278.1) else (if (0 : Int) < (x278.2.f.2.2.2.1.length : Int) then Option.bind (value_checkNode_1 ([(4 : Int)]) x278.2) (fun x287 => if !x287.1 then value_checkNode_k1 x287.2.f.1 x287.2.f.2.1 x287.2.f.2.2.1 x287.2.f.2.2.2.1 x287.2.f.2.2.2.2 (!x287.1) else (if (0 : Int) < (x287.2.f.2.2.2.2.length : Int) then Option.bind (value_checkNode_1 ([(3 : Int), (4 : Int)]) x287.2) (fun x296 => if !x296.1 then value_checkNode_k1 x296.2.f.1 x296.2.f.2.1 x296.2.f.2.2.1 x296.2.f.2.2.2.1 x296.2.f.2.2.2.2 (!x296.1) else Option.bind (value_checkNode_1 ([(4 : Int)]) x296.2) (fun x303 => if x303.1 then value_checkNode_k1 x303.2.f.1 x303.2.f.2.1 x303.2.f.2.2.1 x303.2.f.2.2.2.1 x303.2.f.2.2.2.2 (!decide ((x303.2.f.2.2.2.1.length : Int) = (x303.2.f.2.2.2.2.length : Int))) else value_checkNode_k1 x303.2.f.1 x303.2.f.2.1 x303.2.f.2.2.1 x303.2.f.2.2.2.1 x303.2.f.2.2.2.2 false)) else Option.bind (value_checkNode_1 ([(4 : Int)]) x287.2) (fun x310 => if x310.1 then value_checkNode_k1 x310.2.f.1 x310.2.f.2.1 x310.2.f.2.2.1 x310.2.f.2.2.2.1 x310.2.f.2.2.2.2 (!decide ((x310.2.f.2.2.2.1.length : Int) = (x310.2.f.2.2.2.2.length : Int))) else value_checkNode_k1 x310.2.f.1 x310.2.f.2.1 x310.2.f.2.2.1 x310.2.f.2.2.2.1 x310.2.f.2.2.2.2 false))) else if (0 : Int) < (x278.2.f.2.2.2.2.length : Int) then Option.bind (value_checkNode_1 ([(3 : Int), (4 : Int)]) x278.2) (fun x319 => if !x319.1 then value_checkNode_k1 x319.2.f.1 x319.2.f.2.1 x319.2.f.2.2.1 x319.2.f.2.2.2.1 x319.2.f.2.2.2.2 (!x319.1) else Option.bind (value_checkNode_1 ([(4 : Int)]) x319.2) (fun x326 => if x326.1 then value_checkNode_k1 x326.2.f.1 x326.2.f.2.1 x326.2.f.2.2.1 x326.2.f.2.2.2.1 x326.2.f.2.2.2.2 (!decide ((x326.2.f.2.2.2.1.length : Int) = (x326.2.f.2.2.2.2.length : Int))) else value_checkNode_k1 x326.2.f.1 x326.2.f.2.1 x326.2.f.2.2.1 x326.2.f.2.2.2.1 x326.2.f.2.2.2.2 false)) else Option.bind (value_checkNode_1 ([(4 : Int)]) x278.2) (fun x333 => if x333.1 then value_checkNode_k1 x333.2.f.1 x333.2.f.2.1 x333.2.f.2.2.1 x333.2.f.2.2.2.1 x333.2.f.2.2.2.2 (!decide ((x333.2.f.2.2.2.1.length : Int) = (x333.2.f.2.2.2.2.length : Int))) else value_checkNode_k1 x333.2.f.1 x333.2.f.2.1 x333.2.f.2.2.1 x333.2.f.2.2.2.1 x333.2.f.2.2.2.2 false))) else if (0 : Int) < (x269.2.f.2.2.2.1.length : Int) then Option.bind (value_checkNode_1 ([(4 : Int)]) x269.2) (fun x342 => if !x342.1 then value_checkNode_k1 x342.2.f.1 x342.2.f.2.1 x342.2.f.2.2.1 x342.2.f.2.2.2.1 x342.2.f.2.2.2.2 (!x342.1) else (if (0 : Int) < (x342.2.f.2.2.2.2.length : Int) then Option.bind (value_checkNode_1 ([(3 : Int), (4 : Int)]) x342.2) (fun x351 => if !x351.1 then value_checkNode_k1 x351.2.f.1 x351.2.f.2.1 x351.2.f.2.2.1 x351.2.f.2.2.2.1 x351.2.f.2.2.2.2 (!x351.1) else Option.bind (value_checkNode_1 ([(4 : Int)]) x351.2) (fun x358 => if x358.1 then value_checkNode_k1 x358.2.f.1 x358.2.f.2.1 x358.2.f.2.2.1 x358.2.f.2.2.2.1 x358.2.f.2.2.2.2 (!decide ((x358.2.f.2.2.2.1.length : Int) = (x358.2.f.2.2.2.2.length : Int))) else value_checkNode_k1 x358.2.f.1 x358.2.f.2.1 x358.2.f.2.2.1 x358.2.f.2.2.2.1 x358.2.f.2.2.2.2 false)) else Option.bind (value_checkNode_1 ([(4 : Int)]) x342.2) (fun x365 => if x365.1 then value_checkNode_k1 x365.2.f.1 x365.2.f.2.1 x365.2.f.2.2.1 x365.2.f.2.2.2.1 x365.2.f.2.2.2.2 (!decide ((x365.2.f.2.2.2.1.length : Int) = (x365.2.f.2.2.2.2.length : Int))) else value_checkNode_k1 x365.2.f.1 x365.2.f.2.1 x365.2.f.2.2.1 x365.2.f.2.2.2.1 x365.2.f.2.2.2.2 false))) else if (0 : Int) < (x269.2.f.2.2.2.2.length : Int) then Option.bind (value_checkNode_1 ([(3 : Int), (4 : Int)]) x269.2) (fun x374 => if !x374.1 then value_checkNode_k1 x374.2.f.1 x374.2.f.2.1 x374.2.f.2.2.1 x374.2.f.2.2.2.1 x374.2.f.2.2.2.2 (!x374.1) else Option.bind (value_checkNode_1 ([(4 : Int)]) x374.2) (fun x381 => if x381.1 then value_checkNode_k1 x381.2.f.1 x381.2.f.2.1 x381.2.f.2.2.1 x381.2.f.2.2.2.1 x381.2.f.2.2.2.2 (!decide ((x381.2.f.2.2.2.1.length : Int) = (x381.2.f.2.2.2.2.length : Int))) else value_checkNode_k1 x381.2.f.1 x381.2.f.2.1 x381.2.f.2.2.1 x381.2.f.2.2.2.1 x381.2.f.2.2.2.2 false)) else Option.bind (value_checkNode_1 ([(4 : Int)]) x269.2) (fun x388 => if x388.1 then value_checkNode_k1 x388.2.f.1 x388.2.f.2.1 x388.2.f.2.2.1 x388.2.f.2.2.2.1 x388.2.f.2.2.2.2 (!decide ((x388.2.f.2.2.2.1.length : Int) = (x388.2.f.2.2.2.2.length : Int))) else value_checkNode_k1 x388.2.f.1 x388.2.f.2.1 x388.2.f.2.2.1 x388.2.f.2.2.2.1 x388.2.f.2.2.2.2 false)))))
theorem value_checkNode_ok (w : World) (H : PH) (hH : Le H (hp w)) {a0 : Go.L.Pv} {v0_0 : Value} {v0_1 : Value} {v0_2 : Value} (h0_0 : Vec .byte H v0_0 (a0.f.2.2.1)) (h0_1 : Vec .st H v0_1 (a0.f.2.2.2.1)) (h0_2 : Vec .tree H v0_2 (a0.f.2.2.2.2)) {r : Int} (h : value_checkNode a0 = some r) :
  Ok Tryz.prog 130 [.agg #[.int .i64 a0.f.1, .int .i64 a0.f.2.1, v0_0, v0_1, v0_2]] w (fun v w' => Ext w w' ∧ v = .int .i64 r) := by
 refine Ok_enter (n := 88) [(0, .agg #[.int .i64 a0.f.1, .int .i64 a0.f.2.1, v0_0, v0_1, v0_2])] func130 rfl rfl rfl rfl rfl ?_
 have hL := Lcl.start w
 refine W_seqr ?_
 refine S_box (t := 38) rfl rfl rfl hL ?_
 intro w1 b1 hL1 hle1 _
 refine S_pz 1 rfl ?_
 refine W_pz 2 rfl ?_
 refine W_seq ?_
 refine W_block ?_
 refine W_p 1 rfl ?_
 refine S_litE (r := (.int .i64)) (l := [(1 : Int), (2 : Int), (3 : Int), (4 : Int)]) rfl (fun _ => bsl52_4 _ _ _ _ _) rfl (show 4 ≤ 9223372036854775807 by decide) hH hL1 (.c1 rfl (.c1 rfl (.c1 rfl (.c1 rfl .nil)))) ?_
 intro v2 w2 hx2 hL2 hle2 hv2
 obtain ⟨x3, hb3, h⟩ := Go.L.bind_some h
 refine S_callv rfl rfl rfl (value_checkNode_1_fr (a0 := ([(1 : Int), (2 : Int), (3 : Int), (4 : Int)])) (a1 := a0) (O := []) hH hL2 hv2 (h0_0.mono (gz_left hH)) (h0_1.mono (gz_left hH)) (h0_2.mono (gz_left hH)) hb3) ?_
 rintro _ w4 ⟨u4_3, u4_4, u4_5, rfl, hL4, hle4, hf4_3, hf4_4, hf4_5⟩
 replace hv2 := hv2.mono (gz_mono hH hle4)
 refine S_pz 2 rfl ?_
 refine W_cond rfl (fun hc5 => ?_) (fun hc5 => ?_)
 ·replace h := Go.L.ite_t hc5 h
  have hG7 := hL4.rG H
  refine W_pz 1 rfl ?_
  refine W_ret ?_
  refine At_block_ret ?_
  refine At_seq_ret ?_
  obtain rfl := Option.some.inj h
  refine At_body rfl rfl ?_
  exact ⟨hL4.ext, rfl⟩
 ·replace h := Go.L.ite_f hc5 h
  refine W_cut (σ := Int × Int × (List UInt8) × (List (List UInt8)) × (List Go.L.Pv) × Bool × Value × Value × Value) (fun ⟨c257, c258, c259, c260, c261, s12_262, vc259, vc260, vc261⟩ => [(1, .pointer (some ⟨b1, 0, none⟩)), (12, .bool s12_262)]) (fun ⟨c257, c258, c259, c260, c261, s12_262, vc259, vc260, vc261⟩ wr => InO w [.box b1 [.int .i64 c257, .int .i64 c258, vc259, vc260, vc261] 38] wr fun Oz => Vec .byte (gz H w wr Oz) (vc259) (c259) ∧ Vec .st (gz H w wr Oz) (vc260) (c260) ∧ Vec .tree (gz H w wr Oz) (vc261) (c261) ∧ value_checkNode_k1 c257 c258 c259 c260 c261 s12_262 = some r) ?_ ?_
  ·have hG265 := hL4.rG H
   refine W_seqr ?_
   refine S_v (r_field rfl underlying38 rfl zr3 (by decide)) rfl ?_
   refine S_v (r_loadB1 0 rfl underlying3 rfl hL4 rfl rfl) rfl ?_
   refine S_pu 2 rfl ?_
   refine S_split (s := 16) rfl (fun hg266 => ?_) (fun hg266 => ?_)
   ·replace h := Go.L.ite_n (not_dec_t hg266) h
    refine S_guarded rfl rfl hg266 ?_
    refine S_v (RunsAt_pu rfl) rfl ?_
    refine S_guarded rfl rfl hg266 ?_
    refine S_litE (r := (.int .i64)) (l := [(1 : Int)]) rfl (fun _ => bsl52_1 _ _) rfl (show 1 ≤ 9223372036854775807 by decide) hH hL4 (.c1 rfl .nil) ?_
    intro v268 w268 hx268 hL268 hle268 hv268
    replace hG265 := hG265.trans (gz_mono hH hle268)
    refine S_guarded rfl rfl hg266 ?_
    obtain ⟨x269, hb269, h⟩ := Go.L.bind_some h
    refine S_callv rfl rfl rfl (value_checkNode_1_fr (a0 := ([(1 : Int)])) (a1 := x3.2) (O := []) hH hL268 hv268 (hf4_3.mono hG265) (hf4_4.mono hG265) (hf4_5.mono hG265) hb269) ?_
    rintro _ w270 ⟨u270_3, u270_4, u270_5, rfl, hL270, hle270, hf270_3, hf270_4, hf270_5⟩
    replace hv268 := hv268.mono (gz_mono hH hle270)
    replace hG265 := hG265.trans (gz_mono hH hle270)
    refine S_guarded rfl rfl hg266 ?_
    refine S_v (RunsAt_pu rfl) rfl ?_
    refine S_v (r_pickT rfl hg266 rfl) rfl ?_
    refine S_pz 1 rfl ?_
    refine W_cond rfl (fun hc271 => ?_) (fun hc271 => ?_)
    ·replace h := Go.L.ite_t hc271 h
     refine W_skip ?_
     refine At_cut (x269.2.f.1, x269.2.f.2.1, x269.2.f.2.2.1, x269.2.f.2.2.2.1, x269.2.f.2.2.2.2, !x269.1, u270_3, u270_4, u270_5) (.cons rfl (.cons rfl (Sub.nil _))) ⟨hL270, hf270_3, hf270_4, hf270_5, h⟩
    ·replace h := Go.L.ite_f hc271 h
     have hG274 := hL270.rG H
     refine W_seqr ?_
     refine S_v (r_field rfl underlying38 rfl zr35 (by decide)) rfl ?_
     refine S_v (r_loadB1 0 rfl underlying35 rfl hL270 rfl rfl) rfl ?_
     refine S_v (r_len rfl underlying35 (hf270_3.mono hG274)) rfl ?_
     refine S_pu 2 rfl ?_
     refine S_split (s := 26) rfl (fun hg275 => ?_) (fun hg275 => ?_)
     ·replace h := Go.L.ite_p (of_decide_eq_true hg275) h
      refine S_guarded rfl rfl hg275 ?_
      refine S_v (RunsAt_pu rfl) rfl ?_
      refine S_guarded rfl rfl hg275 ?_
      refine S_litE (r := (.int .i64)) (l := [(2 : Int)]) rfl (fun _ => bsl52_1 _ _) rfl (show 1 ≤ 9223372036854775807 by decide) hH hL270 (.c1 rfl .nil) ?_
      intro v277 w277 hx277 hL277 hle277 hv277
      replace hG274 := hG274.trans (gz_mono hH hle277)
      refine S_guarded rfl rfl hg275 ?_
      obtain ⟨x278, hb278, h⟩ := Go.L.bind_some h
      refine S_callv rfl rfl rfl (value_checkNode_1_fr (a0 := ([(2 : Int)])) (a1 := x269.2) (O := []) hH hL277 hv277 (hf270_3.mono hG274) (hf270_4.mono hG274) (hf270_5.mono hG274) hb278) ?_
      rintro _ w279 ⟨u279_3, u279_4, u279_5, rfl, hL279, hle279, hf279_3, hf279_4, hf279_5⟩
      replace hv277 := hv277.mono (gz_mono hH hle279)
      replace hG274 := hG274.trans (gz_mono hH hle279)
      refine S_guarded rfl rfl hg275 ?_
      refine S_v (RunsAt_pu rfl) rfl ?_
      refine S_v (r_pickT rfl hg275 rfl) rfl ?_
      refine S_pz 1 rfl ?_
      refine W_cond rfl (fun hc280 => ?_) (fun hc280 => ?_)
      ·replace h := Go.L.ite_t hc280 h
       refine W_skip ?_
       refine At_cut (x278.2.f.1, x278.2.f.2.1, x278.2.f.2.2.1, x278.2.f.2.2.2.1, x278.2.f.2.2.2.2, !x278.1, u279_3, u279_4, u279_5) (.cons rfl (.cons rfl (Sub.nil _))) ⟨hL279, hf279_3, hf279_4, hf279_5, h⟩
      ·replace h := Go.L.ite_f hc280 h
       have hG283 := hL279.rG H
       refine W_seqr ?_
       refine S_v (r_field rfl underlying38 rfl zr30 (by decide)) rfl ?_
       refine S_v (r_loadB1 0 rfl underlying30 rfl hL279 rfl rfl) rfl ?_
       refine S_v (r_len rfl underlying30 (hf279_4.mono hG283)) rfl ?_
       refine S_pu 2 rfl ?_
       refine S_split (s := 36) rfl (fun hg284 => ?_) (fun hg284 => ?_)
       ·replace h := Go.L.ite_p (of_decide_eq_true hg284) h
        refine S_guarded rfl rfl hg284 ?_
        refine S_v (RunsAt_pu rfl) rfl ?_
        refine S_guarded rfl rfl hg284 ?_
        refine S_litE (r := (.int .i64)) (l := [(4 : Int)]) rfl (fun _ => bsl52_1 _ _) rfl (show 1 ≤ 9223372036854775807 by decide) hH hL279 (.c1 rfl .nil) ?_
        intro v286 w286 hx286 hL286 hle286 hv286
        replace hG283 := hG283.trans (gz_mono hH hle286)
        refine S_guarded rfl rfl hg284 ?_
        obtain ⟨x287, hb287, h⟩ := Go.L.bind_some h
        refine S_callv rfl rfl rfl (value_checkNode_1_fr (a0 := ([(4 : Int)])) (a1 := x278.2) (O := []) hH hL286 hv286 (hf279_3.mono hG283) (hf279_4.mono hG283) (hf279_5.mono hG283) hb287) ?_
        rintro _ w288 ⟨u288_3, u288_4, u288_5, rfl, hL288, hle288, hf288_3, hf288_4, hf288_5⟩
        replace hv286 := hv286.mono (gz_mono hH hle288)
        replace hG283 := hG283.trans (gz_mono hH hle288)
        refine S_guarded rfl rfl hg284 ?_
        refine S_v (RunsAt_pu rfl) rfl ?_
        refine S_v (r_pickT rfl hg284 rfl) rfl ?_
        refine S_pz 1 rfl ?_
        refine W_cond rfl (fun hc289 => ?_) (fun hc289 => ?_)
        ·replace h := Go.L.ite_t hc289 h
         refine W_skip ?_
         refine At_cut (x287.2.f.1, x287.2.f.2.1, x287.2.f.2.2.1, x287.2.f.2.2.2.1, x287.2.f.2.2.2.2, !x287.1, u288_3, u288_4, u288_5) (.cons rfl (.cons rfl (Sub.nil _))) ⟨hL288, hf288_3, hf288_4, hf288_5, h⟩
        ·replace h := Go.L.ite_f hc289 h
         have hG292 := hL288.rG H
         refine W_seqr ?_
         refine S_v (r_field rfl underlying38 rfl zr36 (by decide)) rfl ?_
         refine S_v (r_loadB1 0 rfl underlying36 rfl hL288 rfl rfl) rfl ?_
         refine S_v (r_len rfl underlying36 (hf288_5.mono hG292)) rfl ?_
         refine S_pu 2 rfl ?_
         refine S_split (s := 46) rfl (fun hg293 => ?_) (fun hg293 => ?_)
         ·replace h := Go.L.ite_p (of_decide_eq_true hg293) h
          refine S_guarded rfl rfl hg293 ?_
          refine S_v (RunsAt_pu rfl) rfl ?_
          refine S_guarded rfl rfl hg293 ?_
          refine S_litE (r := (.int .i64)) (l := [(3 : Int), (4 : Int)]) rfl (fun _ => bsl52_2 _ _ _) rfl (show 2 ≤ 9223372036854775807 by decide) hH hL288 (.c1 rfl (.c1 rfl .nil)) ?_
          intro v295 w295 hx295 hL295 hle295 hv295
          replace hG292 := hG292.trans (gz_mono hH hle295)
          refine S_guarded rfl rfl hg293 ?_
          obtain ⟨x296, hb296, h⟩ := Go.L.bind_some h
          refine S_callv rfl rfl rfl (value_checkNode_1_fr (a0 := ([(3 : Int), (4 : Int)])) (a1 := x287.2) (O := []) hH hL295 hv295 (hf288_3.mono hG292) (hf288_4.mono hG292) (hf288_5.mono hG292) hb296) ?_
          rintro _ w297 ⟨u297_3, u297_4, u297_5, rfl, hL297, hle297, hf297_3, hf297_4, hf297_5⟩
          replace hv295 := hv295.mono (gz_mono hH hle297)
          replace hG292 := hG292.trans (gz_mono hH hle297)
          refine S_guarded rfl rfl hg293 ?_
          refine S_v (RunsAt_pu rfl) rfl ?_
          refine S_v (r_pickT rfl hg293 rfl) rfl ?_
          refine S_pz 1 rfl ?_
          refine W_cond rfl (fun hc298 => ?_) (fun hc298 => ?_)
          ·replace h := Go.L.ite_t hc298 h
           refine W_skip ?_
           refine At_cut (x296.2.f.1, x296.2.f.2.1, x296.2.f.2.2.1, x296.2.f.2.2.2.1, x296.2.f.2.2.2.2, !x296.1, u297_3, u297_4, u297_5) (.cons rfl (.cons rfl (Sub.nil _))) ⟨hL297, hf297_3, hf297_4, hf297_5, h⟩
          ·replace h := Go.L.ite_f hc298 h
           have hG301 := hL297.rG H
           refine W_region ?_
           refine S_pu 1 rfl ?_
           refine S_litE (r := (.int .i64)) (l := [(4 : Int)]) rfl (fun _ => bsl52_1 _ _) rfl (show 1 ≤ 9223372036854775807 by decide) hH hL297 (.c1 rfl .nil) ?_
           intro v302 w302 hx302 hL302 hle302 hv302
           replace hG301 := hG301.trans (gz_mono hH hle302)
           obtain ⟨x303, hb303, h⟩ := Go.L.bind_some h
           refine S_callv rfl rfl rfl (value_checkNode_1_fr (a0 := ([(4 : Int)])) (a1 := x296.2) (O := []) hH hL302 hv302 (hf297_3.mono hG301) (hf297_4.mono hG301) (hf297_5.mono hG301) hb303) ?_
           rintro _ w304 ⟨u304_3, u304_4, u304_5, rfl, hL304, hle304, hf304_3, hf304_4, hf304_5⟩
           replace hv302 := hv302.mono (gz_mono hH hle304)
           replace hG301 := hG301.trans (gz_mono hH hle304)
           refine S_pu 1 rfl ?_
           refine S_split (s := 55) rfl (fun hg305 => ?_) (fun hg305 => ?_)
           ·replace h := Go.L.ite_t hg305 h
            refine S_guarded rfl rfl hg305 ?_
            refine S_v (r_field rfl underlying38 rfl zr30 (by decide)) rfl ?_
            refine S_guarded rfl rfl hg305 ?_
            refine S_v (r_loadB1 0 rfl underlying30 rfl hL304 rfl rfl) rfl ?_
            refine S_guarded rfl rfl hg305 ?_
            refine S_v (r_len rfl underlying30 hf304_4) rfl ?_
            refine S_guarded rfl rfl hg305 ?_
            refine S_v (r_field rfl underlying38 rfl zr36 (by decide)) rfl ?_
            refine S_guarded rfl rfl hg305 ?_
            refine S_v (r_loadB1 0 rfl underlying36 rfl hL304 rfl rfl) rfl ?_
            refine S_guarded rfl rfl hg305 ?_
            refine S_v (r_len rfl underlying36 hf304_5) rfl ?_
            refine S_guarded rfl rfl hg305 ?_
            refine S_v (RunsAt_pu rfl) rfl ?_
            refine S_v (r_pickT rfl hg305 rfl) rfl ?_
            refine S_pu 1 rfl ?_
            refine S_nil ?_
            refine At_cut (x303.2.f.1, x303.2.f.2.1, x303.2.f.2.2.1, x303.2.f.2.2.2.1, x303.2.f.2.2.2.2, !decide ((x303.2.f.2.2.2.1.length : Int) = (x303.2.f.2.2.2.2.length : Int)), u304_3, u304_4, u304_5) (.cons rfl (.cons rfl (Sub.nil _))) ⟨hL304, hf304_3, hf304_4, hf304_5, h⟩
           ·replace h := Go.L.ite_f hg305 h
            iterate 7 refine S_unwanted rfl rfl hg305 rfl ?_
            refine S_v (r_pickF rfl hg305 rfl) rfl ?_
            refine S_pu 1 rfl ?_
            refine S_nil ?_
            refine At_cut (x303.2.f.1, x303.2.f.2.1, x303.2.f.2.2.1, x303.2.f.2.2.2.1, x303.2.f.2.2.2.2, false, u304_3, u304_4, u304_5) (.cons rfl (.cons rfl (Sub.nil _))) ⟨hL304, hf304_3, hf304_4, hf304_5, h⟩
         ·replace h := Go.L.ite_n (of_decide_eq_false hg293) h
          iterate 4 refine S_unwanted rfl rfl hg293 rfl ?_
          refine S_v (r_pickF rfl hg293 rfl) rfl ?_
          refine S_pz 1 rfl ?_
          refine W_false rfl ?_
          refine W_region ?_
          refine S_pu 1 rfl ?_
          refine S_litE (r := (.int .i64)) (l := [(4 : Int)]) rfl (fun _ => bsl52_1 _ _) rfl (show 1 ≤ 9223372036854775807 by decide) hH hL288 (.c1 rfl .nil) ?_
          intro v309 w309 hx309 hL309 hle309 hv309
          replace hG292 := hG292.trans (gz_mono hH hle309)
          obtain ⟨x310, hb310, h⟩ := Go.L.bind_some h
          refine S_callv rfl rfl rfl (value_checkNode_1_fr (a0 := ([(4 : Int)])) (a1 := x287.2) (O := []) hH hL309 hv309 (hf288_3.mono hG292) (hf288_4.mono hG292) (hf288_5.mono hG292) hb310) ?_
          rintro _ w311 ⟨u311_3, u311_4, u311_5, rfl, hL311, hle311, hf311_3, hf311_4, hf311_5⟩
          replace hv309 := hv309.mono (gz_mono hH hle311)
          replace hG292 := hG292.trans (gz_mono hH hle311)
          refine S_pu 1 rfl ?_
          refine S_split (s := 55) rfl (fun hg312 => ?_) (fun hg312 => ?_)
          ·replace h := Go.L.ite_t hg312 h
           refine S_guarded rfl rfl hg312 ?_
           refine S_v (r_field rfl underlying38 rfl zr30 (by decide)) rfl ?_
           refine S_guarded rfl rfl hg312 ?_
           refine S_v (r_loadB1 0 rfl underlying30 rfl hL311 rfl rfl) rfl ?_
           refine S_guarded rfl rfl hg312 ?_
           refine S_v (r_len rfl underlying30 hf311_4) rfl ?_
           refine S_guarded rfl rfl hg312 ?_
           refine S_v (r_field rfl underlying38 rfl zr36 (by decide)) rfl ?_
           refine S_guarded rfl rfl hg312 ?_
           refine S_v (r_loadB1 0 rfl underlying36 rfl hL311 rfl rfl) rfl ?_
           refine S_guarded rfl rfl hg312 ?_
           refine S_v (r_len rfl underlying36 hf311_5) rfl ?_
           refine S_guarded rfl rfl hg312 ?_
           refine S_v (RunsAt_pu rfl) rfl ?_
           refine S_v (r_pickT rfl hg312 rfl) rfl ?_
           refine S_pu 1 rfl ?_
           refine S_nil ?_
           refine At_cut (x310.2.f.1, x310.2.f.2.1, x310.2.f.2.2.1, x310.2.f.2.2.2.1, x310.2.f.2.2.2.2, !decide ((x310.2.f.2.2.2.1.length : Int) = (x310.2.f.2.2.2.2.length : Int)), u311_3, u311_4, u311_5) (.cons rfl (.cons rfl (Sub.nil _))) ⟨hL311, hf311_3, hf311_4, hf311_5, h⟩
          ·replace h := Go.L.ite_f hg312 h
           iterate 7 refine S_unwanted rfl rfl hg312 rfl ?_
           refine S_v (r_pickF rfl hg312 rfl) rfl ?_
           refine S_pu 1 rfl ?_
           refine S_nil ?_
           refine At_cut (x310.2.f.1, x310.2.f.2.1, x310.2.f.2.2.1, x310.2.f.2.2.2.1, x310.2.f.2.2.2.2, false, u311_3, u311_4, u311_5) (.cons rfl (.cons rfl (Sub.nil _))) ⟨hL311, hf311_3, hf311_4, hf311_5, h⟩
       ·replace h := Go.L.ite_n (of_decide_eq_false hg284) h
        iterate 4 refine S_unwanted rfl rfl hg284 rfl ?_
        refine S_v (r_pickF rfl hg284 rfl) rfl ?_
        refine S_pz 1 rfl ?_
        refine W_false rfl ?_
        refine W_seqr ?_
        refine S_v (r_field rfl underlying38 rfl zr36 (by decide)) rfl ?_
        refine S_v (r_loadB1 0 rfl underlying36 rfl hL279 rfl rfl) rfl ?_
        refine S_v (r_len rfl underlying36 (hf279_5.mono hG283)) rfl ?_
        refine S_pu 2 rfl ?_
        refine S_split (s := 46) rfl (fun hg316 => ?_) (fun hg316 => ?_)
        ·replace h := Go.L.ite_p (of_decide_eq_true hg316) h
         refine S_guarded rfl rfl hg316 ?_
         refine S_v (RunsAt_pu rfl) rfl ?_
         refine S_guarded rfl rfl hg316 ?_
         refine S_litE (r := (.int .i64)) (l := [(3 : Int), (4 : Int)]) rfl (fun _ => bsl52_2 _ _ _) rfl (show 2 ≤ 9223372036854775807 by decide) hH hL279 (.c1 rfl (.c1 rfl .nil)) ?_
         intro v318 w318 hx318 hL318 hle318 hv318
         replace hG283 := hG283.trans (gz_mono hH hle318)
         refine S_guarded rfl rfl hg316 ?_
         obtain ⟨x319, hb319, h⟩ := Go.L.bind_some h
         refine S_callv rfl rfl rfl (value_checkNode_1_fr (a0 := ([(3 : Int), (4 : Int)])) (a1 := x278.2) (O := []) hH hL318 hv318 (hf279_3.mono hG283) (hf279_4.mono hG283) (hf279_5.mono hG283) hb319) ?_
         rintro _ w320 ⟨u320_3, u320_4, u320_5, rfl, hL320, hle320, hf320_3, hf320_4, hf320_5⟩
         replace hv318 := hv318.mono (gz_mono hH hle320)
         replace hG283 := hG283.trans (gz_mono hH hle320)
         refine S_guarded rfl rfl hg316 ?_
         refine S_v (RunsAt_pu rfl) rfl ?_
         refine S_v (r_pickT rfl hg316 rfl) rfl ?_
         refine S_pz 1 rfl ?_
         refine W_cond rfl (fun hc321 => ?_) (fun hc321 => ?_)
         ·replace h := Go.L.ite_t hc321 h
          refine W_skip ?_
          refine At_cut (x319.2.f.1, x319.2.f.2.1, x319.2.f.2.2.1, x319.2.f.2.2.2.1, x319.2.f.2.2.2.2, !x319.1, u320_3, u320_4, u320_5) (.cons rfl (.cons rfl (Sub.nil _))) ⟨hL320, hf320_3, hf320_4, hf320_5, h⟩
         ·replace h := Go.L.ite_f hc321 h
          have hG324 := hL320.rG H
          refine W_region ?_
          refine S_pu 1 rfl ?_
          refine S_litE (r := (.int .i64)) (l := [(4 : Int)]) rfl (fun _ => bsl52_1 _ _) rfl (show 1 ≤ 9223372036854775807 by decide) hH hL320 (.c1 rfl .nil) ?_
          intro v325 w325 hx325 hL325 hle325 hv325
          replace hG324 := hG324.trans (gz_mono hH hle325)
          obtain ⟨x326, hb326, h⟩ := Go.L.bind_some h
          refine S_callv rfl rfl rfl (value_checkNode_1_fr (a0 := ([(4 : Int)])) (a1 := x319.2) (O := []) hH hL325 hv325 (hf320_3.mono hG324) (hf320_4.mono hG324) (hf320_5.mono hG324) hb326) ?_
          rintro _ w327 ⟨u327_3, u327_4, u327_5, rfl, hL327, hle327, hf327_3, hf327_4, hf327_5⟩
          replace hv325 := hv325.mono (gz_mono hH hle327)
          replace hG324 := hG324.trans (gz_mono hH hle327)
          refine S_pu 1 rfl ?_
          refine S_split (s := 55) rfl (fun hg328 => ?_) (fun hg328 => ?_)
          ·replace h := Go.L.ite_t hg328 h
           refine S_guarded rfl rfl hg328 ?_
           refine S_v (r_field rfl underlying38 rfl zr30 (by decide)) rfl ?_
           refine S_guarded rfl rfl hg328 ?_
           refine S_v (r_loadB1 0 rfl underlying30 rfl hL327 rfl rfl) rfl ?_
           refine S_guarded rfl rfl hg328 ?_
           refine S_v (r_len rfl underlying30 hf327_4) rfl ?_
           refine S_guarded rfl rfl hg328 ?_
           refine S_v (r_field rfl underlying38 rfl zr36 (by decide)) rfl ?_
           refine S_guarded rfl rfl hg328 ?_
           refine S_v (r_loadB1 0 rfl underlying36 rfl hL327 rfl rfl) rfl ?_
           refine S_guarded rfl rfl hg328 ?_
           refine S_v (r_len rfl underlying36 hf327_5) rfl ?_
           refine S_guarded rfl rfl hg328 ?_
           refine S_v (RunsAt_pu rfl) rfl ?_
           refine S_v (r_pickT rfl hg328 rfl) rfl ?_
           refine S_pu 1 rfl ?_
           refine S_nil ?_
           refine At_cut (x326.2.f.1, x326.2.f.2.1, x326.2.f.2.2.1, x326.2.f.2.2.2.1, x326.2.f.2.2.2.2, !decide ((x326.2.f.2.2.2.1.length : Int) = (x326.2.f.2.2.2.2.length : Int)), u327_3, u327_4, u327_5) (.cons rfl (.cons rfl (Sub.nil _))) ⟨hL327, hf327_3, hf327_4, hf327_5, h⟩
          ·replace h := Go.L.ite_f hg328 h
           iterate 7 refine S_unwanted rfl rfl hg328 rfl ?_
           refine S_v (r_pickF rfl hg328 rfl) rfl ?_
           refine S_pu 1 rfl ?_
           refine S_nil ?_
           refine At_cut (x326.2.f.1, x326.2.f.2.1, x326.2.f.2.2.1, x326.2.f.2.2.2.1, x326.2.f.2.2.2.2, false, u327_3, u327_4, u327_5) (.cons rfl (.cons rfl (Sub.nil _))) ⟨hL327, hf327_3, hf327_4, hf327_5, h⟩
        ·replace h := Go.L.ite_n (of_decide_eq_false hg316) h
         iterate 4 refine S_unwanted rfl rfl hg316 rfl ?_
         refine S_v (r_pickF rfl hg316 rfl) rfl ?_
         refine S_pz 1 rfl ?_
         refine W_false rfl ?_
         refine W_region ?_
         refine S_pu 1 rfl ?_
         refine S_litE (r := (.int .i64)) (l := [(4 : Int)]) rfl (fun _ => bsl52_1 _ _) rfl (show 1 ≤ 9223372036854775807 by decide) hH hL279 (.c1 rfl .nil) ?_
         intro v332 w332 hx332 hL332 hle332 hv332
         replace hG283 := hG283.trans (gz_mono hH hle332)
         obtain ⟨x333, hb333, h⟩ := Go.L.bind_some h
         refine S_callv rfl rfl rfl (value_checkNode_1_fr (a0 := ([(4 : Int)])) (a1 := x278.2) (O := []) hH hL332 hv332 (hf279_3.mono hG283) (hf279_4.mono hG283) (hf279_5.mono hG283) hb333) ?_
         rintro _ w334 ⟨u334_3, u334_4, u334_5, rfl, hL334, hle334, hf334_3, hf334_4, hf334_5⟩
         replace hv332 := hv332.mono (gz_mono hH hle334)
         replace hG283 := hG283.trans (gz_mono hH hle334)
         refine S_pu 1 rfl ?_
         refine S_split (s := 55) rfl (fun hg335 => ?_) (fun hg335 => ?_)
         ·replace h := Go.L.ite_t hg335 h
          refine S_guarded rfl rfl hg335 ?_
          refine S_v (r_field rfl underlying38 rfl zr30 (by decide)) rfl ?_
          refine S_guarded rfl rfl hg335 ?_
          refine S_v (r_loadB1 0 rfl underlying30 rfl hL334 rfl rfl) rfl ?_
          refine S_guarded rfl rfl hg335 ?_
          refine S_v (r_len rfl underlying30 hf334_4) rfl ?_
          refine S_guarded rfl rfl hg335 ?_
          refine S_v (r_field rfl underlying38 rfl zr36 (by decide)) rfl ?_
          refine S_guarded rfl rfl hg335 ?_
          refine S_v (r_loadB1 0 rfl underlying36 rfl hL334 rfl rfl) rfl ?_
          refine S_guarded rfl rfl hg335 ?_
          refine S_v (r_len rfl underlying36 hf334_5) rfl ?_
          refine S_guarded rfl rfl hg335 ?_
          refine S_v (RunsAt_pu rfl) rfl ?_
          refine S_v (r_pickT rfl hg335 rfl) rfl ?_
          refine S_pu 1 rfl ?_
          refine S_nil ?_
          refine At_cut (x333.2.f.1, x333.2.f.2.1, x333.2.f.2.2.1, x333.2.f.2.2.2.1, x333.2.f.2.2.2.2, !decide ((x333.2.f.2.2.2.1.length : Int) = (x333.2.f.2.2.2.2.length : Int)), u334_3, u334_4, u334_5) (.cons rfl (.cons rfl (Sub.nil _))) ⟨hL334, hf334_3, hf334_4, hf334_5, h⟩
         ·replace h := Go.L.ite_f hg335 h
          iterate 7 refine S_unwanted rfl rfl hg335 rfl ?_
          refine S_v (r_pickF rfl hg335 rfl) rfl ?_
          refine S_pu 1 rfl ?_
          refine S_nil ?_
          refine At_cut (x333.2.f.1, x333.2.f.2.1, x333.2.f.2.2.1, x333.2.f.2.2.2.1, x333.2.f.2.2.2.2, false, u334_3, u334_4, u334_5) (.cons rfl (.cons rfl (Sub.nil _))) ⟨hL334, hf334_3, hf334_4, hf334_5, h⟩
     ·replace h := Go.L.ite_n (of_decide_eq_false hg275) h
      iterate 4 refine S_unwanted rfl rfl hg275 rfl ?_
      refine S_v (r_pickF rfl hg275 rfl) rfl ?_
      refine S_pz 1 rfl ?_
      refine W_false rfl ?_
      refine W_seqr ?_
      refine S_v (r_field rfl underlying38 rfl zr30 (by decide)) rfl ?_
      refine S_v (r_loadB1 0 rfl underlying30 rfl hL270 rfl rfl) rfl ?_
      refine S_v (r_len rfl underlying30 (hf270_4.mono hG274)) rfl ?_
      refine S_pu 2 rfl ?_
      refine S_split (s := 36) rfl (fun hg339 => ?_) (fun hg339 => ?_)
      ·replace h := Go.L.ite_p (of_decide_eq_true hg339) h
       refine S_guarded rfl rfl hg339 ?_
       refine S_v (RunsAt_pu rfl) rfl ?_
       refine S_guarded rfl rfl hg339 ?_
       refine S_litE (r := (.int .i64)) (l := [(4 : Int)]) rfl (fun _ => bsl52_1 _ _) rfl (show 1 ≤ 9223372036854775807 by decide) hH hL270 (.c1 rfl .nil) ?_
       intro v341 w341 hx341 hL341 hle341 hv341
       replace hG274 := hG274.trans (gz_mono hH hle341)
       refine S_guarded rfl rfl hg339 ?_
       obtain ⟨x342, hb342, h⟩ := Go.L.bind_some h
       refine S_callv rfl rfl rfl (value_checkNode_1_fr (a0 := ([(4 : Int)])) (a1 := x269.2) (O := []) hH hL341 hv341 (hf270_3.mono hG274) (hf270_4.mono hG274) (hf270_5.mono hG274) hb342) ?_
       rintro _ w343 ⟨u343_3, u343_4, u343_5, rfl, hL343, hle343, hf343_3, hf343_4, hf343_5⟩
       replace hv341 := hv341.mono (gz_mono hH hle343)
       replace hG274 := hG274.trans (gz_mono hH hle343)
       refine S_guarded rfl rfl hg339 ?_
       refine S_v (RunsAt_pu rfl) rfl ?_
       refine S_v (r_pickT rfl hg339 rfl) rfl ?_
       refine S_pz 1 rfl ?_
       refine W_cond rfl (fun hc344 => ?_) (fun hc344 => ?_)
       ·replace h := Go.L.ite_t hc344 h
        refine W_skip ?_
        refine At_cut (x342.2.f.1, x342.2.f.2.1, x342.2.f.2.2.1, x342.2.f.2.2.2.1, x342.2.f.2.2.2.2, !x342.1, u343_3, u343_4, u343_5) (.cons rfl (.cons rfl (Sub.nil _))) ⟨hL343, hf343_3, hf343_4, hf343_5, h⟩
       ·replace h := Go.L.ite_f hc344 h
        have hG347 := hL343.rG H
        refine W_seqr ?_
        refine S_v (r_field rfl underlying38 rfl zr36 (by decide)) rfl ?_
        refine S_v (r_loadB1 0 rfl underlying36 rfl hL343 rfl rfl) rfl ?_
        refine S_v (r_len rfl underlying36 (hf343_5.mono hG347)) rfl ?_
        refine S_pu 2 rfl ?_
        refine S_split (s := 46) rfl (fun hg348 => ?_) (fun hg348 => ?_)
        ·replace h := Go.L.ite_p (of_decide_eq_true hg348) h
         refine S_guarded rfl rfl hg348 ?_
         refine S_v (RunsAt_pu rfl) rfl ?_
         refine S_guarded rfl rfl hg348 ?_
         refine S_litE (r := (.int .i64)) (l := [(3 : Int), (4 : Int)]) rfl (fun _ => bsl52_2 _ _ _) rfl (show 2 ≤ 9223372036854775807 by decide) hH hL343 (.c1 rfl (.c1 rfl .nil)) ?_
         intro v350 w350 hx350 hL350 hle350 hv350
         replace hG347 := hG347.trans (gz_mono hH hle350)
         refine S_guarded rfl rfl hg348 ?_
         obtain ⟨x351, hb351, h⟩ := Go.L.bind_some h
         refine S_callv rfl rfl rfl (value_checkNode_1_fr (a0 := ([(3 : Int), (4 : Int)])) (a1 := x342.2) (O := []) hH hL350 hv350 (hf343_3.mono hG347) (hf343_4.mono hG347) (hf343_5.mono hG347) hb351) ?_
         rintro _ w352 ⟨u352_3, u352_4, u352_5, rfl, hL352, hle352, hf352_3, hf352_4, hf352_5⟩
         replace hv350 := hv350.mono (gz_mono hH hle352)
         replace hG347 := hG347.trans (gz_mono hH hle352)
         refine S_guarded rfl rfl hg348 ?_
         refine S_v (RunsAt_pu rfl) rfl ?_
         refine S_v (r_pickT rfl hg348 rfl) rfl ?_
         refine S_pz 1 rfl ?_
         refine W_cond rfl (fun hc353 => ?_) (fun hc353 => ?_)
         ·replace h := Go.L.ite_t hc353 h
          refine W_skip ?_
          refine At_cut (x351.2.f.1, x351.2.f.2.1, x351.2.f.2.2.1, x351.2.f.2.2.2.1, x351.2.f.2.2.2.2, !x351.1, u352_3, u352_4, u352_5) (.cons rfl (.cons rfl (Sub.nil _))) ⟨hL352, hf352_3, hf352_4, hf352_5, h⟩
         ·replace h := Go.L.ite_f hc353 h
          have hG356 := hL352.rG H
          refine W_region ?_
          refine S_pu 1 rfl ?_
          refine S_litE (r := (.int .i64)) (l := [(4 : Int)]) rfl (fun _ => bsl52_1 _ _) rfl (show 1 ≤ 9223372036854775807 by decide) hH hL352 (.c1 rfl .nil) ?_
          intro v357 w357 hx357 hL357 hle357 hv357
          replace hG356 := hG356.trans (gz_mono hH hle357)
          obtain ⟨x358, hb358, h⟩ := Go.L.bind_some h
          refine S_callv rfl rfl rfl (value_checkNode_1_fr (a0 := ([(4 : Int)])) (a1 := x351.2) (O := []) hH hL357 hv357 (hf352_3.mono hG356) (hf352_4.mono hG356) (hf352_5.mono hG356) hb358) ?_
          rintro _ w359 ⟨u359_3, u359_4, u359_5, rfl, hL359, hle359, hf359_3, hf359_4, hf359_5⟩
          replace hv357 := hv357.mono (gz_mono hH hle359)
          replace hG356 := hG356.trans (gz_mono hH hle359)
          refine S_pu 1 rfl ?_
          refine S_split (s := 55) rfl (fun hg360 => ?_) (fun hg360 => ?_)
          ·replace h := Go.L.ite_t hg360 h
           refine S_guarded rfl rfl hg360 ?_
           refine S_v (r_field rfl underlying38 rfl zr30 (by decide)) rfl ?_
           refine S_guarded rfl rfl hg360 ?_
           refine S_v (r_loadB1 0 rfl underlying30 rfl hL359 rfl rfl) rfl ?_
           refine S_guarded rfl rfl hg360 ?_
           refine S_v (r_len rfl underlying30 hf359_4) rfl ?_
           refine S_guarded rfl rfl hg360 ?_
           refine S_v (r_field rfl underlying38 rfl zr36 (by decide)) rfl ?_
           refine S_guarded rfl rfl hg360 ?_
           refine S_v (r_loadB1 0 rfl underlying36 rfl hL359 rfl rfl) rfl ?_
           refine S_guarded rfl rfl hg360 ?_
           refine S_v (r_len rfl underlying36 hf359_5) rfl ?_
           refine S_guarded rfl rfl hg360 ?_
           refine S_v (RunsAt_pu rfl) rfl ?_
           refine S_v (r_pickT rfl hg360 rfl) rfl ?_
           refine S_pu 1 rfl ?_
           refine S_nil ?_
           refine At_cut (x358.2.f.1, x358.2.f.2.1, x358.2.f.2.2.1, x358.2.f.2.2.2.1, x358.2.f.2.2.2.2, !decide ((x358.2.f.2.2.2.1.length : Int) = (x358.2.f.2.2.2.2.length : Int)), u359_3, u359_4, u359_5) (.cons rfl (.cons rfl (Sub.nil _))) ⟨hL359, hf359_3, hf359_4, hf359_5, h⟩
          ·replace h := Go.L.ite_f hg360 h
           iterate 7 refine S_unwanted rfl rfl hg360 rfl ?_
           refine S_v (r_pickF rfl hg360 rfl) rfl ?_
           refine S_pu 1 rfl ?_
           refine S_nil ?_
           refine At_cut (x358.2.f.1, x358.2.f.2.1, x358.2.f.2.2.1, x358.2.f.2.2.2.1, x358.2.f.2.2.2.2, false, u359_3, u359_4, u359_5) (.cons rfl (.cons rfl (Sub.nil _))) ⟨hL359, hf359_3, hf359_4, hf359_5, h⟩
        ·replace h := Go.L.ite_n (of_decide_eq_false hg348) h
         iterate 4 refine S_unwanted rfl rfl hg348 rfl ?_
         refine S_v (r_pickF rfl hg348 rfl) rfl ?_
         refine S_pz 1 rfl ?_
         refine W_false rfl ?_
         refine W_region ?_
         refine S_pu 1 rfl ?_
         refine S_litE (r := (.int .i64)) (l := [(4 : Int)]) rfl (fun _ => bsl52_1 _ _) rfl (show 1 ≤ 9223372036854775807 by decide) hH hL343 (.c1 rfl .nil) ?_
         intro v364 w364 hx364 hL364 hle364 hv364
         replace hG347 := hG347.trans (gz_mono hH hle364)
         obtain ⟨x365, hb365, h⟩ := Go.L.bind_some h
         refine S_callv rfl rfl rfl (value_checkNode_1_fr (a0 := ([(4 : Int)])) (a1 := x342.2) (O := []) hH hL364 hv364 (hf343_3.mono hG347) (hf343_4.mono hG347) (hf343_5.mono hG347) hb365) ?_
         rintro _ w366 ⟨u366_3, u366_4, u366_5, rfl, hL366, hle366, hf366_3, hf366_4, hf366_5⟩
         replace hv364 := hv364.mono (gz_mono hH hle366)
         replace hG347 := hG347.trans (gz_mono hH hle366)
         refine S_pu 1 rfl ?_
         refine S_split (s := 55) rfl (fun hg367 => ?_) (fun hg367 => ?_)
         ·replace h := Go.L.ite_t hg367 h
          refine S_guarded rfl rfl hg367 ?_
          refine S_v (r_field rfl underlying38 rfl zr30 (by decide)) rfl ?_
          refine S_guarded rfl rfl hg367 ?_
          refine S_v (r_loadB1 0 rfl underlying30 rfl hL366 rfl rfl) rfl ?_
          refine S_guarded rfl rfl hg367 ?_
          refine S_v (r_len rfl underlying30 hf366_4) rfl ?_
          refine S_guarded rfl rfl hg367 ?_
          refine S_v (r_field rfl underlying38 rfl zr36 (by decide)) rfl ?_
          refine S_guarded rfl rfl hg367 ?_
          refine S_v (r_loadB1 0 rfl underlying36 rfl hL366 rfl rfl) rfl ?_
          refine S_guarded rfl rfl hg367 ?_
          refine S_v (r_len rfl underlying36 hf366_5) rfl ?_
          refine S_guarded rfl rfl hg367 ?_
          refine S_v (RunsAt_pu rfl) rfl ?_
          refine S_v (r_pickT rfl hg367 rfl) rfl ?_
          refine S_pu 1 rfl ?_
          refine S_nil ?_
          refine At_cut (x365.2.f.1, x365.2.f.2.1, x365.2.f.2.2.1, x365.2.f.2.2.2.1, x365.2.f.2.2.2.2, !decide ((x365.2.f.2.2.2.1.length : Int) = (x365.2.f.2.2.2.2.length : Int)), u366_3, u366_4, u366_5) (.cons rfl (.cons rfl (Sub.nil _))) ⟨hL366, hf366_3, hf366_4, hf366_5, h⟩
         ·replace h := Go.L.ite_f hg367 h
          iterate 7 refine S_unwanted rfl rfl hg367 rfl ?_
          refine S_v (r_pickF rfl hg367 rfl) rfl ?_
          refine S_pu 1 rfl ?_
          refine S_nil ?_
          refine At_cut (x365.2.f.1, x365.2.f.2.1, x365.2.f.2.2.1, x365.2.f.2.2.2.1, x365.2.f.2.2.2.2, false, u366_3, u366_4, u366_5) (.cons rfl (.cons rfl (Sub.nil _))) ⟨hL366, hf366_3, hf366_4, hf366_5, h⟩
      ·replace h := Go.L.ite_n (of_decide_eq_false hg339) h
       iterate 4 refine S_unwanted rfl rfl hg339 rfl ?_
       refine S_v (r_pickF rfl hg339 rfl) rfl ?_
       refine S_pz 1 rfl ?_
       refine W_false rfl ?_
       refine W_seqr ?_
       refine S_v (r_field rfl underlying38 rfl zr36 (by decide)) rfl ?_
       refine S_v (r_loadB1 0 rfl underlying36 rfl hL270 rfl rfl) rfl ?_
       refine S_v (r_len rfl underlying36 (hf270_5.mono hG274)) rfl ?_
       refine S_pu 2 rfl ?_
       refine S_split (s := 46) rfl (fun hg371 => ?_) (fun hg371 => ?_)
       ·replace h := Go.L.ite_p (of_decide_eq_true hg371) h
        refine S_guarded rfl rfl hg371 ?_
        refine S_v (RunsAt_pu rfl) rfl ?_
        refine S_guarded rfl rfl hg371 ?_
        refine S_litE (r := (.int .i64)) (l := [(3 : Int), (4 : Int)]) rfl (fun _ => bsl52_2 _ _ _) rfl (show 2 ≤ 9223372036854775807 by decide) hH hL270 (.c1 rfl (.c1 rfl .nil)) ?_
        intro v373 w373 hx373 hL373 hle373 hv373
        replace hG274 := hG274.trans (gz_mono hH hle373)
        refine S_guarded rfl rfl hg371 ?_
        obtain ⟨x374, hb374, h⟩ := Go.L.bind_some h
        refine S_callv rfl rfl rfl (value_checkNode_1_fr (a0 := ([(3 : Int), (4 : Int)])) (a1 := x269.2) (O := []) hH hL373 hv373 (hf270_3.mono hG274) (hf270_4.mono hG274) (hf270_5.mono hG274) hb374) ?_
        rintro _ w375 ⟨u375_3, u375_4, u375_5, rfl, hL375, hle375, hf375_3, hf375_4, hf375_5⟩
        replace hv373 := hv373.mono (gz_mono hH hle375)
        replace hG274 := hG274.trans (gz_mono hH hle375)
        refine S_guarded rfl rfl hg371 ?_
        refine S_v (RunsAt_pu rfl) rfl ?_
        refine S_v (r_pickT rfl hg371 rfl) rfl ?_
        refine S_pz 1 rfl ?_
        refine W_cond rfl (fun hc376 => ?_) (fun hc376 => ?_)
        ·replace h := Go.L.ite_t hc376 h
         refine W_skip ?_
         refine At_cut (x374.2.f.1, x374.2.f.2.1, x374.2.f.2.2.1, x374.2.f.2.2.2.1, x374.2.f.2.2.2.2, !x374.1, u375_3, u375_4, u375_5) (.cons rfl (.cons rfl (Sub.nil _))) ⟨hL375, hf375_3, hf375_4, hf375_5, h⟩
        ·replace h := Go.L.ite_f hc376 h
         have hG379 := hL375.rG H
         refine W_region ?_
         refine S_pu 1 rfl ?_
         refine S_litE (r := (.int .i64)) (l := [(4 : Int)]) rfl (fun _ => bsl52_1 _ _) rfl (show 1 ≤ 9223372036854775807 by decide) hH hL375 (.c1 rfl .nil) ?_
         intro v380 w380 hx380 hL380 hle380 hv380
         replace hG379 := hG379.trans (gz_mono hH hle380)
         obtain ⟨x381, hb381, h⟩ := Go.L.bind_some h
         refine S_callv rfl rfl rfl (value_checkNode_1_fr (a0 := ([(4 : Int)])) (a1 := x374.2) (O := []) hH hL380 hv380 (hf375_3.mono hG379) (hf375_4.mono hG379) (hf375_5.mono hG379) hb381) ?_
         rintro _ w382 ⟨u382_3, u382_4, u382_5, rfl, hL382, hle382, hf382_3, hf382_4, hf382_5⟩
         replace hv380 := hv380.mono (gz_mono hH hle382)
         replace hG379 := hG379.trans (gz_mono hH hle382)
         refine S_pu 1 rfl ?_
         refine S_split (s := 55) rfl (fun hg383 => ?_) (fun hg383 => ?_)
         ·replace h := Go.L.ite_t hg383 h
          refine S_guarded rfl rfl hg383 ?_
          refine S_v (r_field rfl underlying38 rfl zr30 (by decide)) rfl ?_
          refine S_guarded rfl rfl hg383 ?_
          refine S_v (r_loadB1 0 rfl underlying30 rfl hL382 rfl rfl) rfl ?_
          refine S_guarded rfl rfl hg383 ?_
          refine S_v (r_len rfl underlying30 hf382_4) rfl ?_
          refine S_guarded rfl rfl hg383 ?_
          refine S_v (r_field rfl underlying38 rfl zr36 (by decide)) rfl ?_
          refine S_guarded rfl rfl hg383 ?_
          refine S_v (r_loadB1 0 rfl underlying36 rfl hL382 rfl rfl) rfl ?_
          refine S_guarded rfl rfl hg383 ?_
          refine S_v (r_len rfl underlying36 hf382_5) rfl ?_
          refine S_guarded rfl rfl hg383 ?_
          refine S_v (RunsAt_pu rfl) rfl ?_
          refine S_v (r_pickT rfl hg383 rfl) rfl ?_
          refine S_pu 1 rfl ?_
          refine S_nil ?_
          refine At_cut (x381.2.f.1, x381.2.f.2.1, x381.2.f.2.2.1, x381.2.f.2.2.2.1, x381.2.f.2.2.2.2, !decide ((x381.2.f.2.2.2.1.length : Int) = (x381.2.f.2.2.2.2.length : Int)), u382_3, u382_4, u382_5) (.cons rfl (.cons rfl (Sub.nil _))) ⟨hL382, hf382_3, hf382_4, hf382_5, h⟩
         ·replace h := Go.L.ite_f hg383 h
          iterate 7 refine S_unwanted rfl rfl hg383 rfl ?_
          refine S_v (r_pickF rfl hg383 rfl) rfl ?_
          refine S_pu 1 rfl ?_
          refine S_nil ?_
          refine At_cut (x381.2.f.1, x381.2.f.2.1, x381.2.f.2.2.1, x381.2.f.2.2.2.1, x381.2.f.2.2.2.2, false, u382_3, u382_4, u382_5) (.cons rfl (.cons rfl (Sub.nil _))) ⟨hL382, hf382_3, hf382_4, hf382_5, h⟩
       ·replace h := Go.L.ite_n (of_decide_eq_false hg371) h
        iterate 4 refine S_unwanted rfl rfl hg371 rfl ?_
        refine S_v (r_pickF rfl hg371 rfl) rfl ?_
        refine S_pz 1 rfl ?_
        refine W_false rfl ?_
        refine W_region ?_
        refine S_pu 1 rfl ?_
        refine S_litE (r := (.int .i64)) (l := [(4 : Int)]) rfl (fun _ => bsl52_1 _ _) rfl (show 1 ≤ 9223372036854775807 by decide) hH hL270 (.c1 rfl .nil) ?_
        intro v387 w387 hx387 hL387 hle387 hv387
        replace hG274 := hG274.trans (gz_mono hH hle387)
        obtain ⟨x388, hb388, h⟩ := Go.L.bind_some h
        refine S_callv rfl rfl rfl (value_checkNode_1_fr (a0 := ([(4 : Int)])) (a1 := x269.2) (O := []) hH hL387 hv387 (hf270_3.mono hG274) (hf270_4.mono hG274) (hf270_5.mono hG274) hb388) ?_
        rintro _ w389 ⟨u389_3, u389_4, u389_5, rfl, hL389, hle389, hf389_3, hf389_4, hf389_5⟩
        replace hv387 := hv387.mono (gz_mono hH hle389)
        replace hG274 := hG274.trans (gz_mono hH hle389)
        refine S_pu 1 rfl ?_
        refine S_split (s := 55) rfl (fun hg390 => ?_) (fun hg390 => ?_)
        ·replace h := Go.L.ite_t hg390 h
         refine S_guarded rfl rfl hg390 ?_
         refine S_v (r_field rfl underlying38 rfl zr30 (by decide)) rfl ?_
         refine S_guarded rfl rfl hg390 ?_
         refine S_v (r_loadB1 0 rfl underlying30 rfl hL389 rfl rfl) rfl ?_
         refine S_guarded rfl rfl hg390 ?_
         refine S_v (r_len rfl underlying30 hf389_4) rfl ?_
         refine S_guarded rfl rfl hg390 ?_
         refine S_v (r_field rfl underlying38 rfl zr36 (by decide)) rfl ?_
         refine S_guarded rfl rfl hg390 ?_
         refine S_v (r_loadB1 0 rfl underlying36 rfl hL389 rfl rfl) rfl ?_
         refine S_guarded rfl rfl hg390 ?_
         refine S_v (r_len rfl underlying36 hf389_5) rfl ?_
         refine S_guarded rfl rfl hg390 ?_
         refine S_v (RunsAt_pu rfl) rfl ?_
         refine S_v (r_pickT rfl hg390 rfl) rfl ?_
         refine S_pu 1 rfl ?_
         refine S_nil ?_
         refine At_cut (x388.2.f.1, x388.2.f.2.1, x388.2.f.2.2.1, x388.2.f.2.2.2.1, x388.2.f.2.2.2.2, !decide ((x388.2.f.2.2.2.1.length : Int) = (x388.2.f.2.2.2.2.length : Int)), u389_3, u389_4, u389_5) (.cons rfl (.cons rfl (Sub.nil _))) ⟨hL389, hf389_3, hf389_4, hf389_5, h⟩
        ·replace h := Go.L.ite_f hg390 h
         iterate 7 refine S_unwanted rfl rfl hg390 rfl ?_
         refine S_v (r_pickF rfl hg390 rfl) rfl ?_
         refine S_pu 1 rfl ?_
         refine S_nil ?_
         refine At_cut (x388.2.f.1, x388.2.f.2.1, x388.2.f.2.2.1, x388.2.f.2.2.2.1, x388.2.f.2.2.2.2, false, u389_3, u389_4, u389_5) (.cons rfl (.cons rfl (Sub.nil _))) ⟨hL389, hf389_3, hf389_4, hf389_5, h⟩
   ·replace h := Go.L.ite_p (not_dec_f hg266) h
    iterate 4 refine S_unwanted rfl rfl hg266 rfl ?_
    refine S_v (r_pickF rfl hg266 rfl) rfl ?_
    refine S_pz 1 rfl ?_
    refine W_false rfl ?_
    refine W_seqr ?_
    refine S_v (r_field rfl underlying38 rfl zr35 (by decide)) rfl ?_
    refine S_v (r_loadB1 0 rfl underlying35 rfl hL4 rfl rfl) rfl ?_
    refine S_v (r_len rfl underlying35 (hf4_3.mono hG265)) rfl ?_
    refine S_pu 2 rfl ?_
    refine S_split (s := 26) rfl (fun hg394 => ?_) (fun hg394 => ?_)
    ·replace h := Go.L.ite_p (of_decide_eq_true hg394) h
     refine S_guarded rfl rfl hg394 ?_
     refine S_v (RunsAt_pu rfl) rfl ?_
     refine S_guarded rfl rfl hg394 ?_
     refine S_litE (r := (.int .i64)) (l := [(2 : Int)]) rfl (fun _ => bsl52_1 _ _) rfl (show 1 ≤ 9223372036854775807 by decide) hH hL4 (.c1 rfl .nil) ?_
     intro v396 w396 hx396 hL396 hle396 hv396
     replace hG265 := hG265.trans (gz_mono hH hle396)
     refine S_guarded rfl rfl hg394 ?_
     obtain ⟨x397, hb397, h⟩ := Go.L.bind_some h
     refine S_callv rfl rfl rfl (value_checkNode_1_fr (a0 := ([(2 : Int)])) (a1 := x3.2) (O := []) hH hL396 hv396 (hf4_3.mono hG265) (hf4_4.mono hG265) (hf4_5.mono hG265) hb397) ?_
     rintro _ w398 ⟨u398_3, u398_4, u398_5, rfl, hL398, hle398, hf398_3, hf398_4, hf398_5⟩
     replace hv396 := hv396.mono (gz_mono hH hle398)
     replace hG265 := hG265.trans (gz_mono hH hle398)
     refine S_guarded rfl rfl hg394 ?_
     refine S_v (RunsAt_pu rfl) rfl ?_
     refine S_v (r_pickT rfl hg394 rfl) rfl ?_
     refine S_pz 1 rfl ?_
     refine W_cond rfl (fun hc399 => ?_) (fun hc399 => ?_)
     ·replace h := Go.L.ite_t hc399 h
      refine W_skip ?_
      refine At_cut (x397.2.f.1, x397.2.f.2.1, x397.2.f.2.2.1, x397.2.f.2.2.2.1, x397.2.f.2.2.2.2, !x397.1, u398_3, u398_4, u398_5) (.cons rfl (.cons rfl (Sub.nil _))) ⟨hL398, hf398_3, hf398_4, hf398_5, h⟩
     ·replace h := Go.L.ite_f hc399 h
      have hG402 := hL398.rG H
      refine W_seqr ?_
      refine S_v (r_field rfl underlying38 rfl zr30 (by decide)) rfl ?_
      refine S_v (r_loadB1 0 rfl underlying30 rfl hL398 rfl rfl) rfl ?_
      refine S_v (r_len rfl underlying30 (hf398_4.mono hG402)) rfl ?_
      refine S_pu 2 rfl ?_
      refine S_split (s := 36) rfl (fun hg403 => ?_) (fun hg403 => ?_)
      ·replace h := Go.L.ite_p (of_decide_eq_true hg403) h
       refine S_guarded rfl rfl hg403 ?_
       refine S_v (RunsAt_pu rfl) rfl ?_
       refine S_guarded rfl rfl hg403 ?_
       refine S_litE (r := (.int .i64)) (l := [(4 : Int)]) rfl (fun _ => bsl52_1 _ _) rfl (show 1 ≤ 9223372036854775807 by decide) hH hL398 (.c1 rfl .nil) ?_
       intro v405 w405 hx405 hL405 hle405 hv405
       replace hG402 := hG402.trans (gz_mono hH hle405)
       refine S_guarded rfl rfl hg403 ?_
       obtain ⟨x406, hb406, h⟩ := Go.L.bind_some h
       refine S_callv rfl rfl rfl (value_checkNode_1_fr (a0 := ([(4 : Int)])) (a1 := x397.2) (O := []) hH hL405 hv405 (hf398_3.mono hG402) (hf398_4.mono hG402) (hf398_5.mono hG402) hb406) ?_
       rintro _ w407 ⟨u407_3, u407_4, u407_5, rfl, hL407, hle407, hf407_3, hf407_4, hf407_5⟩
       replace hv405 := hv405.mono (gz_mono hH hle407)
       replace hG402 := hG402.trans (gz_mono hH hle407)
       refine S_guarded rfl rfl hg403 ?_
       refine S_v (RunsAt_pu rfl) rfl ?_
       refine S_v (r_pickT rfl hg403 rfl) rfl ?_
       refine S_pz 1 rfl ?_
       refine W_cond rfl (fun hc408 => ?_) (fun hc408 => ?_)
       ·replace h := Go.L.ite_t hc408 h
        refine W_skip ?_
        refine At_cut (x406.2.f.1, x406.2.f.2.1, x406.2.f.2.2.1, x406.2.f.2.2.2.1, x406.2.f.2.2.2.2, !x406.1, u407_3, u407_4, u407_5) (.cons rfl (.cons rfl (Sub.nil _))) ⟨hL407, hf407_3, hf407_4, hf407_5, h⟩
       ·replace h := Go.L.ite_f hc408 h
        have hG411 := hL407.rG H
        refine W_seqr ?_
        refine S_v (r_field rfl underlying38 rfl zr36 (by decide)) rfl ?_
        refine S_v (r_loadB1 0 rfl underlying36 rfl hL407 rfl rfl) rfl ?_
        refine S_v (r_len rfl underlying36 (hf407_5.mono hG411)) rfl ?_
        refine S_pu 2 rfl ?_
        refine S_split (s := 46) rfl (fun hg412 => ?_) (fun hg412 => ?_)
        ·replace h := Go.L.ite_p (of_decide_eq_true hg412) h
         refine S_guarded rfl rfl hg412 ?_
         refine S_v (RunsAt_pu rfl) rfl ?_
         refine S_guarded rfl rfl hg412 ?_
         refine S_litE (r := (.int .i64)) (l := [(3 : Int), (4 : Int)]) rfl (fun _ => bsl52_2 _ _ _) rfl (show 2 ≤ 9223372036854775807 by decide) hH hL407 (.c1 rfl (.c1 rfl .nil)) ?_
         intro v414 w414 hx414 hL414 hle414 hv414
         replace hG411 := hG411.trans (gz_mono hH hle414)
         refine S_guarded rfl rfl hg412 ?_
         obtain ⟨x415, hb415, h⟩ := Go.L.bind_some h
         refine S_callv rfl rfl rfl (value_checkNode_1_fr (a0 := ([(3 : Int), (4 : Int)])) (a1 := x406.2) (O := []) hH hL414 hv414 (hf407_3.mono hG411) (hf407_4.mono hG411) (hf407_5.mono hG411) hb415) ?_
         rintro _ w416 ⟨u416_3, u416_4, u416_5, rfl, hL416, hle416, hf416_3, hf416_4, hf416_5⟩
         replace hv414 := hv414.mono (gz_mono hH hle416)
         replace hG411 := hG411.trans (gz_mono hH hle416)
         refine S_guarded rfl rfl hg412 ?_
         refine S_v (RunsAt_pu rfl) rfl ?_
         refine S_v (r_pickT rfl hg412 rfl) rfl ?_
         refine S_pz 1 rfl ?_
         refine W_cond rfl (fun hc417 => ?_) (fun hc417 => ?_)
         ·replace h := Go.L.ite_t hc417 h
          refine W_skip ?_
          refine At_cut (x415.2.f.1, x415.2.f.2.1, x415.2.f.2.2.1, x415.2.f.2.2.2.1, x415.2.f.2.2.2.2, !x415.1, u416_3, u416_4, u416_5) (.cons rfl (.cons rfl (Sub.nil _))) ⟨hL416, hf416_3, hf416_4, hf416_5, h⟩
         ·replace h := Go.L.ite_f hc417 h
          have hG420 := hL416.rG H
          refine W_region ?_
          refine S_pu 1 rfl ?_
          refine S_litE (r := (.int .i64)) (l := [(4 : Int)]) rfl (fun _ => bsl52_1 _ _) rfl (show 1 ≤ 9223372036854775807 by decide) hH hL416 (.c1 rfl .nil) ?_
          intro v421 w421 hx421 hL421 hle421 hv421
          replace hG420 := hG420.trans (gz_mono hH hle421)
          obtain ⟨x422, hb422, h⟩ := Go.L.bind_some h
          refine S_callv rfl rfl rfl (value_checkNode_1_fr (a0 := ([(4 : Int)])) (a1 := x415.2) (O := []) hH hL421 hv421 (hf416_3.mono hG420) (hf416_4.mono hG420) (hf416_5.mono hG420) hb422) ?_
          rintro _ w423 ⟨u423_3, u423_4, u423_5, rfl, hL423, hle423, hf423_3, hf423_4, hf423_5⟩
          replace hv421 := hv421.mono (gz_mono hH hle423)
          replace hG420 := hG420.trans (gz_mono hH hle423)
          refine S_pu 1 rfl ?_
          refine S_split (s := 55) rfl (fun hg424 => ?_) (fun hg424 => ?_)
          ·replace h := Go.L.ite_t hg424 h
           refine S_guarded rfl rfl hg424 ?_
           refine S_v (r_field rfl underlying38 rfl zr30 (by decide)) rfl ?_
           refine S_guarded rfl rfl hg424 ?_
           refine S_v (r_loadB1 0 rfl underlying30 rfl hL423 rfl rfl) rfl ?_
           refine S_guarded rfl rfl hg424 ?_
           refine S_v (r_len rfl underlying30 hf423_4) rfl ?_
           refine S_guarded rfl rfl hg424 ?_
           refine S_v (r_field rfl underlying38 rfl zr36 (by decide)) rfl ?_
           refine S_guarded rfl rfl hg424 ?_
           refine S_v (r_loadB1 0 rfl underlying36 rfl hL423 rfl rfl) rfl ?_
           refine S_guarded rfl rfl hg424 ?_
           refine S_v (r_len rfl underlying36 hf423_5) rfl ?_
           refine S_guarded rfl rfl hg424 ?_
           refine S_v (RunsAt_pu rfl) rfl ?_
           refine S_v (r_pickT rfl hg424 rfl) rfl ?_
           refine S_pu 1 rfl ?_
           refine S_nil ?_
           refine At_cut (x422.2.f.1, x422.2.f.2.1, x422.2.f.2.2.1, x422.2.f.2.2.2.1, x422.2.f.2.2.2.2, !decide ((x422.2.f.2.2.2.1.length : Int) = (x422.2.f.2.2.2.2.length : Int)), u423_3, u423_4, u423_5) (.cons rfl (.cons rfl (Sub.nil _))) ⟨hL423, hf423_3, hf423_4, hf423_5, h⟩
          ·replace h := Go.L.ite_f hg424 h
           iterate 7 refine S_unwanted rfl rfl hg424 rfl ?_
           refine S_v (r_pickF rfl hg424 rfl) rfl ?_
           refine S_pu 1 rfl ?_
           refine S_nil ?_
           refine At_cut (x422.2.f.1, x422.2.f.2.1, x422.2.f.2.2.1, x422.2.f.2.2.2.1, x422.2.f.2.2.2.2, false, u423_3, u423_4, u423_5) (.cons rfl (.cons rfl (Sub.nil _))) ⟨hL423, hf423_3, hf423_4, hf423_5, h⟩
        ·replace h := Go.L.ite_n (of_decide_eq_false hg412) h
         iterate 4 refine S_unwanted rfl rfl hg412 rfl ?_
         refine S_v (r_pickF rfl hg412 rfl) rfl ?_
         refine S_pz 1 rfl ?_
         refine W_false rfl ?_
         refine W_region ?_
         refine S_pu 1 rfl ?_
         refine S_litE (r := (.int .i64)) (l := [(4 : Int)]) rfl (fun _ => bsl52_1 _ _) rfl (show 1 ≤ 9223372036854775807 by decide) hH hL407 (.c1 rfl .nil) ?_
         intro v428 w428 hx428 hL428 hle428 hv428
         replace hG411 := hG411.trans (gz_mono hH hle428)
         obtain ⟨x429, hb429, h⟩ := Go.L.bind_some h
         refine S_callv rfl rfl rfl (value_checkNode_1_fr (a0 := ([(4 : Int)])) (a1 := x406.2) (O := []) hH hL428 hv428 (hf407_3.mono hG411) (hf407_4.mono hG411) (hf407_5.mono hG411) hb429) ?_
         rintro _ w430 ⟨u430_3, u430_4, u430_5, rfl, hL430, hle430, hf430_3, hf430_4, hf430_5⟩
         replace hv428 := hv428.mono (gz_mono hH hle430)
         replace hG411 := hG411.trans (gz_mono hH hle430)
         refine S_pu 1 rfl ?_
         refine S_split (s := 55) rfl (fun hg431 => ?_) (fun hg431 => ?_)
         ·replace h := Go.L.ite_t hg431 h
          refine S_guarded rfl rfl hg431 ?_
          refine S_v (r_field rfl underlying38 rfl zr30 (by decide)) rfl ?_
          refine S_guarded rfl rfl hg431 ?_
          refine S_v (r_loadB1 0 rfl underlying30 rfl hL430 rfl rfl) rfl ?_
          refine S_guarded rfl rfl hg431 ?_
          refine S_v (r_len rfl underlying30 hf430_4) rfl ?_
          refine S_guarded rfl rfl hg431 ?_
          refine S_v (r_field rfl underlying38 rfl zr36 (by decide)) rfl ?_
          refine S_guarded rfl rfl hg431 ?_
          refine S_v (r_loadB1 0 rfl underlying36 rfl hL430 rfl rfl) rfl ?_
          refine S_guarded rfl rfl hg431 ?_
          refine S_v (r_len rfl underlying36 hf430_5) rfl ?_
          refine S_guarded rfl rfl hg431 ?_
          refine S_v (RunsAt_pu rfl) rfl ?_
          refine S_v (r_pickT rfl hg431 rfl) rfl ?_
          refine S_pu 1 rfl ?_
          refine S_nil ?_
          refine At_cut (x429.2.f.1, x429.2.f.2.1, x429.2.f.2.2.1, x429.2.f.2.2.2.1, x429.2.f.2.2.2.2, !decide ((x429.2.f.2.2.2.1.length : Int) = (x429.2.f.2.2.2.2.length : Int)), u430_3, u430_4, u430_5) (.cons rfl (.cons rfl (Sub.nil _))) ⟨hL430, hf430_3, hf430_4, hf430_5, h⟩
         ·replace h := Go.L.ite_f hg431 h
          iterate 7 refine S_unwanted rfl rfl hg431 rfl ?_
          refine S_v (r_pickF rfl hg431 rfl) rfl ?_
          refine S_pu 1 rfl ?_
          refine S_nil ?_
          refine At_cut (x429.2.f.1, x429.2.f.2.1, x429.2.f.2.2.1, x429.2.f.2.2.2.1, x429.2.f.2.2.2.2, false, u430_3, u430_4, u430_5) (.cons rfl (.cons rfl (Sub.nil _))) ⟨hL430, hf430_3, hf430_4, hf430_5, h⟩
      ·replace h := Go.L.ite_n (of_decide_eq_false hg403) h
       iterate 4 refine S_unwanted rfl rfl hg403 rfl ?_
       refine S_v (r_pickF rfl hg403 rfl) rfl ?_
       refine S_pz 1 rfl ?_
       refine W_false rfl ?_
       refine W_seqr ?_
       refine S_v (r_field rfl underlying38 rfl zr36 (by decide)) rfl ?_
       refine S_v (r_loadB1 0 rfl underlying36 rfl hL398 rfl rfl) rfl ?_
       refine S_v (r_len rfl underlying36 (hf398_5.mono hG402)) rfl ?_
       refine S_pu 2 rfl ?_
       refine S_split (s := 46) rfl (fun hg435 => ?_) (fun hg435 => ?_)
       ·replace h := Go.L.ite_p (of_decide_eq_true hg435) h
        refine S_guarded rfl rfl hg435 ?_
        refine S_v (RunsAt_pu rfl) rfl ?_
        refine S_guarded rfl rfl hg435 ?_
        refine S_litE (r := (.int .i64)) (l := [(3 : Int), (4 : Int)]) rfl (fun _ => bsl52_2 _ _ _) rfl (show 2 ≤ 9223372036854775807 by decide) hH hL398 (.c1 rfl (.c1 rfl .nil)) ?_
        intro v437 w437 hx437 hL437 hle437 hv437
        replace hG402 := hG402.trans (gz_mono hH hle437)
        refine S_guarded rfl rfl hg435 ?_
        obtain ⟨x438, hb438, h⟩ := Go.L.bind_some h
        refine S_callv rfl rfl rfl (value_checkNode_1_fr (a0 := ([(3 : Int), (4 : Int)])) (a1 := x397.2) (O := []) hH hL437 hv437 (hf398_3.mono hG402) (hf398_4.mono hG402) (hf398_5.mono hG402) hb438) ?_
        rintro _ w439 ⟨u439_3, u439_4, u439_5, rfl, hL439, hle439, hf439_3, hf439_4, hf439_5⟩
        replace hv437 := hv437.mono (gz_mono hH hle439)
        replace hG402 := hG402.trans (gz_mono hH hle439)
        refine S_guarded rfl rfl hg435 ?_
        refine S_v (RunsAt_pu rfl) rfl ?_
        refine S_v (r_pickT rfl hg435 rfl) rfl ?_
        refine S_pz 1 rfl ?_
        refine W_cond rfl (fun hc440 => ?_) (fun hc440 => ?_)
        ·replace h := Go.L.ite_t hc440 h
         refine W_skip ?_
         refine At_cut (x438.2.f.1, x438.2.f.2.1, x438.2.f.2.2.1, x438.2.f.2.2.2.1, x438.2.f.2.2.2.2, !x438.1, u439_3, u439_4, u439_5) (.cons rfl (.cons rfl (Sub.nil _))) ⟨hL439, hf439_3, hf439_4, hf439_5, h⟩
        ·replace h := Go.L.ite_f hc440 h
         have hG443 := hL439.rG H
         refine W_region ?_
         refine S_pu 1 rfl ?_
         refine S_litE (r := (.int .i64)) (l := [(4 : Int)]) rfl (fun _ => bsl52_1 _ _) rfl (show 1 ≤ 9223372036854775807 by decide) hH hL439 (.c1 rfl .nil) ?_
         intro v444 w444 hx444 hL444 hle444 hv444
         replace hG443 := hG443.trans (gz_mono hH hle444)
         obtain ⟨x445, hb445, h⟩ := Go.L.bind_some h
         refine S_callv rfl rfl rfl (value_checkNode_1_fr (a0 := ([(4 : Int)])) (a1 := x438.2) (O := []) hH hL444 hv444 (hf439_3.mono hG443) (hf439_4.mono hG443) (hf439_5.mono hG443) hb445) ?_
         rintro _ w446 ⟨u446_3, u446_4, u446_5, rfl, hL446, hle446, hf446_3, hf446_4, hf446_5⟩
         replace hv444 := hv444.mono (gz_mono hH hle446)
         replace hG443 := hG443.trans (gz_mono hH hle446)
         refine S_pu 1 rfl ?_
         refine S_split (s := 55) rfl (fun hg447 => ?_) (fun hg447 => ?_)
         ·replace h := Go.L.ite_t hg447 h
          refine S_guarded rfl rfl hg447 ?_
          refine S_v (r_field rfl underlying38 rfl zr30 (by decide)) rfl ?_
          refine S_guarded rfl rfl hg447 ?_
          refine S_v (r_loadB1 0 rfl underlying30 rfl hL446 rfl rfl) rfl ?_
          refine S_guarded rfl rfl hg447 ?_
          refine S_v (r_len rfl underlying30 hf446_4) rfl ?_
          refine S_guarded rfl rfl hg447 ?_
          refine S_v (r_field rfl underlying38 rfl zr36 (by decide)) rfl ?_
          refine S_guarded rfl rfl hg447 ?_
          refine S_v (r_loadB1 0 rfl underlying36 rfl hL446 rfl rfl) rfl ?_
          refine S_guarded rfl rfl hg447 ?_
          refine S_v (r_len rfl underlying36 hf446_5) rfl ?_
          refine S_guarded rfl rfl hg447 ?_
          refine S_v (RunsAt_pu rfl) rfl ?_
          refine S_v (r_pickT rfl hg447 rfl) rfl ?_
          refine S_pu 1 rfl ?_
          refine S_nil ?_
          refine At_cut (x445.2.f.1, x445.2.f.2.1, x445.2.f.2.2.1, x445.2.f.2.2.2.1, x445.2.f.2.2.2.2, !decide ((x445.2.f.2.2.2.1.length : Int) = (x445.2.f.2.2.2.2.length : Int)), u446_3, u446_4, u446_5) (.cons rfl (.cons rfl (Sub.nil _))) ⟨hL446, hf446_3, hf446_4, hf446_5, h⟩
         ·replace h := Go.L.ite_f hg447 h
          iterate 7 refine S_unwanted rfl rfl hg447 rfl ?_
          refine S_v (r_pickF rfl hg447 rfl) rfl ?_
          refine S_pu 1 rfl ?_
          refine S_nil ?_
          refine At_cut (x445.2.f.1, x445.2.f.2.1, x445.2.f.2.2.1, x445.2.f.2.2.2.1, x445.2.f.2.2.2.2, false, u446_3, u446_4, u446_5) (.cons rfl (.cons rfl (Sub.nil _))) ⟨hL446, hf446_3, hf446_4, hf446_5, h⟩
       ·replace h := Go.L.ite_n (of_decide_eq_false hg435) h
        iterate 4 refine S_unwanted rfl rfl hg435 rfl ?_
        refine S_v (r_pickF rfl hg435 rfl) rfl ?_
        refine S_pz 1 rfl ?_
        refine W_false rfl ?_
        refine W_region ?_
        refine S_pu 1 rfl ?_
        refine S_litE (r := (.int .i64)) (l := [(4 : Int)]) rfl (fun _ => bsl52_1 _ _) rfl (show 1 ≤ 9223372036854775807 by decide) hH hL398 (.c1 rfl .nil) ?_
        intro v451 w451 hx451 hL451 hle451 hv451
        replace hG402 := hG402.trans (gz_mono hH hle451)
        obtain ⟨x452, hb452, h⟩ := Go.L.bind_some h
        refine S_callv rfl rfl rfl (value_checkNode_1_fr (a0 := ([(4 : Int)])) (a1 := x397.2) (O := []) hH hL451 hv451 (hf398_3.mono hG402) (hf398_4.mono hG402) (hf398_5.mono hG402) hb452) ?_
        rintro _ w453 ⟨u453_3, u453_4, u453_5, rfl, hL453, hle453, hf453_3, hf453_4, hf453_5⟩
        replace hv451 := hv451.mono (gz_mono hH hle453)
        replace hG402 := hG402.trans (gz_mono hH hle453)
        refine S_pu 1 rfl ?_
        refine S_split (s := 55) rfl (fun hg454 => ?_) (fun hg454 => ?_)
        ·replace h := Go.L.ite_t hg454 h
         refine S_guarded rfl rfl hg454 ?_
         refine S_v (r_field rfl underlying38 rfl zr30 (by decide)) rfl ?_
         refine S_guarded rfl rfl hg454 ?_
         refine S_v (r_loadB1 0 rfl underlying30 rfl hL453 rfl rfl) rfl ?_
         refine S_guarded rfl rfl hg454 ?_
         refine S_v (r_len rfl underlying30 hf453_4) rfl ?_
         refine S_guarded rfl rfl hg454 ?_
         refine S_v (r_field rfl underlying38 rfl zr36 (by decide)) rfl ?_
         refine S_guarded rfl rfl hg454 ?_
         refine S_v (r_loadB1 0 rfl underlying36 rfl hL453 rfl rfl) rfl ?_
         refine S_guarded rfl rfl hg454 ?_
         refine S_v (r_len rfl underlying36 hf453_5) rfl ?_
         refine S_guarded rfl rfl hg454 ?_
         refine S_v (RunsAt_pu rfl) rfl ?_
         refine S_v (r_pickT rfl hg454 rfl) rfl ?_
         refine S_pu 1 rfl ?_
         refine S_nil ?_
         refine At_cut (x452.2.f.1, x452.2.f.2.1, x452.2.f.2.2.1, x452.2.f.2.2.2.1, x452.2.f.2.2.2.2, !decide ((x452.2.f.2.2.2.1.length : Int) = (x452.2.f.2.2.2.2.length : Int)), u453_3, u453_4, u453_5) (.cons rfl (.cons rfl (Sub.nil _))) ⟨hL453, hf453_3, hf453_4, hf453_5, h⟩
        ·replace h := Go.L.ite_f hg454 h
         iterate 7 refine S_unwanted rfl rfl hg454 rfl ?_
         refine S_v (r_pickF rfl hg454 rfl) rfl ?_
         refine S_pu 1 rfl ?_
         refine S_nil ?_
         refine At_cut (x452.2.f.1, x452.2.f.2.1, x452.2.f.2.2.1, x452.2.f.2.2.2.1, x452.2.f.2.2.2.2, false, u453_3, u453_4, u453_5) (.cons rfl (.cons rfl (Sub.nil _))) ⟨hL453, hf453_3, hf453_4, hf453_5, h⟩
    ·replace h := Go.L.ite_n (of_decide_eq_false hg394) h
     iterate 4 refine S_unwanted rfl rfl hg394 rfl ?_
     refine S_v (r_pickF rfl hg394 rfl) rfl ?_
     refine S_pz 1 rfl ?_
     refine W_false rfl ?_
     refine W_seqr ?_
     refine S_v (r_field rfl underlying38 rfl zr30 (by decide)) rfl ?_
     refine S_v (r_loadB1 0 rfl underlying30 rfl hL4 rfl rfl) rfl ?_
     refine S_v (r_len rfl underlying30 (hf4_4.mono hG265)) rfl ?_
     refine S_pu 2 rfl ?_
     refine S_split (s := 36) rfl (fun hg458 => ?_) (fun hg458 => ?_)
     ·replace h := Go.L.ite_p (of_decide_eq_true hg458) h
      refine S_guarded rfl rfl hg458 ?_
      refine S_v (RunsAt_pu rfl) rfl ?_
      refine S_guarded rfl rfl hg458 ?_
      refine S_litE (r := (.int .i64)) (l := [(4 : Int)]) rfl (fun _ => bsl52_1 _ _) rfl (show 1 ≤ 9223372036854775807 by decide) hH hL4 (.c1 rfl .nil) ?_
      intro v460 w460 hx460 hL460 hle460 hv460
      replace hG265 := hG265.trans (gz_mono hH hle460)
      refine S_guarded rfl rfl hg458 ?_
      obtain ⟨x461, hb461, h⟩ := Go.L.bind_some h
      refine S_callv rfl rfl rfl (value_checkNode_1_fr (a0 := ([(4 : Int)])) (a1 := x3.2) (O := []) hH hL460 hv460 (hf4_3.mono hG265) (hf4_4.mono hG265) (hf4_5.mono hG265) hb461) ?_
      rintro _ w462 ⟨u462_3, u462_4, u462_5, rfl, hL462, hle462, hf462_3, hf462_4, hf462_5⟩
      replace hv460 := hv460.mono (gz_mono hH hle462)
      replace hG265 := hG265.trans (gz_mono hH hle462)
      refine S_guarded rfl rfl hg458 ?_
      refine S_v (RunsAt_pu rfl) rfl ?_
      refine S_v (r_pickT rfl hg458 rfl) rfl ?_
      refine S_pz 1 rfl ?_
      refine W_cond rfl (fun hc463 => ?_) (fun hc463 => ?_)
      ·replace h := Go.L.ite_t hc463 h
       refine W_skip ?_
       refine At_cut (x461.2.f.1, x461.2.f.2.1, x461.2.f.2.2.1, x461.2.f.2.2.2.1, x461.2.f.2.2.2.2, !x461.1, u462_3, u462_4, u462_5) (.cons rfl (.cons rfl (Sub.nil _))) ⟨hL462, hf462_3, hf462_4, hf462_5, h⟩
      ·replace h := Go.L.ite_f hc463 h
       have hG466 := hL462.rG H
       refine W_seqr ?_
       refine S_v (r_field rfl underlying38 rfl zr36 (by decide)) rfl ?_
       refine S_v (r_loadB1 0 rfl underlying36 rfl hL462 rfl rfl) rfl ?_
       refine S_v (r_len rfl underlying36 (hf462_5.mono hG466)) rfl ?_
       refine S_pu 2 rfl ?_
       refine S_split (s := 46) rfl (fun hg467 => ?_) (fun hg467 => ?_)
       ·replace h := Go.L.ite_p (of_decide_eq_true hg467) h
        refine S_guarded rfl rfl hg467 ?_
        refine S_v (RunsAt_pu rfl) rfl ?_
        refine S_guarded rfl rfl hg467 ?_
        refine S_litE (r := (.int .i64)) (l := [(3 : Int), (4 : Int)]) rfl (fun _ => bsl52_2 _ _ _) rfl (show 2 ≤ 9223372036854775807 by decide) hH hL462 (.c1 rfl (.c1 rfl .nil)) ?_
        intro v469 w469 hx469 hL469 hle469 hv469
        replace hG466 := hG466.trans (gz_mono hH hle469)
        refine S_guarded rfl rfl hg467 ?_
        obtain ⟨x470, hb470, h⟩ := Go.L.bind_some h
        refine S_callv rfl rfl rfl (value_checkNode_1_fr (a0 := ([(3 : Int), (4 : Int)])) (a1 := x461.2) (O := []) hH hL469 hv469 (hf462_3.mono hG466) (hf462_4.mono hG466) (hf462_5.mono hG466) hb470) ?_
        rintro _ w471 ⟨u471_3, u471_4, u471_5, rfl, hL471, hle471, hf471_3, hf471_4, hf471_5⟩
        replace hv469 := hv469.mono (gz_mono hH hle471)
        replace hG466 := hG466.trans (gz_mono hH hle471)
        refine S_guarded rfl rfl hg467 ?_
        refine S_v (RunsAt_pu rfl) rfl ?_
        refine S_v (r_pickT rfl hg467 rfl) rfl ?_
        refine S_pz 1 rfl ?_
        refine W_cond rfl (fun hc472 => ?_) (fun hc472 => ?_)
        ·replace h := Go.L.ite_t hc472 h
         refine W_skip ?_
         refine At_cut (x470.2.f.1, x470.2.f.2.1, x470.2.f.2.2.1, x470.2.f.2.2.2.1, x470.2.f.2.2.2.2, !x470.1, u471_3, u471_4, u471_5) (.cons rfl (.cons rfl (Sub.nil _))) ⟨hL471, hf471_3, hf471_4, hf471_5, h⟩
        ·replace h := Go.L.ite_f hc472 h
         have hG475 := hL471.rG H
         refine W_region ?_
         refine S_pu 1 rfl ?_
         refine S_litE (r := (.int .i64)) (l := [(4 : Int)]) rfl (fun _ => bsl52_1 _ _) rfl (show 1 ≤ 9223372036854775807 by decide) hH hL471 (.c1 rfl .nil) ?_
         intro v476 w476 hx476 hL476 hle476 hv476
         replace hG475 := hG475.trans (gz_mono hH hle476)
         obtain ⟨x477, hb477, h⟩ := Go.L.bind_some h
         refine S_callv rfl rfl rfl (value_checkNode_1_fr (a0 := ([(4 : Int)])) (a1 := x470.2) (O := []) hH hL476 hv476 (hf471_3.mono hG475) (hf471_4.mono hG475) (hf471_5.mono hG475) hb477) ?_
         rintro _ w478 ⟨u478_3, u478_4, u478_5, rfl, hL478, hle478, hf478_3, hf478_4, hf478_5⟩
         replace hv476 := hv476.mono (gz_mono hH hle478)
         replace hG475 := hG475.trans (gz_mono hH hle478)
         refine S_pu 1 rfl ?_
         refine S_split (s := 55) rfl (fun hg479 => ?_) (fun hg479 => ?_)
         ·replace h := Go.L.ite_t hg479 h
          refine S_guarded rfl rfl hg479 ?_
          refine S_v (r_field rfl underlying38 rfl zr30 (by decide)) rfl ?_
          refine S_guarded rfl rfl hg479 ?_
          refine S_v (r_loadB1 0 rfl underlying30 rfl hL478 rfl rfl) rfl ?_
          refine S_guarded rfl rfl hg479 ?_
          refine S_v (r_len rfl underlying30 hf478_4) rfl ?_
          refine S_guarded rfl rfl hg479 ?_
          refine S_v (r_field rfl underlying38 rfl zr36 (by decide)) rfl ?_
          refine S_guarded rfl rfl hg479 ?_
          refine S_v (r_loadB1 0 rfl underlying36 rfl hL478 rfl rfl) rfl ?_
          refine S_guarded rfl rfl hg479 ?_
          refine S_v (r_len rfl underlying36 hf478_5) rfl ?_
          refine S_guarded rfl rfl hg479 ?_
          refine S_v (RunsAt_pu rfl) rfl ?_
          refine S_v (r_pickT rfl hg479 rfl) rfl ?_
          refine S_pu 1 rfl ?_
          refine S_nil ?_
          refine At_cut (x477.2.f.1, x477.2.f.2.1, x477.2.f.2.2.1, x477.2.f.2.2.2.1, x477.2.f.2.2.2.2, !decide ((x477.2.f.2.2.2.1.length : Int) = (x477.2.f.2.2.2.2.length : Int)), u478_3, u478_4, u478_5) (.cons rfl (.cons rfl (Sub.nil _))) ⟨hL478, hf478_3, hf478_4, hf478_5, h⟩
         ·replace h := Go.L.ite_f hg479 h
          iterate 7 refine S_unwanted rfl rfl hg479 rfl ?_
          refine S_v (r_pickF rfl hg479 rfl) rfl ?_
          refine S_pu 1 rfl ?_
          refine S_nil ?_
          refine At_cut (x477.2.f.1, x477.2.f.2.1, x477.2.f.2.2.1, x477.2.f.2.2.2.1, x477.2.f.2.2.2.2, false, u478_3, u478_4, u478_5) (.cons rfl (.cons rfl (Sub.nil _))) ⟨hL478, hf478_3, hf478_4, hf478_5, h⟩
       ·replace h := Go.L.ite_n (of_decide_eq_false hg467) h
        iterate 4 refine S_unwanted rfl rfl hg467 rfl ?_
        refine S_v (r_pickF rfl hg467 rfl) rfl ?_
        refine S_pz 1 rfl ?_
        refine W_false rfl ?_
        refine W_region ?_
        refine S_pu 1 rfl ?_
        refine S_litE (r := (.int .i64)) (l := [(4 : Int)]) rfl (fun _ => bsl52_1 _ _) rfl (show 1 ≤ 9223372036854775807 by decide) hH hL462 (.c1 rfl .nil) ?_
        intro v483 w483 hx483 hL483 hle483 hv483
        replace hG466 := hG466.trans (gz_mono hH hle483)
        obtain ⟨x484, hb484, h⟩ := Go.L.bind_some h
        refine S_callv rfl rfl rfl (value_checkNode_1_fr (a0 := ([(4 : Int)])) (a1 := x461.2) (O := []) hH hL483 hv483 (hf462_3.mono hG466) (hf462_4.mono hG466) (hf462_5.mono hG466) hb484) ?_
        rintro _ w485 ⟨u485_3, u485_4, u485_5, rfl, hL485, hle485, hf485_3, hf485_4, hf485_5⟩
        replace hv483 := hv483.mono (gz_mono hH hle485)
        replace hG466 := hG466.trans (gz_mono hH hle485)
        refine S_pu 1 rfl ?_
        refine S_split (s := 55) rfl (fun hg486 => ?_) (fun hg486 => ?_)
        ·replace h := Go.L.ite_t hg486 h
         refine S_guarded rfl rfl hg486 ?_
         refine S_v (r_field rfl underlying38 rfl zr30 (by decide)) rfl ?_
         refine S_guarded rfl rfl hg486 ?_
         refine S_v (r_loadB1 0 rfl underlying30 rfl hL485 rfl rfl) rfl ?_
         refine S_guarded rfl rfl hg486 ?_
         refine S_v (r_len rfl underlying30 hf485_4) rfl ?_
         refine S_guarded rfl rfl hg486 ?_
         refine S_v (r_field rfl underlying38 rfl zr36 (by decide)) rfl ?_
         refine S_guarded rfl rfl hg486 ?_
         refine S_v (r_loadB1 0 rfl underlying36 rfl hL485 rfl rfl) rfl ?_
         refine S_guarded rfl rfl hg486 ?_
         refine S_v (r_len rfl underlying36 hf485_5) rfl ?_
         refine S_guarded rfl rfl hg486 ?_
         refine S_v (RunsAt_pu rfl) rfl ?_
         refine S_v (r_pickT rfl hg486 rfl) rfl ?_
         refine S_pu 1 rfl ?_
         refine S_nil ?_
         refine At_cut (x484.2.f.1, x484.2.f.2.1, x484.2.f.2.2.1, x484.2.f.2.2.2.1, x484.2.f.2.2.2.2, !decide ((x484.2.f.2.2.2.1.length : Int) = (x484.2.f.2.2.2.2.length : Int)), u485_3, u485_4, u485_5) (.cons rfl (.cons rfl (Sub.nil _))) ⟨hL485, hf485_3, hf485_4, hf485_5, h⟩
        ·replace h := Go.L.ite_f hg486 h
         iterate 7 refine S_unwanted rfl rfl hg486 rfl ?_
         refine S_v (r_pickF rfl hg486 rfl) rfl ?_
         refine S_pu 1 rfl ?_
         refine S_nil ?_
         refine At_cut (x484.2.f.1, x484.2.f.2.1, x484.2.f.2.2.1, x484.2.f.2.2.2.1, x484.2.f.2.2.2.2, false, u485_3, u485_4, u485_5) (.cons rfl (.cons rfl (Sub.nil _))) ⟨hL485, hf485_3, hf485_4, hf485_5, h⟩
     ·replace h := Go.L.ite_n (of_decide_eq_false hg458) h
      iterate 4 refine S_unwanted rfl rfl hg458 rfl ?_
      refine S_v (r_pickF rfl hg458 rfl) rfl ?_
      refine S_pz 1 rfl ?_
      refine W_false rfl ?_
      refine W_seqr ?_
      refine S_v (r_field rfl underlying38 rfl zr36 (by decide)) rfl ?_
      refine S_v (r_loadB1 0 rfl underlying36 rfl hL4 rfl rfl) rfl ?_
      refine S_v (r_len rfl underlying36 (hf4_5.mono hG265)) rfl ?_
      refine S_pu 2 rfl ?_
      refine S_split (s := 46) rfl (fun hg490 => ?_) (fun hg490 => ?_)
      ·replace h := Go.L.ite_p (of_decide_eq_true hg490) h
       refine S_guarded rfl rfl hg490 ?_
       refine S_v (RunsAt_pu rfl) rfl ?_
       refine S_guarded rfl rfl hg490 ?_
       refine S_litE (r := (.int .i64)) (l := [(3 : Int), (4 : Int)]) rfl (fun _ => bsl52_2 _ _ _) rfl (show 2 ≤ 9223372036854775807 by decide) hH hL4 (.c1 rfl (.c1 rfl .nil)) ?_
       intro v492 w492 hx492 hL492 hle492 hv492
       replace hG265 := hG265.trans (gz_mono hH hle492)
       refine S_guarded rfl rfl hg490 ?_
       obtain ⟨x493, hb493, h⟩ := Go.L.bind_some h
       refine S_callv rfl rfl rfl (value_checkNode_1_fr (a0 := ([(3 : Int), (4 : Int)])) (a1 := x3.2) (O := []) hH hL492 hv492 (hf4_3.mono hG265) (hf4_4.mono hG265) (hf4_5.mono hG265) hb493) ?_
       rintro _ w494 ⟨u494_3, u494_4, u494_5, rfl, hL494, hle494, hf494_3, hf494_4, hf494_5⟩
       replace hv492 := hv492.mono (gz_mono hH hle494)
       replace hG265 := hG265.trans (gz_mono hH hle494)
       refine S_guarded rfl rfl hg490 ?_
       refine S_v (RunsAt_pu rfl) rfl ?_
       refine S_v (r_pickT rfl hg490 rfl) rfl ?_
       refine S_pz 1 rfl ?_
       refine W_cond rfl (fun hc495 => ?_) (fun hc495 => ?_)
       ·replace h := Go.L.ite_t hc495 h
        refine W_skip ?_
        refine At_cut (x493.2.f.1, x493.2.f.2.1, x493.2.f.2.2.1, x493.2.f.2.2.2.1, x493.2.f.2.2.2.2, !x493.1, u494_3, u494_4, u494_5) (.cons rfl (.cons rfl (Sub.nil _))) ⟨hL494, hf494_3, hf494_4, hf494_5, h⟩
       ·replace h := Go.L.ite_f hc495 h
        have hG498 := hL494.rG H
        refine W_region ?_
        refine S_pu 1 rfl ?_
        refine S_litE (r := (.int .i64)) (l := [(4 : Int)]) rfl (fun _ => bsl52_1 _ _) rfl (show 1 ≤ 9223372036854775807 by decide) hH hL494 (.c1 rfl .nil) ?_
        intro v499 w499 hx499 hL499 hle499 hv499
        replace hG498 := hG498.trans (gz_mono hH hle499)
        obtain ⟨x500, hb500, h⟩ := Go.L.bind_some h
        refine S_callv rfl rfl rfl (value_checkNode_1_fr (a0 := ([(4 : Int)])) (a1 := x493.2) (O := []) hH hL499 hv499 (hf494_3.mono hG498) (hf494_4.mono hG498) (hf494_5.mono hG498) hb500) ?_
        rintro _ w501 ⟨u501_3, u501_4, u501_5, rfl, hL501, hle501, hf501_3, hf501_4, hf501_5⟩
        replace hv499 := hv499.mono (gz_mono hH hle501)
        replace hG498 := hG498.trans (gz_mono hH hle501)
        refine S_pu 1 rfl ?_
        refine S_split (s := 55) rfl (fun hg502 => ?_) (fun hg502 => ?_)
        ·replace h := Go.L.ite_t hg502 h
         refine S_guarded rfl rfl hg502 ?_
         refine S_v (r_field rfl underlying38 rfl zr30 (by decide)) rfl ?_
         refine S_guarded rfl rfl hg502 ?_
         refine S_v (r_loadB1 0 rfl underlying30 rfl hL501 rfl rfl) rfl ?_
         refine S_guarded rfl rfl hg502 ?_
         refine S_v (r_len rfl underlying30 hf501_4) rfl ?_
         refine S_guarded rfl rfl hg502 ?_
         refine S_v (r_field rfl underlying38 rfl zr36 (by decide)) rfl ?_
         refine S_guarded rfl rfl hg502 ?_
         refine S_v (r_loadB1 0 rfl underlying36 rfl hL501 rfl rfl) rfl ?_
         refine S_guarded rfl rfl hg502 ?_
         refine S_v (r_len rfl underlying36 hf501_5) rfl ?_
         refine S_guarded rfl rfl hg502 ?_
         refine S_v (RunsAt_pu rfl) rfl ?_
         refine S_v (r_pickT rfl hg502 rfl) rfl ?_
         refine S_pu 1 rfl ?_
         refine S_nil ?_
         refine At_cut (x500.2.f.1, x500.2.f.2.1, x500.2.f.2.2.1, x500.2.f.2.2.2.1, x500.2.f.2.2.2.2, !decide ((x500.2.f.2.2.2.1.length : Int) = (x500.2.f.2.2.2.2.length : Int)), u501_3, u501_4, u501_5) (.cons rfl (.cons rfl (Sub.nil _))) ⟨hL501, hf501_3, hf501_4, hf501_5, h⟩
        ·replace h := Go.L.ite_f hg502 h
         iterate 7 refine S_unwanted rfl rfl hg502 rfl ?_
         refine S_v (r_pickF rfl hg502 rfl) rfl ?_
         refine S_pu 1 rfl ?_
         refine S_nil ?_
         refine At_cut (x500.2.f.1, x500.2.f.2.1, x500.2.f.2.2.1, x500.2.f.2.2.2.1, x500.2.f.2.2.2.2, false, u501_3, u501_4, u501_5) (.cons rfl (.cons rfl (Sub.nil _))) ⟨hL501, hf501_3, hf501_4, hf501_5, h⟩
      ·replace h := Go.L.ite_n (of_decide_eq_false hg490) h
       iterate 4 refine S_unwanted rfl rfl hg490 rfl ?_
       refine S_v (r_pickF rfl hg490 rfl) rfl ?_
       refine S_pz 1 rfl ?_
       refine W_false rfl ?_
       refine W_region ?_
       refine S_pu 1 rfl ?_
       refine S_litE (r := (.int .i64)) (l := [(4 : Int)]) rfl (fun _ => bsl52_1 _ _) rfl (show 1 ≤ 9223372036854775807 by decide) hH hL4 (.c1 rfl .nil) ?_
       intro v506 w506 hx506 hL506 hle506 hv506
       replace hG265 := hG265.trans (gz_mono hH hle506)
       obtain ⟨x507, hb507, h⟩ := Go.L.bind_some h
       refine S_callv rfl rfl rfl (value_checkNode_1_fr (a0 := ([(4 : Int)])) (a1 := x3.2) (O := []) hH hL506 hv506 (hf4_3.mono hG265) (hf4_4.mono hG265) (hf4_5.mono hG265) hb507) ?_
       rintro _ w508 ⟨u508_3, u508_4, u508_5, rfl, hL508, hle508, hf508_3, hf508_4, hf508_5⟩
       replace hv506 := hv506.mono (gz_mono hH hle508)
       replace hG265 := hG265.trans (gz_mono hH hle508)
       refine S_pu 1 rfl ?_
       refine S_split (s := 55) rfl (fun hg509 => ?_) (fun hg509 => ?_)
       ·replace h := Go.L.ite_t hg509 h
        refine S_guarded rfl rfl hg509 ?_
        refine S_v (r_field rfl underlying38 rfl zr30 (by decide)) rfl ?_
        refine S_guarded rfl rfl hg509 ?_
        refine S_v (r_loadB1 0 rfl underlying30 rfl hL508 rfl rfl) rfl ?_
        refine S_guarded rfl rfl hg509 ?_
        refine S_v (r_len rfl underlying30 hf508_4) rfl ?_
        refine S_guarded rfl rfl hg509 ?_
        refine S_v (r_field rfl underlying38 rfl zr36 (by decide)) rfl ?_
        refine S_guarded rfl rfl hg509 ?_
        refine S_v (r_loadB1 0 rfl underlying36 rfl hL508 rfl rfl) rfl ?_
        refine S_guarded rfl rfl hg509 ?_
        refine S_v (r_len rfl underlying36 hf508_5) rfl ?_
        refine S_guarded rfl rfl hg509 ?_
        refine S_v (RunsAt_pu rfl) rfl ?_
        refine S_v (r_pickT rfl hg509 rfl) rfl ?_
        refine S_pu 1 rfl ?_
        refine S_nil ?_
        refine At_cut (x507.2.f.1, x507.2.f.2.1, x507.2.f.2.2.1, x507.2.f.2.2.2.1, x507.2.f.2.2.2.2, !decide ((x507.2.f.2.2.2.1.length : Int) = (x507.2.f.2.2.2.2.length : Int)), u508_3, u508_4, u508_5) (.cons rfl (.cons rfl (Sub.nil _))) ⟨hL508, hf508_3, hf508_4, hf508_5, h⟩
       ·replace h := Go.L.ite_f hg509 h
        iterate 7 refine S_unwanted rfl rfl hg509 rfl ?_
        refine S_v (r_pickF rfl hg509 rfl) rfl ?_
        refine S_pu 1 rfl ?_
        refine S_nil ?_
        refine At_cut (x507.2.f.1, x507.2.f.2.1, x507.2.f.2.2.1, x507.2.f.2.2.2.1, x507.2.f.2.2.2.2, false, u508_3, u508_4, u508_5) (.cons rfl (.cons rfl (Sub.nil _))) ⟨hL508, hf508_3, hf508_4, hf508_5, h⟩
  ·rintro ⟨c257, c258, c259, c260, c261, s12_262, vc259, vc260, vc261⟩ wr263 ⟨hL263, hfc259, hfc260, hfc261, h⟩
   refine W_cond rfl (fun hc513 => ?_) (fun hc513 => ?_)
   ·replace h := Go.L.ite_t hc513 h
    have hG515 := hL263.rG H
    refine W_pz 1 rfl ?_
    refine W_ret ?_
    refine At_block_ret ?_
    refine At_seq_ret ?_
    obtain rfl := Option.some.inj h
    refine At_body rfl rfl ?_
    exact ⟨hL263.ext, rfl⟩
   ·replace h := Go.L.ite_f hc513 h
    have hG517 := hL263.rG H
    refine W_seqr ?_
    refine S_v (r_field rfl underlying38 rfl zr36 (by decide)) rfl ?_
    refine S_v (r_loadB1 0 rfl underlying36 rfl hL263 rfl rfl) rfl ?_
    refine S_v (r_len rfl underlying36 (hfc261.mono hG517)) rfl ?_
    refine S_pz 2 rfl ?_
    refine W_if rfl (fun hc518 => ?_) (fun hc518 => ?_)
    ·replace h := Go.L.ite_p hc518 h
     refine W_pz 1 rfl ?_
     refine W_ret ?_
     refine At_block_ret ?_
     refine At_seq_ret ?_
     obtain rfl := Option.some.inj h
     refine At_body rfl rfl ?_
     exact ⟨hL263.ext, rfl⟩
    ·replace h := Go.L.ite_n hc518 h
     refine W_seqr ?_
     refine S_v (r_field rfl underlying38 rfl zr30 (by decide)) rfl ?_
     refine S_v (r_loadB1 0 rfl underlying30 rfl hL263 rfl rfl) rfl ?_
     obtain ⟨x521, hb521, h⟩ := Go.L.bind_some h
     refine S_callL rfl rfl hL263 (conf_checkNode_2_ok _ _ (gz_le hH hL263) (hfc260.mono hG517) hb521) ?_
     rintro _ w522 rfl hx522 hL522 hle522
     replace hG517 := hG517.trans (gz_mono hH hle522)
     refine S_pz 1 rfl ?_
     refine W_cond rfl (fun hc523 => ?_) (fun hc523 => ?_)
     ·replace h := Go.L.ite_t hc523 h
      refine W_pz 1 rfl ?_
      refine W_ret ?_
      refine At_block_ret ?_
      refine At_seq_ret ?_
      obtain rfl := Option.some.inj h
      refine At_body rfl rfl ?_
      exact ⟨hL522.ext, rfl⟩
     ·replace h := Go.L.ite_f hc523 h
      refine W_skip ?_
      refine At_block ?_
      refine At_seq ?_
      refine W_cut (σ := Unit) (fun (_ : Unit) => []) (fun (_ : Unit) wr => InO w [.box b1 [.int .i64 c257, .int .i64 c258, vc259, vc260, vc261] 38] wr fun Oz => Vec .byte (gz H w wr Oz) (vc259) (c259) ∧ Vec .st (gz H w wr Oz) (vc260) (c260) ∧ Vec .tree (gz H w wr Oz) (vc261) (c261) ∧ value_checkNode_k2 = some r) ?_ ?_
      ·refine W_seqr ?_
       refine S_v (r_field rfl underlying38 rfl zr30 (by decide)) rfl ?_
       refine S_v (r_loadB1 0 rfl underlying30 rfl hL522 rfl rfl) rfl ?_
       refine S_v (r_len rfl underlying30 (hfc260.mono hG517)) rfl ?_
       refine S_pz 1 rfl ?_
       refine W_block ?_
       obtain ⟨n574, h⟩ := Go.L.run_some h
       refine W_loop (σ := Int × Nat) (fun ⟨s76_573, n⟩ => [(1, .pointer (some ⟨b1, 0, none⟩)), (74, vc260), (75, .int .i64 (c260.length : Int)), (76, .int .i64 s76_573)]) (fun ⟨s76_573, n⟩ wr => InO w [.box b1 [.int .i64 c257, .int .i64 c258, vc259, vc260, vc261] 38] wr fun Oz => Vec .st (gz H w wr Oz) (vc260) (c260) ∧ Vec .byte (gz H w wr Oz) (vc259) (c259) ∧ Vec .tree (gz H w wr Oz) (vc261) (c261) ∧ Go.L.itr (value_checkNode_bl3 c260) n s76_573 = some r) (fun ⟨s76_573, n⟩ => n) ((0 : Int), n574) (.cons rfl (.cons rfl (.cons rfl (.cons rfl (Sub.nil _))))) ⟨hL522, (hfc260.mono hG517), (hfc259.mono hG517), (hfc261.mono hG517), h⟩ ?_
       rintro ⟨s76_573, nn574⟩ wr574 ⟨hL574, hf574_0, hf574_1, hf574_2, h⟩
       obtain ⟨n574, e574, rfl, h, hm574⟩ := Go.L.itr_some h
       have hG576 := hL574.rG H
       refine W_pz 1 rfl ?_
       refine W_seq ?_
       refine W_if rfl (fun hc577 => ?_) (fun hc577 => ?_)
       ·replace h := Go.L.ite_p hc577 h
        refine W_skip ?_
        refine At_seq ?_
        refine W_seq ?_
        refine W_block ?_
        refine W_p 1 rfl ?_
        obtain ⟨hk580, h⟩ := Go.L.chk_some h
        refine S_index rfl rfl underlying30 zr9 (hf574_0.mono hG576) s76_573.toNat (Int.toNat_of_nonneg hk580.1).symm (idx_lt hk580) rfl ?_
        rintro p579 _ rfl hp579
        refine S_v (r_load1 rfl underlying9 rfl hp579 (gz_le hH hL574)) rfl ?_
        refine S_pz 2 rfl ?_
        refine W_seqr ?_
        refine S_v (r_field rfl underlying38 rfl zr30 (by decide)) rfl ?_
        refine S_v (r_loadB1 0 rfl underlying30 rfl hL574 rfl rfl) rfl ?_
        refine S_pu 1 rfl ?_
        obtain ⟨hk582, h⟩ := Go.L.chk_some h
        refine S_sliceH rfl rfl underlying30 zr9 (hf574_0.mono hG576) hk582 rfl ?_
        intro v581 hv581
        refine S_pu 1 rfl ?_
        obtain ⟨x583, hb583, h⟩ := Go.L.bind_some h
        refine S_callL rfl rfl hL574 (slices_Contains_string_string_ok _ _ (gz_le hH hL574) hv581 hb583) ?_
        rintro _ w584 rfl hx584 hL584 hle584
        replace hv581 := hv581.mono (gz_mono hH hle584)
        replace hG576 := hG576.trans (gz_mono hH hle584)
        refine S_seqnil ?_
        refine W_cond rfl (fun hc585 => ?_) (fun hc585 => ?_)
        ·replace h := Go.L.ite_t hc585 h
         refine W_pz 1 rfl ?_
         refine W_ret ?_
         refine At_block_ret ?_
         refine At_seq_ret ?_
         refine At_loop_ret ?_
         replace h := Go.L.Nxt.out h hm574
         refine At_block_ret ?_
         refine At_cut_ret ?_
         obtain rfl := Option.some.inj h
         refine At_body rfl rfl ?_
         exact ⟨hL584.ext, rfl⟩
        ·replace h := Go.L.ite_f hc585 h
         refine W_skip ?_
         refine At_block ?_
         refine At_seq ?_
         refine W_region ?_
         obtain ⟨hk588, h⟩ := Go.L.chk_some h
         refine S_v (r_ar64 rfl rfl rfl hk588) rfl ?_
         refine S_pu 1 rfl ?_
         refine S_nil ?_
         have h := Go.L.Nxt.again h hm574
         refine At_round ((s76_573 + (1 : Int)), n574) (.cons rfl (.cons rfl (.cons rfl (.cons rfl (Sub.nil _))))) ⟨hL584, (hf574_0.mono hG576), (hf574_1.mono hG576), (hf574_2.mono hG576), h⟩ (Nat.lt_succ_self _)
       ·replace h := Go.L.ite_n hc577 h
        refine W_exit ?_
        refine At_seq_exit ?_
        refine At_loop_exit ?_
        replace h := Go.L.Nxt.out h hm574
        refine At_exit ?_
        refine At_cut () (Sub.nil _) ⟨hL574, (hf574_1.mono hG576), (hf574_0.mono hG576), (hf574_2.mono hG576), h⟩
      ·rintro _ wr557 ⟨hL557, hf557_0, hf557_1, hf557_2, h⟩
       have hG591 := hL557.rG H
       refine W_pz 1 rfl ?_
       refine W_ret ?_
       obtain rfl := Option.some.inj h
       refine At_body rfl rfl ?_
       exact ⟨hL557.ext, rfl⟩
noncomputable def value_check_body_k1 (s9_65 : Int) : Option (Int × (Int × Int)) :=
 some (s9_65, ((0 : Int), (0 : Int)))
noncomputable def value_check_body_bl2 (a0 : Go.L.Pv) (a2 : Int) (self : Go.L.Pv → Int → Int → Option (Int × (Int × Int))) : Int × Int → Option ((Int × Int) ⊕ (Int × (Int × Int))) := fun ⟨s9_90, s33_91⟩ =>
 if s33_91 < (a0.f.2.2.2.2.length : Int) then Go.L.chk (0 ≤ s33_91 ∧ s33_91 < (a0.f.2.2.2.2.length : Int)) (Go.L.chk (Go.L.I64 (a2 + (1 : Int))) (Option.bind (self (a0.f.2.2.2.2.getD s33_91.toNat default) s9_90 (a2 + (1 : Int))) (fun x102 => if x102.2.1 = (0 : Int) ∧ x102.2.2 = (0 : Int) then Go.L.chk (Go.L.I64 (s33_91 + (1 : Int))) (some (Sum.inl (x102.1, (s33_91 + (1 : Int))))) else Option.map Sum.inr (some ((0 : Int), (x102.2.1, x102.2.2)))))) else Option.map Sum.inr (value_check_body_k1 s9_90)
noncomputable def value_check_body_l2 (a0 : Go.L.Pv) (a2 : Int) (self : Go.L.Pv → Int → Int → Option (Int × (Int × Int))) (s : Int × Int) : Option (Int × (Int × Int)) := Go.L.run (value_check_body_bl2 a0 a2 self) s
noncomputable def value_check_body (self : Go.L.Pv → Int → Int → Option (Int × (Int × Int))) (a0 : Go.L.Pv) (a1 : Int) (a2 : Int) : Option (Int × (Int × Int)) :=
 if ((600 : Int) ≤ a1) ∨ ((10 : Int) < a2) then Option.bind (value_fault (2 : Int) a1) (fun x5 => some ((0 : Int), (x5.1, x5.2))) else Option.bind (value_checkNode a0) (fun x9 => if x9 = (0 : Int) then Go.L.chk (Go.L.I64 (a1 + (1 : Int))) ((value_check_body_l2 a0 a2 self) ((a1 + (1 : Int)), (0 : Int))) else Option.bind (value_fault x9 a1) (fun x13 => some ((0 : Int), (x13.1, x13.2))))
noncomputable def value_check_n : Nat → Go.L.Pv → Int → Int → Option (Int × (Int × Int))
 | 0 => fun _ _ _ => none
 | n + 1 => value_check_body (value_check_n n)
noncomputable def value_check : Go.L.Pv → Int → Int → Option (Int × (Int × Int)) := value_check_n 1000
theorem value_check_body_ok (self : Go.L.Pv → Int → Int → Option (Int × (Int × Int))) (hself : ∀ (w : World) (H : PH) (hH : Le H (hp w)) {a0 : Go.L.Pv} {a1 : Int} {a2 : Int} {v0_0 : Value} {v0_1 : Value} {v0_2 : Value} (h0_0 : Vec .byte H v0_0 (a0.f.2.2.1)) (h0_1 : Vec .st H v0_1 (a0.f.2.2.2.1)) (h0_2 : Vec .tree H v0_2 (a0.f.2.2.2.2)) {r : Int × (Int × Int)} (h : self a0 a1 a2 = some r), Ok Tryz.prog 93 [.agg #[.int .i64 a0.f.1, .int .i64 a0.f.2.1, v0_0, v0_1, v0_2], .int .i64 a1, .int .i64 a2] w (fun v w' => Ext w w' ∧ v = .tuple #[.int .i64 r.1, .agg #[.int .i64 r.2.1, .int .i64 r.2.2]])) (w : World) (H : PH) (hH : Le H (hp w)) {a0 : Go.L.Pv} {a1 : Int} {a2 : Int} {v0_0 : Value} {v0_1 : Value} {v0_2 : Value} (h0_0 : Vec .byte H v0_0 (a0.f.2.2.1)) (h0_1 : Vec .st H v0_1 (a0.f.2.2.2.1)) (h0_2 : Vec .tree H v0_2 (a0.f.2.2.2.2)) {r : Int × (Int × Int)} (h : value_check_body self a0 a1 a2 = some r) :
  Ok Tryz.prog 93 [.agg #[.int .i64 a0.f.1, .int .i64 a0.f.2.1, v0_0, v0_1, v0_2], .int .i64 a1, .int .i64 a2] w (fun v w' => Ext w w' ∧ v = .tuple #[.int .i64 r.1, .agg #[.int .i64 r.2.1, .int .i64 r.2.2]]) := by
 refine Ok_enter (n := 52) [(0, .agg #[.int .i64 a0.f.1, .int .i64 a0.f.2.1, v0_0, v0_1, v0_2]), (1, .int .i64 a1), (2, .int .i64 a2)] func93 rfl rfl rfl rfl rfl ?_
 have hL := Lcl.start w
 refine W_seqr ?_
 refine S_box (t := 38) rfl rfl rfl hL ?_
 intro w1 b1 hL1 hle1 _
 refine S_pu 1 rfl ?_
 refine S_alloc zr23 rfl rfl hL1 ?_
 intro w2 b2 hL2 hle2 _
 refine S_seqnil ?_
 refine W_seq ?_
 refine W_p 3 rfl ?_
 refine S_or 2 2 rfl rfl rfl rfl rfl rfl ?_
 refine S_seqnil ?_
 refine W_if rfl (fun hc3 => ?_) (fun hc3 => ?_)
 ·replace h := Go.L.ite_p hc3 h
  refine W_p 1 rfl ?_
  obtain ⟨x5, hb5, h⟩ := Go.L.bind_some h
  refine S_callL rfl rfl hL2 (value_fault_ok _ _ (gz_le hH hL2) hb5) ?_
  rintro _ w6 rfl hx6 hL6 hle6
  refine S_pu 1 rfl ?_
  refine S_storeBN 0 rfl rfl rfl zr23 hL6 rfl rfl (onc rfl (onc rfl on0)) ?_
  intro w7 hL7 hle7
  refine S_seqnil ?_
  refine W_ret ?_
  refine At_seq_ret ?_
  obtain rfl := Option.some.inj h
  refine At_got2 rfl (.tmp rfl) (.cell rfl underlying23 rfl zr23 (box_ptr (i := 0) hL7 rfl)) ?_
  exact ⟨hL7.ext, rfl⟩
 ·replace h := Go.L.ite_n hc3 h
  refine W_skip ?_
  refine At_seq ?_
  refine W_seq ?_
  refine W_seqr ?_
  refine S_v (r_loadBN 1 rfl underlying38 rfl zr38 hL2 rfl) rfl ?_
  obtain ⟨x9, hb9, h⟩ := Go.L.bind_some h
  refine S_callL rfl rfl hL2 (value_checkNode_ok (a0 := a0) _ _ (gz_le hH hL2) (h0_0.mono (gz_left hH)) (h0_1.mono (gz_left hH)) (h0_2.mono (gz_left hH)) hb9) ?_
  rintro _ w10 rfl hx10 hL10 hle10
  refine S_pz 1 rfl ?_
  refine W_pz 2 rfl ?_
  refine W_ifn rfl (fun hc11 => ?_) (fun hc11 => ?_)
  ·replace h := Go.L.ite_n hc11 h
   refine W_p 2 rfl ?_
   obtain ⟨x13, hb13, h⟩ := Go.L.bind_some h
   refine S_callL rfl rfl hL10 (value_fault_ok _ _ (gz_le hH hL10) hb13) ?_
   rintro _ w14 rfl hx14 hL14 hle14
   refine S_pu 1 rfl ?_
   refine S_storeBN 0 rfl rfl rfl zr23 hL14 rfl rfl (onc rfl (onc rfl on0)) ?_
   intro w15 hL15 hle15
   refine S_seqnil ?_
   refine W_ret ?_
   refine At_seq_ret ?_
   obtain rfl := Option.some.inj h
   refine At_got2 rfl (.tmp rfl) (.cell rfl underlying23 rfl zr23 (box_ptr (i := 0) hL15 rfl)) ?_
   exact ⟨hL15.ext, rfl⟩
  ·replace h := Go.L.ite_p hc11 h
   refine W_skip ?_
   refine At_seq ?_
   refine W_p 1 rfl ?_
   obtain ⟨hk17, h⟩ := Go.L.chk_some h
   refine S_v (r_ar64 rfl rfl rfl hk17) rfl ?_
   refine S_pz 1 rfl ?_
   refine W_cut (σ := Int) (fun s9_65 => [(7, .pointer (some ⟨b2, 0, none⟩)), (9, .int .i64 s9_65)]) (fun s9_65 wr => Lcl w [.box b2 [.int .i64 (0 : Int), .int .i64 (0 : Int)] 23, .box b1 [.int .i64 a0.f.1, .int .i64 a0.f.2.1, v0_0, v0_1, v0_2] 38] wr ∧ value_check_body_k1 s9_65 = some r) ?_ ?_
   ·refine W_seqr ?_
    refine S_v (r_field rfl underlying38 rfl zr36 (by decide)) rfl ?_
    refine S_v (r_loadB1 1 rfl underlying36 rfl hL10 rfl rfl) rfl ?_
    refine S_v (r_len rfl underlying36 h0_2) rfl ?_
    refine S_pz 1 rfl ?_
    refine W_block ?_
    obtain ⟨n92, h⟩ := Go.L.run_some h
    refine W_loop (σ := Int × Int × Nat) (fun ⟨s9_90, s33_91, n⟩ => [(2, .int .i64 a2), (7, .pointer (some ⟨b2, 0, none⟩)), (9, .int .i64 s9_90), (31, v0_2), (32, .int .i64 (a0.f.2.2.2.2.length : Int)), (33, .int .i64 s33_91)]) (fun ⟨s9_90, s33_91, n⟩ wr => Lcl w [.box b2 [.int .i64 (0 : Int), .int .i64 (0 : Int)] 23, .box b1 [.int .i64 a0.f.1, .int .i64 a0.f.2.1, v0_0, v0_1, v0_2] 38] wr ∧ Go.L.itr (value_check_body_bl2 a0 a2 self) n (s9_90, s33_91) = some r) (fun ⟨s9_90, s33_91, n⟩ => n) ((a1 + (1 : Int)), (0 : Int), n92) (.cons rfl (.cons rfl (.cons rfl (.cons rfl (.cons rfl (.cons rfl (Sub.nil _))))))) ⟨hL10, h⟩ ?_
    rintro ⟨s9_90, s33_91, nn92⟩ wr92 ⟨hL92, h⟩
    obtain ⟨n92, e92, rfl, h, hm92⟩ := Go.L.itr_some h
    refine W_pz 1 rfl ?_
    refine W_seq ?_
    refine W_if rfl (fun hc94 => ?_) (fun hc94 => ?_)
    ·replace h := Go.L.ite_p hc94 h
     refine W_skip ?_
     refine At_seq ?_
     refine W_seq ?_
     refine W_block ?_
     refine W_seqr ?_
     obtain ⟨hk97, h⟩ := Go.L.chk_some h
     refine S_index rfl rfl underlying36 zr38 h0_2 s33_91.toNat (Int.toNat_of_nonneg hk97.1).symm (idx_lt hk97) rfl ?_
     rintro p96 _ e96t0 hp96
     obtain ⟨_, _, rfl, rfl, ⟨_, _, rfl, rfl, ⟨_, _, rfl, ⟨e96v2, rfl, e96h2⟩, ⟨_, _, rfl, ⟨e96v3, rfl, e96h3⟩, ⟨e96v4, rfl, e96h4⟩⟩⟩⟩⟩ := Go.E.Rp.tree_open e96t0
     refine S_v (r_loadN rfl underlying38 rfl zr38 hp96 (hH.trans hL92.arg)) rfl ?_
     refine S_alloc zr38 rfl rfl hL92 ?_
     intro w98 b98 hL98 hle98 _
     refine S_storeBN 0 rfl rfl rfl zr38 hL98 rfl rfl (onc rfl (onc rfl (onc e96h2.one (onc e96h3.one (onc e96h4.one on0))))) ?_
     intro w99 hL99 hle99
     refine S_seqnil ?_
     refine W_seqr ?_
     refine S_alloc zr23 rfl rfl hL99 ?_
     intro w100 b100 hL100 hle100 _
     refine S_seqnil ?_
     refine W_seqr ?_
     refine S_v (r_loadBN 1 rfl underlying38 rfl zr38 hL100 rfl) rfl ?_
     refine S_pu 2 rfl ?_
     obtain ⟨hk101, h⟩ := Go.L.chk_some h
     refine S_v (r_ar64 rfl rfl rfl hk101) rfl ?_
     obtain ⟨x102, hb102, h⟩ := Go.L.bind_some h
     refine S_callL rfl rfl hL100 (hself _ _ (gz_le hH hL100) (e96h2.mono (gz_left hH)) (e96h3.mono (gz_left hH)) (e96h4.mono (gz_left hH)) hb102) ?_
     rintro _ w103 rfl hx103 hL103 hle103
     refine S_pu 4 rfl ?_
     refine S_storeBN 0 rfl rfl rfl zr23 hL103 rfl rfl (onc rfl (onc rfl on0)) ?_
     intro w104 hL104 hle104
     refine S_seqnil ?_
     refine W_seqr ?_
     refine S_v (r_loadBN 0 rfl underlying23 rfl zr23 hL104 rfl) rfl ?_
     refine S_v (r_build rfl (fun _ => bld23_z _)) rfl ?_
     refine S_v (r_neA rfl rfl eqg23 (eq23 _ _ _ _ )) rfl ?_
     refine S_seqnil ?_
     refine W_ifn rfl (fun hc105 => ?_) (fun hc105 => ?_)
     ·replace h := Go.L.ite_n hc105 h
      refine W_seqd (.q 0 (.q 1 (.tail 2))) mixed (by kernel_rfl) (fun w107 hx107 => ?_)
      have hL108 := hL104.call hx107
      refine D_v (r_loadBN 0 rfl underlying23 rfl zr23 hL108 rfl) rfl rfl ?_
      refine D_pu 1 rfl ?_
      refine D_tail (fun w109 hx109 => ?_)
      have hL110 := hL108.call hx109
      refine S_storeBN 2 rfl rfl rfl zr23 hL110 rfl rfl (onc rfl (onc rfl on0)) ?_
      intro w111 hL111 hle111
      refine S_seqnil ?_
      refine W_ret ?_
      refine At_block_ret ?_
      refine At_seq_ret ?_
      refine At_loop_ret ?_
      replace h := Go.L.Nxt.out h hm92
      refine At_block_ret ?_
      refine At_cut_ret ?_
      obtain rfl := Option.some.inj h
      refine At_got2 rfl (.tmp rfl) (.cell rfl underlying23 rfl zr23 (box_ptr (i := 2) hL111 rfl)) ?_
      exact ⟨hL111.ext, rfl⟩
     ·replace h := Go.L.ite_p hc105 h
      refine W_skip ?_
      refine At_block ?_
      refine At_seq ?_
      refine W_region ?_
      obtain ⟨hk113, h⟩ := Go.L.chk_some h
      refine S_v (r_ar64 rfl rfl rfl hk113) rfl ?_
      refine S_pu 1 rfl ?_
      refine S_nil ?_
      have hL114 := hL104.dropAt (i := 0) rfl
      have hL115 := hL114.dropAt (i := 0) rfl
      have h := Go.L.Nxt.again h hm92
      refine At_round (x102.1, (s33_91 + (1 : Int)), n92) (.cons rfl (.cons rfl (.cons rfl (.cons rfl (.cons rfl (.cons rfl (Sub.nil _))))))) ⟨hL115, h⟩ (Nat.lt_succ_self _)
    ·replace h := Go.L.ite_n hc94 h
     refine W_exit ?_
     refine At_seq_exit ?_
     refine At_loop_exit ?_
     replace h := Go.L.Nxt.out h hm92
     refine At_exit ?_
     refine At_cut s9_90 (.cons rfl (.cons rfl (Sub.nil _))) ⟨hL92, h⟩
   ·rintro s9_65 wr66 ⟨hL66, h⟩
    refine W_p 1 rfl ?_
    refine S_v (r_build rfl (fun _ => bld23_z _)) rfl ?_
    refine S_pu 1 rfl ?_
    refine S_storeBN 0 rfl rfl rfl zr23 hL66 rfl rfl (onc rfl (onc rfl on0)) ?_
    intro w118 hL118 hle118
    refine S_seqnil ?_
    refine W_ret ?_
    obtain rfl := Option.some.inj h
    refine At_got2 rfl (.tmp rfl) (.cell rfl underlying23 rfl zr23 (box_ptr (i := 0) hL118 rfl)) ?_
    exact ⟨hL118.ext, rfl⟩
theorem value_check_n_ok (n : Nat) : ∀ (w : World) (H : PH) (hH : Le H (hp w)) {a0 : Go.L.Pv} {a1 : Int} {a2 : Int} {v0_0 : Value} {v0_1 : Value} {v0_2 : Value} (h0_0 : Vec .byte H v0_0 (a0.f.2.2.1)) (h0_1 : Vec .st H v0_1 (a0.f.2.2.2.1)) (h0_2 : Vec .tree H v0_2 (a0.f.2.2.2.2)) {r : Int × (Int × Int)} (h : value_check_n n a0 a1 a2 = some r), Ok Tryz.prog 93 [.agg #[.int .i64 a0.f.1, .int .i64 a0.f.2.1, v0_0, v0_1, v0_2], .int .i64 a1, .int .i64 a2] w (fun v w' => Ext w w' ∧ v = .tuple #[.int .i64 r.1, .agg #[.int .i64 r.2.1, .int .i64 r.2.2]]) := by
 induction n with
 | zero => intros; rename_i h; cases h
 | succ n ih => exact @value_check_body_ok (value_check_n n) ih
theorem value_check_ok (w : World) (H : PH) (hH : Le H (hp w)) {a0 : Go.L.Pv} {a1 : Int} {a2 : Int} {v0_0 : Value} {v0_1 : Value} {v0_2 : Value} (h0_0 : Vec .byte H v0_0 (a0.f.2.2.1)) (h0_1 : Vec .st H v0_1 (a0.f.2.2.2.1)) (h0_2 : Vec .tree H v0_2 (a0.f.2.2.2.2)) {r : Int × (Int × Int)} (h : value_check a0 a1 a2 = some r) : Ok Tryz.prog 93 [.agg #[.int .i64 a0.f.1, .int .i64 a0.f.2.1, v0_0, v0_1, v0_2], .int .i64 a1, .int .i64 a2] w (fun v w' => Ext w w' ∧ v = .tuple #[.int .i64 r.1, .agg #[.int .i64 r.2.1, .int .i64 r.2.2]]) := value_check_n_ok 1000 w H hH h0_0 h0_1 h0_2 h
noncomputable def wire_Number_k1 (l12 : List UInt8) (s3_13 : Int) : Option ((List UInt8)) :=
 Go.L.chk (Go.E.Cap 1 (l12.length + ([(Go.L.u8 s3_13)]).length)) (some ((l12 ++ [(Go.L.u8 s3_13)])))
noncomputable def wire_Number_bl2 : (List UInt8) × Int → Option (((List UInt8) × Int) ⊕ ((List UInt8))) := fun ⟨l23, s3_24⟩ =>
 if (128 : Int) ≤ s3_24 then Go.L.chk (Go.E.Cap 1 (l23.length + ([((Go.L.u8 s3_24) ||| (128 : UInt8))]).length)) (some (Sum.inl ((l23 ++ [((Go.L.u8 s3_24) ||| (128 : UInt8))]), (s3_24 / 128)))) else Option.map Sum.inr (wire_Number_k1 l23 s3_24)
noncomputable def wire_Number_l2 (s : (List UInt8) × Int) : Option ((List UInt8)) := Go.L.run (wire_Number_bl2) s
noncomputable def wire_Number (a0 : Int) : Option ((List UInt8)) :=
 Go.L.chk ((0 ≤ (IntKind.u64.wrap ((IntKind.u64.wrap a0) * 2)) ∧ (IntKind.u64.wrap ((IntKind.u64.wrap a0) * 2)) < 2 ^ 64) ∧ (0 ≤ (IntKind.u64.wrap (a0 / 9223372036854775808)) ∧ (IntKind.u64.wrap (a0 / 9223372036854775808)) < 2 ^ 64)) (wire_Number_l2 (([] : List UInt8), (((IntKind.u64.wrap ((IntKind.u64.wrap a0) * 2)).toNat ^^^ (IntKind.u64.wrap (a0 / 9223372036854775808)).toNat : Nat) : Int)))
theorem wire_Number_ok (w : World) (H : PH) (hH : Le H (hp w)) {a0 : Int}   {r : (List UInt8)} (h : wire_Number a0 = some r) :
  Ok Tryz.prog 74 [.int .i64 a0] w (fun v w' => Ext w w' ∧ ∃ u0, v = u0 ∧ OwnH 5 .byte H w w' u0 (r)) := by
 refine Ok_enter (n := 27) [(0, .int .i64 a0)] func74 rfl rfl rfl rfl rfl ?_
 have hL := Lcl.start w
 refine W_pz 1 rfl ?_
 refine W_p 1 rfl ?_
 refine S_v (r_conv underlying3 underlying136 rfl rfl) rfl ?_
 refine S_v (r_shl (c := 1) (m := 2) rfl rfl rfl (by decide) rfl) rfl ?_
 refine S_pu 1 rfl ?_
 refine S_v (r_shr (c := 63) (m := 9223372036854775808) rfl rfl rfl (by decide)) rfl ?_
 refine S_v (r_conv underlying3 underlying136 rfl rfl) rfl ?_
 obtain ⟨hk1, h⟩ := Go.L.chk_some h
 refine S_v (r_bitU rfl rfl rfl hk1) rfl ?_
 refine S_pz 1 rfl ?_
 refine W_p 1 rfl ?_
 obtain ⟨hL2, hle2, he2⟩ := row_nilE .byte H 5 hL
 refine S_seqnil ?_
 refine W_cut (σ := (List UInt8) × Int × Value × (List Value)) (fun ⟨l12, s3_13, vl12, xsl12⟩ => [(3, .int .u64 s3_13), (4, vl12)]) (fun ⟨l12, s3_13, vl12, xsl12⟩ wr => InO w [.row (vl12) 5 1 (l12).length (xsl12)] wr fun Oz => Elems .byte (gz H w wr Oz) (l12) (xsl12) ∧ wire_Number_k1 l12 s3_13 = some r) ?_ ?_
 ·refine W_block ?_
  obtain ⟨n25, h⟩ := Go.L.run_some h
  refine W_loop (σ := (List UInt8) × Int × Value × (List Value) × Nat) (fun ⟨l23, s3_24, vl23, xsl23, n⟩ => [(3, .int .u64 s3_24), (4, vl23)]) (fun ⟨l23, s3_24, vl23, xsl23, n⟩ wr => InO w [.row (vl23) 5 1 (l23).length (xsl23)] wr fun Oz => Elems .byte (gz H w wr Oz) (l23) (xsl23) ∧ Go.L.itr wire_Number_bl2 n (l23, s3_24) = some r) (fun ⟨l23, s3_24, vl23, xsl23, n⟩ => n) (([] : List UInt8), (((IntKind.u64.wrap ((IntKind.u64.wrap a0) * 2)).toNat ^^^ (IntKind.u64.wrap (a0 / 9223372036854775808)).toNat : Nat) : Int), .slice none 0 0, [], n25) (.cons rfl (.cons rfl (Sub.nil _))) ⟨hL2, he2, h⟩ ?_
  rintro ⟨l23, s3_24, vl23, xsl23, nn25⟩ wr25 ⟨hL25, hel23, h⟩
  obtain ⟨n25, e25, rfl, h, hm25⟩ := Go.L.itr_some h
  refine W_seq ?_
  refine W_pz 2 rfl ?_
  refine W_if rfl (fun hc27 => ?_) (fun hc27 => ?_)
  ·replace h := Go.L.ite_p hc27 h
   refine W_skip ?_
   refine At_seq ?_
   refine W_seq ?_
   refine W_block ?_
   refine W_region ?_
   refine S_pu 2 rfl ?_
   refine S_v (r_conv underlying136 underlying5 rfl (conv_64_u8 _)) rfl ?_
   refine S_v (r_bit8 (b := 128) rfl rfl rfl) rfl ?_
   refine S_litE (r := .byte) (l := [((Go.L.u8 s3_24) ||| (128 : UInt8))]) rfl (fun _ => bsl35_1 _ _) rfl (show 1 ≤ 9223372036854775807 by decide) hH hL25 (.c1 rfl .nil) ?_
   intro v29 w29 hx29 hL29 hle29 hv29
   replace hel23 := hel23.mono (gz_mono hH hle29)
   obtain ⟨hk31, h⟩ := Go.L.chk_some h
   refine S_appE (r := .byte) (l := l23) (m := [((Go.L.u8 s3_24) ||| (128 : UInt8))]) 0 rfl rfl underlying35 zr5 rfl (by decide) rfl hH hL29 rfl hel23 hv29 hk31 ?_
   intro v30 w30 xs30 hL30 hle30 he30
   replace hv29 := hv29.mono (gz_mono hH hle30)
   refine S_pu 1 rfl ?_
   refine S_nil ?_
   refine At_block ?_
   refine At_seq ?_
   refine W_region ?_
   refine S_pu 1 rfl ?_
   refine S_v (r_shr (c := 7) (m := 128) rfl rfl rfl (by decide)) rfl ?_
   refine S_pu 1 rfl ?_
   refine S_nil ?_
   have h := Go.L.Nxt.again h hm25
   refine At_round ((l23 ++ [((Go.L.u8 s3_24) ||| (128 : UInt8))]), (s3_24 / 128), v30, xs30, n25) (.cons rfl (.cons rfl (Sub.nil _))) ⟨hL30, he30, h⟩ (Nat.lt_succ_self _)
  ·replace h := Go.L.ite_n hc27 h
   refine W_exit ?_
   refine At_seq_exit ?_
   refine At_loop_exit ?_
   replace h := Go.L.Nxt.out h hm25
   refine At_exit ?_
   refine At_cut (l23, s3_24, vl23, xsl23) (.cons rfl (.cons rfl (Sub.nil _))) ⟨hL25, hel23, h⟩
 ·rintro ⟨l12, s3_13, vl12, xsl12⟩ wr14 ⟨hL14, hel12, h⟩
  refine W_p 2 rfl ?_
  refine S_v (r_conv underlying136 underlying5 rfl (conv_64_u8 _)) rfl ?_
  refine S_litE (r := .byte) (l := [(Go.L.u8 s3_13)]) rfl (fun _ => bsl35_1 _ _) rfl (show 1 ≤ 9223372036854775807 by decide) hH hL14 (.c1 rfl .nil) ?_
  intro v34 w34 hx34 hL34 hle34 hv34
  replace hel12 := hel12.mono (gz_mono hH hle34)
  obtain ⟨hk36, h⟩ := Go.L.chk_some h
  refine S_appE (r := .byte) (l := l12) (m := [(Go.L.u8 s3_13)]) 0 rfl rfl underlying35 zr5 rfl (by decide) rfl hH hL34 rfl hel12 hv34 hk36 ?_
  intro v35 w35 xs35 hL35 hle35 he35
  replace hv34 := hv34.mono (gz_mono hH hle35)
  refine S_pz 1 rfl ?_
  refine W_ret ?_
  obtain rfl := Option.some.inj h
  refine At_body rfl rfl ?_
  exact ⟨hL35.ext, _, rfl, (hL35.ownH hH (i := 0) rfl he35)⟩
noncomputable def wire_Chunk (a0 : List UInt8) : Option ((List UInt8)) :=
 Option.bind (wire_Number (a0.length : Int)) (fun x1 => Go.L.chk (Go.E.Cap 1 (x1.length + a0.length)) (some ((x1 ++ a0))))
theorem wire_Chunk_ok (w : World) (H : PH) (hH : Le H (hp w)) {a0 : List UInt8} {v0_0 : Value} (h0_0 : Vec .byte H v0_0 (a0)) {r : (List UInt8)} (h : wire_Chunk a0 = some r) :
  Ok Tryz.prog 109 [v0_0] w (fun v w' => Ext w w' ∧ ∃ u0, v = u0 ∧ OwnH 5 .byte H w w' u0 (r)) := by
 refine Ok_enter (n := 8) [(0, v0_0)] func109 rfl rfl rfl rfl rfl ?_
 have hL := Lcl.start w
 refine W_pz 1 rfl ?_
 refine W_p 1 rfl ?_
 refine S_v (r_len rfl underlying35 h0_0) rfl ?_
 obtain ⟨x1, hb1, h⟩ := Go.L.bind_some h
 refine S_callL rfl rfl hL (wire_Number_ok _ _ (gz_le hH hL) hb1) ?_
 rintro u2_0 w2 ⟨_, rfl, hR2_0⟩ hx2 hL2 hle2
 obtain ⟨xs2, hL2, hle2, he2⟩ := hR2_0.take hH hL hx2
 refine S_pu 1 rfl ?_
 obtain ⟨hk4, h⟩ := Go.L.chk_some h
 refine S_appE (r := .byte) (l := x1) (m := a0) 0 rfl rfl underlying35 zr5 rfl (by decide) rfl hH hL2 rfl he2 (h0_0.mono (gz_left hH)) hk4 ?_
 intro v3 w3 xs3 hL3 hle3 he3
 refine S_pz 1 rfl ?_
 refine W_ret ?_
 obtain rfl := Option.some.inj h
 refine At_body rfl rfl ?_
 exact ⟨hL3.ext, _, rfl, (hL3.ownH hH (i := 0) rfl he3)⟩
noncomputable def value_encode_body_k3 (a0 : Go.L.Pv) (s34_107 : Int) (self : Go.L.Pv → Option ((List UInt8))) (l128 : List UInt8) : Option (((List UInt8) × Int) ⊕ ((List UInt8))) :=
 Option.bind (self (a0.f.2.2.2.2.getD s34_107.toNat default)) (fun x143 => Go.L.chk (Go.E.Cap 1 (l128.length + x143.length)) (Go.L.chk (Go.L.I64 (s34_107 + (1 : Int))) (some (Sum.inl ((l128 ++ x143), (s34_107 + (1 : Int)))))))
noncomputable def value_encode_body_k1 (l77 : List UInt8) : Option ((List UInt8)) :=
 some (l77)
noncomputable def value_encode_body_bl2 (a0 : Go.L.Pv) (self : Go.L.Pv → Option ((List UInt8))) : (List UInt8) × Int → Option (((List UInt8) × Int) ⊕ ((List UInt8))) := fun ⟨l106, s34_107⟩ =>
 if s34_107 < (a0.f.2.2.2.2.length : Int) then Go.L.chk (0 ≤ s34_107 ∧ s34_107 < (a0.f.2.2.2.2.length : Int)) (if a0.f.1 = (4 : Int) then Go.L.chk (0 ≤ s34_107 ∧ s34_107 < (a0.f.2.2.2.1.length : Int)) (Go.L.chk ((a0.f.2.2.2.1.getD s34_107.toNat default).length ≤ 9223372036854775807) (Option.bind (wire_Chunk (a0.f.2.2.2.1.getD s34_107.toNat default)) (fun x137 => Go.L.chk (Go.E.Cap 1 (l106.length + x137.length)) ((value_encode_body_k3 a0 s34_107 self) (l106 ++ x137))))) else (value_encode_body_k3 a0 s34_107 self) l106) else Option.map Sum.inr (value_encode_body_k1 l106)
noncomputable def value_encode_body_l2 (a0 : Go.L.Pv) (self : Go.L.Pv → Option ((List UInt8))) (s : (List UInt8) × Int) : Option ((List UInt8)) := Go.L.run (value_encode_body_bl2 a0 self) s
noncomputable def value_encode_body (self : Go.L.Pv → Option ((List UInt8))) (a0 : Go.L.Pv) : Option ((List UInt8)) :=
 Option.bind (wire_Number a0.f.1) (fun x2 => if a0.f.1 = (1 : Int) then Option.bind (wire_Number a0.f.2.1) (fun x6 => Go.L.chk (Go.E.Cap 1 (x2.length + x6.length)) (some ((x2 ++ x6)))) else (if a0.f.1 = (2 : Int) then Option.bind (wire_Chunk a0.f.2.2.1) (fun x13 => Go.L.chk (Go.E.Cap 1 (x2.length + x13.length)) (some ((x2 ++ x13)))) else Option.bind (wire_Number (a0.f.2.2.2.2.length : Int)) (fun x18 => Go.L.chk (Go.E.Cap 1 (x2.length + x18.length)) ((value_encode_body_l2 a0 self) ((x2 ++ x18), (0 : Int))))))
noncomputable def value_encode_n : Nat → Go.L.Pv → Option ((List UInt8))
 | 0 => fun _ => none
 | n + 1 => value_encode_body (value_encode_n n)
noncomputable def value_encode : Go.L.Pv → Option ((List UInt8)) := value_encode_n 1000
theorem value_encode_body_ok (self : Go.L.Pv → Option ((List UInt8))) (hself : ∀ (w : World) (H : PH) (hH : Le H (hp w)) {a0 : Go.L.Pv} {v0_0 : Value} {v0_1 : Value} {v0_2 : Value} (h0_0 : Vec .byte H v0_0 (a0.f.2.2.1)) (h0_1 : Vec .st H v0_1 (a0.f.2.2.2.1)) (h0_2 : Vec .tree H v0_2 (a0.f.2.2.2.2)) {r : (List UInt8)} (h : self a0 = some r), Ok Tryz.prog 94 [.agg #[.int .i64 a0.f.1, .int .i64 a0.f.2.1, v0_0, v0_1, v0_2]] w (fun v w' => Ext w w' ∧ ∃ u0, v = u0 ∧ OwnH 5 .byte H w w' u0 (r))) (w : World) (H : PH) (hH : Le H (hp w)) {a0 : Go.L.Pv} {v0_0 : Value} {v0_1 : Value} {v0_2 : Value} (h0_0 : Vec .byte H v0_0 (a0.f.2.2.1)) (h0_1 : Vec .st H v0_1 (a0.f.2.2.2.1)) (h0_2 : Vec .tree H v0_2 (a0.f.2.2.2.2)) {r : (List UInt8)} (h : value_encode_body self a0 = some r) :
  Ok Tryz.prog 94 [.agg #[.int .i64 a0.f.1, .int .i64 a0.f.2.1, v0_0, v0_1, v0_2]] w (fun v w' => Ext w w' ∧ ∃ u0, v = u0 ∧ OwnH 5 .byte H w w' u0 (r)) := by
 refine Ok_enter (n := 57) [(0, .agg #[.int .i64 a0.f.1, .int .i64 a0.f.2.1, v0_0, v0_1, v0_2])] func94 rfl rfl rfl rfl rfl ?_
 have hL := Lcl.start w
 refine W_seqr ?_
 refine S_box (t := 38) rfl rfl rfl hL ?_
 intro w1 b1 hL1 hle1 _
 refine S_pz 1 rfl ?_
 refine W_seqr ?_
 refine S_v (r_field rfl underlying38 rfl zr3 (by decide)) rfl ?_
 refine S_v (r_loadB1 0 rfl underlying3 rfl hL1 rfl rfl) rfl ?_
 obtain ⟨x2, hb2, h⟩ := Go.L.bind_some h
 refine S_callL rfl rfl hL1 (wire_Number_ok _ _ (gz_le hH hL1) hb2) ?_
 rintro u3_0 w3 ⟨_, rfl, hR3_0⟩ hx3 hL3 hle3
 obtain ⟨xs3, hL3, hle3, he3⟩ := hR3_0.take hH hL1 hx3
 refine S_pz 1 rfl ?_
 refine W_seq ?_
 refine W_seqr ?_
 refine S_v (r_field rfl underlying38 rfl zr3 (by decide)) rfl ?_
 refine S_v (r_loadB1 1 rfl underlying3 rfl hL3 rfl rfl) rfl ?_
 refine S_seqnil ?_
 refine W_block ?_
 refine W_pz 2 rfl ?_
 refine W_if rfl (fun hc4 => ?_) (fun hc4 => ?_)
 ·replace h := Go.L.ite_p hc4 h
  refine W_p 1 rfl ?_
  refine S_v (r_field rfl underlying38 rfl zr3 (by decide)) rfl ?_
  refine S_v (r_loadB1 1 rfl underlying3 rfl hL3 rfl rfl) rfl ?_
  obtain ⟨x6, hb6, h⟩ := Go.L.bind_some h
  refine S_callL rfl rfl hL3 (wire_Number_ok _ _ (gz_le hH hL3) hb6) ?_
  rintro u7_0 w7 ⟨_, rfl, hR7_0⟩ hx7 hL7 hle7
  have hv7_0 := hR7_0.vecG hH hL3 hx7
  replace he3 := he3.mono (gz_mono hH hle7)
  obtain ⟨hk9, h⟩ := Go.L.chk_some h
  refine S_appE (r := .byte) (l := x2) (m := x6) 0 rfl rfl underlying35 zr5 rfl (by decide) rfl hH hL7 rfl he3 hv7_0 hk9 ?_
  intro v8 w8 xs8 hL8 hle8 he8
  replace hv7_0 := hv7_0.mono (gz_mono hH hle8)
  refine S_pz 1 rfl ?_
  refine W_ret ?_
  refine At_block_ret ?_
  refine At_seq_ret ?_
  obtain rfl := Option.some.inj h
  refine At_body rfl rfl ?_
  exact ⟨hL8.ext, _, rfl, (hL8.ownH hH (i := 0) rfl he8)⟩
 ·replace h := Go.L.ite_n hc4 h
  refine W_pz 2 rfl ?_
  refine W_if rfl (fun hc11 => ?_) (fun hc11 => ?_)
  ·replace h := Go.L.ite_p hc11 h
   refine W_p 1 rfl ?_
   refine S_v (r_field rfl underlying38 rfl zr35 (by decide)) rfl ?_
   refine S_v (r_loadB1 1 rfl underlying35 rfl hL3 rfl rfl) rfl ?_
   obtain ⟨x13, hb13, h⟩ := Go.L.bind_some h
   refine S_callL rfl rfl hL3 (wire_Chunk_ok _ _ (gz_le hH hL3) (h0_0.mono (gz_left hH)) hb13) ?_
   rintro u14_0 w14 ⟨_, rfl, hR14_0⟩ hx14 hL14 hle14
   have hv14_0 := hR14_0.vecG hH hL3 hx14
   replace he3 := he3.mono (gz_mono hH hle14)
   obtain ⟨hk16, h⟩ := Go.L.chk_some h
   refine S_appE (r := .byte) (l := x2) (m := x13) 0 rfl rfl underlying35 zr5 rfl (by decide) rfl hH hL14 rfl he3 hv14_0 hk16 ?_
   intro v15 w15 xs15 hL15 hle15 he15
   replace hv14_0 := hv14_0.mono (gz_mono hH hle15)
   refine S_pz 1 rfl ?_
   refine W_ret ?_
   refine At_block_ret ?_
   refine At_seq_ret ?_
   obtain rfl := Option.some.inj h
   refine At_body rfl rfl ?_
   exact ⟨hL15.ext, _, rfl, (hL15.ownH hH (i := 0) rfl he15)⟩
  ·replace h := Go.L.ite_n hc11 h
   refine W_skip ?_
   refine At_block ?_
   refine At_seq ?_
   refine W_p 1 rfl ?_
   refine S_v (r_field rfl underlying38 rfl zr36 (by decide)) rfl ?_
   refine S_v (r_loadB1 1 rfl underlying36 rfl hL3 rfl rfl) rfl ?_
   refine S_v (r_len rfl underlying36 h0_2) rfl ?_
   obtain ⟨x18, hb18, h⟩ := Go.L.bind_some h
   refine S_callL rfl rfl hL3 (wire_Number_ok _ _ (gz_le hH hL3) hb18) ?_
   rintro u19_0 w19 ⟨_, rfl, hR19_0⟩ hx19 hL19 hle19
   have hv19_0 := hR19_0.vecG hH hL3 hx19
   replace he3 := he3.mono (gz_mono hH hle19)
   obtain ⟨hk21, h⟩ := Go.L.chk_some h
   refine S_appE (r := .byte) (l := x2) (m := x18) 0 rfl rfl underlying35 zr5 rfl (by decide) rfl hH hL19 rfl he3 hv19_0 hk21 ?_
   intro v20 w20 xs20 hL20 hle20 he20
   replace hv19_0 := hv19_0.mono (gz_mono hH hle20)
   refine S_pz 1 rfl ?_
   refine W_cut (σ := (List UInt8) × Value × (List Value)) (fun ⟨l77, vl77, xsl77⟩ => [(3, vl77)]) (fun ⟨l77, vl77, xsl77⟩ wr => InO w [.row (vl77) 5 1 (l77).length (xsl77), .box b1 [.int .i64 a0.f.1, .int .i64 a0.f.2.1, v0_0, v0_1, v0_2] 38] wr fun Oz => Elems .byte (gz H w wr Oz) (l77) (xsl77) ∧ value_encode_body_k1 l77 = some r) ?_ ?_
   ·refine W_seqr ?_
    refine S_v (r_field rfl underlying38 rfl zr36 (by decide)) rfl ?_
    refine S_v (r_loadB1 1 rfl underlying36 rfl hL20 rfl rfl) rfl ?_
    refine S_v (r_len rfl underlying36 h0_2) rfl ?_
    refine S_pz 1 rfl ?_
    refine W_block ?_
    obtain ⟨n108, h⟩ := Go.L.run_some h
    refine W_loop (σ := (List UInt8) × Int × Value × (List Value) × Nat) (fun ⟨l106, s34_107, vl106, xsl106, n⟩ => [(1, .pointer (some ⟨b1, 0, none⟩)), (3, vl106), (32, v0_2), (33, .int .i64 (a0.f.2.2.2.2.length : Int)), (34, .int .i64 s34_107)]) (fun ⟨l106, s34_107, vl106, xsl106, n⟩ wr => InO w [.row (vl106) 5 1 (l106).length (xsl106), .box b1 [.int .i64 a0.f.1, .int .i64 a0.f.2.1, v0_0, v0_1, v0_2] 38] wr fun Oz => Elems .byte (gz H w wr Oz) (l106) (xsl106) ∧ Go.L.itr (value_encode_body_bl2 a0 self) n (l106, s34_107) = some r) (fun ⟨l106, s34_107, vl106, xsl106, n⟩ => n) ((x2 ++ x18), (0 : Int), v20, xs20, n108) (.cons rfl (.cons rfl (.cons rfl (.cons rfl (.cons rfl (Sub.nil _)))))) ⟨hL20, he20, h⟩ ?_
    rintro ⟨l106, s34_107, vl106, xsl106, nn108⟩ wr108 ⟨hL108, hel106, h⟩
    obtain ⟨n108, e108, rfl, h, hm108⟩ := Go.L.itr_some h
    refine W_pz 1 rfl ?_
    refine W_seq ?_
    refine W_if rfl (fun hc110 => ?_) (fun hc110 => ?_)
    ·replace h := Go.L.ite_p hc110 h
     refine W_skip ?_
     refine At_seq ?_
     refine W_seq ?_
     refine W_block ?_
     refine W_p 1 rfl ?_
     obtain ⟨hk113, h⟩ := Go.L.chk_some h
     refine S_index rfl rfl underlying36 zr38 h0_2 s34_107.toNat (Int.toNat_of_nonneg hk113.1).symm (idx_lt hk113) rfl ?_
     rintro p112 _ e112t0 hp112
     obtain ⟨_, _, rfl, rfl, ⟨_, _, rfl, rfl, ⟨_, _, rfl, ⟨e112v2, rfl, e112h2⟩, ⟨_, _, rfl, ⟨e112v3, rfl, e112h3⟩, ⟨e112v4, rfl, e112h4⟩⟩⟩⟩⟩ := Go.E.Rp.tree_open e112t0
     refine S_v (r_loadN rfl underlying38 rfl zr38 hp112 (hH.trans hL108.arg)) rfl ?_
     refine S_alloc zr38 rfl rfl hL108 ?_
     intro w114 b114 hL114 hle114 _
     replace hel106 := hel106.mono (gz_mono hH hle114)
     refine S_pu 1 rfl ?_
     refine S_storeBN 0 rfl rfl rfl zr38 hL114 rfl rfl (onc rfl (onc rfl (onc e112h2.one (onc e112h3.one (onc e112h4.one on0))))) ?_
     intro w115 hL115 hle115
     replace hel106 := hel106.mono (gz_mono hH hle115)
     refine S_seqnil ?_
     refine W_cut (σ := (List UInt8) × Value × (List Value)) (fun ⟨l128, vl128, xsl128⟩ => [(1, .pointer (some ⟨b1, 0, none⟩)), (3, vl128), (5, .pointer (some ⟨b114, 0, none⟩)), (32, v0_2), (33, .int .i64 (a0.f.2.2.2.2.length : Int)), (34, .int .i64 s34_107)]) (fun ⟨l128, vl128, xsl128⟩ wr => InO w [.box b114 [.int .i64 ((a0.f.2.2.2.2.getD s34_107.toNat default).f.1), .int .i64 ((a0.f.2.2.2.2.getD s34_107.toNat default).f.2.1), e112v2, e112v3, e112v4] 38, .row (vl128) 5 1 (l128).length (xsl128), .box b1 [.int .i64 a0.f.1, .int .i64 a0.f.2.1, v0_0, v0_1, v0_2] 38] wr fun Oz => Elems .byte (gz H w wr Oz) (l128) (xsl128) ∧ (value_encode_body_k3 a0 s34_107 self) l128 = some e108) ?_ ?_
     ·refine W_seqr ?_
      refine S_v (r_field rfl underlying38 rfl zr3 (by decide)) rfl ?_
      refine S_v (r_loadB1 2 rfl underlying3 rfl hL115 rfl rfl) rfl ?_
      refine S_pz 1 rfl ?_
      refine W_if rfl (fun hc131 => ?_) (fun hc131 => ?_)
      ·replace h := Go.L.ite_p hc131 h
       refine W_region ?_
       refine S_pu 1 rfl ?_
       refine S_v (r_field rfl underlying38 rfl zr30 (by decide)) rfl ?_
       refine S_v (r_loadB1 2 rfl underlying30 rfl hL115 rfl rfl) rfl ?_
       refine S_pu 1 rfl ?_
       obtain ⟨hk134, h⟩ := Go.L.chk_some h
       refine S_index rfl rfl underlying30 zr9 h0_1 s34_107.toNat (Int.toNat_of_nonneg hk134.1).symm (idx_lt hk134) rfl ?_
       rintro p133 _ rfl hp133
       refine S_v (r_load1 rfl underlying9 rfl hp133 (hH.trans hL115.arg)) rfl ?_
       obtain ⟨hk136, h⟩ := Go.L.chk_some h
       refine S_s2b (H := H) rfl underlying9 underlying35 underlying5 rfl hL115 hk136 ?_
       intro v135 w135 hx135 hL135 hle135 hv135
       replace hel106 := hel106.mono (gz_mono hH hle135)
       obtain ⟨x137, hb137, h⟩ := Go.L.bind_some h
       refine S_callL rfl rfl hL135 (wire_Chunk_ok _ _ (gz_le hH hL135) hv135 hb137) ?_
       rintro u138_0 w138 ⟨_, rfl, hR138_0⟩ hx138 hL138 hle138
       have hv138_0 := hR138_0.vecG hH hL135 hx138
       replace hel106 := hel106.mono (gz_mono hH hle138)
       replace hv135 := hv135.mono (gz_mono hH hle138)
       obtain ⟨hk140, h⟩ := Go.L.chk_some h
       refine S_appE (r := .byte) (l := l106) (m := x137) 1 rfl rfl underlying35 zr5 rfl (by decide) rfl hH hL138 rfl hel106 hv138_0 hk140 ?_
       intro v139 w139 xs139 hL139 hle139 he139
       replace hv135 := hv135.mono (gz_mono hH hle139)
       replace hv138_0 := hv138_0.mono (gz_mono hH hle139)
       refine S_pu 1 rfl ?_
       refine S_nil ?_
       refine At_cut ((l106 ++ x137), v139, xs139) (.cons rfl (.cons rfl (.cons rfl (.cons rfl (.cons rfl (.cons rfl (Sub.nil _))))))) ⟨hL139, he139, h⟩
      ·replace h := Go.L.ite_n hc131 h
       refine W_skip ?_
       refine At_cut (l106, vl106, xsl106) (.cons rfl (.cons rfl (.cons rfl (.cons rfl (.cons rfl (.cons rfl (Sub.nil _))))))) ⟨hL115, hel106, h⟩
     ·rintro ⟨l128, vl128, xsl128⟩ wr129 ⟨hL129, hel128, h⟩
      refine W_region ?_
      refine S_pu 1 rfl ?_
      refine S_v (r_loadBN 0 rfl underlying38 rfl zr38 hL129 rfl) rfl ?_
      obtain ⟨x143, hb143, h⟩ := Go.L.bind_some h
      refine S_callL rfl rfl hL129 (hself _ _ (gz_le hH hL129) (e112h2.mono (gz_left hH)) (e112h3.mono (gz_left hH)) (e112h4.mono (gz_left hH)) hb143) ?_
      rintro u144_0 w144 ⟨_, rfl, hR144_0⟩ hx144 hL144 hle144
      have hv144_0 := hR144_0.vecG hH hL129 hx144
      replace hel128 := hel128.mono (gz_mono hH hle144)
      obtain ⟨hk146, h⟩ := Go.L.chk_some h
      refine S_appE (r := .byte) (l := l128) (m := x143) 1 rfl rfl underlying35 zr5 rfl (by decide) rfl hH hL144 rfl hel128 hv144_0 hk146 ?_
      intro v145 w145 xs145 hL145 hle145 he145
      replace hv144_0 := hv144_0.mono (gz_mono hH hle145)
      refine S_pu 1 rfl ?_
      refine S_nil ?_
      refine At_block ?_
      refine At_seq ?_
      refine W_region ?_
      obtain ⟨hk147, h⟩ := Go.L.chk_some h
      refine S_v (r_ar64 rfl rfl rfl hk147) rfl ?_
      refine S_pu 1 rfl ?_
      refine S_nil ?_
      have hL148 := hL145.dropAt (i := 0) rfl
      replace he145 := he145.mono (gz_mono hH (fz_dropAt (i := 0) rfl))
      have h := Go.L.Nxt.again h hm108
      refine At_round ((l128 ++ x143), (s34_107 + (1 : Int)), v145, xs145, n108) (.cons rfl (.cons rfl (.cons rfl (.cons rfl (.cons rfl (Sub.nil _)))))) ⟨hL148, he145, h⟩ (Nat.lt_succ_self _)
    ·replace h := Go.L.ite_n hc110 h
     refine W_exit ?_
     refine At_seq_exit ?_
     refine At_loop_exit ?_
     replace h := Go.L.Nxt.out h hm108
     refine At_exit ?_
     refine At_cut (l106, vl106, xsl106) (.cons rfl (Sub.nil _)) ⟨hL108, hel106, h⟩
   ·rintro ⟨l77, vl77, xsl77⟩ wr78 ⟨hL78, hel77, h⟩
    refine W_pz 2 rfl ?_
    refine W_ret ?_
    obtain rfl := Option.some.inj h
    refine At_body rfl rfl ?_
    exact ⟨hL78.ext, _, rfl, (hL78.ownH hH (i := 0) rfl hel77)⟩
theorem value_encode_n_ok (n : Nat) : ∀ (w : World) (H : PH) (hH : Le H (hp w)) {a0 : Go.L.Pv} {v0_0 : Value} {v0_1 : Value} {v0_2 : Value} (h0_0 : Vec .byte H v0_0 (a0.f.2.2.1)) (h0_1 : Vec .st H v0_1 (a0.f.2.2.2.1)) (h0_2 : Vec .tree H v0_2 (a0.f.2.2.2.2)) {r : (List UInt8)} (h : value_encode_n n a0 = some r), Ok Tryz.prog 94 [.agg #[.int .i64 a0.f.1, .int .i64 a0.f.2.1, v0_0, v0_1, v0_2]] w (fun v w' => Ext w w' ∧ ∃ u0, v = u0 ∧ OwnH 5 .byte H w w' u0 (r)) := by
 induction n with
 | zero => intros; rename_i h; cases h
 | succ n ih => exact @value_encode_body_ok (value_encode_n n) ih
theorem value_encode_ok (w : World) (H : PH) (hH : Le H (hp w)) {a0 : Go.L.Pv} {v0_0 : Value} {v0_1 : Value} {v0_2 : Value} (h0_0 : Vec .byte H v0_0 (a0.f.2.2.1)) (h0_1 : Vec .st H v0_1 (a0.f.2.2.2.1)) (h0_2 : Vec .tree H v0_2 (a0.f.2.2.2.2)) {r : (List UInt8)} (h : value_encode a0 = some r) : Ok Tryz.prog 94 [.agg #[.int .i64 a0.f.1, .int .i64 a0.f.2.1, v0_0, v0_1, v0_2]] w (fun v w' => Ext w w' ∧ ∃ u0, v = u0 ∧ OwnH 5 .byte H w w' u0 (r)) := value_encode_n_ok 1000 w H hH h0_0 h0_1 h0_2 h
noncomputable def value_Encode (a0 : Go.L.Pv) : Option ((List UInt8) × (Int × Int)) :=
 Option.bind (value_check a0 (0 : Int) (1 : Int)) (fun x3 => if x3.2.1 = (0 : Int) ∧ x3.2.2 = (0 : Int) then Option.bind (value_encode a0) (fun x15 => if (4000 : Int) < (x15.length : Int) then Option.bind (value_fault (14 : Int) (-1 : Int)) (fun x19 => some ([], (x19.1, x19.2))) else some (x15, ((0 : Int), (0 : Int)))) else some ([], (x3.2.1, x3.2.2)))
theorem value_Encode_ok (w : World) (H : PH) (hH : Le H (hp w)) {a0 : Go.L.Pv} {v0_0 : Value} {v0_1 : Value} {v0_2 : Value} (h0_0 : Vec .byte H v0_0 (a0.f.2.2.1)) (h0_1 : Vec .st H v0_1 (a0.f.2.2.2.1)) (h0_2 : Vec .tree H v0_2 (a0.f.2.2.2.2)) {r : (List UInt8) × (Int × Int)} (h : value_Encode a0 = some r) :
  Ok Tryz.prog 55 [.agg #[.int .i64 a0.f.1, .int .i64 a0.f.2.1, v0_0, v0_1, v0_2]] w (fun v w' => Ext w w' ∧ ∃ u0, v = .tuple #[u0, .agg #[.int .i64 r.2.1, .int .i64 r.2.2]] ∧ OwnH 5 .byte H w w' u0 (r.1)) := by
 refine Ok_enter (n := 24) [(0, .agg #[.int .i64 a0.f.1, .int .i64 a0.f.2.1, v0_0, v0_1, v0_2])] func55 rfl rfl rfl rfl rfl ?_
 have hL := Lcl.start w
 refine W_seqr ?_
 refine S_box (t := 38) rfl rfl rfl hL ?_
 intro w1 b1 hL1 hle1 _
 refine S_pu 1 rfl ?_
 refine S_alloc zr23 rfl rfl hL1 ?_
 intro w2 b2 hL2 hle2 _
 refine S_seqnil ?_
 refine W_seq ?_
 refine W_seqr ?_
 refine S_v (r_loadBN 1 rfl underlying38 rfl zr38 hL2 rfl) rfl ?_
 obtain ⟨x3, hb3, h⟩ := Go.L.bind_some h
 refine S_callL rfl rfl hL2 (value_check_ok (a0 := a0) _ _ (gz_le hH hL2) (h0_0.mono (gz_left hH)) (h0_1.mono (gz_left hH)) (h0_2.mono (gz_left hH)) hb3) ?_
 rintro _ w4 rfl hx4 hL4 hle4
 refine S_pu 3 rfl ?_
 refine S_alloc zr23 rfl rfl hL4 ?_
 intro w5 b5 hL5 hle5 _
 refine S_pu 1 rfl ?_
 refine S_storeBN 0 rfl rfl rfl zr23 hL5 rfl rfl (onc rfl (onc rfl on0)) ?_
 intro w6 hL6 hle6
 refine S_seqnil ?_
 refine W_seqr ?_
 refine S_v (r_loadBN 0 rfl underlying23 rfl zr23 hL6 rfl) rfl ?_
 refine S_v (r_build rfl (fun _ => bld23_z _)) rfl ?_
 refine S_v (r_neA rfl rfl eqg23 (eq23 _ _ _ _ )) rfl ?_
 refine S_seqnil ?_
 refine W_ifn rfl (fun hc7 => ?_) (fun hc7 => ?_)
 ·replace h := Go.L.ite_n hc7 h
  refine W_seqd (.q 0 (.q 1 (.tail 2))) mixed (by kernel_rfl) (fun w9 hx9 => ?_)
  have hL10 := hL6.call hx9
  refine D_v (r_loadBN 0 rfl underlying23 rfl zr23 hL10 rfl) rfl rfl ?_
  refine D_pu 1 rfl ?_
  refine D_tail (fun w11 hx11 => ?_)
  have hL12 := hL10.call hx11
  refine S_storeBN 1 rfl rfl rfl zr23 hL12 rfl rfl (onc rfl (onc rfl on0)) ?_
  intro w13 hL13 hle13
  refine S_seqnil ?_
  refine W_ret ?_
  refine At_seq_ret ?_
  obtain rfl := Option.some.inj h
  refine At_got2 rfl (.tmp rfl) (.cell rfl underlying23 rfl zr23 (box_ptr (i := 1) hL13 rfl)) ?_
  exact ⟨hL13.ext, _, rfl, OwnH.nil⟩
 ·replace h := Go.L.ite_p hc7 h
  refine W_skip ?_
  refine At_seq ?_
  refine W_seqr ?_
  refine S_v (r_loadBN 2 rfl underlying38 rfl zr38 hL6 rfl) rfl ?_
  obtain ⟨x15, hb15, h⟩ := Go.L.bind_some h
  refine S_callL rfl rfl hL6 (value_encode_ok (a0 := a0) _ _ (gz_le hH hL6) (h0_0.mono (gz_left hH)) (h0_1.mono (gz_left hH)) (h0_2.mono (gz_left hH)) hb15) ?_
  rintro u16_0 w16 ⟨_, rfl, hR16_0⟩ hx16 hL16 hle16
  obtain ⟨xs16, hL16, hle16, he16⟩ := hR16_0.take hH hL6 hx16
  refine S_pz 1 rfl ?_
  refine W_seq ?_
  refine W_p 1 rfl ?_
  refine S_v (r_lenR (i := 0) rfl underlying35 hL16 rfl) rfl ?_
  refine S_pz 1 rfl ?_
  refine W_if rfl (fun hc17 => ?_) (fun hc17 => ?_)
  ·replace h := Go.L.ite_p hc17 h
   refine W_seqr ?_
   obtain ⟨x19, hb19, h⟩ := Go.L.bind_some h
   refine S_callL rfl rfl hL16 (value_fault_ok _ _ (gz_le hH hL16) hb19) ?_
   rintro _ w20 rfl hx20 hL20 hle20
   replace he16 := he16.mono (gz_mono hH hle20)
   refine S_pu 1 rfl ?_
   refine S_storeBN 2 rfl rfl rfl zr23 hL20 rfl rfl (onc rfl (onc rfl on0)) ?_
   intro w21 hL21 hle21
   replace he16 := he16.mono (gz_mono hH hle21)
   refine S_seqnil ?_
   refine W_ret ?_
   refine At_seq_ret ?_
   obtain rfl := Option.some.inj h
   refine At_got2 rfl (.tmp rfl) (.cell rfl underlying23 rfl zr23 (box_ptr (i := 2) hL21 rfl)) ?_
   exact ⟨hL21.ext, _, rfl, OwnH.nil⟩
  ·replace h := Go.L.ite_n hc17 h
   refine W_skip ?_
   refine At_seq ?_
   refine W_p 1 rfl ?_
   refine S_v (r_build rfl (fun _ => bld23_z _)) rfl ?_
   refine S_pu 1 rfl ?_
   refine S_storeBN 2 rfl rfl rfl zr23 hL16 rfl rfl (onc rfl (onc rfl on0)) ?_
   intro w23 hL23 hle23
   replace he16 := he16.mono (gz_mono hH hle23)
   refine S_seqnil ?_
   refine W_ret ?_
   obtain rfl := Option.some.inj h
   refine At_got2 rfl (.tmp rfl) (.cell rfl underlying23 rfl zr23 (box_ptr (i := 2) hL23 rfl)) ?_
   exact ⟨hL23.ext, _, rfl, (hL23.ownH hH (i := 0) rfl he16)⟩
noncomputable def value_Validate (a0 : Go.L.Pv) : Option ((Int × Int)) :=
 Option.bind (value_Encode a0) (fun x3 => some ((x3.2.1, x3.2.2)))
theorem value_Validate_ok (w : World) (H : PH) (hH : Le H (hp w)) {a0 : Go.L.Pv} {v0_0 : Value} {v0_1 : Value} {v0_2 : Value} (h0_0 : Vec .byte H v0_0 (a0.f.2.2.1)) (h0_1 : Vec .st H v0_1 (a0.f.2.2.2.1)) (h0_2 : Vec .tree H v0_2 (a0.f.2.2.2.2)) {r : (Int × Int)} (h : value_Validate a0 = some r) :
  Ok Tryz.prog 22 [.agg #[.int .i64 a0.f.1, .int .i64 a0.f.2.1, v0_0, v0_1, v0_2]] w (fun v w' => Ext w w' ∧ v = .agg #[.int .i64 r.1, .int .i64 r.2]) := by
 refine Ok_enter (n := 11) [(0, .agg #[.int .i64 a0.f.1, .int .i64 a0.f.2.1, v0_0, v0_1, v0_2])] func22 rfl rfl rfl rfl rfl ?_
 have hL := Lcl.start w
 refine W_seqr ?_
 refine S_box (t := 38) rfl rfl rfl hL ?_
 intro w1 b1 hL1 hle1 _
 refine S_alloc zr23 rfl rfl hL1 ?_
 intro w2 b2 hL2 hle2 _
 refine S_seqnil ?_
 refine W_seqr ?_
 refine S_v (r_loadBN 1 rfl underlying38 rfl zr38 hL2 rfl) rfl ?_
 obtain ⟨x3, hb3, h⟩ := Go.L.bind_some h
 refine S_callL rfl rfl hL2 (value_Encode_ok (a0 := a0) _ _ (gz_le hH hL2) (h0_0.mono (gz_left hH)) (h0_1.mono (gz_left hH)) (h0_2.mono (gz_left hH)) hb3) ?_
 rintro _ w4 ⟨u4_0, rfl, hR4_0⟩ hx4 hL4 hle4
 have hv4_0 := hR4_0.vecG hH hL2 hx4
 refine S_pu 3 rfl ?_
 refine S_alloc zr23 rfl rfl hL4 ?_
 intro w5 b5 hL5 hle5 _
 replace hv4_0 := hv4_0.mono (gz_mono hH hle5)
 refine S_pu 1 rfl ?_
 refine S_storeBN 0 rfl rfl rfl zr23 hL5 rfl rfl (onc rfl (onc rfl on0)) ?_
 intro w6 hL6 hle6
 replace hv4_0 := hv4_0.mono (gz_mono hH hle6)
 refine S_seqnil ?_
 refine W_seqr ?_
 refine S_v (r_loadBN 0 rfl underlying23 rfl zr23 hL6 rfl) rfl ?_
 refine S_storeBN 1 rfl rfl rfl zr23 hL6 rfl rfl (onc rfl (onc rfl on0)) ?_
 intro w7 hL7 hle7
 refine S_seqnil ?_
 refine W_ret ?_
 obtain rfl := Option.some.inj h
 refine At_got1 rfl (.cell rfl underlying23 rfl zr23 (box_ptr (i := 1) hL7 rfl)) ?_
 exact ⟨hL7.ext, rfl⟩
end Go.Proofs.YtmfiaecglndldaaGreatDoor
end
section
namespace Go.E
open Go Go.RowKit
/-- The function value f (with cap) turns what J says of the state, leaf by leaf, as step says. -/
structure Cb (P : Program) (w0 : World) (H : PH) (f : FuncId) (cap : List Value) {σ : Type} (J : σ → List Res → PH → Prop) (step : σ → List UInt8 × Int × Int × List UInt8 → Option σ) : Prop where
  mono : ∀ {s : σ} {R : List Res} {G G' : PH}, Le G G' → J s R G → J s R G'
  ok : ∀ {w : World} {O R : List Res} {s s' : σ} {x : List UInt8 × Int × Int × List UInt8}, Lcl w0 (HAppend.hAppend O R) w → J s R (gz H w0 w (HAppend.hAppend O R)) → step s x = some s' →
    Ok P f (encLf x :: cap) w (fun v w' => v = .tuple #[] ∧ ∃ R' : List Res, Lcl w0 (HAppend.hAppend O R') w' ∧ Le (fz w (HAppend.hAppend O R)) (fz w' (HAppend.hAppend O R')) ∧ J s' R' (gz H w0 w' (HAppend.hAppend O R')))
end Go.E
end
section
namespace Go.Proofs.YtmfiaecglndldaaGreatDoor
open Go Go.E Go.RowKit
set_option maxHeartbeats 1000000
set_option maxRecDepth 10000
open _root_.Go.Proofs.Tryz
noncomputable def slices_Clone_string_string (a0 : List (List UInt8)) : Option ((List (List UInt8))) :=
 Go.L.chk (Go.E.Cap 16 (([] : List (List UInt8)).length + a0.length)) (some ((([] : List (List UInt8)) ++ a0)))
theorem slices_Clone_string_string_ok (w : World) (H : PH) (hH : Le H (hp w)) {a0 : List (List UInt8)} {v0_0 : Value} (h0_0 : Vec .st H v0_0 (a0)) {r : (List (List UInt8))} (h : slices_Clone_string_string a0 = some r) :
  Ok Tryz.prog 90 [v0_0] w (fun v w' => Ext w w' ∧ ∃ u0, v = u0 ∧ OwnH 9 .st H w w' u0 (r)) := by
 refine Ok_enter (n := 8) [(0, v0_0)] func90 rfl rfl rfl rfl rfl ?_
 have hL := Lcl.start w
 refine W_pz 1 rfl ?_
 refine W_seq ?_
 refine W_p 1 rfl ?_
 rcases nil_or h0_0 with ⟨rfl, rfl⟩ | hnn
 ·refine S_v (r_nilT rfl rfl underlying30) rfl ?_
  refine S_seqnil ?_
  refine W_true rfl ?_
  refine W_pz 1 rfl ?_
  refine W_ret ?_
  obtain ⟨_, h⟩ := Go.L.chk_some h
  obtain rfl := Option.some.inj h
  refine At_seq_ret ?_
  refine At_body rfl rfl ?_
  exact ⟨hL.ext, _, rfl, ownNil _ hL hH⟩
 refine S_v (r_nilF rfl rfl underlying30 hnn) rfl ?_
 refine S_seqnil ?_
 refine W_false rfl ?_
 refine W_skip ?_
 refine At_seq ?_
 refine W_seqr ?_
 refine S_litO (r := .st) (l := ([] : List (List UInt8))) rfl (fun _ => bsl30_0 _) rfl (show 0 ≤ 9223372036854775807 by decide) hH hL .nil ?_
 intro v1 w1 xs1 hL1 hle1 he1
 refine S_pu 1 rfl ?_
 obtain ⟨hk3, h⟩ := Go.L.chk_some h
 refine S_appE (r := .st) (l := ([] : List (List UInt8))) (m := a0) 0 rfl rfl underlying30 zr9 rfl (by decide) rfl hH hL1 rfl he1 (h0_0.mono (gz_left hH)) hk3 ?_
 intro v2 w2 xs2 hL2 hle2 he2
 refine S_pz 1 rfl ?_
 refine W_ret ?_
 obtain rfl := Option.some.inj h
 refine At_body rfl rfl ?_
 exact ⟨hL2.ext, _, rfl, (hL2.ownH hH (i := 0) rfl he2)⟩
noncomputable def shapes_leaves_body_k2 {σ : Type} (a0 : Go.L.Pv) (a1 : List (List UInt8)) (s24_45 : Int) (self : Go.L.Pv → (List (List UInt8)) → σ → Option σ) (s8_62 : List UInt8) (sJ63 : σ) : Option ((Int × σ) ⊕ (σ)) :=
 Option.bind (slices_Clone_string_string a1) (fun x75 => Go.L.chk (Go.E.Cap 16 (x75.length + ([s8_62]).length)) (Option.bind (self (a0.f.2.2.2.2.getD s24_45.toNat default) (x75 ++ [s8_62]) sJ63) (fun x82 => Go.L.chk (Go.L.I64 (s24_45 + (1 : Int))) (some (Sum.inl ((s24_45 + (1 : Int)), x82))))))
noncomputable def shapes_leaves_body_bl1 {σ : Type} (a0 : Go.L.Pv) (a1 : List (List UInt8)) (self : Go.L.Pv → (List (List UInt8)) → σ → Option σ) : Int × σ → Option ((Int × σ) ⊕ (σ)) := fun ⟨s24_45, sJ46⟩ =>
 if s24_45 < (a0.f.2.2.2.2.length : Int) then Go.L.chk (0 ≤ s24_45 ∧ s24_45 < (a0.f.2.2.2.2.length : Int)) (if a0.f.1 = (4 : Int) then Go.L.chk (0 ≤ s24_45 ∧ s24_45 < (a0.f.2.2.2.1.length : Int)) ((shapes_leaves_body_k2 a0 a1 s24_45 self) (a0.f.2.2.2.1.getD s24_45.toNat default) sJ46) else (shapes_leaves_body_k2 a0 a1 s24_45 self) ([35] : List UInt8) sJ46) else Option.map Sum.inr (some sJ46)
noncomputable def shapes_leaves_body_l1 {σ : Type} (a0 : Go.L.Pv) (a1 : List (List UInt8)) (self : Go.L.Pv → (List (List UInt8)) → σ → Option σ) (s : Int × σ) : Option (σ) := Go.L.run (shapes_leaves_body_bl1 a0 a1 self) s
noncomputable def shapes_leaves_body {σ : Type} (step : σ → ((List UInt8) × Int × Int × (List UInt8)) → Option σ) (self : Go.L.Pv → (List (List UInt8)) → σ → Option σ) (a0 : Go.L.Pv) (a1 : List (List UInt8)) (s : σ) : Option (σ) :=
 Option.bind (joinL a1 ([47] : List UInt8)) (fun x5 => Option.bind (step s (x5, a0.f.1, a0.f.2.1, a0.f.2.2.1)) (fun x10 => (shapes_leaves_body_l1 a0 a1 self) ((0 : Int), x10)))
noncomputable def shapes_leaves_n {σ : Type} (step : σ → ((List UInt8) × Int × Int × (List UInt8)) → Option σ) : Nat → Go.L.Pv → (List (List UInt8)) → σ → Option σ
 | 0 => fun _ _ _ => none
 | n + 1 => shapes_leaves_body step (shapes_leaves_n step n)
noncomputable def shapes_leaves {σ : Type} (step : σ → ((List UInt8) × Int × Int × (List UInt8)) → Option σ) : Go.L.Pv → (List (List UInt8)) → σ → Option σ := shapes_leaves_n step 1000
theorem shapes_leaves_body_J {σ : Type} {w0 : World} {H : PH} (hH : Le H (hp w0)) {fc : FuncId} {cap : List Value} {J : σ → List Res → PH → Prop} {step : σ → ((List UInt8) × Int × Int × (List UInt8)) → Option σ} (hcb : Cb Tryz.prog w0 H fc cap J step) {self : Go.L.Pv → (List (List UInt8)) → σ → Option σ} (hself : ∀ {w : World} {O R : List Res} {s : σ} {a0 : Go.L.Pv} {a1 : List (List UInt8)} {va0_2 : Value} {va0_3 : Value} {va0_4 : Value} {va1 : Value} (hL : Lcl w0 (HAppend.hAppend O R) w) (ha0_2 : Vec .byte (gz H w0 w (HAppend.hAppend O R)) va0_2 (a0.f.2.2.1)) (ha0_3 : Vec .st (gz H w0 w (HAppend.hAppend O R)) va0_3 (a0.f.2.2.2.1)) (ha0_4 : Vec .tree (gz H w0 w (HAppend.hAppend O R)) va0_4 (a0.f.2.2.2.2)) (ha1 : Vec .st (gz H w0 w (HAppend.hAppend O R)) va1 (a1)) (hJ : J s R (gz H w0 w (HAppend.hAppend O R))) {r : σ} (h : self a0 a1 s = some r), Ok Tryz.prog 51 [.agg #[.int .i64 a0.f.1, .int .i64 a0.f.2.1, va0_2, va0_3, va0_4], va1, .func (.func fc) #[] cap.toArray] w (fun v w' => v = .tuple #[] ∧ ∃ R' : List Res, Lcl w0 (HAppend.hAppend O R') w' ∧ Le (fz w (HAppend.hAppend O R)) (fz w' (HAppend.hAppend O R')) ∧ J r R' (gz H w0 w' (HAppend.hAppend O R')))) {w : World} {O R : List Res} {s : σ} {a0 : Go.L.Pv} {a1 : List (List UInt8)} {va0_2 : Value} {va0_3 : Value} {va0_4 : Value} {va1 : Value} (hL : Lcl w0 (HAppend.hAppend O R) w) (ha0_2 : Vec .byte (gz H w0 w (HAppend.hAppend O R)) va0_2 (a0.f.2.2.1)) (ha0_3 : Vec .st (gz H w0 w (HAppend.hAppend O R)) va0_3 (a0.f.2.2.2.1)) (ha0_4 : Vec .tree (gz H w0 w (HAppend.hAppend O R)) va0_4 (a0.f.2.2.2.2)) (ha1 : Vec .st (gz H w0 w (HAppend.hAppend O R)) va1 (a1)) (hJ : J s R (gz H w0 w (HAppend.hAppend O R))) {r : σ} (h : shapes_leaves_body step self a0 a1 s = some r) :
  Ok Tryz.prog 51 [.agg #[.int .i64 a0.f.1, .int .i64 a0.f.2.1, va0_2, va0_3, va0_4], va1, .func (.func fc) #[] cap.toArray] w (fun v w' => v = .tuple #[] ∧ ∃ R' : List Res, Lcl w0 (HAppend.hAppend O R') w' ∧ Le (fz w (HAppend.hAppend O R)) (fz w' (HAppend.hAppend O R')) ∧ J r R' (gz H w0 w' (HAppend.hAppend O R'))) := by
 refine Ok_enter (n := 46) [(0, .agg #[.int .i64 a0.f.1, .int .i64 a0.f.2.1, va0_2, va0_3, va0_4]), (1, va1), (2, .func (.func fc) #[] cap.toArray)] func51 rfl rfl rfl rfl rfl ?_
 have hT := Le.refl (fz w (HAppend.hAppend O R))
 have hG1 := hL.rG H
 refine W_seqr ?_
 refine S_box (t := 38) rfl rfl rfl hL ?_
 intro w2 b2 hL2 hle2 _
 replace hG1 := hG1.trans (gz_mono hH hle2)
 replace hJ := hcb.mono (gz_mono hH hle2) hJ
 replace hT := hT.trans hle2
 refine S_seqnil ?_
 refine W_seqd (.q 0 (.q 1 (.q 2 (.q 3 (.q 4 (.q 5 (.q 6 (.q 7 (.q 8 (.q 9 (.q 10 (.tail 11)))))))))))) mixed (by kernel_rfl) (fun w3 hx3 => ?_)
 have hL4 := hL2.call hx3
 have hle4 := fz_ext hL2 hx3
 replace hG1 := hG1.trans (gz_mono hH hle4)
 replace hJ := hcb.mono (gz_mono hH hle4) hJ
 replace hT := hT.trans hle4
 refine D_pu 2 rfl ?_
 obtain ⟨x5, hb5, h⟩ := Go.L.bind_some h
 refine D_call rfl rfl rfl (fun w6 hx6 => join_ok _ _ (Le.refl _) (((ha1.mono hG1).mono (gz_le hH hL4)).mono hx6.le) hb5) ?_
 refine D_v (r_field rfl underlying38 rfl zr3 (by decide)) rfl rfl ?_
 refine D_v (r_loadB1 0 rfl underlying3 rfl hL4 rfl rfl) rfl rfl ?_
 refine D_v (r_field rfl underlying38 rfl zr3 (by decide)) rfl rfl ?_
 refine D_v (r_loadB1 0 rfl underlying3 rfl hL4 rfl rfl) rfl rfl ?_
 refine D_v (r_field rfl underlying38 rfl zr35 (by decide)) rfl rfl ?_
 refine D_v (r_loadB1 0 rfl underlying35 rfl hL4 rfl rfl) rfl rfl ?_
 refine D_v (r_str rfl underlying35 underlying5 underlying9 (ha0_2.mono hG1) (gz_le hH hL4)) rfl rfl ?_
 refine D_v (r_build rfl (fun _ => bld84_0_1_2_3 _ rfl _ _ _ rfl _)) rfl rfl ?_
 refine D_tail (fun w7 hx7 => ?_)
 have hL8 := hL4.call hx7
 have hle8 := fz_ext hL4 hx7
 replace hG1 := hG1.trans (gz_mono hH hle8)
 replace hJ := hcb.mono (gz_mono hH hle8) hJ
 replace hT := hT.trans hle8
 obtain ⟨x10, hb10, h⟩ := Go.L.bind_some h
 refine S_callv (cap := cap) rfl rfl rfl (hcb.ok (O := (HAppend.hAppend ([.box b2 [.int .i64 a0.f.1, .int .i64 a0.f.2.1, va0_2, va0_3, va0_4] 38] : List Res) O)) (R := R) (x := (x5, a0.f.1, a0.f.2.1, a0.f.2.2.1)) hL8 hJ hb10) ?_
 rintro _ w9 ⟨rfl, R9, hL9, hle9, hJ9⟩
 replace hL9 : Lcl w0 (HAppend.hAppend ([.box b2 [.int .i64 a0.f.1, .int .i64 a0.f.2.1, va0_2, va0_3, va0_4] 38] : List Res) (HAppend.hAppend O R9)) w9 := hL9
 replace hle9 : Le (fz w7 (HAppend.hAppend ([.box b2 [.int .i64 a0.f.1, .int .i64 a0.f.2.1, va0_2, va0_3, va0_4] 38] : List Res) (HAppend.hAppend O R))) (fz w9 (HAppend.hAppend ([.box b2 [.int .i64 a0.f.1, .int .i64 a0.f.2.1, va0_2, va0_3, va0_4] 38] : List Res) (HAppend.hAppend O R9))) := hle9
 replace hG1 := hG1.trans (gz_mono hH hle9)
 replace hT := hT.trans hle9
 replace hJ : J x10 R9 (gz H w0 w9 (HAppend.hAppend ([.box b2 [.int .i64 a0.f.1, .int .i64 a0.f.2.1, va0_2, va0_3, va0_4] 38] : List Res) (HAppend.hAppend O R9))) := hJ9
 refine S_seqnil ?_
 refine W_seqr ?_
 refine S_v (r_field rfl underlying38 rfl zr36 (by decide)) rfl ?_
 refine S_v (r_loadB1 0 rfl underlying36 rfl hL9 rfl rfl) rfl ?_
 refine S_v (r_len rfl underlying36 (ha0_4.mono hG1)) rfl ?_
 refine S_pz 1 rfl ?_
 refine W_block ?_
 obtain ⟨n46, h⟩ := Go.L.run_some h
 refine W_loop (σ := Int × σ × (List Res) × Nat) (fun ⟨s24_45, sJ46, RJ46, n⟩ => [(1, va1), (2, .func (.func fc) #[] cap.toArray), (3, .pointer (some ⟨b2, 0, none⟩)), (22, va0_4), (23, .int .i64 (a0.f.2.2.2.2.length : Int)), (24, .int .i64 s24_45)]) (fun ⟨s24_45, sJ46, RJ46, n⟩ wr => InO w0 (HAppend.hAppend ([.box b2 [.int .i64 a0.f.1, .int .i64 a0.f.2.1, va0_2, va0_3, va0_4] 38] : List Res) (HAppend.hAppend O RJ46)) wr fun Oz => Vec .st (gz H w0 wr Oz) (va1) (a1) ∧ Vec .tree (gz H w0 wr Oz) (va0_4) (a0.f.2.2.2.2) ∧ Vec .byte (gz H w0 wr Oz) (va0_2) (a0.f.2.2.1) ∧ Vec .st (gz H w0 wr Oz) (va0_3) (a0.f.2.2.2.1) ∧ Le (fz w (HAppend.hAppend O R)) (fz wr Oz) ∧ J sJ46 RJ46 (gz H w0 wr Oz) ∧ Go.L.itr (shapes_leaves_body_bl1 a0 a1 self) n (s24_45, sJ46) = some r) (fun ⟨s24_45, sJ46, RJ46, n⟩ => n) ((0 : Int), x10, R9, n46) (.cons rfl (.cons rfl (.cons rfl (.cons rfl (.cons rfl (.cons rfl (Sub.nil _))))))) ⟨hL9, (ha1.mono hG1), (ha0_4.mono hG1), (ha0_2.mono hG1), (ha0_3.mono hG1), hT, hJ, h⟩ ?_
 rintro ⟨s24_45, sJ46, RJ46, nn46⟩ wr46 ⟨hL46, hf46_0, hf46_1, hf46_2, hf46_3, hT, hJ, h⟩
 obtain ⟨n46, e46, rfl, h, hm46⟩ := Go.L.itr_some h
 have hG48 := hL46.rG H
 refine W_pz 1 rfl ?_
 refine W_seq ?_
 refine W_if rfl (fun hc49 => ?_) (fun hc49 => ?_)
 ·replace h := Go.L.ite_p hc49 h
  refine W_skip ?_
  refine At_seq ?_
  refine W_seq ?_
  refine W_block ?_
  refine W_p 1 rfl ?_
  obtain ⟨hk52, h⟩ := Go.L.chk_some h
  refine S_index rfl rfl underlying36 zr38 (hf46_1.mono hG48) s24_45.toNat (Int.toNat_of_nonneg hk52.1).symm (idx_lt hk52) rfl ?_
  rintro p51 _ e51t0 hp51
  obtain ⟨_, _, rfl, rfl, ⟨_, _, rfl, rfl, ⟨_, _, rfl, ⟨e51v2, rfl, e51h2⟩, ⟨_, _, rfl, ⟨e51v3, rfl, e51h3⟩, ⟨e51v4, rfl, e51h4⟩⟩⟩⟩⟩ := Go.E.Rp.tree_open e51t0
  refine S_v (r_loadN rfl underlying38 rfl zr38 hp51 (gz_le hH hL46)) rfl ?_
  refine S_alloc zr38 rfl rfl hL46 ?_
  intro w53 b53 hL53 hle53 _
  replace hp51 := hp51.mono (gz_mono hH hle53)
  replace e51h2 := e51h2.mono (gz_mono hH hle53)
  replace e51h3 := e51h3.mono (gz_mono hH hle53)
  replace e51h4 := e51h4.mono (gz_mono hH hle53)
  replace hG48 := hG48.trans (gz_mono hH hle53)
  replace hJ := hcb.mono (gz_mono hH hle53) hJ
  replace hT := hT.trans hle53
  refine S_pu 1 rfl ?_
  refine S_storeBN 0 rfl rfl rfl zr38 hL53 rfl rfl (onc rfl (onc rfl (onc e51h2.one (onc e51h3.one (onc e51h4.one on0))))) ?_
  intro w54 hL54 hle54
  replace hp51 := hp51.mono (gz_mono hH hle54)
  replace e51h2 := e51h2.mono (gz_mono hH hle54)
  replace e51h3 := e51h3.mono (gz_mono hH hle54)
  replace e51h4 := e51h4.mono (gz_mono hH hle54)
  replace hG48 := hG48.trans (gz_mono hH hle54)
  replace hJ := hcb.mono (gz_mono hH hle54) hJ
  replace hT := hT.trans hle54
  refine S_seqnil ?_
  have hG55 := hL54.rG H
  refine W_pz 1 rfl ?_
  refine W_cut (σ := (List UInt8) × σ × (List Res)) (fun ⟨s8_62, sJ63, RJ63⟩ => [(1, va1), (2, .func (.func fc) #[] cap.toArray), (3, .pointer (some ⟨b2, 0, none⟩)), (7, .pointer (some ⟨b53, 0, none⟩)), (8, .string ⟨(s8_62).toArray⟩), (22, va0_4), (23, .int .i64 (a0.f.2.2.2.2.length : Int)), (24, .int .i64 s24_45)]) (fun ⟨s8_62, sJ63, RJ63⟩ wr => InO w0 (HAppend.hAppend ([.box b53 [.int .i64 ((a0.f.2.2.2.2.getD s24_45.toNat default).f.1), .int .i64 ((a0.f.2.2.2.2.getD s24_45.toNat default).f.2.1), e51v2, e51v3, e51v4] 38, .box b2 [.int .i64 a0.f.1, .int .i64 a0.f.2.1, va0_2, va0_3, va0_4] 38] : List Res) (HAppend.hAppend O RJ63)) wr fun Oz => Vec .st (gz H w0 wr Oz) (va1) (a1) ∧ Vec .tree (gz H w0 wr Oz) (va0_4) (a0.f.2.2.2.2) ∧ Vec .byte (gz H w0 wr Oz) (e51v2) ((a0.f.2.2.2.2.getD s24_45.toNat default).f.2.2.1) ∧ Vec .st (gz H w0 wr Oz) (e51v3) ((a0.f.2.2.2.2.getD s24_45.toNat default).f.2.2.2.1) ∧ Vec .tree (gz H w0 wr Oz) (e51v4) ((a0.f.2.2.2.2.getD s24_45.toNat default).f.2.2.2.2) ∧ Vec .byte (gz H w0 wr Oz) (va0_2) (a0.f.2.2.1) ∧ Vec .st (gz H w0 wr Oz) (va0_3) (a0.f.2.2.2.1) ∧ Le (fz w (HAppend.hAppend O R)) (fz wr Oz) ∧ J sJ63 RJ63 (gz H w0 wr Oz) ∧ (shapes_leaves_body_k2 a0 a1 s24_45 self) s8_62 sJ63 = some e46) ?_ ?_
  ·refine W_seqr ?_
   refine S_v (r_field rfl underlying38 rfl zr3 (by decide)) rfl ?_
   refine S_v (r_loadB1 1 rfl underlying3 rfl hL54 rfl rfl) rfl ?_
   refine S_pz 1 rfl ?_
   refine W_if rfl (fun hc65 => ?_) (fun hc65 => ?_)
   ·replace h := Go.L.ite_p hc65 h
    refine W_region ?_
    refine S_v (r_field rfl underlying38 rfl zr30 (by decide)) rfl ?_
    refine S_v (r_loadB1 1 rfl underlying30 rfl hL54 rfl rfl) rfl ?_
    refine S_pu 1 rfl ?_
    obtain ⟨hk68, h⟩ := Go.L.chk_some h
    refine S_index rfl rfl underlying30 zr9 ((hf46_3.mono hG48).mono hG55) s24_45.toNat (Int.toNat_of_nonneg hk68.1).symm (idx_lt hk68) rfl ?_
    rintro p67 _ rfl hp67
    refine S_v (r_load1 rfl underlying9 rfl hp67 (gz_le hH hL54)) rfl ?_
    refine S_pu 1 rfl ?_
    refine S_nil ?_
    refine At_cut (a0.f.2.2.2.1.getD s24_45.toNat default, sJ46, RJ46) (.cons rfl (.cons rfl (.cons rfl (.cons rfl (.cons rfl (.cons rfl (.cons rfl (.cons rfl (Sub.nil _))))))))) ⟨hL54, ((hf46_0.mono hG48).mono hG55), ((hf46_1.mono hG48).mono hG55), (e51h2.mono hG55), (e51h3.mono hG55), (e51h4.mono hG55), ((hf46_2.mono hG48).mono hG55), ((hf46_3.mono hG48).mono hG55), hT, hJ, h⟩
   ·replace h := Go.L.ite_n hc65 h
    refine W_skip ?_
    refine At_cut (([35] : List UInt8), sJ46, RJ46) (.cons rfl (.cons rfl (.cons rfl (.cons rfl (.cons rfl (.cons rfl (.cons rfl (.cons rfl (Sub.nil _))))))))) ⟨hL54, ((hf46_0.mono hG48).mono hG55), ((hf46_1.mono hG48).mono hG55), (e51h2.mono hG55), (e51h3.mono hG55), (e51h4.mono hG55), ((hf46_2.mono hG48).mono hG55), ((hf46_3.mono hG48).mono hG55), hT, hJ, h⟩
  ·rintro ⟨s8_62, sJ63, RJ63⟩ wr63 ⟨hL63, hf63_0, hf63_1, hf63_2, hf63_3, hf63_4, hf63_5, hf63_6, hT, hJ, h⟩
   have hG71 := hL63.rG H
   refine W_naiveI (fun z0 z => Le (gz H w0 z0 (HAppend.hAppend ([.box b53 [.int .i64 ((a0.f.2.2.2.2.getD s24_45.toNat default).f.1), .int .i64 ((a0.f.2.2.2.2.getD s24_45.toNat default).f.2.1), e51v2, e51v3, e51v4] 38, .box b2 [.int .i64 a0.f.1, .int .i64 a0.f.2.1, va0_2, va0_3, va0_4] 38] : List Res) (HAppend.hAppend O RJ63))) (hp z) ∧ z.heap[b53]? = some (.cells [.int .i64 ((a0.f.2.2.2.2.getD s24_45.toNat default).f.1), .int .i64 ((a0.f.2.2.2.2.getD s24_45.toNat default).f.2.1), e51v2, e51v3, e51v4].toArray 38 (0, 0)) ∧ z.heap[b2]? = some (.cells [.int .i64 a0.f.1, .int .i64 a0.f.2.1, va0_2, va0_3, va0_4].toArray 38 (0, 0))) mixed rfl (fun w72 hx72 => ?_)
   have hL73 := hL63.call hx72
   have hle73 := fz_ext hL63 hx72
   replace hG71 := hG71.trans (gz_mono hH hle73)
   replace hJ := hcb.mono (gz_mono hH hle73) hJ
   replace hT := hT.trans hle73
   have hG74 := hL73.rG H
   refine NI_hoist 0 (np_block (np_seq (np_loop (np_block np_body)))) ⟨hG74.trans (gz_le hH hL73), hL73.at (i := 0) rfl, hL73.at (i := 1) rfl⟩ (by kernel_rfl) rfl (fun _ hI => r_loadHN rfl underlying38 rfl zr38 hI.2.1) rfl ?_
   refine NI_hoist 1 (np_block (np_seq (np_loop (np_block np_body)))) ⟨hG74.trans (gz_le hH hL73), hL73.at (i := 0) rfl, hL73.at (i := 1) rfl⟩ (by kernel_rfl) rfl (fun _ _ => RunsAt_pu rfl) rfl ?_
   refine NI_hoist 3 (np_block (np_seq (np_loop (np_block np_body)))) ⟨hG74.trans (gz_le hH hL73), hL73.at (i := 0) rfl, hL73.at (i := 1) rfl⟩ (by kernel_rfl) rfl (fun _ _ => RunsAt_pu rfl) rfl ?_
   refine NI_hoist 6 (np_block (np_seq (np_loop (np_block np_body)))) ⟨hG74.trans (gz_le hH hL73), hL73.at (i := 0) rfl, hL73.at (i := 1) rfl⟩ (by kernel_rfl) rfl (fun _ _ => RunsAt_pu rfl) rfl ?_
   refine NI2 (i := 2) (j := 4) (by kernel_rfl) rfl rfl ?_ ?_
   ·obtain ⟨x75, hb75, h⟩ := Go.L.bind_some h
    refine S_callL rfl rfl hL73 (slices_Clone_string_string_ok _ _ (gz_le hH hL73) ((hf63_0.mono hG71).mono hG74) hb75) ?_
    rintro u76_0 w76 ⟨_, rfl, hR76_0⟩ hx76 hL76 hle76
    obtain ⟨xs76, hL76, hle76, he76⟩ := hR76_0.take hH hL73 hx76
    replace hG74 := hG74.trans (gz_mono hH hle76)
    replace hJ := hcb.mono (gz_mono hH hle76) hJ
    replace hT := hT.trans hle76
    refine NI_nil ⟨hG74.trans (gz_le hH hL76), hL76.at (i := 1) rfl, hL76.at (i := 2) rfl⟩ ?_
    refine NI1 (i := 4) (by kernel_rfl) rfl ?_
    refine S_litE (r := .st) (l := [s8_62]) rfl (fun _ => bsl30_1 _ rfl _) rfl (show 1 ≤ 9223372036854775807 by decide) hH hL76 (.c1 rfl .nil) ?_
    intro v77 w77 hx77 hL77 hle77 hv77
    replace he76 := he76.mono (gz_mono hH hle77)
    replace hG74 := hG74.trans (gz_mono hH hle77)
    replace hJ := hcb.mono (gz_mono hH hle77) hJ
    replace hT := hT.trans hle77
    refine NI_nil ⟨hG74.trans (gz_le hH hL77), hL77.at (i := 1) rfl, hL77.at (i := 2) rfl⟩ ?_
    refine NI1 (i := 5) (by kernel_rfl) rfl ?_
    obtain ⟨hk79, h⟩ := Go.L.chk_some h
    refine S_appE (r := .st) (l := x75) (m := [s8_62]) 0 rfl rfl underlying30 zr9 rfl (by decide) rfl hH hL77 rfl he76 hv77 hk79 ?_
    intro v78 w78 xs78 hL78 hle78 he78
    replace hv77 := hv77.mono (gz_mono hH hle78)
    replace hG74 := hG74.trans (gz_mono hH hle78)
    replace hJ := hcb.mono (gz_mono hH hle78) hJ
    replace hT := hT.trans hle78
    refine NI_nil ⟨hG74.trans (gz_le hH hL78), hL78.at (i := 1) rfl, hL78.at (i := 2) rfl⟩ ?_
    refine NI1 (i := 7) (by kernel_rfl) rfl ?_
    have hv80 := hL78.vecG hH (i := 0) rfl he78
    have hL80 := hL78.dropAt (i := 0) rfl
    replace hv77 := hv77.mono (gz_mono hH (fz_dropAt (i := 0) rfl))
    replace hG74 := hG74.trans (gz_mono hH (fz_dropAt (i := 0) rfl))
    replace hJ := hcb.mono (gz_mono hH (fz_dropAt (i := 0) rfl)) hJ
    replace hT := hT.trans (fz_dropAt (i := 0) rfl)
    obtain ⟨x82, hb82, h⟩ := Go.L.bind_some h
    refine S_call rfl rfl (hself (O := (HAppend.hAppend ([.box b53 [.int .i64 ((a0.f.2.2.2.2.getD s24_45.toNat default).f.1), .int .i64 ((a0.f.2.2.2.2.getD s24_45.toNat default).f.2.1), e51v2, e51v3, e51v4] 38, .box b2 [.int .i64 a0.f.1, .int .i64 a0.f.2.1, va0_2, va0_3, va0_4] 38] : List Res) O)) (R := RJ63) hL80 ((hf63_2.mono hG71).mono hG74) ((hf63_3.mono hG71).mono hG74) ((hf63_4.mono hG71).mono hG74) hv80 hJ hb82) ?_
    rintro _ w81 ⟨rfl, R81, hL81, hle81, hJ81⟩
    replace hL81 : Lcl w0 (HAppend.hAppend ([.box b53 [.int .i64 ((a0.f.2.2.2.2.getD s24_45.toNat default).f.1), .int .i64 ((a0.f.2.2.2.2.getD s24_45.toNat default).f.2.1), e51v2, e51v3, e51v4] 38, .box b2 [.int .i64 a0.f.1, .int .i64 a0.f.2.1, va0_2, va0_3, va0_4] 38] : List Res) (HAppend.hAppend O R81)) w81 := hL81
    replace hle81 : Le (fz w78 (HAppend.hAppend ([.box b53 [.int .i64 ((a0.f.2.2.2.2.getD s24_45.toNat default).f.1), .int .i64 ((a0.f.2.2.2.2.getD s24_45.toNat default).f.2.1), e51v2, e51v3, e51v4] 38, .box b2 [.int .i64 a0.f.1, .int .i64 a0.f.2.1, va0_2, va0_3, va0_4] 38] : List Res) (HAppend.hAppend O RJ63))) (fz w81 (HAppend.hAppend ([.box b53 [.int .i64 ((a0.f.2.2.2.2.getD s24_45.toNat default).f.1), .int .i64 ((a0.f.2.2.2.2.getD s24_45.toNat default).f.2.1), e51v2, e51v3, e51v4] 38, .box b2 [.int .i64 a0.f.1, .int .i64 a0.f.2.1, va0_2, va0_3, va0_4] 38] : List Res) (HAppend.hAppend O R81))) := hle81
    replace hv77 := hv77.mono (gz_mono hH hle81)
    replace hv80 := hv80.mono (gz_mono hH hle81)
    replace hG74 := hG74.trans (gz_mono hH hle81)
    replace hT := hT.trans hle81
    replace hJ : J x82 R81 (gz H w0 w81 (HAppend.hAppend ([.box b53 [.int .i64 ((a0.f.2.2.2.2.getD s24_45.toNat default).f.1), .int .i64 ((a0.f.2.2.2.2.getD s24_45.toNat default).f.2.1), e51v2, e51v3, e51v4] 38, .box b2 [.int .i64 a0.f.1, .int .i64 a0.f.2.1, va0_2, va0_3, va0_4] 38] : List Res) (HAppend.hAppend O R81))) := hJ81
    refine NI_nil ⟨hG74.trans (gz_le hH hL81), hL81.at (i := 0) rfl, hL81.at (i := 1) rfl⟩ ?_
    refine NI_end (by kernel_rfl) ?_
    refine At_block ?_
    refine At_seq ?_
    refine W_region ?_
    obtain ⟨hk83, h⟩ := Go.L.chk_some h
    refine S_v (r_ar64 rfl rfl rfl hk83) rfl ?_
    refine S_pu 1 rfl ?_
    refine S_nil ?_
    have hL84 := hL81.dropAt (i := 0) rfl
    replace hG74 := hG74.trans (gz_mono hH (fz_dropAt (i := 0) rfl))
    replace hJ := hcb.mono (gz_mono hH (fz_dropAt (i := 0) rfl)) hJ
    replace hT := hT.trans (fz_dropAt (i := 0) rfl)
    have h := Go.L.Nxt.again h hm46
    refine At_round ((s24_45 + (1 : Int)), x82, R81, n46) (.cons rfl (.cons rfl (.cons rfl (.cons rfl (.cons rfl (.cons rfl (Sub.nil _))))))) ⟨hL84, ((hf63_0.mono hG71).mono hG74), ((hf63_1.mono hG71).mono hG74), ((hf63_5.mono hG71).mono hG74), ((hf63_6.mono hG71).mono hG74), hT, hJ, h⟩ (Nat.lt_succ_self _)
   ·obtain ⟨x75, hb75, h⟩ := Go.L.bind_some h
    obtain ⟨hk79, h⟩ := Go.L.chk_some h
    obtain ⟨x82, hb82, h⟩ := Go.L.bind_some h
    obtain ⟨hk83, h⟩ := Go.L.chk_some h
    refine S_litE (r := .st) (l := [s8_62]) rfl (fun _ => bsl30_1 _ rfl _) rfl (show 1 ≤ 9223372036854775807 by decide) hH hL73 (.c1 rfl .nil) ?_
    intro v85 w85 hx85 hL85 hle85 hv85
    replace hG74 := hG74.trans (gz_mono hH hle85)
    replace hJ := hcb.mono (gz_mono hH hle85) hJ
    replace hT := hT.trans hle85
    refine NI_nil ⟨hG74.trans (gz_le hH hL85), hL85.at (i := 0) rfl, hL85.at (i := 1) rfl⟩ ?_
    refine NI1 (i := 2) (by kernel_rfl) rfl ?_
    refine S_callL rfl rfl hL85 (slices_Clone_string_string_ok _ _ (gz_le hH hL85) ((hf63_0.mono hG71).mono hG74) hb75) ?_
    rintro u86_0 w86 ⟨_, rfl, hR86_0⟩ hx86 hL86 hle86
    obtain ⟨xs86, hL86, hle86, he86⟩ := hR86_0.take hH hL85 hx86
    replace hv85 := hv85.mono (gz_mono hH hle86)
    replace hG74 := hG74.trans (gz_mono hH hle86)
    replace hJ := hcb.mono (gz_mono hH hle86) hJ
    replace hT := hT.trans hle86
    refine NI_nil ⟨hG74.trans (gz_le hH hL86), hL86.at (i := 1) rfl, hL86.at (i := 2) rfl⟩ ?_
    refine NI1 (i := 5) (by kernel_rfl) rfl ?_
    refine S_appE (r := .st) (l := x75) (m := [s8_62]) 0 rfl rfl underlying30 zr9 rfl (by decide) rfl hH hL86 rfl he86 hv85 hk79 ?_
    intro v87 w87 xs87 hL87 hle87 he87
    replace hv85 := hv85.mono (gz_mono hH hle87)
    replace hG74 := hG74.trans (gz_mono hH hle87)
    replace hJ := hcb.mono (gz_mono hH hle87) hJ
    replace hT := hT.trans hle87
    refine NI_nil ⟨hG74.trans (gz_le hH hL87), hL87.at (i := 1) rfl, hL87.at (i := 2) rfl⟩ ?_
    refine NI1 (i := 7) (by kernel_rfl) rfl ?_
    have hv88 := hL87.vecG hH (i := 0) rfl he87
    have hL88 := hL87.dropAt (i := 0) rfl
    replace hv85 := hv85.mono (gz_mono hH (fz_dropAt (i := 0) rfl))
    replace hG74 := hG74.trans (gz_mono hH (fz_dropAt (i := 0) rfl))
    replace hJ := hcb.mono (gz_mono hH (fz_dropAt (i := 0) rfl)) hJ
    replace hT := hT.trans (fz_dropAt (i := 0) rfl)
    refine S_call rfl rfl (hself (O := (HAppend.hAppend ([.box b53 [.int .i64 ((a0.f.2.2.2.2.getD s24_45.toNat default).f.1), .int .i64 ((a0.f.2.2.2.2.getD s24_45.toNat default).f.2.1), e51v2, e51v3, e51v4] 38, .box b2 [.int .i64 a0.f.1, .int .i64 a0.f.2.1, va0_2, va0_3, va0_4] 38] : List Res) O)) (R := RJ63) hL88 ((hf63_2.mono hG71).mono hG74) ((hf63_3.mono hG71).mono hG74) ((hf63_4.mono hG71).mono hG74) hv88 hJ hb82) ?_
    rintro _ w89 ⟨rfl, R89, hL89, hle89, hJ89⟩
    replace hL89 : Lcl w0 (HAppend.hAppend ([.box b53 [.int .i64 ((a0.f.2.2.2.2.getD s24_45.toNat default).f.1), .int .i64 ((a0.f.2.2.2.2.getD s24_45.toNat default).f.2.1), e51v2, e51v3, e51v4] 38, .box b2 [.int .i64 a0.f.1, .int .i64 a0.f.2.1, va0_2, va0_3, va0_4] 38] : List Res) (HAppend.hAppend O R89)) w89 := hL89
    replace hle89 : Le (fz w87 (HAppend.hAppend ([.box b53 [.int .i64 ((a0.f.2.2.2.2.getD s24_45.toNat default).f.1), .int .i64 ((a0.f.2.2.2.2.getD s24_45.toNat default).f.2.1), e51v2, e51v3, e51v4] 38, .box b2 [.int .i64 a0.f.1, .int .i64 a0.f.2.1, va0_2, va0_3, va0_4] 38] : List Res) (HAppend.hAppend O RJ63))) (fz w89 (HAppend.hAppend ([.box b53 [.int .i64 ((a0.f.2.2.2.2.getD s24_45.toNat default).f.1), .int .i64 ((a0.f.2.2.2.2.getD s24_45.toNat default).f.2.1), e51v2, e51v3, e51v4] 38, .box b2 [.int .i64 a0.f.1, .int .i64 a0.f.2.1, va0_2, va0_3, va0_4] 38] : List Res) (HAppend.hAppend O R89))) := hle89
    replace hv85 := hv85.mono (gz_mono hH hle89)
    replace hv88 := hv88.mono (gz_mono hH hle89)
    replace hG74 := hG74.trans (gz_mono hH hle89)
    replace hT := hT.trans hle89
    replace hJ : J x82 R89 (gz H w0 w89 (HAppend.hAppend ([.box b53 [.int .i64 ((a0.f.2.2.2.2.getD s24_45.toNat default).f.1), .int .i64 ((a0.f.2.2.2.2.getD s24_45.toNat default).f.2.1), e51v2, e51v3, e51v4] 38, .box b2 [.int .i64 a0.f.1, .int .i64 a0.f.2.1, va0_2, va0_3, va0_4] 38] : List Res) (HAppend.hAppend O R89))) := hJ89
    refine NI_nil ⟨hG74.trans (gz_le hH hL89), hL89.at (i := 0) rfl, hL89.at (i := 1) rfl⟩ ?_
    refine NI_end (by kernel_rfl) ?_
    refine At_block ?_
    refine At_seq ?_
    refine W_region ?_
    refine S_v (r_ar64 rfl rfl rfl hk83) rfl ?_
    refine S_pu 1 rfl ?_
    refine S_nil ?_
    have hL90 := hL89.dropAt (i := 0) rfl
    replace hG74 := hG74.trans (gz_mono hH (fz_dropAt (i := 0) rfl))
    replace hJ := hcb.mono (gz_mono hH (fz_dropAt (i := 0) rfl)) hJ
    replace hT := hT.trans (fz_dropAt (i := 0) rfl)
    have h := Go.L.Nxt.again h hm46
    refine At_round ((s24_45 + (1 : Int)), x82, R89, n46) (.cons rfl (.cons rfl (.cons rfl (.cons rfl (.cons rfl (.cons rfl (Sub.nil _))))))) ⟨hL90, ((hf63_0.mono hG71).mono hG74), ((hf63_1.mono hG71).mono hG74), ((hf63_5.mono hG71).mono hG74), ((hf63_6.mono hG71).mono hG74), hT, hJ, h⟩ (Nat.lt_succ_self _)
 ·replace h := Go.L.ite_n hc49 h
  refine W_exit ?_
  refine At_seq_exit ?_
  refine At_loop_exit ?_
  replace h := Go.L.Nxt.out h hm46
  refine At_exit ?_
  obtain rfl := Option.some.inj h
  refine At_got0e rfl ?_
  have hL92 := hL46.dropAt (i := 0) rfl
  replace hG48 := hG48.trans (gz_mono hH (fz_dropAt (i := 0) rfl))
  replace hJ := hcb.mono (gz_mono hH (fz_dropAt (i := 0) rfl)) hJ
  replace hT := hT.trans (fz_dropAt (i := 0) rfl)
  exact ⟨rfl, RJ46, hL92, hT, hJ⟩
theorem shapes_leaves_n_J {σ : Type} {w0 : World} {H : PH} (hH : Le H (hp w0)) {fc : FuncId} {cap : List Value} {J : σ → List Res → PH → Prop} {step : σ → ((List UInt8) × Int × Int × (List UInt8)) → Option σ} (hcb : Cb Tryz.prog w0 H fc cap J step) (n : Nat) : ∀ {w : World} {O R : List Res} {s : σ} {a0 : Go.L.Pv} {a1 : List (List UInt8)} {va0_2 : Value} {va0_3 : Value} {va0_4 : Value} {va1 : Value} (hL : Lcl w0 (HAppend.hAppend O R) w) (ha0_2 : Vec .byte (gz H w0 w (HAppend.hAppend O R)) va0_2 (a0.f.2.2.1)) (ha0_3 : Vec .st (gz H w0 w (HAppend.hAppend O R)) va0_3 (a0.f.2.2.2.1)) (ha0_4 : Vec .tree (gz H w0 w (HAppend.hAppend O R)) va0_4 (a0.f.2.2.2.2)) (ha1 : Vec .st (gz H w0 w (HAppend.hAppend O R)) va1 (a1)) (hJ : J s R (gz H w0 w (HAppend.hAppend O R))) {r : σ} (h : shapes_leaves_n step n a0 a1 s = some r), Ok Tryz.prog 51 [.agg #[.int .i64 a0.f.1, .int .i64 a0.f.2.1, va0_2, va0_3, va0_4], va1, .func (.func fc) #[] cap.toArray] w (fun v w' => v = .tuple #[] ∧ ∃ R' : List Res, Lcl w0 (HAppend.hAppend O R') w' ∧ Le (fz w (HAppend.hAppend O R)) (fz w' (HAppend.hAppend O R')) ∧ J r R' (gz H w0 w' (HAppend.hAppend O R'))) := by
 induction n with
 | zero => intros; rename_i h; cases h
 | succ n ih => exact fun {_} {_} {_} {_} {_} {_} {_} {_} {_} {_} hL ha0_2 ha0_3 ha0_4 ha1 hJ {_} h => shapes_leaves_body_J hH hcb (self := shapes_leaves_n step n) ih hL ha0_2 ha0_3 ha0_4 ha1 hJ h
theorem shapes_leaves_J {σ : Type} {w0 : World} {H : PH} (hH : Le H (hp w0)) {fc : FuncId} {cap : List Value} {J : σ → List Res → PH → Prop} {step : σ → ((List UInt8) × Int × Int × (List UInt8)) → Option σ} (hcb : Cb Tryz.prog w0 H fc cap J step) {w : World} {O R : List Res} {s : σ} {a0 : Go.L.Pv} {a1 : List (List UInt8)} {va0_2 : Value} {va0_3 : Value} {va0_4 : Value} {va1 : Value} (hL : Lcl w0 (HAppend.hAppend O R) w) (ha0_2 : Vec .byte (gz H w0 w (HAppend.hAppend O R)) va0_2 (a0.f.2.2.1)) (ha0_3 : Vec .st (gz H w0 w (HAppend.hAppend O R)) va0_3 (a0.f.2.2.2.1)) (ha0_4 : Vec .tree (gz H w0 w (HAppend.hAppend O R)) va0_4 (a0.f.2.2.2.2)) (ha1 : Vec .st (gz H w0 w (HAppend.hAppend O R)) va1 (a1)) (hJ : J s R (gz H w0 w (HAppend.hAppend O R))) {r : σ} (h : shapes_leaves step a0 a1 s = some r) : Ok Tryz.prog 51 [.agg #[.int .i64 a0.f.1, .int .i64 a0.f.2.1, va0_2, va0_3, va0_4], va1, .func (.func fc) #[] cap.toArray] w (fun v w' => v = .tuple #[] ∧ ∃ R' : List Res, Lcl w0 (HAppend.hAppend O R') w' ∧ Le (fz w (HAppend.hAppend O R)) (fz w' (HAppend.hAppend O R')) ∧ J r R' (gz H w0 w' (HAppend.hAppend O R'))) := shapes_leaves_n_J hH hcb 1000 hL ha0_2 ha0_3 ha0_4 ha1 hJ h
end Go.Proofs.YtmfiaecglndldaaGreatDoor
end
section
namespace Go.Proofs.YtmfiaecglndldaaGreatDoor
open Go Go.E Go.RowKit
set_option maxHeartbeats 1000000
set_option maxRecDepth 10000
open _root_.Go.Proofs.Tryz
noncomputable def shapes_Paths_1 (a0 : (List UInt8) × Int × Int × (List UInt8)) (a1 : List (List UInt8)) : Option ((List (List UInt8))) :=
 Go.L.chk (Go.E.Cap 16 (a1.length + ([a0.1]).length)) (some ((a1 ++ [a0.1])))
theorem shapes_Paths_1_fr {w0 w : World} {H : PH} (hH : Le H (hp w0)) {O : List Res} {a0 : (List UInt8) × Int × Int × (List UInt8)} {a1 : List (List UInt8)} {ba1 : Nat} {va1_0 : Value} {xsa1_0 : List Value} (hL : Lcl w0 (HAppend.hAppend ([.box ba1 [va1_0] 30, .row (va1_0) 9 1 (a1).length (xsa1_0)] : List Res) O) w) (hea1_0 : Elems .st (gz H w0 w (HAppend.hAppend ([.box ba1 [va1_0] 30, .row (va1_0) 9 1 (a1).length (xsa1_0)] : List Res) O)) (a1) xsa1_0) {r : (List (List UInt8))} (h : shapes_Paths_1 a0 a1 = some r) :
  Ok Tryz.prog 52 [.agg #[.string ⟨(a0.1).toArray⟩, .int .i64 a0.2.1, .int .i64 a0.2.2.1, .string ⟨(a0.2.2.2).toArray⟩], .pointer (some ⟨ba1, 0, none⟩)] w (fun v w' => ∃ (u0 : Value) (y0 : List Value), v = .tuple #[] ∧ Lcl w0 (HAppend.hAppend ([.box ba1 [u0] 30, .row u0 9 1 (r).length y0] : List Res) O) w' ∧ Le (fz w (HAppend.hAppend ([.box ba1 [va1_0] 30, .row (va1_0) 9 1 (a1).length (xsa1_0)] : List Res) O)) (fz w' (HAppend.hAppend ([.box ba1 [u0] 30, .row u0 9 1 (r).length y0] : List Res) O)) ∧ Elems .st (gz H w0 w' (HAppend.hAppend ([.box ba1 [u0] 30, .row u0 9 1 (r).length y0] : List Res) O)) (r) y0) := by
 refine Ok_enter (n := 8) [(0, .agg #[.string ⟨(a0.1).toArray⟩, .int .i64 a0.2.1, .int .i64 a0.2.2.1, .string ⟨(a0.2.2.2).toArray⟩]), (1, .pointer (some ⟨ba1, 0, none⟩))] func52 rfl rfl rfl rfl rfl ?_
 have hT := Le.refl (fz w (HAppend.hAppend ([.box ba1 [va1_0] 30, .row (va1_0) 9 1 (a1).length (xsa1_0)] : List Res) O))
 refine W_seqr ?_
 refine S_box (t := 84) rfl rfl rfl hL ?_
 intro w1 b1 hL1 hle1 _
 replace hea1_0 := hea1_0.mono (gz_mono hH hle1)
 replace hT := hT.trans hle1
 refine S_seqnil ?_
 refine W_region ?_
 refine S_v (r_loadB1 1 rfl underlying30 rfl hL1 rfl rfl) rfl ?_
 refine S_v (r_field rfl underlying84 rfl zr9 (by decide)) rfl ?_
 refine S_v (r_loadB1 0 rfl underlying9 rfl hL1 rfl rfl) rfl ?_
 refine S_litE (r := .st) (l := [a0.1]) rfl (fun _ => bsl30_1 _ rfl _) rfl (show 1 ≤ 9223372036854775807 by decide) hH hL1 (.c1 rfl .nil) ?_
 intro v2 w2 hx2 hL2 hle2 hv2
 replace hea1_0 := hea1_0.mono (gz_mono hH hle2)
 replace hT := hT.trans hle2
 obtain ⟨hk4, h⟩ := Go.L.chk_some h
 refine S_appE (r := .st) (l := a1) (m := [a0.1]) 2 rfl rfl underlying30 zr9 rfl (by decide) rfl hH hL2 rfl hea1_0 hv2 hk4 ?_
 intro v3 w3 xs3 hL3 hle3 he3
 replace hv2 := hv2.mono (gz_mono hH hle3)
 replace hT := hT.trans hle3
 refine S_storeB1 1 rfl rfl (row_one (hL3.at (i := 2) rfl)) zr30 hL3 rfl rfl ?_
 intro w5 hL5 hle5
 replace hv2 := hv2.mono (gz_mono hH hle5)
 replace he3 := he3.mono (gz_mono hH hle5)
 replace hT := hT.trans hle5
 refine S_nil ?_
 obtain rfl := Option.some.inj h
 refine At_got0e rfl ?_
 have hL6 := hL5.dropAt (i := 0) rfl
 replace hv2 := hv2.mono (gz_mono hH (fz_dropAt (i := 0) rfl))
 replace he3 := he3.mono (gz_mono hH (fz_dropAt (i := 0) rfl))
 replace hT := hT.trans (fz_dropAt (i := 0) rfl)
 exact ⟨v3, xs3, rfl, hL6, hT, he3⟩
end Go.Proofs.YtmfiaecglndldaaGreatDoor
end
section
namespace Go.Proofs.YtmfiaecglndldaaGreatDoor
open Go Go.E Go.RowKit
set_option maxHeartbeats 1000000
set_option maxRecDepth 10000
open _root_.Go.Proofs.Tryz
noncomputable def internal_bytealg_CompareString (a0 : List UInt8) (a1 : List UInt8) : Option (Int) :=
 some ((Lib.compareBytes a0 a1))
theorem internal_bytealg_CompareString_ok [Dr] (w : World) (H : PH) (_hH : Le H (hp w)) {a0 : List UInt8} {a1 : List UInt8}   {r : Int} (h : internal_bytealg_CompareString a0 a1 = some r) :
  Ok Tryz.prog 133 [.string ⟨(a0).toArray⟩, .string ⟨(a1).toArray⟩] w (fun v w' => Ext w w' ∧ v = .int .i64 r) := by
 refine Ok_enter (n := 8) [(0, .string ⟨(a0).toArray⟩), (1, .string ⟨(a1).toArray⟩)] func133 rfl rfl rfl rfl rfl ?_
 have hL := Lcl.start w
 refine W_pz 1 rfl ?_
 refine W_p 2 rfl ?_
 refine S_v (r_scmp func166 rfl rfl (by kernel_rfl) (by kernel_rfl) rfl rfl) rfl ?_
 refine S_pz 1 rfl ?_
 refine W_ret ?_
 obtain rfl := Option.some.inj h
 refine At_body rfl rfl ?_
 exact ⟨hL.ext, rfl⟩
noncomputable def strings_Compare (a0 : List UInt8) (a1 : List UInt8) : Option (Int) :=
 Option.bind (internal_bytealg_CompareString a0 a1) (fun x1 => some (x1))
theorem strings_Compare_ok [Dr] (w : World) (H : PH) (hH : Le H (hp w)) {a0 : List UInt8} {a1 : List UInt8}   {r : Int} (h : strings_Compare a0 a1 = some r) :
  Ok Tryz.prog 106 [.string ⟨(a0).toArray⟩, .string ⟨(a1).toArray⟩] w (fun v w' => Ext w w' ∧ v = .int .i64 r) := by
 refine Ok_enter (n := 8) [(0, .string ⟨(a0).toArray⟩), (1, .string ⟨(a1).toArray⟩)] func106 rfl rfl rfl rfl rfl ?_
 have hL := Lcl.start w
 refine W_pz 1 rfl ?_
 refine W_p 2 rfl ?_
 obtain ⟨x1, hb1, h⟩ := Go.L.bind_some h
 refine S_callL rfl rfl hL (internal_bytealg_CompareString_ok _ _ (gz_le hH hL) hb1) ?_
 rintro _ w2 rfl hx2 hL2 hle2
 refine S_pz 1 rfl ?_
 refine W_ret ?_
 obtain rfl := Option.some.inj h
 refine At_body rfl rfl ?_
 exact ⟨hL2.ext, rfl⟩
noncomputable def cmp_isNaN_int (a0 : Int) : Option (Bool) :=
 some (!decide (a0 = a0))
theorem cmp_isNaN_int_ok [Dr] (w : World) (H : PH) (_hH : Le H (hp w)) {a0 : Int}   {r : Bool} (h : cmp_isNaN_int a0 = some r) :
  Ok Tryz.prog 134 [.int .i64 a0] w (fun v w' => Ext w w' ∧ v = .bool r) := by
 refine Ok_enter (n := 6) [(0, .int .i64 a0)] func134 rfl rfl rfl rfl rfl ?_
 have hL := Lcl.start w
 refine W_pz 1 rfl ?_
 refine W_pz 4 rfl ?_
 refine W_ret ?_
 obtain rfl := Option.some.inj h
 refine At_body rfl rfl ?_
 exact ⟨hL.ext, rfl⟩
noncomputable def cmp_Compare_int (a0 : Int) (a1 : Int) : Option (Int) :=
 Option.bind (cmp_isNaN_int a0) (fun x1 => Option.bind (cmp_isNaN_int a1) (fun x3 => if x1 then (if x3 then some ((0 : Int)) else some ((-1 : Int))) else (if x3 then some ((1 : Int)) else (if a0 < a1 then some ((-1 : Int)) else (if a1 < a0 then some ((1 : Int)) else some ((0 : Int)))))))
theorem cmp_Compare_int_ok [Dr] (w : World) (H : PH) (hH : Le H (hp w)) {a0 : Int} {a1 : Int}   {r : Int} (h : cmp_Compare_int a0 a1 = some r) :
  Ok Tryz.prog 107 [.int .i64 a0, .int .i64 a1] w (fun v w' => Ext w w' ∧ v = .int .i64 r) := by
 refine Ok_enter (n := 20) [(0, .int .i64 a0), (1, .int .i64 a1)] func107 rfl rfl rfl rfl rfl ?_
 have hL := Lcl.start w
 refine W_pz 1 rfl ?_
 refine W_p 1 rfl ?_
 obtain ⟨x1, hb1, h⟩ := Go.L.bind_some h
 refine S_callL rfl rfl hL (cmp_isNaN_int_ok _ _ (gz_le hH hL) hb1) ?_
 rintro _ w2 rfl hx2 hL2 hle2
 refine S_pz 1 rfl ?_
 refine W_p 1 rfl ?_
 obtain ⟨x3, hb3, h⟩ := Go.L.bind_some h
 refine S_callL rfl rfl hL2 (cmp_isNaN_int_ok _ _ (gz_le hH hL2) hb3) ?_
 rintro _ w4 rfl hx4 hL4 hle4
 refine S_pz 1 rfl ?_
 refine W_seq ?_
 refine W_pz 1 rfl ?_
 refine W_cond rfl (fun hc5 => ?_) (fun hc5 => ?_)
 ·replace h := Go.L.ite_t hc5 h
  refine W_seq ?_
  refine W_pz 1 rfl ?_
  refine W_cond rfl (fun hc7 => ?_) (fun hc7 => ?_)
  ·replace h := Go.L.ite_t hc7 h
   refine W_pz 1 rfl ?_
   refine W_ret ?_
   iterate 2 refine At_seq_ret ?_
   obtain rfl := Option.some.inj h
   refine At_body rfl rfl ?_
   exact ⟨hL4.ext, rfl⟩
  ·replace h := Go.L.ite_f hc7 h
   refine W_skip ?_
   refine At_seq ?_
   refine W_pz 1 rfl ?_
   refine W_ret ?_
   refine At_seq_ret ?_
   obtain rfl := Option.some.inj h
   refine At_body rfl rfl ?_
   exact ⟨hL4.ext, rfl⟩
 ·replace h := Go.L.ite_f hc5 h
  refine W_skip ?_
  refine At_seq ?_
  refine W_seq ?_
  refine W_pz 1 rfl ?_
  refine W_cond rfl (fun hc11 => ?_) (fun hc11 => ?_)
  ·replace h := Go.L.ite_t hc11 h
   refine W_pz 1 rfl ?_
   refine W_ret ?_
   refine At_seq_ret ?_
   obtain rfl := Option.some.inj h
   refine At_body rfl rfl ?_
   exact ⟨hL4.ext, rfl⟩
  ·replace h := Go.L.ite_f hc11 h
   refine W_skip ?_
   refine At_seq ?_
   refine W_seq ?_
   refine W_pz 3 rfl ?_
   refine W_if rfl (fun hc14 => ?_) (fun hc14 => ?_)
   ·replace h := Go.L.ite_p hc14 h
    refine W_pz 1 rfl ?_
    refine W_ret ?_
    refine At_seq_ret ?_
    obtain rfl := Option.some.inj h
    refine At_body rfl rfl ?_
    exact ⟨hL4.ext, rfl⟩
   ·replace h := Go.L.ite_n hc14 h
    refine W_skip ?_
    refine At_seq ?_
    refine W_seq ?_
    refine W_pz 3 rfl ?_
    refine W_if rfl (fun hc17 => ?_) (fun hc17 => ?_)
    ·replace h := Go.L.ite_p hc17 h
     refine W_pz 1 rfl ?_
     refine W_ret ?_
     refine At_seq_ret ?_
     obtain rfl := Option.some.inj h
     refine At_body rfl rfl ?_
     exact ⟨hL4.ext, rfl⟩
    ·replace h := Go.L.ite_n hc17 h
     refine W_skip ?_
     refine At_seq ?_
     refine W_pz 1 rfl ?_
     refine W_ret ?_
     obtain rfl := Option.some.inj h
     refine At_body rfl rfl ?_
     exact ⟨hL4.ext, rfl⟩
noncomputable def cmp_Or_int_k1 : Option (Int) :=
 some ((0 : Int))
noncomputable def cmp_Or_int_bl2 (a0 : List Int) : Int → Option ((Int) ⊕ (Int)) := fun s8_25 =>
 if s8_25 < (a0.length : Int) then Go.L.chk (0 ≤ s8_25 ∧ s8_25 < (a0.length : Int)) (if a0.getD s8_25.toNat default = (0 : Int) then Go.L.chk (Go.L.I64 (s8_25 + (1 : Int))) (some (Sum.inl (s8_25 + (1 : Int)))) else Option.map Sum.inr (some (a0.getD s8_25.toNat default))) else Option.map Sum.inr (cmp_Or_int_k1)
noncomputable def cmp_Or_int_l2 (a0 : List Int) (s : Int) : Option (Int) := Go.L.run (cmp_Or_int_bl2 a0) s
noncomputable def cmp_Or_int (a0 : List Int) : Option (Int) :=
 (cmp_Or_int_l2 a0) (0 : Int)
theorem cmp_Or_int_ok [Dr] (w : World) (H : PH) (hH : Le H (hp w)) {a0 : List Int} {v0_0 : Value} (h0_0 : Vec (.int .i64) H v0_0 (a0)) {r : Int} (h : cmp_Or_int a0 = some r) :
  Ok Tryz.prog 105 [v0_0] w (fun v w' => Ext w w' ∧ v = .int .i64 r) := by
 refine Ok_enter (n := 18) [(0, v0_0)] func105 rfl rfl rfl rfl rfl ?_
 have hL := Lcl.start w
 refine W_pz 1 rfl ?_
 refine W_pz 1 rfl ?_
 refine W_cut (σ := Unit) (fun (_ : Unit) => [(3, .int .i64 (0 : Int))]) (fun (_ : Unit) wr => Lcl w [] wr ∧ cmp_Or_int_k1 = some r) ?_ ?_
 ·refine W_p 1 rfl ?_
  refine S_v (r_len rfl underlying52 h0_0) rfl ?_
  refine S_pz 1 rfl ?_
  refine W_block ?_
  obtain ⟨n26, h⟩ := Go.L.run_some h
  refine W_loop (σ := Int × Nat) (fun ⟨s8_25, n⟩ => [(3, .int .i64 (0 : Int)), (6, v0_0), (7, .int .i64 (a0.length : Int)), (8, .int .i64 s8_25)]) (fun ⟨s8_25, n⟩ wr => Lcl w [] wr ∧ Go.L.itr (cmp_Or_int_bl2 a0) n s8_25 = some r) (fun ⟨s8_25, n⟩ => n) ((0 : Int), n26) (.cons rfl (.cons rfl (.cons rfl (.cons rfl (Sub.nil _))))) ⟨hL, h⟩ ?_
  rintro ⟨s8_25, nn26⟩ wr26 ⟨hL26, h⟩
  obtain ⟨n26, e26, rfl, h, hm26⟩ := Go.L.itr_some h
  refine W_pz 1 rfl ?_
  refine W_seq ?_
  refine W_if rfl (fun hc28 => ?_) (fun hc28 => ?_)
  ·replace h := Go.L.ite_p hc28 h
   refine W_skip ?_
   refine At_seq ?_
   refine W_seq ?_
   refine W_block ?_
   refine W_seqr ?_
   obtain ⟨hk31, h⟩ := Go.L.chk_some h
   refine S_index rfl rfl underlying52 zr3 h0_0 s8_25.toNat (Int.toNat_of_nonneg hk31.1).symm (idx_lt hk31) rfl ?_
   rintro p30 _ rfl hp30
   refine S_v (r_load1 rfl underlying3 rfl hp30 (hH.trans hL26.arg)) rfl ?_
   refine S_pz 1 rfl ?_
   refine W_pz 3 rfl ?_
   refine W_ifn rfl (fun hc32 => ?_) (fun hc32 => ?_)
   ·replace h := Go.L.ite_n hc32 h
    refine W_pz 2 rfl ?_
    refine W_ret ?_
    refine At_block_ret ?_
    refine At_seq_ret ?_
    refine At_loop_ret ?_
    replace h := Go.L.Nxt.out h hm26
    refine At_block_ret ?_
    refine At_cut_ret ?_
    obtain rfl := Option.some.inj h
    refine At_body rfl rfl ?_
    exact ⟨hL26.ext, rfl⟩
   ·replace h := Go.L.ite_p hc32 h
    refine W_skip ?_
    refine At_block ?_
    refine At_seq ?_
    refine W_region ?_
    obtain ⟨hk35, h⟩ := Go.L.chk_some h
    refine S_v (r_ar64 rfl rfl rfl hk35) rfl ?_
    refine S_pu 1 rfl ?_
    refine S_nil ?_
    have h := Go.L.Nxt.again h hm26
    refine At_round ((s8_25 + (1 : Int)), n26) (.cons rfl (.cons rfl (.cons rfl (.cons rfl (Sub.nil _))))) ⟨hL26, h⟩ (Nat.lt_succ_self _)
  ·replace h := Go.L.ite_n hc28 h
   refine W_exit ?_
   refine At_seq_exit ?_
   refine At_loop_exit ?_
   replace h := Go.L.Nxt.out h hm26
   refine At_exit ?_
   refine At_cut () (.cons rfl (Sub.nil _)) ⟨hL26, h⟩
 ·rintro _ wr13 ⟨hL13, h⟩
  refine W_pz 2 rfl ?_
  refine W_ret ?_
  obtain rfl := Option.some.inj h
  refine At_body rfl rfl ?_
  exact ⟨hL13.ext, rfl⟩
noncomputable def shapes_leaf_compare (a0 : (List UInt8) × Int × Int × (List UInt8)) (a1 : (List UInt8) × Int × Int × (List UInt8)) : Option (Int) :=
 Option.bind (strings_Compare a0.1 a1.1) (fun x5 => Option.bind (cmp_Compare_int a0.2.1 a1.2.1) (fun x7 => Option.bind (cmp_Compare_int a0.2.2.1 a1.2.2.1) (fun x9 => Option.bind (strings_Compare a0.2.2.2 a1.2.2.2) (fun x11 => Option.bind (cmp_Or_int ([x5, x7, x9, x11])) (fun x14 => some (x14))))))
theorem shapes_leaf_compare_ok [Dr] (w : World) (H : PH) (hH : Le H (hp w)) {a0 : (List UInt8) × Int × Int × (List UInt8)} {a1 : (List UInt8) × Int × Int × (List UInt8)}   {r : Int} (h : shapes_leaf_compare a0 a1 = some r) :
  Ok Tryz.prog 72 [.agg #[.string ⟨(a0.1).toArray⟩, .int .i64 a0.2.1, .int .i64 a0.2.2.1, .string ⟨(a0.2.2.2).toArray⟩], .agg #[.string ⟨(a1.1).toArray⟩, .int .i64 a1.2.1, .int .i64 a1.2.2.1, .string ⟨(a1.2.2.2).toArray⟩]] w (fun v w' => Ext w w' ∧ v = .int .i64 r) := by
 refine Ok_enter (n := 27) [(0, .agg #[.string ⟨(a0.1).toArray⟩, .int .i64 a0.2.1, .int .i64 a0.2.2.1, .string ⟨(a0.2.2.2).toArray⟩]), (1, .agg #[.string ⟨(a1.1).toArray⟩, .int .i64 a1.2.1, .int .i64 a1.2.2.1, .string ⟨(a1.2.2.2).toArray⟩])] func72 rfl rfl rfl rfl rfl ?_
 have hL := Lcl.start w
 refine W_seqr ?_
 refine S_box (t := 84) rfl rfl rfl hL ?_
 intro w1 b1 hL1 hle1 _
 refine S_box (t := 84) rfl rfl rfl hL1 ?_
 intro w2 b2 hL2 hle2 _
 refine S_pz 1 rfl ?_
 refine W_seqd (.q 0 (.q 1 (.q 2 (.q 3 (.q 4 (.q 5 (.q 6 (.q 7 (.q 8 (.q 9 (.q 10 (.q 11 (.q 12 (.q 13 (.q 14 (.q 15 (.q 16 (.q 17 (.q 18 (.q 19 (.h 20 (.q 21 (.q 22 (.tail 23)))))))))))))))))))))))) mixed (by kernel_rfl) (fun w3 hx3 => ?_)
 have hL4 := hL2.call hx3
 refine D_v (r_field rfl underlying84 rfl zr9 (by decide)) rfl rfl ?_
 refine D_v (r_loadB1 1 rfl underlying9 rfl hL4 rfl rfl) rfl rfl ?_
 refine D_v (r_field rfl underlying84 rfl zr9 (by decide)) rfl rfl ?_
 refine D_v (r_loadB1 0 rfl underlying9 rfl hL4 rfl rfl) rfl rfl ?_
 obtain ⟨x5, hb5, h⟩ := Go.L.bind_some h
 refine D_call rfl rfl rfl (fun w6 hx6 => strings_Compare_ok _ _ (Le.refl _) hb5) ?_
 refine D_v (r_field rfl underlying84 rfl zr3 (by decide)) rfl rfl ?_
 refine D_v (r_loadB1 1 rfl underlying3 rfl hL4 rfl rfl) rfl rfl ?_
 refine D_v (r_field rfl underlying84 rfl zr3 (by decide)) rfl rfl ?_
 refine D_v (r_loadB1 0 rfl underlying3 rfl hL4 rfl rfl) rfl rfl ?_
 obtain ⟨x7, hb7, h⟩ := Go.L.bind_some h
 refine D_call rfl rfl rfl (fun w8 hx8 => cmp_Compare_int_ok _ _ (Le.refl _) hb7) ?_
 refine D_v (r_field rfl underlying84 rfl zr3 (by decide)) rfl rfl ?_
 refine D_v (r_loadB1 1 rfl underlying3 rfl hL4 rfl rfl) rfl rfl ?_
 refine D_v (r_field rfl underlying84 rfl zr3 (by decide)) rfl rfl ?_
 refine D_v (r_loadB1 0 rfl underlying3 rfl hL4 rfl rfl) rfl rfl ?_
 obtain ⟨x9, hb9, h⟩ := Go.L.bind_some h
 refine D_call rfl rfl rfl (fun w10 hx10 => cmp_Compare_int_ok _ _ (Le.refl _) hb9) ?_
 refine D_v (r_field rfl underlying84 rfl zr9 (by decide)) rfl rfl ?_
 refine D_v (r_loadB1 1 rfl underlying9 rfl hL4 rfl rfl) rfl rfl ?_
 refine D_v (r_field rfl underlying84 rfl zr9 (by decide)) rfl rfl ?_
 refine D_v (r_loadB1 0 rfl underlying9 rfl hL4 rfl rfl) rfl rfl ?_
 obtain ⟨x11, hb11, h⟩ := Go.L.bind_some h
 refine D_call rfl rfl rfl (fun w12 hx12 => strings_Compare_ok _ _ (Le.refl _) hb11) ?_
 refine D_litE (r := (.int .i64)) (l := [x5, x7, x9, x11]) rfl rfl (fun _ => bsl52_4 _ _ _ _ _) rfl (show 4 ≤ 9223372036854775807 by decide) hH hL4 (.c1 rfl (.c1 rfl (.c1 rfl (.c1 rfl .nil)))) ?_
 intro v13 w13 hx13 hL13 hle13 hv13
 obtain ⟨x14, hb14, h⟩ := Go.L.bind_some h
 refine D_call rfl rfl rfl (fun w15 hx15 => cmp_Or_int_ok _ _ (Le.refl _) ((hv13.mono (gz_le hH hL13)).mono hx15.le) hb14) ?_
 refine D_pu 1 rfl ?_
 refine D_tail (fun w16 hx16 => ?_)
 have hL17 := hL13.call hx16
 have hle17 := fz_ext hL13 hx16
 replace hv13 := hv13.mono (gz_mono hH hle17)
 refine S_seqnil ?_
 refine W_ret ?_
 obtain rfl := Option.some.inj h
 refine At_body rfl rfl ?_
 exact ⟨hL17.ext, rfl⟩
end Go.Proofs.YtmfiaecglndldaaGreatDoor
end
section
namespace Go.E
open Go Go.RowKit Go.Sort Go.Proofs Go.Shelf
theorem ext_grow [Dr] {w w' : World} (hd : Dr.on = true) (h : Ext w w') : ∃ q os, w' = grow (w.drewN q) os := by
  refine ⟨w'.drawn - w.drawn, w'.heap.extract w.heap.size w'.heap.size, ?_⟩
  have hd := h.drawn hd
  have hh : w.heap ++ w'.heap.extract w.heap.size w'.heap.size = w'.heap := by
    apply Array.ext_getElem?
    intro k
    rcases Nat.lt_or_ge k w.heap.size with hk | hk
    · rw [Array.getElem?_append_left hk, h.block k hk]
    · rw [Array.getElem?_append_right hk, Array.getElem?_extract]
      have := h.size
      split
      · congr 1; omega
      · rw [Array.getElem?_eq_none (by omega)]
  obtain ⟨heap, tape, drawn, os, output⟩ := w
  obtain ⟨heap', tape', drawn', os', output'⟩ := w'
  have h1 := h.os
  have h2 := h.tape
  have h3 := h.output
  simp only at h1 h2 h3 hd hh
  subst h1; subst h2; subst h3
  simp only [grow, World.drewN, World.mk.injEq, and_true, true_and]
  exact ⟨hh.symm, by omega⟩
section
variable {α : Type} [Inhabited α]
theorem sortWorld_heap (enc : α → Value) (w : World) (g m : Nat) (d : Array α) (os : Array Obj) (k : Nat) (hk : k < w.heap.size) : (sortWorld enc w g 0 m d os).heap[k]? = if k = g then (w.heap[k]?).map (onCells (putCells enc 0 d)) else w.heap[k]? := by
  unfold sortWorld grow putRow mapBlock Sort.ahead
  simp only
  rw [Array.getElem?_append_left (by simpa using hk), Array.getElem?_modify]
  by_cases h : g = k
  · subst h; simp
  · rw [if_neg h, if_neg (fun e => h e.symm)]
theorem sortWorld_grown (enc : α → Value) (w : World) (g m : Nat) (d : Array α) (os : Array Obj) : w.grownBy (sortWorld enc w g 0 m d os) (some g) :=
  ⟨rfl, rfl, rfl, by simp [sortWorld, grow, putRow, mapBlock, Sort.ahead], fun k hk hne => by rw [sortWorld_heap enc w g m d os k hk, if_neg (fun e => hne (by rw [e]))]⟩
theorem putCells_take (enc : α → Value) (d : Array α) (c : Array Value) (h : d.size ≤ c.size) : (putCells enc 0 d c).toList.take d.size = d.toList.map enc := by
  apply List.ext_getElem?
  intro k
  rw [List.getElem?_take]
  by_cases hk : k < d.size
  · rw [if_pos hk]
    have hkc : k < c.size := by omega
    simp [putCells, hk, hkc]
  · rw [if_neg hk, List.getElem?_eq_none (by simp; omega)]
/-- A row behind such a sort: other cells, as many. -/
theorem row_put {enc : α → Value} {w : World} {e : TypeId} {g cap n sz m : Nat} {xs : List Value} {d : Array α} {os : Array Obj} (ho : w.ownsRow 0 e sz (.slice (some ⟨g, 0, none⟩) n cap) n xs) (hl : d.size = xs.length) :
    (sortWorld enc w g 0 m d os).ownsRow 0 e sz (.slice (some ⟨g, 0, none⟩) n cap) n (d.toList.map enc) := by
  obtain ⟨h1, h2⟩ := ho
  refine ⟨by simp; omega, ?_⟩
  rcases h2 with ⟨hc, _⟩ | ⟨g', cap', cur, hv, hb, hg, hnc, hcm, hcs, htake⟩
  · cases hc
  · cases hv
    have hgl := lt_of_heap hg
    have hle : n * sz ≤ cap * sz := Nat.mul_le_mul_right _ hnc
    refine .inr ⟨g, cap, putCells enc 0 d cur, rfl, hb, ?_, hnc, hcm, by simp [putCells, hcs], ?_⟩
    · rw [sortWorld_heap enc w g m _ os g hgl, if_pos rfl, hg]
      rfl
    · have := putCells_take enc d cur (by omega)
      rw [show n * sz = d.size by omega]
      exact this
theorem row_holds {enc : α → Value} {w : World} {e : TypeId} {g cap n sz : Nat} {xs : List Value} {d : Array α} (ho : w.ownsRow 0 e sz (.slice (some ⟨g, 0, none⟩) n cap) n xs) (hd : d.toList.map enc = xs) : Holds enc w g 0 d ∧ g < w.heap.size := by
  obtain ⟨h1, h2⟩ := ho
  have hsz : d.size = xs.length := by rw [← hd]; simp
  rcases h2 with ⟨hc, _⟩ | ⟨g', cap', cur, hv, hb, hg, hnc, hcm, hcs, htake⟩
  · cases hc
  · cases hv
    have hle : n * sz ≤ cap * sz := Nat.mul_le_mul_right _ hnc
    refine ⟨fun j hj => ?_, lt_of_heap hg⟩
    constructor
    · have h4 : xs[j]? = some (enc d[j]!) := by rw [← hd]; simp [hj]
      have : cur.toList[j]? = some (enc d[j]!) := by
        rw [← htake, List.getElem?_take, if_pos (by omega)] at h4
        exact h4
      simp only [World.cell?, hg, Nat.zero_add]
      simpa using this
    · simp [World.frozen?, hg]
end
theorem row_cut {w : World} {e : TypeId} {g cap n q : Nat} {xs : List Value} (ho : w.ownsRow 0 e 1 (.slice (some ⟨g, 0, none⟩) n cap) n xs) (hq : q ≤ n) : w.ownsRow 0 e 1 (.slice (some ⟨g, 0, none⟩) q cap) q (xs.take q) := by
  obtain ⟨h1, h2⟩ := ho
  rcases h2 with ⟨hc, _⟩ | ⟨g', cap', cur, hv, hb, hg, hnc, hcm, hcs, htake⟩
  · cases hc
  · cases hv
    refine ⟨by rw [List.length_take, h1]; omega, .inr ⟨g, cap, cur, rfl, hb, hg, by omega, hcm, hcs, ?_⟩⟩
    rw [← htake, List.take_take, Nat.mul_one, Nat.mul_one, Nat.min_eq_left hq]
section
variable {P : Program} {n : Sz} {ops : Array Oper} {Q : Exit → Act → World → Prop} {L : Env} {w w0 : World} {O : List Res} {rest : List Oper} {d : Nat} {ty : TypeId} {pos : String} {af : Array Edge} {v : Value} {e : TypeId} {H : PH} {α β : Type} [Inhabited β] {r : Rp α}
/-- A call that leaves other cells in a row of the call's own, as many. -/
theorem S_putRow [Dr] {f i sz : Nat} {at_ : Array TypeId} {args : List Operand} {l l' : List α} {xs ys : List Value} {dd : Array β} {enc : β → Value} {fa : List Value} (hc : Callable P f) (ha : evl L args = some (v :: fa)) (hn : Nat.blt d n.n = true) (hL : Lcl w0 O w) (hi : nthR O i = some (.row v e sz l.length xs)) (hd : dd.toList.map enc = ys) (hl : l'.length = l.length) (hy : ys.length = xs.length) (hys : l.length = 0 → ys = xs)
    (hnil : v = .slice none 0 0 → Calls P f (v :: fa).toArray w fun e w' => e = .returned (.tuple #[]) ∧ w' = w)
    (hs : ∀ g cap, v = .slice (some ⟨g, 0, none⟩) l.length cap → l.length ≤ cap → Calls P f (v :: fa).toArray w fun e w' => e = .returned (.tuple #[]) ∧ ∃ m os, w' = sortWorld enc w g 0 m dd os)
    (h : ∀ w', Lcl w0 (setR O i (.row v e sz l'.length ys)) w' → Le (fz w O) (fz w' (setR O i (.row v e sz l'.length ys))) → S P n ops Q rest ((d, .tuple #[]) :: L) w') :
    S P n ops Q (⟨some d, .call ⟨.value (.func f), args.toArray, at_⟩, ty, pos, af, none⟩ :: rest) L w := by
  have hown : w.ownsRow 0 e sz v l.length xs := hL.at hi
  rw [hl] at h
  rcases hown.2 with ⟨hv, hn0⟩ | ⟨g0, cap, cur, hv, hb0, hg0, hnc, _⟩
  · refine S_op rfl fun a fr => ?_
    unfold Oper.wp
    rw [run_call hc ha _ fr.rho]
    refine (hnil hv).mono fun en w' ⟨he, hw⟩ => ?_
    subst he; subst hw
    have hyx := hys hn0
    subst hyx
    exact h w' (hL.turnAt hi (Nat.le_refl _) (World.grownBy.refl _ _) (hL.at hi) (fun b e => .inl e)) (fz_turnAt (r' := .row v e sz l.length ys) hL hi (World.grownBy.refl _ _) (fun b e => .inl e)) _ (fr.put hn)
  · refine S_op rfl fun a fr => ?_
    unfold Oper.wp
    rw [run_call hc ha _ fr.rho]
    refine (hs g0 cap hv hnc).mono fun en w' ⟨he, m, os, hw⟩ => ?_
    subst he
    have hgr := sortWorld_grown enc w g0 m dd os
    rw [← hw] at hgr
    have hok : (Res.row v e sz l.length ys).ok w' := by
      rw [hw, hv, ← hd]
      refine row_put (by rw [← hv]; exact hown) ?_
      have : dd.toList.length = ys.length := by rw [← hd]; simp
      simpa [hy] using this
    have hdr : w.drawn ≤ w'.drawn := by rw [hw]; exact Nat.le_add_right _ _
    have hgr' : w.grownBy w' (Res.row v e sz l.length xs).block := by rw [hv]; exact hgr
    exact h w' (hL.turnAt hi hdr hgr' hok (fun b e => .inl e)) (fz_turnAt (r' := .row v e sz l.length ys) hL hi hgr' (fun b e => .inl e)) _ (fr.put hn)
/-- A call that leaves fewer elements in a row and hands it back cut off. -/
theorem S_cutCall [Dr] {f i : Nat} {at_ : Array TypeId} {args : List Operand} {l : List α} {l' : List β} {z : β} {xs : List Value} {enc : β → Value} (hc : Callable P f) (ha : evl L args = some [v]) (hn : Nat.blt d n.n = true) (hL : Lcl w0 O w) (hi : nthR O i = some (.row v e 1 l.length xs)) (hle : l'.length ≤ l.length)
    (hnil : v = .slice none 0 0 → Calls P f #[v] w fun e w' => e = .returned v ∧ w' = w)
    (hs : ∀ g cap, v = .slice (some ⟨g, 0, none⟩) l.length cap → l.length ≤ cap → Calls P f #[v] w fun e w' => e = .returned (.slice (some ⟨g, 0, none⟩) l'.length cap) ∧ ∃ q, w' = putRow enc (Sort.ahead w q) g 0 (l' ++ List.replicate (l.length - l'.length) z).toArray)
    (h : ∀ v' w', Lcl w0 (setR O i (.row v' e 1 l'.length (l'.map enc))) w' → Le (fz w O) (fz w' (setR O i (.row v' e 1 l'.length (l'.map enc)))) → S P n ops Q rest ((d, v') :: L) w') :
    S P n ops Q (⟨some d, .call ⟨.value (.func f), args.toArray, at_⟩, ty, pos, af, none⟩ :: rest) L w := by
  have hown : w.ownsRow 0 e 1 v l.length xs := hL.at hi
  rcases hown.2 with ⟨hv, hn0⟩ | ⟨g0, cap, cur, hv, hb0, hg0, hnc, _⟩
  · have hl0 : l' = [] := List.eq_nil_of_length_eq_zero (by omega)
    subst hl0
    refine S_op rfl fun a fr => ?_
    unfold Oper.wp
    rw [run_call hc ha _ fr.rho]
    refine (hnil hv).mono fun en w' ⟨he, hw⟩ => ?_
    subst he; subst hw
    have hx0 : xs = [] := List.eq_nil_of_length_eq_zero (by rw [hown.1, hn0])
    have hok : (Res.row v e 1 ([] : List β).length (([] : List β).map enc)).ok w' := by
      have := hL.at hi
      rw [hn0, hx0] at this
      exact this
    exact h v w' (hL.turnAt hi (Nat.le_refl _) (World.grownBy.refl _ _) hok (fun b e => .inl e)) (fz_turnAt (r' := .row v e 1 ([] : List β).length (([] : List β).map enc)) hL hi (World.grownBy.refl _ _) (fun b e => .inl e)) _ (fr.put hn)
  · refine S_op rfl fun a fr => ?_
    unfold Oper.wp
    rw [run_call hc ha _ fr.rho]
    refine (hs g0 cap hv hnc).mono fun en w' ⟨he, q, hw⟩ => ?_
    subst he
    have hw2 : w' = sortWorld enc w g0 0 q (l' ++ List.replicate (l.length - l'.length) z).toArray #[] := by rw [hw]; unfold sortWorld; rw [grow_empty]
    have hgr := sortWorld_grown enc w g0 q (l' ++ List.replicate (l.length - l'.length) z).toArray #[]
    rw [← hw2] at hgr
    have hok : (Res.row (.slice (some ⟨g0, 0, none⟩) l'.length cap) e 1 l'.length (l'.map enc)).ok w' := by
      have h1 : w'.ownsRow 0 e 1 (.slice (some ⟨g0, 0, none⟩) l.length cap) l.length ((l' ++ List.replicate (l.length - l'.length) z).map enc) := by
        have h0 := row_put (enc := enc) (m := q) (d := (l' ++ List.replicate (l.length - l'.length) z).toArray) (os := #[]) (by rw [← hv]; exact hown) (by have := hown.1; simp; omega)
        rw [← hw2] at h0
        simpa using h0
      have h2 := row_cut h1 hle
      rwa [List.map_append, List.take_left' (by simp)] at h2
    have hdr : w.drawn ≤ w'.drawn := by rw [hw2]; exact Nat.le_add_right _ _
    have hgr' : w.grownBy w' (Res.row v e 1 l.length xs).block := by rw [hv]; exact hgr
    have hb : ∀ b, (Res.row (.slice (some ⟨g0, 0, none⟩) l'.length cap) e 1 l'.length (l'.map enc)).block = some b → (Res.row v e 1 l.length xs).block = some b := fun b e => by rw [hv]; exact e
    exact h _ w' (hL.turnAt hi hdr hgr' hok (fun b e => .inl (hb b e))) (fz_turnAt (r' := .row (.slice (some ⟨g0, 0, none⟩) l'.length cap) e 1 l'.length (l'.map enc)) hL hi hgr' (fun b e => .inl (hb b e))) _ (fr.put hn)
end
/-! ### Elements of one cell as their cells -/
theorem st_elems {H : PH} {l : List (List UInt8)} {xs : List Value} (h : Elems .st H l xs) : l.map encStr = xs := by
  induction h with
  | nil => rfl
  | cons h _ ih => cases h; rw [List.map_cons, ih]; rfl
theorem elems_st' (H : PH) : ∀ l : List (List UInt8), Elems .st H l (l.map encStr)
  | [] => .nil
  | _ :: l => .cons (c := [_]) rfl (elems_st' H l)
theorem in_elems {H : PH} {l : List Int} {xs : List Value} (h : Elems (.int .i64) H l xs) : l.map (Value.int .i64) = xs := by
  induction h with
  | nil => rfl
  | cons h _ ih => cases h; rw [List.map_cons, ih]; rfl
theorem elems_in (H : PH) : ∀ l : List Int, Elems (.int .i64) H l (l.map (Value.int .i64))
  | [] => .nil
  | _ :: l => .cons (c := [_]) rfl (elems_in H l)
section
variable {P : Program} {n : Sz} {ops : Array Oper} {Q : Exit → Act → World → Prop} {L : Env} {w w0 : World} {O : List Res} {rest : List Oper} {d : Nat} {ty : TypeId} {pos : String} {af : Array Edge} {v : Value} {e : TypeId} {H : PH} {ρr : Go.Shelf.Ren} {f i : Nat} {at_ : Array TypeId} {args : List Operand} {xs : List Value}
def srtS (l : List (List UInt8)) : List (List UInt8) := l.mergeSort fun x y => decide (x ≤ y)
def srtI (l : List Int) : List Int := l.mergeSort fun x y => decide (x ≤ y)
theorem S_sortS [Dr] {l : List (List UInt8)} (Ls : Lays.n190 P ρr) (hf : ρr.f 190 = f) (hc : Callable P f) (ha : evl L args = some [v]) (hn : Nat.blt d n.n = true) (hH : Le H (hp w0)) (hL : Lcl w0 O w) (hi : nthR O i = some (.row v e 1 l.length xs)) (he : Elems .st (gz H w0 w O) l xs) (hlen : l.length < 4611686018427387904)
    (h : ∀ w' xs', Lcl w0 (setR O i (.row v e 1 (srtS l).length xs')) w' → Le (fz w O) (fz w' (setR O i (.row v e 1 (srtS l).length xs'))) → Elems .st (gz H w0 w' (setR O i (.row v e 1 (srtS l).length xs'))) (srtS l) xs' → S P n ops Q rest ((d, .tuple #[]) :: L) w') :
    S P n ops Q (⟨some d, .call ⟨.value (.func f), args.toArray, at_⟩, ty, pos, af, none⟩ :: rest) L w := by
  have hxs := st_elems he
  have hll : (srtS l).length = l.length := List.length_mergeSort _
  subst hf
  refine S_putRow (l' := srtS l) (enc := encStr) (dd := (srtS l).toArray) (ys := (srtS l).map encStr) hc ha hn hL hi (by simp) hll (by rw [← hxs]; simp [hll]) (fun h0 => ?_) (fun hv => ?_) (fun g cap hv hcap => ?_) (fun w' h1 h2 => h w' _ h1 h2 (elems_st' _ _))
  · have : l = [] := List.eq_nil_of_length_eq_zero h0
    subst this
    rw [← hxs, show srtS [] = [] from List.mergeSort_nil]
  · subst hv
    exact Any.slices_Sort_string_none Ls none 0 w
  · have hown : w.ownsRow 0 e 1 v l.length xs := hL.at hi
    rw [hv] at hown
    obtain ⟨hH', hblk⟩ := row_holds (enc := encStr) (d := l.toArray) hown (by simpa using hxs)
    subst hv
    exact Any.slices_Sort_string Ls g 0 cap l w hH' hblk hlen
theorem S_sortI [Dr] {l : List Int} (Ls : Lays.n189 P ρr) (hf : ρr.f 189 = f) (hc : Callable P f) (ha : evl L args = some [v]) (hn : Nat.blt d n.n = true) (hH : Le H (hp w0)) (hL : Lcl w0 O w) (hi : nthR O i = some (.row v e 1 l.length xs)) (he : Elems (.int .i64) (gz H w0 w O) l xs) (hlen : l.length < 4611686018427387904)
    (h : ∀ w' xs', Lcl w0 (setR O i (.row v e 1 (srtI l).length xs')) w' → Le (fz w O) (fz w' (setR O i (.row v e 1 (srtI l).length xs'))) → Elems (.int .i64) (gz H w0 w' (setR O i (.row v e 1 (srtI l).length xs'))) (srtI l) xs' → S P n ops Q rest ((d, .tuple #[]) :: L) w') :
    S P n ops Q (⟨some d, .call ⟨.value (.func f), args.toArray, at_⟩, ty, pos, af, none⟩ :: rest) L w := by
  have hxs := in_elems he
  have hll : (srtI l).length = l.length := List.length_mergeSort _
  subst hf
  refine S_putRow (l' := srtI l) (enc := Value.int .i64) (dd := (srtI l).toArray) (ys := (srtI l).map (Value.int .i64)) hc ha hn hL hi (by simp) hll (by rw [← hxs]; simp [hll]) (fun h0 => ?_) (fun hv => ?_) (fun g cap hv hcap => ?_) (fun w' h1 h2 => h w' _ h1 h2 (elems_in _ _))
  · have : l = [] := List.eq_nil_of_length_eq_zero h0
    subst this
    rw [← hxs, show srtI [] = [] from List.mergeSort_nil]
  · subst hv
    exact Any.slices_Sort_int_none Ls none 0 w
  · have hown : w.ownsRow 0 e 1 v l.length xs := hL.at hi
    rw [hv] at hown
    obtain ⟨hH', hblk⟩ := row_holds (enc := Value.int .i64) (d := l.toArray) hown (by simpa using hxs)
    subst hv
    exact Any.slices_Sort_int Ls g 0 cap l w hH' hblk hlen
theorem compact_le {α : Type} [Inhabited α] [DecidableEq α] (l : List α) : (Lib.compact l).length ≤ l.length := by
  unfold Lib.compact Lib.compactUpTo
  rw [List.length_map]
  exact Nat.le_trans (List.length_filter_le _ _) (by simp)
theorem S_compS [Dr] {l : List (List UInt8)} (Ls : Lays.n194 P ρr) (hf : ρr.f 194 = f) (hc : Callable P f) (ha : evl L args = some [v]) (hn : Nat.blt d n.n = true) (hH : Le H (hp w0)) (hL : Lcl w0 O w) (hi : nthR O i = some (.row v e 1 l.length xs)) (he : Elems .st (gz H w0 w O) l xs) (hlen : l.length ≤ 9223372036854775807)
    (h : ∀ v' w' xs', Lcl w0 (setR O i (.row v' e 1 (Lib.compact l).length xs')) w' → Le (fz w O) (fz w' (setR O i (.row v' e 1 (Lib.compact l).length xs'))) → Elems .st (gz H w0 w' (setR O i (.row v' e 1 (Lib.compact l).length xs'))) (Lib.compact l) xs' → S P n ops Q rest ((d, v') :: L) w') :
    S P n ops Q (⟨some d, .call ⟨.value (.func f), args.toArray, at_⟩, ty, pos, af, none⟩ :: rest) L w := by
  have hxs := st_elems he
  subst hf
  refine S_cutCall (l' := Lib.compact l) (enc := encStr) (z := []) hc ha hn hL hi (compact_le l) (fun hv => ?_) (fun g cap hv hcap => ?_) (fun v' w' h1 h2 => h v' w' _ h1 h2 (elems_st' _ _))
  · subst hv
    exact Any.slices_Compact_string_empty Ls none 0 w
  · have hown : w.ownsRow 0 e 1 v l.length xs := hL.at hi
    rw [hv] at hown
    obtain ⟨hH', hblk⟩ := row_holds (enc := encStr) (d := l.toArray) hown (by simpa using hxs)
    subst hv
    exact Any.slices_Compact_string Ls g 0 cap l w hH' hlen hcap
theorem S_compI [Dr] {l : List Int} (Ls : Lays2.n20 P ρr) (hf : ρr.f 20 = f) (hc : Callable P f) (ha : evl L args = some [v]) (hn : Nat.blt d n.n = true) (hH : Le H (hp w0)) (hL : Lcl w0 O w) (hi : nthR O i = some (.row v e 1 l.length xs)) (he : Elems (.int .i64) (gz H w0 w O) l xs) (hlen : l.length ≤ 9223372036854775807)
    (h : ∀ v' w' xs', Lcl w0 (setR O i (.row v' e 1 (Lib.compact l).length xs')) w' → Le (fz w O) (fz w' (setR O i (.row v' e 1 (Lib.compact l).length xs'))) → Elems (.int .i64) (gz H w0 w' (setR O i (.row v' e 1 (Lib.compact l).length xs'))) (Lib.compact l) xs' → S P n ops Q rest ((d, v') :: L) w') :
    S P n ops Q (⟨some d, .call ⟨.value (.func f), args.toArray, at_⟩, ty, pos, af, none⟩ :: rest) L w := by
  have hxs := in_elems he
  subst hf
  refine S_cutCall (l' := Lib.compact l) (enc := Value.int .i64) (z := 0) hc ha hn hL hi (compact_le l) (fun hv => ?_) (fun g cap hv hcap => ?_) (fun v' w' h1 h2 => h v' w' _ h1 h2 (elems_in _ _))
  · subst hv
    exact Any.slices_Compact_int_empty Ls none 0 w
  · have hown : w.ownsRow 0 e 1 v l.length xs := hL.at hi
    rw [hv] at hown
    obtain ⟨hH', hblk⟩ := row_holds (enc := Value.int .i64) (d := l.toArray) hown (by simpa using hxs)
    subst hv
    exact Any.slices_Compact_int Ls g 0 cap l w hH' hlen hcap
end
end Go.E
end
