/- Texts of a claim, merged. -/
import Derived.Test.YtmfiaecglndldaaGreatDoorKc3
import Derived.KernelRfl
import Derived.Shelf.Sort.Plain
import Derived.Shelf.Slices.In.SortNone
import Derived.Shelf.Slices.CompactI
import Derived.Shelf.Slices.CompactS
import Derived.Shelf.SlSortCmp.NoneTotal
import Derived.Maps.RangeRun
set_option linter.unusedVariables false
set_option linter.unusedSimpArgs false
section
namespace Go.Proofs.YtmfiaecglndldaaGreatDoor
open Go Go.E Go.RowKit
set_option maxHeartbeats 1000000
set_option maxRecDepth 10000
open _root_.Go.Proofs.Tryz
noncomputable def shapes_Paths_1 (a0 : (List UInt8) × Int × Int × (List UInt8)) (a1 : List (List UInt8)) : Option ((List (List UInt8))) :=
 Go.L.chk (Go.E.Cap 16 (a1.length + ([a0.1]).length)) (some ((a1 ++ [a0.1])))
theorem shapes_Paths_1_fr {w0 w : World} {H : PH} (hH : Le H (hp w0)) {O : List Res} {a0 : (List UInt8) × Int × Int × (List UInt8)} {a1 : List (List UInt8)} {ba1 : Nat} {va1_0 : Value} {xsa1_0 : List Value} (hL : Lcl w0 (HAppend.hAppend ([.box ba1 [va1_0] 30, .row (va1_0) 9 1 (a1).length (xsa1_0)] : List Res) O) w) (hea1_0 : Elems .st (gz H w0 w (HAppend.hAppend ([.box ba1 [va1_0] 30, .row (va1_0) 9 1 (a1).length (xsa1_0)] : List Res) O)) (a1) xsa1_0) {r : (List (List UInt8))} (h : shapes_Paths_1 a0 a1 = some r) :
  Ok Tryz.prog 52 [.agg #[.string ⟨(a0.1).toArray⟩, .int .i64 a0.2.1, .int .i64 a0.2.2.1, .string ⟨(a0.2.2.2).toArray⟩], .pointer (some ⟨ba1, 0, none⟩)] w (fun v w' => ∃ (u0 : Value) (y0 : List Value), v = .tuple #[] ∧ Lcl w0 (HAppend.hAppend ([.box ba1 [u0] 30, .row u0 9 1 (r).length y0] : List Res) O) w' ∧ Le (fz w (HAppend.hAppend ([.box ba1 [va1_0] 30, .row (va1_0) 9 1 (a1).length (xsa1_0)] : List Res) O)) (fz w' (HAppend.hAppend ([.box ba1 [u0] 30, .row u0 9 1 (r).length y0] : List Res) O)) ∧ Elems .st (gz H w0 w' (HAppend.hAppend ([.box ba1 [u0] 30, .row u0 9 1 (r).length y0] : List Res) O)) (r) y0) := by
 refine Ok_enter (n := 8) [(0, .agg #[.string ⟨(a0.1).toArray⟩, .int .i64 a0.2.1, .int .i64 a0.2.2.1, .string ⟨(a0.2.2.2).toArray⟩]), (1, .pointer (some ⟨ba1, 0, none⟩))] func52 rfl rfl rfl rfl rfl ?_
 have hT := Le.refl (fz w (HAppend.hAppend ([.box ba1 [va1_0] 30, .row (va1_0) 9 1 (a1).length (xsa1_0)] : List Res) O))
 refine W_seqr ?_
 refine S_box (t := 84) rfl rfl rfl hL ?_
 intro w1 b1 hL1 hle1 _
 replace hea1_0 := hea1_0.mono (gz_mono hH hle1)
 replace hT := hT.trans hle1
 refine S_seqnil ?_
 refine W_region ?_
 refine S_v (r_loadB1 1 rfl underlying30 rfl hL1 rfl rfl) rfl ?_
 refine S_v (r_field rfl underlying84 rfl zr9 (by decide)) rfl ?_
 refine S_v (r_loadB1 0 rfl underlying9 rfl hL1 rfl rfl) rfl ?_
 refine S_litE (r := .st) (l := [a0.1]) rfl (fun _ => bsl30_1 _ rfl _) rfl (show 1 ≤ 9223372036854775807 by decide) hH hL1 (.c1 rfl .nil) ?_
 intro v2 w2 hx2 hL2 hle2 hv2
 replace hea1_0 := hea1_0.mono (gz_mono hH hle2)
 replace hT := hT.trans hle2
 obtain ⟨hk4, h⟩ := Go.L.chk_some h
 refine S_appE (r := .st) (l := a1) (m := [a0.1]) 2 rfl rfl underlying30 zr9 rfl (by decide) rfl hH hL2 rfl hea1_0 hv2 hk4 ?_
 intro v3 w3 xs3 hL3 hle3 he3
 replace hv2 := hv2.mono (gz_mono hH hle3)
 replace hT := hT.trans hle3
 refine S_storeB1 1 rfl rfl (row_one (hL3.at (i := 2) rfl)) zr30 hL3 rfl rfl ?_
 intro w5 hL5 hle5
 replace hv2 := hv2.mono (gz_mono hH hle5)
 replace he3 := he3.mono (gz_mono hH hle5)
 replace hT := hT.trans hle5
 refine S_nil ?_
 obtain rfl := Option.some.inj h
 refine At_got0e rfl ?_
 have hL6 := hL5.dropAt (i := 0) rfl
 replace hv2 := hv2.mono (gz_mono hH (fz_dropAt (i := 0) rfl))
 replace he3 := he3.mono (gz_mono hH (fz_dropAt (i := 0) rfl))
 replace hT := hT.trans (fz_dropAt (i := 0) rfl)
 exact ⟨v3, xs3, rfl, hL6, hT, he3⟩
end Go.Proofs.YtmfiaecglndldaaGreatDoor
end
section
namespace Go.Proofs.YtmfiaecglndldaaGreatDoor
open Go Go.E Go.RowKit
set_option maxHeartbeats 1000000
set_option maxRecDepth 10000
open _root_.Go.Proofs.Tryz
noncomputable def internal_bytealg_CompareString (a0 : List UInt8) (a1 : List UInt8) : Option (Int) :=
 some ((Lib.compareBytes a0 a1))
theorem internal_bytealg_CompareString_ok [Dr] (w : World) (H : PH) (_hH : Le H (hp w)) {a0 : List UInt8} {a1 : List UInt8}   {r : Int} (h : internal_bytealg_CompareString a0 a1 = some r) :
  Ok Tryz.prog 133 [.string ⟨(a0).toArray⟩, .string ⟨(a1).toArray⟩] w (fun v w' => Ext w w' ∧ v = .int .i64 r) := by
 refine Ok_enter (n := 8) [(0, .string ⟨(a0).toArray⟩), (1, .string ⟨(a1).toArray⟩)] func133 rfl rfl rfl rfl rfl ?_
 have hL := Lcl.start w
 refine W_pz 1 rfl ?_
 refine W_p 2 rfl ?_
 refine S_v (r_scmp func166 rfl rfl (by kernel_rfl) (by kernel_rfl) rfl rfl) rfl ?_
 refine S_pz 1 rfl ?_
 refine W_ret ?_
 obtain rfl := Option.some.inj h
 refine At_body rfl rfl ?_
 exact ⟨hL.ext, rfl⟩
noncomputable def strings_Compare (a0 : List UInt8) (a1 : List UInt8) : Option (Int) :=
 Option.bind (internal_bytealg_CompareString a0 a1) (fun x1 => some (x1))
theorem strings_Compare_ok [Dr] (w : World) (H : PH) (hH : Le H (hp w)) {a0 : List UInt8} {a1 : List UInt8}   {r : Int} (h : strings_Compare a0 a1 = some r) :
  Ok Tryz.prog 106 [.string ⟨(a0).toArray⟩, .string ⟨(a1).toArray⟩] w (fun v w' => Ext w w' ∧ v = .int .i64 r) := by
 refine Ok_enter (n := 8) [(0, .string ⟨(a0).toArray⟩), (1, .string ⟨(a1).toArray⟩)] func106 rfl rfl rfl rfl rfl ?_
 have hL := Lcl.start w
 refine W_pz 1 rfl ?_
 refine W_p 2 rfl ?_
 obtain ⟨x1, hb1, h⟩ := Go.L.bind_some h
 refine S_callL rfl rfl hL (internal_bytealg_CompareString_ok _ _ (gz_le hH hL) hb1) ?_
 rintro _ w2 rfl hx2 hL2 hle2
 refine S_pz 1 rfl ?_
 refine W_ret ?_
 obtain rfl := Option.some.inj h
 refine At_body rfl rfl ?_
 exact ⟨hL2.ext, rfl⟩
noncomputable def cmp_isNaN_int (a0 : Int) : Option (Bool) :=
 some (!decide (a0 = a0))
theorem cmp_isNaN_int_ok [Dr] (w : World) (H : PH) (_hH : Le H (hp w)) {a0 : Int}   {r : Bool} (h : cmp_isNaN_int a0 = some r) :
  Ok Tryz.prog 134 [.int .i64 a0] w (fun v w' => Ext w w' ∧ v = .bool r) := by
 refine Ok_enter (n := 6) [(0, .int .i64 a0)] func134 rfl rfl rfl rfl rfl ?_
 have hL := Lcl.start w
 refine W_pz 1 rfl ?_
 refine W_pz 4 rfl ?_
 refine W_ret ?_
 obtain rfl := Option.some.inj h
 refine At_body rfl rfl ?_
 exact ⟨hL.ext, rfl⟩
noncomputable def cmp_Compare_int (a0 : Int) (a1 : Int) : Option (Int) :=
 Option.bind (cmp_isNaN_int a0) (fun x1 => Option.bind (cmp_isNaN_int a1) (fun x3 => if x1 then (if x3 then some ((0 : Int)) else some ((-1 : Int))) else (if x3 then some ((1 : Int)) else (if a0 < a1 then some ((-1 : Int)) else (if a1 < a0 then some ((1 : Int)) else some ((0 : Int)))))))
theorem cmp_Compare_int_ok [Dr] (w : World) (H : PH) (hH : Le H (hp w)) {a0 : Int} {a1 : Int}   {r : Int} (h : cmp_Compare_int a0 a1 = some r) :
  Ok Tryz.prog 107 [.int .i64 a0, .int .i64 a1] w (fun v w' => Ext w w' ∧ v = .int .i64 r) := by
 refine Ok_enter (n := 20) [(0, .int .i64 a0), (1, .int .i64 a1)] func107 rfl rfl rfl rfl rfl ?_
 have hL := Lcl.start w
 refine W_pz 1 rfl ?_
 refine W_p 1 rfl ?_
 obtain ⟨x1, hb1, h⟩ := Go.L.bind_some h
 refine S_callL rfl rfl hL (cmp_isNaN_int_ok _ _ (gz_le hH hL) hb1) ?_
 rintro _ w2 rfl hx2 hL2 hle2
 refine S_pz 1 rfl ?_
 refine W_p 1 rfl ?_
 obtain ⟨x3, hb3, h⟩ := Go.L.bind_some h
 refine S_callL rfl rfl hL2 (cmp_isNaN_int_ok _ _ (gz_le hH hL2) hb3) ?_
 rintro _ w4 rfl hx4 hL4 hle4
 refine S_pz 1 rfl ?_
 refine W_seq ?_
 refine W_pz 1 rfl ?_
 refine W_cond rfl (fun hc5 => ?_) (fun hc5 => ?_)
 ·replace h := Go.L.ite_t hc5 h
  refine W_seq ?_
  refine W_pz 1 rfl ?_
  refine W_cond rfl (fun hc7 => ?_) (fun hc7 => ?_)
  ·replace h := Go.L.ite_t hc7 h
   refine W_pz 1 rfl ?_
   refine W_ret ?_
   iterate 2 refine At_seq_ret ?_
   obtain rfl := Option.some.inj h
   refine At_body rfl rfl ?_
   exact ⟨hL4.ext, rfl⟩
  ·replace h := Go.L.ite_f hc7 h
   refine W_skip ?_
   refine At_seq ?_
   refine W_pz 1 rfl ?_
   refine W_ret ?_
   refine At_seq_ret ?_
   obtain rfl := Option.some.inj h
   refine At_body rfl rfl ?_
   exact ⟨hL4.ext, rfl⟩
 ·replace h := Go.L.ite_f hc5 h
  refine W_skip ?_
  refine At_seq ?_
  refine W_seq ?_
  refine W_pz 1 rfl ?_
  refine W_cond rfl (fun hc11 => ?_) (fun hc11 => ?_)
  ·replace h := Go.L.ite_t hc11 h
   refine W_pz 1 rfl ?_
   refine W_ret ?_
   refine At_seq_ret ?_
   obtain rfl := Option.some.inj h
   refine At_body rfl rfl ?_
   exact ⟨hL4.ext, rfl⟩
  ·replace h := Go.L.ite_f hc11 h
   refine W_skip ?_
   refine At_seq ?_
   refine W_seq ?_
   refine W_pz 3 rfl ?_
   refine W_if rfl (fun hc14 => ?_) (fun hc14 => ?_)
   ·replace h := Go.L.ite_p hc14 h
    refine W_pz 1 rfl ?_
    refine W_ret ?_
    refine At_seq_ret ?_
    obtain rfl := Option.some.inj h
    refine At_body rfl rfl ?_
    exact ⟨hL4.ext, rfl⟩
   ·replace h := Go.L.ite_n hc14 h
    refine W_skip ?_
    refine At_seq ?_
    refine W_seq ?_
    refine W_pz 3 rfl ?_
    refine W_if rfl (fun hc17 => ?_) (fun hc17 => ?_)
    ·replace h := Go.L.ite_p hc17 h
     refine W_pz 1 rfl ?_
     refine W_ret ?_
     refine At_seq_ret ?_
     obtain rfl := Option.some.inj h
     refine At_body rfl rfl ?_
     exact ⟨hL4.ext, rfl⟩
    ·replace h := Go.L.ite_n hc17 h
     refine W_skip ?_
     refine At_seq ?_
     refine W_pz 1 rfl ?_
     refine W_ret ?_
     obtain rfl := Option.some.inj h
     refine At_body rfl rfl ?_
     exact ⟨hL4.ext, rfl⟩
noncomputable def cmp_Or_int_k1 : Option (Int) :=
 some ((0 : Int))
noncomputable def cmp_Or_int_bl2 (a0 : List Int) : Int → Option ((Int) ⊕ (Int)) := fun s8_25 =>
 if s8_25 < (a0.length : Int) then Go.L.chk (0 ≤ s8_25 ∧ s8_25 < (a0.length : Int)) (if a0.getD s8_25.toNat default = (0 : Int) then Go.L.chk (Go.L.I64 (s8_25 + (1 : Int))) (some (Sum.inl (s8_25 + (1 : Int)))) else Option.map Sum.inr (some (a0.getD s8_25.toNat default))) else Option.map Sum.inr (cmp_Or_int_k1)
noncomputable def cmp_Or_int_l2 (a0 : List Int) (s : Int) : Option (Int) := Go.L.run (cmp_Or_int_bl2 a0) s
noncomputable def cmp_Or_int (a0 : List Int) : Option (Int) :=
 (cmp_Or_int_l2 a0) (0 : Int)
theorem cmp_Or_int_ok [Dr] (w : World) (H : PH) (hH : Le H (hp w)) {a0 : List Int} {v0_0 : Value} (h0_0 : Vec (.int .i64) H v0_0 (a0)) {r : Int} (h : cmp_Or_int a0 = some r) :
  Ok Tryz.prog 105 [v0_0] w (fun v w' => Ext w w' ∧ v = .int .i64 r) := by
 refine Ok_enter (n := 18) [(0, v0_0)] func105 rfl rfl rfl rfl rfl ?_
 have hL := Lcl.start w
 refine W_pz 1 rfl ?_
 refine W_pz 1 rfl ?_
 refine W_cut (σ := Unit) (fun (_ : Unit) => [(3, .int .i64 (0 : Int))]) (fun (_ : Unit) wr => Lcl w [] wr ∧ cmp_Or_int_k1 = some r) ?_ ?_
 ·refine W_p 1 rfl ?_
  refine S_v (r_len rfl underlying52 h0_0) rfl ?_
  refine S_pz 1 rfl ?_
  refine W_block ?_
  obtain ⟨n26, h⟩ := Go.L.run_some h
  refine W_loop (σ := Int × Nat) (fun ⟨s8_25, n⟩ => [(3, .int .i64 (0 : Int)), (6, v0_0), (7, .int .i64 (a0.length : Int)), (8, .int .i64 s8_25)]) (fun ⟨s8_25, n⟩ wr => Lcl w [] wr ∧ Go.L.itr (cmp_Or_int_bl2 a0) n s8_25 = some r) (fun ⟨s8_25, n⟩ => n) ((0 : Int), n26) (.cons rfl (.cons rfl (.cons rfl (.cons rfl (Sub.nil _))))) ⟨hL, h⟩ ?_
  rintro ⟨s8_25, nn26⟩ wr26 ⟨hL26, h⟩
  obtain ⟨n26, e26, rfl, h, hm26⟩ := Go.L.itr_some h
  refine W_pz 1 rfl ?_
  refine W_seq ?_
  refine W_if rfl (fun hc28 => ?_) (fun hc28 => ?_)
  ·replace h := Go.L.ite_p hc28 h
   refine W_skip ?_
   refine At_seq ?_
   refine W_seq ?_
   refine W_block ?_
   refine W_seqr ?_
   obtain ⟨hk31, h⟩ := Go.L.chk_some h
   refine S_index rfl rfl underlying52 zr3 h0_0 s8_25.toNat (Int.toNat_of_nonneg hk31.1).symm (idx_lt hk31) rfl ?_
   rintro p30 _ rfl hp30
   refine S_v (r_load1 rfl underlying3 rfl hp30 (hH.trans hL26.arg)) rfl ?_
   refine S_pz 1 rfl ?_
   refine W_pz 3 rfl ?_
   refine W_ifn rfl (fun hc32 => ?_) (fun hc32 => ?_)
   ·replace h := Go.L.ite_n hc32 h
    refine W_pz 2 rfl ?_
    refine W_ret ?_
    refine At_block_ret ?_
    refine At_seq_ret ?_
    refine At_loop_ret ?_
    replace h := Go.L.Nxt.out h hm26
    refine At_block_ret ?_
    refine At_cut_ret ?_
    obtain rfl := Option.some.inj h
    refine At_body rfl rfl ?_
    exact ⟨hL26.ext, rfl⟩
   ·replace h := Go.L.ite_p hc32 h
    refine W_skip ?_
    refine At_block ?_
    refine At_seq ?_
    refine W_region ?_
    obtain ⟨hk35, h⟩ := Go.L.chk_some h
    refine S_v (r_ar64 rfl rfl rfl hk35) rfl ?_
    refine S_pu 1 rfl ?_
    refine S_nil ?_
    have h := Go.L.Nxt.again h hm26
    refine At_round ((s8_25 + (1 : Int)), n26) (.cons rfl (.cons rfl (.cons rfl (.cons rfl (Sub.nil _))))) ⟨hL26, h⟩ (Nat.lt_succ_self _)
  ·replace h := Go.L.ite_n hc28 h
   refine W_exit ?_
   refine At_seq_exit ?_
   refine At_loop_exit ?_
   replace h := Go.L.Nxt.out h hm26
   refine At_exit ?_
   refine At_cut () (.cons rfl (Sub.nil _)) ⟨hL26, h⟩
 ·rintro _ wr13 ⟨hL13, h⟩
  refine W_pz 2 rfl ?_
  refine W_ret ?_
  obtain rfl := Option.some.inj h
  refine At_body rfl rfl ?_
  exact ⟨hL13.ext, rfl⟩
noncomputable def shapes_leaf_compare (a0 : (List UInt8) × Int × Int × (List UInt8)) (a1 : (List UInt8) × Int × Int × (List UInt8)) : Option (Int) :=
 Option.bind (strings_Compare a0.1 a1.1) (fun x5 => Option.bind (cmp_Compare_int a0.2.1 a1.2.1) (fun x7 => Option.bind (cmp_Compare_int a0.2.2.1 a1.2.2.1) (fun x9 => Option.bind (strings_Compare a0.2.2.2 a1.2.2.2) (fun x11 => Option.bind (cmp_Or_int ([x5, x7, x9, x11])) (fun x14 => some (x14))))))
theorem shapes_leaf_compare_ok [Dr] (w : World) (H : PH) (hH : Le H (hp w)) {a0 : (List UInt8) × Int × Int × (List UInt8)} {a1 : (List UInt8) × Int × Int × (List UInt8)}   {r : Int} (h : shapes_leaf_compare a0 a1 = some r) :
  Ok Tryz.prog 72 [.agg #[.string ⟨(a0.1).toArray⟩, .int .i64 a0.2.1, .int .i64 a0.2.2.1, .string ⟨(a0.2.2.2).toArray⟩], .agg #[.string ⟨(a1.1).toArray⟩, .int .i64 a1.2.1, .int .i64 a1.2.2.1, .string ⟨(a1.2.2.2).toArray⟩]] w (fun v w' => Ext w w' ∧ v = .int .i64 r) := by
 refine Ok_enter (n := 27) [(0, .agg #[.string ⟨(a0.1).toArray⟩, .int .i64 a0.2.1, .int .i64 a0.2.2.1, .string ⟨(a0.2.2.2).toArray⟩]), (1, .agg #[.string ⟨(a1.1).toArray⟩, .int .i64 a1.2.1, .int .i64 a1.2.2.1, .string ⟨(a1.2.2.2).toArray⟩])] func72 rfl rfl rfl rfl rfl ?_
 have hL := Lcl.start w
 refine W_seqr ?_
 refine S_box (t := 84) rfl rfl rfl hL ?_
 intro w1 b1 hL1 hle1 _
 refine S_box (t := 84) rfl rfl rfl hL1 ?_
 intro w2 b2 hL2 hle2 _
 refine S_pz 1 rfl ?_
 refine W_seqd (.q 0 (.q 1 (.q 2 (.q 3 (.q 4 (.q 5 (.q 6 (.q 7 (.q 8 (.q 9 (.q 10 (.q 11 (.q 12 (.q 13 (.q 14 (.q 15 (.q 16 (.q 17 (.q 18 (.q 19 (.h 20 (.q 21 (.q 22 (.tail 23)))))))))))))))))))))))) mixed (by kernel_rfl) (fun w3 hx3 => ?_)
 have hL4 := hL2.call hx3
 refine D_v (r_field rfl underlying84 rfl zr9 (by decide)) rfl rfl ?_
 refine D_v (r_loadB1 1 rfl underlying9 rfl hL4 rfl rfl) rfl rfl ?_
 refine D_v (r_field rfl underlying84 rfl zr9 (by decide)) rfl rfl ?_
 refine D_v (r_loadB1 0 rfl underlying9 rfl hL4 rfl rfl) rfl rfl ?_
 obtain ⟨x5, hb5, h⟩ := Go.L.bind_some h
 refine D_call rfl rfl rfl (fun w6 hx6 => strings_Compare_ok _ _ (Le.refl _) hb5) ?_
 refine D_v (r_field rfl underlying84 rfl zr3 (by decide)) rfl rfl ?_
 refine D_v (r_loadB1 1 rfl underlying3 rfl hL4 rfl rfl) rfl rfl ?_
 refine D_v (r_field rfl underlying84 rfl zr3 (by decide)) rfl rfl ?_
 refine D_v (r_loadB1 0 rfl underlying3 rfl hL4 rfl rfl) rfl rfl ?_
 obtain ⟨x7, hb7, h⟩ := Go.L.bind_some h
 refine D_call rfl rfl rfl (fun w8 hx8 => cmp_Compare_int_ok _ _ (Le.refl _) hb7) ?_
 refine D_v (r_field rfl underlying84 rfl zr3 (by decide)) rfl rfl ?_
 refine D_v (r_loadB1 1 rfl underlying3 rfl hL4 rfl rfl) rfl rfl ?_
 refine D_v (r_field rfl underlying84 rfl zr3 (by decide)) rfl rfl ?_
 refine D_v (r_loadB1 0 rfl underlying3 rfl hL4 rfl rfl) rfl rfl ?_
 obtain ⟨x9, hb9, h⟩ := Go.L.bind_some h
 refine D_call rfl rfl rfl (fun w10 hx10 => cmp_Compare_int_ok _ _ (Le.refl _) hb9) ?_
 refine D_v (r_field rfl underlying84 rfl zr9 (by decide)) rfl rfl ?_
 refine D_v (r_loadB1 1 rfl underlying9 rfl hL4 rfl rfl) rfl rfl ?_
 refine D_v (r_field rfl underlying84 rfl zr9 (by decide)) rfl rfl ?_
 refine D_v (r_loadB1 0 rfl underlying9 rfl hL4 rfl rfl) rfl rfl ?_
 obtain ⟨x11, hb11, h⟩ := Go.L.bind_some h
 refine D_call rfl rfl rfl (fun w12 hx12 => strings_Compare_ok _ _ (Le.refl _) hb11) ?_
 refine D_litE (r := (.int .i64)) (l := [x5, x7, x9, x11]) rfl rfl (fun _ => bsl52_4 _ _ _ _ _) rfl (show 4 ≤ 9223372036854775807 by decide) hH hL4 (.c1 rfl (.c1 rfl (.c1 rfl (.c1 rfl .nil)))) ?_
 intro v13 w13 hx13 hL13 hle13 hv13
 obtain ⟨x14, hb14, h⟩ := Go.L.bind_some h
 refine D_call rfl rfl rfl (fun w15 hx15 => cmp_Or_int_ok _ _ (Le.refl _) ((hv13.mono (gz_le hH hL13)).mono hx15.le) hb14) ?_
 refine D_pu 1 rfl ?_
 refine D_tail (fun w16 hx16 => ?_)
 have hL17 := hL13.call hx16
 have hle17 := fz_ext hL13 hx16
 replace hv13 := hv13.mono (gz_mono hH hle17)
 refine S_seqnil ?_
 refine W_ret ?_
 obtain rfl := Option.some.inj h
 refine At_body rfl rfl ?_
 exact ⟨hL17.ext, rfl⟩
end Go.Proofs.YtmfiaecglndldaaGreatDoor
end
section
namespace Go.E
open Go Go.RowKit Go.Sort Go.Proofs Go.Shelf
theorem ext_grow [Dr] {w w' : World} (hd : Dr.on = true) (h : Ext w w') : ∃ q os, w' = grow (w.drewN q) os := by
  refine ⟨w'.drawn - w.drawn, w'.heap.extract w.heap.size w'.heap.size, ?_⟩
  have hd := h.drawn hd
  have hh : w.heap ++ w'.heap.extract w.heap.size w'.heap.size = w'.heap := by
    apply Array.ext_getElem?
    intro k
    rcases Nat.lt_or_ge k w.heap.size with hk | hk
    · rw [Array.getElem?_append_left hk, h.block k hk]
    · rw [Array.getElem?_append_right hk, Array.getElem?_extract]
      have := h.size
      split
      · congr 1; omega
      · rw [Array.getElem?_eq_none (by omega)]
  obtain ⟨heap, tape, drawn, os, output⟩ := w
  obtain ⟨heap', tape', drawn', os', output'⟩ := w'
  have h1 := h.os
  have h2 := h.tape
  have h3 := h.output
  simp only at h1 h2 h3 hd hh
  subst h1; subst h2; subst h3
  simp only [grow, World.drewN, World.mk.injEq, and_true, true_and]
  exact ⟨hh.symm, by omega⟩
section
variable {α : Type} [Inhabited α]
theorem sortWorld_heap (enc : α → Value) (w : World) (g m : Nat) (d : Array α) (os : Array Obj) (k : Nat) (hk : k < w.heap.size) : (sortWorld enc w g 0 m d os).heap[k]? = if k = g then (w.heap[k]?).map (onCells (putCells enc 0 d)) else w.heap[k]? := by
  unfold sortWorld grow putRow mapBlock Sort.ahead
  simp only
  rw [Array.getElem?_append_left (by simpa using hk), Array.getElem?_modify]
  by_cases h : g = k
  · subst h; simp
  · rw [if_neg h, if_neg (fun e => h e.symm)]
theorem sortWorld_grown (enc : α → Value) (w : World) (g m : Nat) (d : Array α) (os : Array Obj) : w.grownBy (sortWorld enc w g 0 m d os) (some g) :=
  ⟨rfl, rfl, rfl, by simp [sortWorld, grow, putRow, mapBlock, Sort.ahead], fun k hk hne => by rw [sortWorld_heap enc w g m d os k hk, if_neg (fun e => hne (by rw [e]))]⟩
theorem putCells_take (enc : α → Value) (d : Array α) (c : Array Value) (h : d.size ≤ c.size) : (putCells enc 0 d c).toList.take d.size = d.toList.map enc := by
  apply List.ext_getElem?
  intro k
  rw [List.getElem?_take]
  by_cases hk : k < d.size
  · rw [if_pos hk]
    have hkc : k < c.size := by omega
    simp [putCells, hk, hkc]
  · rw [if_neg hk, List.getElem?_eq_none (by simp; omega)]
/-- A row behind such a sort: other cells, as many. -/
theorem row_put {enc : α → Value} {w : World} {e : TypeId} {g cap n sz m : Nat} {xs : List Value} {d : Array α} {os : Array Obj} (ho : w.ownsRow 0 e sz (.slice (some ⟨g, 0, none⟩) n cap) n xs) (hl : d.size = xs.length) :
    (sortWorld enc w g 0 m d os).ownsRow 0 e sz (.slice (some ⟨g, 0, none⟩) n cap) n (d.toList.map enc) := by
  obtain ⟨h1, h2⟩ := ho
  refine ⟨by simp; omega, ?_⟩
  rcases h2 with ⟨hc, _⟩ | ⟨g', cap', cur, hv, hb, hg, hnc, hcm, hcs, htake⟩
  · cases hc
  · cases hv
    have hgl := lt_of_heap hg
    have hle : n * sz ≤ cap * sz := Nat.mul_le_mul_right _ hnc
    refine .inr ⟨g, cap, putCells enc 0 d cur, rfl, hb, ?_, hnc, hcm, by simp [putCells, hcs], ?_⟩
    · rw [sortWorld_heap enc w g m _ os g hgl, if_pos rfl, hg]
      rfl
    · have := putCells_take enc d cur (by omega)
      rw [show n * sz = d.size by omega]
      exact this
theorem row_holds {enc : α → Value} {w : World} {e : TypeId} {g cap n sz : Nat} {xs : List Value} {d : Array α} (ho : w.ownsRow 0 e sz (.slice (some ⟨g, 0, none⟩) n cap) n xs) (hd : d.toList.map enc = xs) : Holds enc w g 0 d ∧ g < w.heap.size := by
  obtain ⟨h1, h2⟩ := ho
  have hsz : d.size = xs.length := by rw [← hd]; simp
  rcases h2 with ⟨hc, _⟩ | ⟨g', cap', cur, hv, hb, hg, hnc, hcm, hcs, htake⟩
  · cases hc
  · cases hv
    have hle : n * sz ≤ cap * sz := Nat.mul_le_mul_right _ hnc
    refine ⟨fun j hj => ?_, lt_of_heap hg⟩
    constructor
    · have h4 : xs[j]? = some (enc d[j]!) := by rw [← hd]; simp [hj]
      have : cur.toList[j]? = some (enc d[j]!) := by
        rw [← htake, List.getElem?_take, if_pos (by omega)] at h4
        exact h4
      simp only [World.cell?, hg, Nat.zero_add]
      simpa using this
    · simp [World.frozen?, hg]
end
theorem row_cut {w : World} {e : TypeId} {g cap n q : Nat} {xs : List Value} (ho : w.ownsRow 0 e 1 (.slice (some ⟨g, 0, none⟩) n cap) n xs) (hq : q ≤ n) : w.ownsRow 0 e 1 (.slice (some ⟨g, 0, none⟩) q cap) q (xs.take q) := by
  obtain ⟨h1, h2⟩ := ho
  rcases h2 with ⟨hc, _⟩ | ⟨g', cap', cur, hv, hb, hg, hnc, hcm, hcs, htake⟩
  · cases hc
  · cases hv
    refine ⟨by rw [List.length_take, h1]; omega, .inr ⟨g, cap, cur, rfl, hb, hg, by omega, hcm, hcs, ?_⟩⟩
    rw [← htake, List.take_take, Nat.mul_one, Nat.mul_one, Nat.min_eq_left hq]
section
variable {P : Program} {n : Sz} {ops : Array Oper} {Q : Exit → Act → World → Prop} {L : Env} {w w0 : World} {O : List Res} {rest : List Oper} {d : Nat} {ty : TypeId} {pos : String} {af : Array Edge} {v : Value} {e : TypeId} {H : PH} {α β : Type} [Inhabited β] {r : Rp α}
/-- A call that leaves other cells in a row of the call's own, as many. -/
theorem S_putRow [Dr] {f i sz : Nat} {at_ : Array TypeId} {args : List Operand} {l l' : List α} {xs ys : List Value} {dd : Array β} {enc : β → Value} {fa : List Value} (hc : Callable P f) (ha : evl L args = some (v :: fa)) (hn : Nat.blt d n.n = true) (hL : Lcl w0 O w) (hi : nthR O i = some (.row v e sz l.length xs)) (hd : dd.toList.map enc = ys) (hl : l'.length = l.length) (hy : ys.length = xs.length) (hys : l.length = 0 → ys = xs)
    (hnil : v = .slice none 0 0 → Calls P f (v :: fa).toArray w fun e w' => e = .returned (.tuple #[]) ∧ w' = w)
    (hs : ∀ g cap, v = .slice (some ⟨g, 0, none⟩) l.length cap → l.length ≤ cap → Calls P f (v :: fa).toArray w fun e w' => e = .returned (.tuple #[]) ∧ ∃ m os, w' = sortWorld enc w g 0 m dd os)
    (h : ∀ w', Lcl w0 (setR O i (.row v e sz l'.length ys)) w' → Le (fz w O) (fz w' (setR O i (.row v e sz l'.length ys))) → S P n ops Q rest ((d, .tuple #[]) :: L) w') :
    S P n ops Q (⟨some d, .call ⟨.value (.func f), args.toArray, at_⟩, ty, pos, af, none⟩ :: rest) L w := by
  have hown : w.ownsRow 0 e sz v l.length xs := hL.at hi
  rw [hl] at h
  rcases hown.2 with ⟨hv, hn0⟩ | ⟨g0, cap, cur, hv, hb0, hg0, hnc, _⟩
  · refine S_op rfl fun a fr => ?_
    unfold Oper.wp
    rw [run_call hc ha _ fr.rho]
    refine (hnil hv).mono fun en w' ⟨he, hw⟩ => ?_
    subst he; subst hw
    have hyx := hys hn0
    subst hyx
    exact h w' (hL.turnAt hi (Nat.le_refl _) (World.grownBy.refl _ _) (hL.at hi) (fun b e => .inl e)) (fz_turnAt (r' := .row v e sz l.length ys) hL hi (World.grownBy.refl _ _) (fun b e => .inl e)) _ (fr.put hn)
  · refine S_op rfl fun a fr => ?_
    unfold Oper.wp
    rw [run_call hc ha _ fr.rho]
    refine (hs g0 cap hv hnc).mono fun en w' ⟨he, m, os, hw⟩ => ?_
    subst he
    have hgr := sortWorld_grown enc w g0 m dd os
    rw [← hw] at hgr
    have hok : (Res.row v e sz l.length ys).ok w' := by
      rw [hw, hv, ← hd]
      refine row_put (by rw [← hv]; exact hown) ?_
      have : dd.toList.length = ys.length := by rw [← hd]; simp
      simpa [hy] using this
    have hdr : w.drawn ≤ w'.drawn := by rw [hw]; exact Nat.le_add_right _ _
    have hgr' : w.grownBy w' (Res.row v e sz l.length xs).block := by rw [hv]; exact hgr
    exact h w' (hL.turnAt hi hdr hgr' hok (fun b e => .inl e)) (fz_turnAt (r' := .row v e sz l.length ys) hL hi hgr' (fun b e => .inl e)) _ (fr.put hn)
/-- A call that leaves fewer elements in a row and hands it back cut off. -/
theorem S_cutCall [Dr] {f i : Nat} {at_ : Array TypeId} {args : List Operand} {l : List α} {l' : List β} {z : β} {xs : List Value} {enc : β → Value} (hc : Callable P f) (ha : evl L args = some [v]) (hn : Nat.blt d n.n = true) (hL : Lcl w0 O w) (hi : nthR O i = some (.row v e 1 l.length xs)) (hle : l'.length ≤ l.length)
    (hnil : v = .slice none 0 0 → Calls P f #[v] w fun e w' => e = .returned v ∧ w' = w)
    (hs : ∀ g cap, v = .slice (some ⟨g, 0, none⟩) l.length cap → l.length ≤ cap → Calls P f #[v] w fun e w' => e = .returned (.slice (some ⟨g, 0, none⟩) l'.length cap) ∧ ∃ q, w' = putRow enc (Sort.ahead w q) g 0 (l' ++ List.replicate (l.length - l'.length) z).toArray)
    (h : ∀ v' w', Lcl w0 (setR O i (.row v' e 1 l'.length (l'.map enc))) w' → Le (fz w O) (fz w' (setR O i (.row v' e 1 l'.length (l'.map enc)))) → S P n ops Q rest ((d, v') :: L) w') :
    S P n ops Q (⟨some d, .call ⟨.value (.func f), args.toArray, at_⟩, ty, pos, af, none⟩ :: rest) L w := by
  have hown : w.ownsRow 0 e 1 v l.length xs := hL.at hi
  rcases hown.2 with ⟨hv, hn0⟩ | ⟨g0, cap, cur, hv, hb0, hg0, hnc, _⟩
  · have hl0 : l' = [] := List.eq_nil_of_length_eq_zero (by omega)
    subst hl0
    refine S_op rfl fun a fr => ?_
    unfold Oper.wp
    rw [run_call hc ha _ fr.rho]
    refine (hnil hv).mono fun en w' ⟨he, hw⟩ => ?_
    subst he; subst hw
    have hx0 : xs = [] := List.eq_nil_of_length_eq_zero (by rw [hown.1, hn0])
    have hok : (Res.row v e 1 ([] : List β).length (([] : List β).map enc)).ok w' := by
      have := hL.at hi
      rw [hn0, hx0] at this
      exact this
    exact h v w' (hL.turnAt hi (Nat.le_refl _) (World.grownBy.refl _ _) hok (fun b e => .inl e)) (fz_turnAt (r' := .row v e 1 ([] : List β).length (([] : List β).map enc)) hL hi (World.grownBy.refl _ _) (fun b e => .inl e)) _ (fr.put hn)
  · refine S_op rfl fun a fr => ?_
    unfold Oper.wp
    rw [run_call hc ha _ fr.rho]
    refine (hs g0 cap hv hnc).mono fun en w' ⟨he, q, hw⟩ => ?_
    subst he
    have hw2 : w' = sortWorld enc w g0 0 q (l' ++ List.replicate (l.length - l'.length) z).toArray #[] := by rw [hw]; unfold sortWorld; rw [grow_empty]
    have hgr := sortWorld_grown enc w g0 q (l' ++ List.replicate (l.length - l'.length) z).toArray #[]
    rw [← hw2] at hgr
    have hok : (Res.row (.slice (some ⟨g0, 0, none⟩) l'.length cap) e 1 l'.length (l'.map enc)).ok w' := by
      have h1 : w'.ownsRow 0 e 1 (.slice (some ⟨g0, 0, none⟩) l.length cap) l.length ((l' ++ List.replicate (l.length - l'.length) z).map enc) := by
        have h0 := row_put (enc := enc) (m := q) (d := (l' ++ List.replicate (l.length - l'.length) z).toArray) (os := #[]) (by rw [← hv]; exact hown) (by have := hown.1; simp; omega)
        rw [← hw2] at h0
        simpa using h0
      have h2 := row_cut h1 hle
      rwa [List.map_append, List.take_left' (by simp)] at h2
    have hdr : w.drawn ≤ w'.drawn := by rw [hw2]; exact Nat.le_add_right _ _
    have hgr' : w.grownBy w' (Res.row v e 1 l.length xs).block := by rw [hv]; exact hgr
    have hb : ∀ b, (Res.row (.slice (some ⟨g0, 0, none⟩) l'.length cap) e 1 l'.length (l'.map enc)).block = some b → (Res.row v e 1 l.length xs).block = some b := fun b e => by rw [hv]; exact e
    exact h _ w' (hL.turnAt hi hdr hgr' hok (fun b e => .inl (hb b e))) (fz_turnAt (r' := .row (.slice (some ⟨g0, 0, none⟩) l'.length cap) e 1 l'.length (l'.map enc)) hL hi hgr' (fun b e => .inl (hb b e))) _ (fr.put hn)
end
/-! ### Elements of one cell as their cells -/
theorem st_elems {H : PH} {l : List (List UInt8)} {xs : List Value} (h : Elems .st H l xs) : l.map encStr = xs := by
  induction h with
  | nil => rfl
  | cons h _ ih => cases h; rw [List.map_cons, ih]; rfl
theorem elems_st' (H : PH) : ∀ l : List (List UInt8), Elems .st H l (l.map encStr)
  | [] => .nil
  | _ :: l => .cons (c := [_]) rfl (elems_st' H l)
theorem in_elems {H : PH} {l : List Int} {xs : List Value} (h : Elems (.int .i64) H l xs) : l.map (Value.int .i64) = xs := by
  induction h with
  | nil => rfl
  | cons h _ ih => cases h; rw [List.map_cons, ih]; rfl
theorem elems_in (H : PH) : ∀ l : List Int, Elems (.int .i64) H l (l.map (Value.int .i64))
  | [] => .nil
  | _ :: l => .cons (c := [_]) rfl (elems_in H l)
section
variable {P : Program} {n : Sz} {ops : Array Oper} {Q : Exit → Act → World → Prop} {L : Env} {w w0 : World} {O : List Res} {rest : List Oper} {d : Nat} {ty : TypeId} {pos : String} {af : Array Edge} {v : Value} {e : TypeId} {H : PH} {ρr : Go.Shelf.Ren} {f i : Nat} {at_ : Array TypeId} {args : List Operand} {xs : List Value}
def srtS (l : List (List UInt8)) : List (List UInt8) := l.mergeSort fun x y => decide (x ≤ y)
def srtI (l : List Int) : List Int := l.mergeSort fun x y => decide (x ≤ y)
theorem S_sortS [Dr] {l : List (List UInt8)} (Ls : Lays.n190 P ρr) (hf : ρr.f 190 = f) (hc : Callable P f) (ha : evl L args = some [v]) (hn : Nat.blt d n.n = true) (hH : Le H (hp w0)) (hL : Lcl w0 O w) (hi : nthR O i = some (.row v e 1 l.length xs)) (he : Elems .st (gz H w0 w O) l xs) (hlen : l.length < 4611686018427387904)
    (h : ∀ w' xs', Lcl w0 (setR O i (.row v e 1 (srtS l).length xs')) w' → Le (fz w O) (fz w' (setR O i (.row v e 1 (srtS l).length xs'))) → Elems .st (gz H w0 w' (setR O i (.row v e 1 (srtS l).length xs'))) (srtS l) xs' → S P n ops Q rest ((d, .tuple #[]) :: L) w') :
    S P n ops Q (⟨some d, .call ⟨.value (.func f), args.toArray, at_⟩, ty, pos, af, none⟩ :: rest) L w := by
  have hxs := st_elems he
  have hll : (srtS l).length = l.length := List.length_mergeSort _
  subst hf
  refine S_putRow (l' := srtS l) (enc := encStr) (dd := (srtS l).toArray) (ys := (srtS l).map encStr) hc ha hn hL hi (by simp) hll (by rw [← hxs]; simp [hll]) (fun h0 => ?_) (fun hv => ?_) (fun g cap hv hcap => ?_) (fun w' h1 h2 => h w' _ h1 h2 (elems_st' _ _))
  · have : l = [] := List.eq_nil_of_length_eq_zero h0
    subst this
    rw [← hxs, show srtS [] = [] from List.mergeSort_nil]
  · subst hv
    exact Any.slices_Sort_string_none Ls none 0 w
  · have hown : w.ownsRow 0 e 1 v l.length xs := hL.at hi
    rw [hv] at hown
    obtain ⟨hH', hblk⟩ := row_holds (enc := encStr) (d := l.toArray) hown (by simpa using hxs)
    subst hv
    exact Any.slices_Sort_string Ls g 0 cap l w hH' hblk hlen
theorem S_sortI [Dr] {l : List Int} (Ls : Lays.n189 P ρr) (hf : ρr.f 189 = f) (hc : Callable P f) (ha : evl L args = some [v]) (hn : Nat.blt d n.n = true) (hH : Le H (hp w0)) (hL : Lcl w0 O w) (hi : nthR O i = some (.row v e 1 l.length xs)) (he : Elems (.int .i64) (gz H w0 w O) l xs) (hlen : l.length < 4611686018427387904)
    (h : ∀ w' xs', Lcl w0 (setR O i (.row v e 1 (srtI l).length xs')) w' → Le (fz w O) (fz w' (setR O i (.row v e 1 (srtI l).length xs'))) → Elems (.int .i64) (gz H w0 w' (setR O i (.row v e 1 (srtI l).length xs'))) (srtI l) xs' → S P n ops Q rest ((d, .tuple #[]) :: L) w') :
    S P n ops Q (⟨some d, .call ⟨.value (.func f), args.toArray, at_⟩, ty, pos, af, none⟩ :: rest) L w := by
  have hxs := in_elems he
  have hll : (srtI l).length = l.length := List.length_mergeSort _
  subst hf
  refine S_putRow (l' := srtI l) (enc := Value.int .i64) (dd := (srtI l).toArray) (ys := (srtI l).map (Value.int .i64)) hc ha hn hL hi (by simp) hll (by rw [← hxs]; simp [hll]) (fun h0 => ?_) (fun hv => ?_) (fun g cap hv hcap => ?_) (fun w' h1 h2 => h w' _ h1 h2 (elems_in _ _))
  · have : l = [] := List.eq_nil_of_length_eq_zero h0
    subst this
    rw [← hxs, show srtI [] = [] from List.mergeSort_nil]
  · subst hv
    exact Any.slices_Sort_int_none Ls none 0 w
  · have hown : w.ownsRow 0 e 1 v l.length xs := hL.at hi
    rw [hv] at hown
    obtain ⟨hH', hblk⟩ := row_holds (enc := Value.int .i64) (d := l.toArray) hown (by simpa using hxs)
    subst hv
    exact Any.slices_Sort_int Ls g 0 cap l w hH' hblk hlen
theorem compact_le {α : Type} [Inhabited α] [DecidableEq α] (l : List α) : (Lib.compact l).length ≤ l.length := by
  unfold Lib.compact Lib.compactUpTo
  rw [List.length_map]
  exact Nat.le_trans (List.length_filter_le _ _) (by simp)
theorem S_compS [Dr] {l : List (List UInt8)} (Ls : Lays.n194 P ρr) (hf : ρr.f 194 = f) (hc : Callable P f) (ha : evl L args = some [v]) (hn : Nat.blt d n.n = true) (hH : Le H (hp w0)) (hL : Lcl w0 O w) (hi : nthR O i = some (.row v e 1 l.length xs)) (he : Elems .st (gz H w0 w O) l xs) (hlen : l.length ≤ 9223372036854775807)
    (h : ∀ v' w' xs', Lcl w0 (setR O i (.row v' e 1 (Lib.compact l).length xs')) w' → Le (fz w O) (fz w' (setR O i (.row v' e 1 (Lib.compact l).length xs'))) → Elems .st (gz H w0 w' (setR O i (.row v' e 1 (Lib.compact l).length xs'))) (Lib.compact l) xs' → S P n ops Q rest ((d, v') :: L) w') :
    S P n ops Q (⟨some d, .call ⟨.value (.func f), args.toArray, at_⟩, ty, pos, af, none⟩ :: rest) L w := by
  have hxs := st_elems he
  subst hf
  refine S_cutCall (l' := Lib.compact l) (enc := encStr) (z := []) hc ha hn hL hi (compact_le l) (fun hv => ?_) (fun g cap hv hcap => ?_) (fun v' w' h1 h2 => h v' w' _ h1 h2 (elems_st' _ _))
  · subst hv
    exact Any.slices_Compact_string_empty Ls none 0 w
  · have hown : w.ownsRow 0 e 1 v l.length xs := hL.at hi
    rw [hv] at hown
    obtain ⟨hH', hblk⟩ := row_holds (enc := encStr) (d := l.toArray) hown (by simpa using hxs)
    subst hv
    exact Any.slices_Compact_string Ls g 0 cap l w hH' hlen hcap
theorem S_compI [Dr] {l : List Int} (Ls : Lays2.n20 P ρr) (hf : ρr.f 20 = f) (hc : Callable P f) (ha : evl L args = some [v]) (hn : Nat.blt d n.n = true) (hH : Le H (hp w0)) (hL : Lcl w0 O w) (hi : nthR O i = some (.row v e 1 l.length xs)) (he : Elems (.int .i64) (gz H w0 w O) l xs) (hlen : l.length ≤ 9223372036854775807)
    (h : ∀ v' w' xs', Lcl w0 (setR O i (.row v' e 1 (Lib.compact l).length xs')) w' → Le (fz w O) (fz w' (setR O i (.row v' e 1 (Lib.compact l).length xs'))) → Elems (.int .i64) (gz H w0 w' (setR O i (.row v' e 1 (Lib.compact l).length xs'))) (Lib.compact l) xs' → S P n ops Q rest ((d, v') :: L) w') :
    S P n ops Q (⟨some d, .call ⟨.value (.func f), args.toArray, at_⟩, ty, pos, af, none⟩ :: rest) L w := by
  have hxs := in_elems he
  subst hf
  refine S_cutCall (l' := Lib.compact l) (enc := Value.int .i64) (z := 0) hc ha hn hL hi (compact_le l) (fun hv => ?_) (fun g cap hv hcap => ?_) (fun v' w' h1 h2 => h v' w' _ h1 h2 (elems_in _ _))
  · subst hv
    exact Any.slices_Compact_int_empty Ls none 0 w
  · have hown : w.ownsRow 0 e 1 v l.length xs := hL.at hi
    rw [hv] at hown
    obtain ⟨hH', hblk⟩ := row_holds (enc := Value.int .i64) (d := l.toArray) hown (by simpa using hxs)
    subst hv
    exact Any.slices_Compact_int Ls g 0 cap l w hH' hlen hcap
end
end Go.E
end
section
namespace Go.L
theorem u8_eq_of {a b : UInt8} (h1 : ¬ a < b) (h2 : ¬ b < a) : a = b := UInt8.toNat.inj (by rw [UInt8.lt_iff_toNat_lt] at h1 h2; omega)
theorem cmp_swap : ∀ l m : List UInt8, Lib.compareBytes l m = - Lib.compareBytes m l
  | [], [] => rfl
  | [], _ :: _ => rfl
  | _ :: _, [] => rfl
  | a :: l, b :: m => by
    have ih := cmp_swap l m
    unfold Lib.compareBytes
    by_cases h1 : a < b
    · have h2 : ¬ b < a := fun h => by have := UInt8.lt_iff_toNat_lt.1 h; have := UInt8.lt_iff_toNat_lt.1 h1; omega
      rw [if_pos h1, if_neg h2, if_pos h1]
    · by_cases h2 : b < a
      · rw [if_neg h1, if_pos h2, if_pos h2]; rfl
      · rw [if_neg h1, if_neg h2, if_neg h2, if_neg h1, ih]
theorem cmp_zero : ∀ l m : List UInt8, Lib.compareBytes l m = 0 → l = m
  | [], [], _ => rfl
  | [], _ :: _, h => by cases h
  | _ :: _, [], h => by cases h
  | a :: l, b :: m, h => by
    unfold Lib.compareBytes at h
    split at h
    · cases h
    · rename_i h1
      split at h
      · cases h
      · rename_i h2
        have e : a = b := u8_eq_of h1 h2
        rw [e, cmp_zero l m h]
theorem cmp_trans : ∀ l m k : List UInt8, Lib.compareBytes l m < 0 → Lib.compareBytes m k < 0 → Lib.compareBytes l k < 0
  | [], [], _, h, _ => by simp [Lib.compareBytes] at h
  | [], _ :: _, [], _, h => by simp [Lib.compareBytes] at h
  | [], _ :: _, _ :: _, _, _ => by simp [Lib.compareBytes]
  | _ :: _, [], _, h, _ => by simp [Lib.compareBytes] at h
  | _ :: _, _ :: _, [], _, h => by simp [Lib.compareBytes] at h
  | a :: l, b :: m, c :: k, h1, h2 => by
    have ih := cmp_trans l m k
    unfold Lib.compareBytes at h1 h2 ⊢
    by_cases hab : a < b
    · by_cases hbc : b < c
      · rw [if_pos (UInt8.lt_iff_toNat_lt.2 (by have := UInt8.lt_iff_toNat_lt.1 hab; have := UInt8.lt_iff_toNat_lt.1 hbc; omega))]; decide
      · rw [if_neg hbc] at h2
        by_cases hcb : c < b
        · rw [if_pos hcb] at h2; omega
        · have e : b = c := u8_eq_of hbc hcb
          subst e
          rw [if_pos hab]; decide
    · rw [if_neg hab] at h1
      by_cases hba : b < a
      · rw [if_pos hba] at h1; omega
      · rw [if_neg hba] at h1
        have e : a = b := u8_eq_of hab hba
        subst e
        by_cases hac : a < c
        · rw [if_pos hac]; decide
        · rw [if_neg hac] at h2 ⊢
          by_cases hca : c < a
          · rw [if_pos hca] at h2; omega
          · rw [if_neg hca] at h2 ⊢
            exact ih h1 h2
/-- A comparison that parts any two. -/
structure Ord3 {α : Type} (c : α → α → Int) : Prop where
  swap : ∀ x y, c x y = - c y x
  zero : ∀ x y, c x y = 0 → x = y
  trans : ∀ x y z, c x y < 0 → c y z < 0 → c x z < 0
theorem ordB : Ord3 Go.Lib.compareBytes := ⟨cmp_swap, cmp_zero, cmp_trans⟩
def cmpN (a b : Int) : Int := if a < b then -1 else if b < a then 1 else 0
theorem ordI : Ord3 cmpN := by
  constructor
  · intro x y; unfold cmpN; rcases Int.lt_trichotomy x y with h | h | h
    · rw [if_pos h, if_neg (by omega), if_pos h]
    · subst h; rw [if_neg (Int.lt_irrefl _), if_neg (Int.lt_irrefl _)]; rfl
    · rw [if_neg (by omega), if_pos h, if_pos h]; rfl
  · intro x y h; unfold cmpN at h; split at h; cases h; split at h; cases h; omega
  · intro x y z h1 h2; unfold cmpN at *
    split at h1
    · split at h2
      · rw [if_pos (by omega)]; decide
      · split at h2 <;> omega
    · split at h1 <;> omega
def lexC {α β : Type} (c : α → α → Int) (d : β → β → Int) (x y : α × β) : Int := if c x.1 y.1 = 0 then d x.2 y.2 else c x.1 y.1
theorem ordLex {α β : Type} {c : α → α → Int} {d : β → β → Int} (hc : Ord3 c) (hd : Ord3 d) : Ord3 (lexC c d) := by
  constructor
  · intro x y
    unfold lexC
    have := hc.swap x.1 y.1
    by_cases h : c x.1 y.1 = 0
    · rw [if_pos h, if_pos (by omega)]; exact hd.swap _ _
    · rw [if_neg h, if_neg (by omega)]; exact this
  · intro x y h
    unfold lexC at h
    split at h
    · rename_i h1
      exact Prod.ext (hc.zero _ _ h1) (hd.zero _ _ h)
    · rename_i h1; exact absurd h h1
  · intro x y z h1 h2
    unfold lexC at *
    by_cases e1 : c x.1 y.1 = 0
    · rw [if_pos e1] at h1
      have := hc.zero _ _ e1
      rw [this]
      by_cases e2 : c y.1 z.1 = 0
      · rw [if_pos e2] at h2 ⊢; exact hd.trans _ _ _ h1 h2
      · rw [if_neg e2] at h2 ⊢; exact h2
    · rw [if_neg e1] at h1
      by_cases e2 : c y.1 z.1 = 0
      · have := hc.zero _ _ e2
        rw [← this, if_neg e1]; exact h1
      · rw [if_neg e2] at h2
        have := hc.trans _ _ _ h1 h2
        rw [if_neg (by omega)]; exact this
theorem Ord3.swo {α : Type} {c : α → α → Int} (h : Ord3 c) : Go.Sort.SWO (Go.Proofs.ltOf c) := by
  have hs := fun x => h.swap x x
  constructor
  · intro x; have := hs x; simp only [Go.Proofs.ltOf, decide_eq_false_iff_not]; omega
  · intro x y z h1 h2
    simp only [Go.Proofs.ltOf, decide_eq_true_eq] at *
    exact h.trans _ _ _ h1 h2
  · intro x y z h1 h2
    simp only [Go.Proofs.ltOf, decide_eq_false_iff_not] at *
    intro h3
    have s1 := h.swap x y
    have s2 := h.swap y z
    rcases Int.lt_trichotomy (c y x) 0 with h4 | h4 | h4
    · have := h.trans _ _ _ h4 h3
      omega
    · rw [h.zero _ _ h4] at h2; omega
    · omega
theorem Ord3.parts {α : Type} {c : α → α → Int} (h : Ord3 c) (x y : α) (h1 : Go.Proofs.ltOf c x y = false) (h2 : Go.Proofs.ltOf c y x = false) : x = y := by
  simp only [Go.Proofs.ltOf, decide_eq_false_iff_not] at h1 h2
  have := h.swap x y
  exact h.zero _ _ (by omega)
abbrev Lf : Type := List UInt8 × Int × Int × List UInt8
def lfCmp : Lf → Lf → Int := lexC Go.Lib.compareBytes (lexC cmpN (lexC cmpN Go.Lib.compareBytes))
theorem ordLf : Ord3 lfCmp := ordLex ordB (ordLex ordI (ordLex ordI ordB))
/-- Leaves in order. -/
def srtL (l : List Lf) : List Lf := l.mergeSort fun x y => !(Go.Proofs.ltOf lfCmp) y x
theorem srtL_length (l : List Lf) : (srtL l).length = l.length := List.length_mergeSort _
end Go.L
namespace Go.Proofs.YtmfiaecglndldaaGreatDoor
open Go Go.L Go.E
theorem cmpc_eq (a b : Int) : cmp_Compare_int a b = some (cmpN a b) := by
  unfold cmp_Compare_int cmp_isNaN_int cmpN
  simp only [Option.bind_some, decide_true, Bool.not_true, Bool.false_eq_true, if_false]
  split
  · rfl
  · split <;> rfl
theorem cmps_eq (a b : List UInt8) : strings_Compare a b = some (Lib.compareBytes a b) := rfl
theorem or4_eq (a b c d : Int) : cmp_Or_int [a, b, c, d] = some (if a = 0 then (if b = 0 then (if c = 0 then d else c) else b) else a) := by
  unfold cmp_Or_int cmp_Or_int_l2
  have step : ∀ (i : Nat) (x : Int), [a, b, c, d][i]? = some x → x = 0 → cmp_Or_int_bl2 [a, b, c, d] (i : Int) = some (.inl ((i + 1 : Nat) : Int)) := fun i x hx h0 => by
    have hi : i < 4 := (List.getElem?_eq_some_iff.1 hx).1
    unfold cmp_Or_int_bl2
    rw [if_pos (by simp; omega), chk_pos (by simp; omega), if_pos (by rw [Int.toNat_natCast, List.getD_eq_getElem?_getD, hx]; exact h0), chk_pos (by unfold I64; omega)]
    rfl
  have stop : ∀ (i : Nat) (x : Int), [a, b, c, d][i]? = some x → x ≠ 0 → Go.L.run (cmp_Or_int_bl2 [a, b, c, d]) (i : Int) = some x := fun i x hx h0 => by
    have hi : i < 4 := (List.getElem?_eq_some_iff.1 hx).1
    refine run_inr ?_
    unfold cmp_Or_int_bl2
    have hg : [a, b, c, d].getD (i : Int).toNat default = x := by rw [Int.toNat_natCast, List.getD_eq_getElem?_getD, hx]; rfl
    rw [if_pos (by simp; omega), chk_pos (by simp; omega), hg, if_neg h0]
  have last : Go.L.run (cmp_Or_int_bl2 [a, b, c, d]) ((4 : Nat) : Int) = some 0 := by
    refine run_inr ?_
    unfold cmp_Or_int_bl2
    rw [if_neg (by simp)]
    rfl
  show Go.L.run _ ((0 : Nat) : Int) = _
  by_cases ha : a = 0
  · rw [if_pos ha, run_inl (step 0 a rfl ha)]
    by_cases hb : b = 0
    · rw [if_pos hb, run_inl (step 1 b rfl hb)]
      by_cases hc : c = 0
      · rw [if_pos hc, run_inl (step 2 c rfl hc)]
        by_cases hd : d = 0
        · rw [run_inl (step 3 d rfl hd)]; rw [hd] at last ⊢; exact last
        · exact stop 3 d rfl hd
      · rw [if_neg hc]; exact stop 2 c rfl hc
    · rw [if_neg hb]; exact stop 1 b rfl hb
  · rw [if_neg ha]; exact stop 0 a rfl ha
theorem compare_eq (x y : Lf) : shapes_leaf_compare x y = some (lfCmp x y) := by
  unfold shapes_leaf_compare lfCmp lexC
  simp only [cmps_eq, cmpc_eq, or4_eq, Option.bind_some]
end Go.Proofs.YtmfiaecglndldaaGreatDoor
end
section
namespace Go.E
open Go Go.RowKit
theorem mE_bornL {κ : Type} {enc : κ → Value} : ∀ (l : List κ) (vs : List Value) (i : Nat), l.length = vs.length → (mE enc i l vs).map (·.born) = List.range' i l.length
  | [], [], _, _ => rfl
  | a :: l, u :: vs, i, h => by
    simp only [mE, List.map_cons, List.length_cons, List.range'_succ]
    rw [mE_bornL l vs (i + 1) (by simpa using h)]
theorem mE_mem {κ : Type} {enc : κ → Value} {l : List κ} {vs : List Value} (h : l.length = vs.length) {x : MapEntry} (hx : x ∈ mE enc 0 l vs) : ∃ a, l[x.born]? = some a ∧ x = ⟨enc a, vs.getD x.born default, x.born⟩ := by
  obtain ⟨j, hj⟩ := List.getElem?_of_mem hx
  have hjl : j < l.length := by have := (List.getElem?_eq_some_iff.1 hj).1; rwa [mE_length l vs 0 h] at this
  have := mE_get (enc := enc) l vs 0 j l[j] h (List.getElem?_eq_getElem hjl)
  rw [hj, Nat.zero_add] at this
  obtain rfl := Option.some.inj this
  exact ⟨l[j], List.getElem?_eq_getElem hjl, rfl⟩
section
variable {P : Program} {n : Sz} {ops : Array Oper} {Q : Exit → Act → World → Prop} {L : Env} {w w0 : World} {O : List Res} {rest : List Oper} {d : Nat} {ty t kt et : TypeId} {pos : String} {af : Array Edge} {x : Operand} {κ : Type} {enc : κ → Value} {keys : List κ} {vs : List Value} {m N : Nat}
theorem S_rangeM [Dr] (hx : ev L x = some (.map (some m))) (ht : P.underlying t = some (.map kt et)) (hm : w.heap[m]? = some (.map (mE enc 0 keys vs).toArray N)) (hn : Nat.blt d n.n = true) (hL : Lcl w0 O w)
    (h : ∀ w' b, Lcl w0 (.obj b (.mapIter (some m) N ([] : List Nat).toArray N) :: O) w' → Le (fz w O) (fz w' (.obj b (.mapIter (some m) N ([] : List Nat).toArray N) :: O)) → S P n ops Q rest ((d, .pointer (some ⟨b, 0, none⟩)) :: L) w') : S P n ops Q (⟨some d, .range t x, ty, pos, af, none⟩ :: rest) L w := by
  have hb : ∀ b, (Res.obj w.heap.size (.mapIter (some m) N ([] : List Nat).toArray N)).block = some b → w.heap.size ≤ b := fun b e => by cases e; exact Nat.le_refl _
  refine S_value (v := .pointer (some ⟨w.heap.size, 0, none⟩)) (w' := w.alloc (.mapIter (some m) N ([] : List Nat).toArray N)) rfl rfl hn (fun ρ hρ => ?_) (h _ _ (hL.new (ext_alloc w _) (World.alloc_heap_new w _) hb) (fz_new hL (ext_alloc w _) hb))
  have := run_range_map (P := P) w t kt et m _ N ht hm
  simp [execOp, hρ x _ hx, this]
/-- Some key that has not come yet comes, or all have come. -/
theorem S_nextM [Dr] (i : Nat) {b : Nat} {seen : List Nat} (hx : ev L x = some (.pointer (some ⟨b, 0, none⟩))) (hn : Nat.blt d n.n = true) (hL : Lcl w0 O w) (hi : nthR O i = some (.obj b (.mapIter (some m) N seen.toArray N))) (hm : w.heap[m]? = some (.map (mE enc 0 keys vs).toArray N)) (hk : keys.length = vs.length) (hN : keys.length = N)
    (h1 : ∀ j a, keys[j]? = some a → j ∉ seen → ∀ w', Lcl w0 (setR O i (.obj b (.mapIter (some m) N (seen ++ [j]).toArray N))) w' → Le (fz w O) (fz w' (setR O i (.obj b (.mapIter (some m) N (seen ++ [j]).toArray N)))) → w'.heap[m]? = some (.map (mE enc 0 keys vs).toArray N) → S P n ops Q rest ((d, .tuple #[.bool true, enc a, vs.getD j default]) :: L) w')
    (h2 : (∀ j, j < N → j ∈ seen) → S P n ops Q rest ((d, .tuple #[.bool false]) :: L) w) : S P n ops Q (⟨some d, .next x false, ty, pos, af, none⟩ :: rest) L w := by
  have hb : w.heap[b]? = some (.mapIter (some m) N seen.toArray N) := hL.at hi
  have hold : ∀ x ∈ (mE enc 0 keys vs).toArray.toList, x.born < N := fun x hx => by
    obtain ⟨a, ha, _⟩ := mE_mem hk (by simpa using hx)
    have := (List.getElem?_eq_some_iff.1 ha).1
    omega
  rcases run_next_at (P := P) w ty b m N N seen.toArray _ N hb hm hold (Nat.le_refl _) with ⟨h0, hr⟩ | ⟨e, he, w1, hw1, hr⟩
  · refine S_value (v := .tuple #[.bool false]) (w' := w) rfl rfl hn (fun ρ hρ => by simp [execOp, hρ x _ hx, hr]) (h2 fun j hj => ?_)
    have hjk : j < keys.length := by omega
    have hg := mE_get (enc := enc) keys vs 0 j keys[j] hk (List.getElem?_eq_getElem hjk)
    rw [Nat.zero_add] at hg
    have hemp : leftOf (mE enc 0 keys vs).toArray seen.toArray = #[] := Array.eq_empty_of_size_eq_zero h0
    unfold leftOf at hemp
    rw [Array.filter_eq_empty_iff] at hemp
    have := hemp _ (by simpa using List.mem_of_getElem? hg)
    simpa using this
  · have hmem : e ∈ mE enc 0 keys vs ∧ e.born ∉ seen := by
      unfold leftOf at he
      simpa using he
    obtain ⟨a, ha, hee⟩ := mE_mem hk hmem.1
    have hx1 : Ext w w1 := by
      rcases hw1 with rfl | rfl
      · exact Ext.refl _
      · exact drawn_world
    have hL1 := hL.call hx1
    have hle1 := fz_ext hL hx1
    have hput := hL1.putAt (.mapIter (some m) N (seen ++ [e.born]).toArray N) hi
    have hne : m ≠ b := fun eq => by rw [eq, hb] at hm; cases hm
    have hm1 : w1.heap[m]? = some (.map (mE enc 0 keys vs).toArray N) := by rw [hx1.block m (lt_of_heap hm)]; exact hm
    have hm2 : (w1.putObj b (.mapIter (some m) N (seen ++ [e.born]).toArray N)).heap[m]? = some (.map (mE enc 0 keys vs).toArray N) := by rw [World.putObj_heap_other hne]; exact hm1
    have hval : e.key = enc a ∧ e.val = vs.getD e.born default := by rw [hee]; exact ⟨rfl, rfl⟩
    rw [hval.1, hval.2] at hr
    have hw2 : ChangeMaps.setBlock w1 b (.mapIter (some m) N (seen.toArray.push e.born) N) = w1.putObj b (.mapIter (some m) N (seen ++ [e.born]).toArray N) := by
      rw [List.push_toArray]; rfl
    rw [hw2] at hr
    refine S_value (v := _) (w' := _) rfl rfl hn (fun ρ hρ => ?_) (h1 e.born a ha hmem.2 _ hput.1 (hle1.trans hput.2) hm2)
    simp [execOp, hρ x _ hx, hr]
theorem r_entryM {b : Nat} {seen : List Nat} {j : Nat} {a : κ} (hx : ev L x = some (.pointer (some ⟨b, 0, none⟩))) (hn : Nat.blt d n.n = true) (hb : w.heap[b]? = some (.mapIter (some m) N (seen ++ [j]).toArray N)) (hm : w.heap[m]? = some (.map (mE enc 0 keys vs).toArray N)) (hk : keys.length = vs.length) (ha : keys[j]? = some a)
    (h : S P n ops Q rest ((d, .tuple #[enc a, vs.getD j default]) :: L) w) : S P n ops Q (⟨some d, .entry x, ty, pos, af, none⟩ :: rest) L w := by
  have hg := mE_get (enc := enc) keys vs 0 j a hk ha
  rw [Nat.zero_add] at hg
  have hr := run_entry_at (P := P) w b m N seen.toArray (mE enc 0 keys vs).toArray N ⟨enc a, vs.getD j default, j⟩ (by rw [hb, List.push_toArray]) hm (by simpa using List.mem_of_getElem? hg) (by rw [List.toList_toArray, mE_bornL _ _ _ hk]; exact List.nodup_range')
  refine S_value (v := _) (w' := w) rfl rfl hn (fun ρ hρ => ?_) h
  simp [execOp, hρ x _ hx, hr]
end
end Go.E
end
section
namespace Go.L
theorem sorted_perm_eq {α : Type} {c : α → α → Int} (h : Ord3 c) : ∀ {l m : List α}, l.Perm m → l.Pairwise (fun x y => (!(Go.Proofs.ltOf c) y x) = true) → m.Pairwise (fun x y => (!(Go.Proofs.ltOf c) y x) = true) → l = m
  | [], m, hp, _, _ => hp.nil_eq
  | a :: l, m, hp, hl, hm => by
    cases m with
    | nil => exact absurd hp.symm.nil_eq (by simp)
    | cons b m =>
      obtain ⟨l1, l2⟩ := List.pairwise_cons.1 hl
      obtain ⟨m1, m2⟩ := List.pairwise_cons.1 hm
      have hab : a = b := by
        by_cases e : a = b
        · exact e
        · have ha : a ∈ m := by rcases List.mem_cons.1 (hp.mem_iff.1 (.head _)) with h1 | h1; exact absurd h1 e; exact h1
          have hb : b ∈ l := by rcases List.mem_cons.1 (hp.mem_iff.2 (.head _)) with h1 | h1; exact absurd h1.symm e; exact h1
          exact h.parts a b (by simpa using m1 a ha) (by simpa using l1 b hb)
      subst hab
      rw [sorted_perm_eq h hp.cons_inv l2 m2]
theorem nd_le : ∀ (N : Nat) (l : List Nat), l.Nodup → (∀ j ∈ l, j < N) → l.length ≤ N
  | 0, l, _, h => by
    cases l with
    | nil => exact Nat.le_refl _
    | cons a l => exact absurd (h a (.head _)) (Nat.not_lt_zero a)
  | N + 1, l, hn, h => by
    have h1 := nd_le N (l.erase N) (hn.erase N) (fun j hj => by
      have h2 := (hn.mem_erase_iff).1 hj
      have := h j h2.2
      omega)
    by_cases hm : N ∈ l
    · rw [List.length_erase_of_mem hm] at h1; omega
    · rw [List.erase_of_not_mem hm] at h1; omega
theorem srt_perm {α : Type} {c : α → α → Int} (h : Ord3 c) {l m : List α} (hp : l.Perm m) : (l.mergeSort fun x y => !(Go.Proofs.ltOf c) y x) = m.mergeSort fun x y => !(Go.Proofs.ltOf c) y x := by
  have htr : ∀ a b c' : α, (!(Go.Proofs.ltOf c) b a) = true → (!(Go.Proofs.ltOf c) c' b) = true → (!(Go.Proofs.ltOf c) c' a) = true := by
    intro a b d h1 h2
    simp only [Go.Proofs.ltOf, Bool.not_eq_true', decide_eq_false_iff_not] at *
    intro h3
    have s1 := h.swap a b
    have s2 := h.swap b d
    rcases Int.lt_trichotomy (c a b) 0 with h4 | h4 | h4
    · exact h2 (h.trans d a b h3 h4)
    · rw [h.zero a b h4] at h3; exact h2 h3
    · omega
  have hto : ∀ a b : α, ((!(Go.Proofs.ltOf c) b a) || (!(Go.Proofs.ltOf c) a b)) = true := by
    intro a b
    have s1 := h.swap a b
    simp only [Go.Proofs.ltOf, Bool.or_eq_true, Bool.not_eq_true', decide_eq_false_iff_not]
    omega
  refine sorted_perm_eq h (((List.mergeSort_perm l _).trans hp).trans (List.mergeSort_perm m _).symm) ?_ ?_
  · exact List.pairwise_mergeSort htr hto l
  · exact List.pairwise_mergeSort htr hto m
end Go.L
namespace Go.Proofs.YtmfiaecglndldaaGreatDoor
open Go Go.E Go.RowKit Go.Shelf Go.L Go.Sort
abbrev cwLf (x : Lf) : List Value := [.string ⟨x.1.toArray⟩, .int .i64 x.2.1, .int .i64 x.2.2.1, .string ⟨x.2.2.2.toArray⟩]
abbrev rpLf : Rp Lf := .pair .st (.pair (.int .i64) (.pair (.int .i64) .st))
theorem rel_Lf (G : PH) (x : Lf) (c : List Value) : rpLf.rel G x c ↔ c = cwLf x := by
  constructor
  · rintro ⟨_, _, rfl, rfl, _, _, rfl, rfl, _, _, rfl, rfl, rfl⟩
    rfl
  · rintro rfl
    exact ⟨[_], [_, _, _], rfl, rfl, [_], [_, _], rfl, rfl, [_], [_], rfl, rfl, rfl⟩
theorem lf_elems {G : PH} {l : List Lf} {xs : List Value} (h : Elems rpLf G l xs) : l.flatMap cwLf = xs := by
  induction h with
  | nil => rfl
  | cons h _ ih => rw [List.flatMap_cons, ih, (rel_Lf _ _ _).1 h]
theorem elems_lf (G : PH) : ∀ l : List Lf, Elems rpLf G l (l.flatMap cwLf)
  | [] => .nil
  | x :: l => by rw [List.flatMap_cons]; exact .cons ((rel_Lf _ _ _).2 rfl) (elems_lf G l)
theorem flat_get (l : List Lf) : ∀ t, t < l.length * 4 → (l.flatMap cwLf)[t]? = some ((cwLf (l.getD (t / 4) default)).toArray[t % 4]!) := by
  induction l with
  | nil => intro t h; simp at h
  | cons a l ih =>
    intro t h
    rw [List.flatMap_cons]
    by_cases h4 : t < 4
    · rw [List.getElem?_append_left h4, Nat.div_eq_of_lt h4, Nat.mod_eq_of_lt h4]
      have : t = 0 ∨ t = 1 ∨ t = 2 ∨ t = 3 := by omega
      rcases this with rfl | rfl | rfl | rfl <;> rfl
    · rw [List.getElem?_append_right (by simpa using h4)]
      have := ih (t - 4) (by simp only [List.length_cons] at h; omega)
      rw [show (cwLf a).length = 4 from rfl, this]
      obtain ⟨s, rfl⟩ : ∃ s, t = s + 4 := ⟨t - 4, by omega⟩
      rw [Nat.add_sub_cancel, Nat.add_div_right _ (by decide), Nat.add_mod_right]
      rfl
theorem flat_list (l : List Lf) : (flatK cwLf 4 l.toArray).toList = l.flatMap cwLf := by
  have hlen : (l.flatMap cwLf).length = l.length * 4 := by
    induction l with
    | nil => rfl
    | cons a l ih => rw [List.flatMap_cons, List.length_append, ih]; show 4 + l.length * 4 = (l.length + 1) * 4; omega
  apply List.ext_getElem?
  intro t
  by_cases h : t < l.length * 4
  · rw [flat_get l t h]
    have hs : t < (flatK cwLf 4 l.toArray).size := by simpa using h
    have h2 := get_flatK cwLf 4 l.toArray t (by simpa using h)
    rw [getElem!_pos _ t hs] at h2
    rw [Array.getElem?_toList, Array.getElem?_eq_getElem hs, h2]
    have hd : t / 4 < l.length := by omega
    have e1 : l.toArray[t / 4]! = l.getD (t / 4) default := by simp [hd]
    rw [e1]
    simp
  · rw [List.getElem?_eq_none (by simpa using h), List.getElem?_eq_none (by omega)]
/-- slices.SortFunc of leaves by shapes.leaf.compare. -/
theorem S_sortL {n : Sz} {ops : Array Oper} {Q : Exit → Act → World → Prop} {L : Env} {w w0 : World} {O : List Res} {rest : List Oper} {d : Nat} {ty : TypeId} {pos : String} {af : Array Edge} {v : Value} {H : PH} {i : Nat} {at_ : Array TypeId} {args : List Operand} {xs : List Value} {l : List Lf}
    (ha : evl L args = some [v, .func (.func 72) #[] #[]]) (hn : Nat.blt d n.n = true) (_hH : Le H (hp w0)) (hL : Lcl w0 O w) (hi : nthR O i = some (.row v 84 4 l.length xs)) (he : Elems rpLf (gz H w0 w O) l xs) (hlen : l.length < 4611686018427387904)
    (h : ∀ w' xs', Lcl w0 (setR O i (.row v 84 4 (srtL l).length xs')) w' → Le (fz w O) (fz w' (setR O i (.row v 84 4 (srtL l).length xs'))) → Elems rpLf (gz H w0 w' (setR O i (.row v 84 4 (srtL l).length xs'))) (srtL l) xs' → S Tryz.prog n ops Q rest ((d, .tuple #[]) :: L) w') :
    S Tryz.prog n ops Q (⟨some d, .call ⟨.value (.func 131), args.toArray, at_⟩, ty, pos, af, none⟩ :: rest) L w := by
  have hxs := lf_elems he
  have hll : (srtL l).length = l.length := srtL_length l
  have hfl : ∀ l : List Lf, (l.flatMap cwLf).length = l.length * 4 := fun l => by
    induction l with
    | nil => rfl
    | cons a l ih => rw [List.flatMap_cons, List.length_append, ih]; show 4 + l.length * 4 = (l.length + 1) * 4; omega
  refine S_putRow (l' := srtL l) (enc := (id : Value → Value)) (dd := flatK cwLf 4 (srtL l).toArray) (ys := (srtL l).flatMap cwLf) ⟨Tryz.f131, _, Tryz.func131, rfl, rfl⟩ ha hn hL hi (by rw [List.map_id]; exact flat_list _) hll (by rw [← hxs, hfl, hfl, hll]) (fun h0 => ?_) (fun hv => ?_) (fun g cap hv hcap => ?_) (fun w' h1 h2 => h w' _ h1 h2 (elems_lf _ _))
  · have : l = [] := List.eq_nil_of_length_eq_zero h0
    subst this
    rw [← hxs, show srtL [] = [] from List.mergeSort_nil]
  · subst hv
    exact AnyF.slices_SortFunc_none Tryz.laySK none 0 _ w
  · have hown : w.ownsRow 0 84 4 v l.length xs := hL.at hi
    rw [hv] at hown
    have hhk : HoldsK cwLf 4 w g 0 l.toArray ∧ g < w.heap.size := row_holds (enc := (id : Value → Value)) (d := flatK cwLf 4 l.toArray) hown (by rw [List.map_id, flat_list]; exact hxs)
    subst hv
    refine AnyQ.slices_SortFunc_total Tryz.laySK 4 (fun w => by kernel_rfl) (fun w => by kernel_rfl) cwLf (fun _ => rfl) (fun x v hv => ?_) lfCmp ordLf.swo 72 #[] g 0 cap l.toArray w (enters_of Tryz.func72 (by kernel_rfl) rfl) ?_ hhk.1 hhk.2 (by simpa using hlen) ordLf.parts
    · simp only [List.mem_cons, List.mem_nil_iff, or_false] at hv
      rcases hv with rfl | rfl | rfl | rfl <;> rfl
    · intro m os dk hs x y
      have hk := @shapes_leaf_compare_ok ⟨true⟩ (sortWorldK cwLf 4 w g 0 m dk os) (hp _) (Le.refl _) x y _ (compare_eq x y)
      refine hk.2.mono fun en w' ⟨u, he, hx, hu⟩ => ?_
      subst he; subst hu
      obtain ⟨q, os', hw⟩ := @ext_grow ⟨true⟩ _ _ rfl hx
      exact ⟨rfl, q, os', hw⟩
/-- The keys of a map in order. -/
noncomputable def sortedK (l : List (Lf × List Int)) : Option (List Lf) := Go.L.chk (Go.E.Cap 48 l.length) (some (srtL (l.map Prod.fst)))
set_option maxRecDepth 10000 in
theorem sortedK_ok (w : World) (H : PH) (hH : Le H (hp w)) {v0 : Value} {a0 : List (Lf × List Int)} (h0 : VMap encLf (.vec (.int .i64)) H v0 a0) {r : List Lf} (h : sortedK a0 = some r) :
    Ok Tryz.prog 97 [v0, .func (.func 72) #[] #[]] w (fun v w' => Ext w w' ∧ ∃ u0, v = u0 ∧ OwnH 84 rpLf H w w' u0 r) := by
  obtain ⟨hcap0, h⟩ := Go.L.chk_some h
  have hcap : ∀ j, j ≤ a0.length → Go.E.Cap 48 j := fun j hj => ⟨Nat.le_trans (Nat.mul_le_mul_right _ hj) hcap0.1, Nat.le_trans hj hcap0.2⟩
  clear hcap0
  obtain rfl := Option.some.inj h
  obtain ⟨m, vs, rfl, hm, hl, _⟩ := h0
  have hkl : (a0.map Prod.fst).length = vs.length := by rw [List.length_map]; exact hl
  have hkN : (a0.map Prod.fst).length = a0.length := List.length_map _
  generalize hK : a0.map Prod.fst = K at *
  generalize hNN : a0.length = N at *
  have hNlt : N < 4611686018427387904 := by have := hcap N (Nat.le_refl _); unfold Go.E.Cap at this; omega
  refine Ok_enter (n := 21) [(0, .map (some m)), (1, .func (.func 72) #[] #[])] Tryz.func97 rfl rfl rfl rfl rfl ?_
  have hL := Lcl.start w
  refine W_pz 1 rfl ?_
  refine W_pz 1 rfl ?_
  obtain ⟨hL1, hle1, he1⟩ := row_nilE rpLf H 84 hL
  refine W_cut (σ := Value × List Value × List Lf) (fun ⟨v, _, _⟩ => [(1, .func (.func 72) #[] #[]), (5, v)]) (fun ⟨v, xs, l⟩ wr => Lcl w [.row v 84 4 l.length xs] wr ∧ Elems rpLf (gz H w wr [.row v 84 4 l.length xs]) l xs ∧ l.Perm K) ?_ ?_
  · refine W_p 1 rfl ?_
    refine S_rangeM (enc := encLf) (keys := K) (vs := vs) (N := N) rfl Tryz.underlying92 (hH _ _ hm) rfl hL1 ?_
    intro w2 b2 hL2 hle2
    refine S_seqnil ?_
    refine W_block ?_
    refine W_loop (σ := List Nat × Value × List Value) (fun ⟨_, v, _⟩ => [(1, .func (.func 72) #[] #[]), (5, v), (8, .pointer (some ⟨b2, 0, none⟩))])
      (fun ⟨seen, v, xs⟩ wr => Lcl w [.obj b2 (.mapIter (some m) N seen.toArray N), .row v 84 4 (seen.map fun j => K.getD j default).length xs] wr ∧ Elems rpLf (gz H w wr [.obj b2 (.mapIter (some m) N seen.toArray N), .row v 84 4 (seen.map fun j => K.getD j default).length xs]) (seen.map fun j => K.getD j default) xs ∧ seen.Nodup ∧ ∀ j ∈ seen, j < N)
      (fun ⟨seen, _, _⟩ => N - seen.length) ([], .slice none 0 0, []) (.cons rfl (.cons rfl (.cons rfl (Sub.nil _)))) ⟨hL2, he1.mono (gz_mono hH hle2), List.nodup_nil, fun j hj => by cases hj⟩ ?_
    rintro ⟨seen, v, xs⟩ wr ⟨hLr, her, hnd, hlt⟩
    have hseen : seen.length ≤ N := by
      exact nd_le N seen hnd hlt
    refine W_seqr ?_
    refine S_nextM (enc := encLf) (keys := K) (vs := vs) (m := m) (N := N) 0 rfl rfl hLr rfl ((hH.trans hLr.arg) _ _ hm) hkl hkN ?_ ?_
    · intro j a ha hj w3 hL3 hle3 hm3
      have hjN : j < N := by have := (List.getElem?_eq_some_iff.1 ha).1; omega
      refine S_pz 1 rfl ?_
      refine W_seq ?_
      refine W_true rfl ?_
      refine W_skip ?_
      refine At_seq ?_
      refine W_block ?_
      refine W_seqr ?_
      refine r_entryM (enc := encLf) rfl rfl (hL3.at (i := 0) rfl) hm3 hkl ha ?_
      refine S_pu 1 rfl ?_
      refine S_alloc zr84 rfl rfl hL3 ?_
      intro w4 b4 hL4 hle4 _
      refine S_storeBN 0 rfl rfl rfl zr84 hL4 rfl rfl (onc rfl (onc rfl (onc rfl (onc rfl on0)))) ?_
      intro w5 hL5 hle5
      refine S_seqnil ?_
      refine W_region ?_
      refine S_pu 1 rfl ?_
      refine S_v (r_loadBN 0 rfl Tryz.underlying84 rfl zr84 hL5 rfl) rfl ?_
      refine S_litE (r := rpLf) (l := [a]) rfl (fun _ => bsl131_1 _ _ _ _ _) rfl (show 1 ≤ 9223372036854775807 by decide) hH hL5 (.c4 ((rel_Lf _ _ _).2 rfl) .nil) ?_
      intro v6 w6 hx6 hL6 hle6 hv6
      have he6 := (((her.mono (gz_mono hH hle3)).mono (gz_mono hH hle4)).mono (gz_mono hH hle5)).mono (gz_mono hH hle6)
      refine S_appE (r := rpLf) (l := seen.map fun j => K.getD j default) (m := [a]) 2 rfl rfl Tryz.underlying131 zr84 rfl (by decide) rfl hH hL6 rfl he6 hv6 (hcap _ ?_) ?_
      · have h1 := nd_le N (seen ++ [j]) (List.nodup_append.2 ⟨hnd, List.pairwise_singleton _ j, fun x hx y hy => by rw [List.mem_singleton] at hy; subst hy; exact fun e => hj (e ▸ hx)⟩) (fun q hq => by rcases List.mem_append.1 hq with h2 | h2; exact hlt q h2; rw [List.mem_singleton] at h2; subst h2; exact hjN)
        simpa using h1
      intro v7 w7 xs7 hL7 hle7 he7
      refine S_pu 1 rfl ?_
      refine S_nil ?_
      refine At_block ?_
      have hmap : (seen ++ [j]).map (fun j => K.getD j default) = (seen.map fun j => K.getD j default) ++ [a] := by
        rw [List.map_append, List.map_singleton]
        have : K.getD j default = a := by rw [List.getD_eq_getElem?_getD, ha]; rfl
        rw [this]
      have hnd2 : (seen ++ [j]).Nodup := List.nodup_append.2 ⟨hnd, List.pairwise_singleton _ j, fun x hx y hy => by rw [List.mem_singleton] at hy; subst hy; exact fun e => hj (e ▸ hx)⟩
      have hL8 := hL7.dropAt (i := 0) rfl
      have he8 := he7.mono (gz_mono hH (fz_dropAt (i := 0) rfl))
      refine At_round (seen ++ [j], v7, xs7) (.cons rfl (.cons rfl (.cons rfl (Sub.nil _)))) ?_ ?_
      · show Lcl w [.obj b2 (.mapIter (some m) N (seen ++ [j]).toArray N), .row v7 84 4 ((seen ++ [j]).map fun j => K.getD j default).length xs7] w7 ∧ Elems rpLf (gz H w w7 [.obj b2 (.mapIter (some m) N (seen ++ [j]).toArray N), .row v7 84 4 ((seen ++ [j]).map fun j => K.getD j default).length xs7]) ((seen ++ [j]).map fun j => K.getD j default) xs7 ∧ _
        rw [hmap]
        refine ⟨hL8, he8, hnd2, fun q hq => ?_⟩
        rcases List.mem_append.1 hq with h2 | h2
        · exact hlt q h2
        · rw [List.mem_singleton] at h2; subst h2; exact hjN
      · show N - (seen ++ [j]).length < N - seen.length
        have h1 := nd_le N (seen ++ [j]) hnd2 (fun q hq => by rcases List.mem_append.1 hq with h2 | h2; exact hlt q h2; rw [List.mem_singleton] at h2; subst h2; exact hjN)
        rw [List.length_append, List.length_singleton] at h1
        rw [List.length_append, List.length_singleton]
        omega
    · intro hall
      refine S_pz 1 rfl ?_
      refine W_seq ?_
      refine W_false rfl ?_
      refine W_exit ?_
      refine At_seq_exit ?_
      refine At_loop_exit ?_
      refine At_exit ?_
      have hp : (seen.map fun j => K.getD j default).Perm K := by
        have h1 : seen.Perm (List.range N) := (List.perm_ext_iff_of_nodup hnd List.nodup_range).2 fun q => ⟨fun hq => List.mem_range.2 (hlt q hq), fun hq => hall q (List.mem_range.1 hq)⟩
        have h2 := h1.map (fun j => K.getD j default)
        have h3 : (List.range N).map (fun j => K.getD j default) = K := by
          apply List.ext_getElem?
          intro q
          rw [List.getElem?_map]
          by_cases hq : q < N
          · rw [List.getElem?_range hq, List.getElem?_eq_getElem (by omega : q < K.length)]
            simp [List.getD_eq_getElem?_getD, List.getElem?_eq_getElem (by omega : q < K.length)]
          · rw [List.getElem?_eq_none (by simpa using hq), List.getElem?_eq_none (by omega)]; rfl
        rwa [h3] at h2
      exact At_cut (v, xs, seen.map fun j => K.getD j default) (.cons rfl (.cons rfl (Sub.nil _))) ⟨hLr.dropAt (i := 0) rfl, her.mono (gz_mono hH (fz_dropAt (i := 0) rfl)), hp⟩
  · rintro ⟨v, xs, l⟩ wr ⟨hLr, her, hp⟩
    have hlN : l.length = N := by rw [hp.length_eq]; omega
    refine W_p 2 rfl ?_
    refine S_sortL (i := 0) rfl rfl hH hLr rfl her (by omega) ?_
    intro w8 xs8 hL8 hle8 he8
    refine S_seqnil ?_
    refine W_pz 2 rfl ?_
    refine W_ret ?_
    refine At_body rfl rfl ?_
    have e : srtL l = srtL K := srt_perm ordLf hp
    rw [e] at hL8 he8
    exact ⟨hL8.ext, _, rfl, hL8.ownH hH (i := 0) rfl he8⟩
end Go.Proofs.YtmfiaecglndldaaGreatDoor
end
section
namespace Go.Proofs.YtmfiaecglndldaaGreatDoor
open Go Go.E Go.RowKit Go.L
/-- What the function value of Paths turns: a variable and its row. -/
def JPa (b : Nat) (s : List (List UInt8)) (R : List Res) (G : PH) : Prop := ∃ (v : Value) (xs : List Value), R = [.box b [v] 30, .row v 9 1 s.length xs] ∧ Elems .st G s xs
noncomputable def pathStep (s : List (List UInt8)) (x : Lf) : Option (List (List UInt8)) := shapes_Paths_1 x s
theorem cb_paths {w0 : World} {H : PH} (hH : Le H (hp w0)) (b : Nat) : Cb Tryz.prog w0 H 52 [.pointer (some ⟨b, 0, none⟩)] (JPa b) pathStep := by
  constructor
  · rintro s R G G' hle ⟨v, xs, rfl, he⟩
    exact ⟨v, xs, rfl, he.mono hle⟩
  · rintro w O R s s' x hL ⟨v, xs, rfl, he⟩ h
    have hp : (HAppend.hAppend ([.box b [v] 30, .row v 9 1 s.length xs] : List Res) O).Perm (HAppend.hAppend O ([.box b [v] 30, .row v 9 1 s.length xs] : List Res)) := List.perm_append_comm
    have hc := shapes_Paths_1_fr hH (O := O) (hL.perm hp) (he.mono (gz_mono hH (by rw [fz_perm hp]; exact Le.refl _))) h
    refine ⟨hc.1, hc.2.mono fun e w' ⟨u, hu, u0, y0, h1, h2, h3, h4⟩ => ⟨u, hu, h1, _, h2.perm List.perm_append_comm, ?_, u0, y0, rfl, ?_⟩⟩
    · rw [fz_perm (O' := HAppend.hAppend O ([.box b [u0] 30, .row u0 9 1 s'.length y0] : List Res)) List.perm_append_comm]
      exact Le.trans (by rw [fz_perm hp]; exact Le.refl _) h3
    · exact h4.mono (gz_mono hH (by rw [fz_perm (O' := HAppend.hAppend O ([.box b [u0] 30, .row u0 9 1 s'.length y0] : List Res)) List.perm_append_comm]; exact Le.refl _))
theorem leaves_paths {w0 w : World} {H : PH} (hH : Le H (hp w0)) {O : List Res} {b : Nat} {v : Value} {xs : List Value} {s : List (List UInt8)} {a0 : Go.L.Pv} {a1 : List (List UInt8)} {va0_2 va0_3 va0_4 va1 : Value}
    (hL : Lcl w0 (HAppend.hAppend ([.box b [v] 30, .row v 9 1 s.length xs] : List Res) O) w) (he : Elems .st (gz H w0 w (HAppend.hAppend ([.box b [v] 30, .row v 9 1 s.length xs] : List Res) O)) s xs)
    (ha0_2 : Vec .byte (gz H w0 w (HAppend.hAppend ([.box b [v] 30, .row v 9 1 s.length xs] : List Res) O)) va0_2 a0.f.2.2.1) (ha0_3 : Vec .st (gz H w0 w (HAppend.hAppend ([.box b [v] 30, .row v 9 1 s.length xs] : List Res) O)) va0_3 a0.f.2.2.2.1) (ha0_4 : Vec .tree (gz H w0 w (HAppend.hAppend ([.box b [v] 30, .row v 9 1 s.length xs] : List Res) O)) va0_4 a0.f.2.2.2.2) (ha1 : Vec .st (gz H w0 w (HAppend.hAppend ([.box b [v] 30, .row v 9 1 s.length xs] : List Res) O)) va1 a1)
    {r : List (List UInt8)} (h : shapes_leaves pathStep a0 a1 s = some r) :
    Ok Tryz.prog 51 [.agg #[.int .i64 a0.f.1, .int .i64 a0.f.2.1, va0_2, va0_3, va0_4], va1, .func (.func 52) #[] #[.pointer (some ⟨b, 0, none⟩)]] w (fun u w' => u = .tuple #[] ∧ ∃ (u0 : Value) (y0 : List Value), Lcl w0 (HAppend.hAppend ([.box b [u0] 30, .row u0 9 1 r.length y0] : List Res) O) w' ∧ Le (fz w (HAppend.hAppend ([.box b [v] 30, .row v 9 1 s.length xs] : List Res) O)) (fz w' (HAppend.hAppend ([.box b [u0] 30, .row u0 9 1 r.length y0] : List Res) O)) ∧ Elems .st (gz H w0 w' (HAppend.hAppend ([.box b [u0] 30, .row u0 9 1 r.length y0] : List Res) O)) r y0) := by
  have hp : (HAppend.hAppend O ([.box b [v] 30, .row v 9 1 s.length xs] : List Res)).Perm (HAppend.hAppend ([.box b [v] 30, .row v 9 1 s.length xs] : List Res) O) := List.perm_append_comm
  have hz : Le (gz H w0 w (HAppend.hAppend ([.box b [v] 30, .row v 9 1 s.length xs] : List Res) O)) (gz H w0 w (HAppend.hAppend O ([.box b [v] 30, .row v 9 1 s.length xs] : List Res))) := gz_mono hH (by rw [fz_perm hp]; exact Le.refl _)
  have hc := shapes_leaves_J hH (cb_paths hH b) (O := O) (hL.perm hp) (ha0_2.mono hz) (ha0_3.mono hz) (ha0_4.mono hz) (ha1.mono hz) (s := s) ⟨v, xs, rfl, he.mono hz⟩ h
  refine ⟨hc.1, hc.2.mono fun e w' ⟨u, hu, h1, R', h2, h3, u0, y0, h4, h5⟩ => ?_⟩
  subst h4
  have hp' : (HAppend.hAppend ([.box b [u0] 30, .row u0 9 1 r.length y0] : List Res) O).Perm (HAppend.hAppend O ([.box b [u0] 30, .row u0 9 1 r.length y0] : List Res)) := List.perm_append_comm
  refine ⟨u, hu, h1, u0, y0, h2.perm hp', ?_, h5.mono (gz_mono hH (by rw [fz_perm hp']; exact Le.refl _))⟩
  rw [fz_perm hp']
  exact Le.trans (by rw [fz_perm hp]; exact Le.refl _) h3
/-- What the function value of Build turns: the map. -/
abbrev buildA (bm bi b : Nat) (i : Int) (l : List (Lf × List Int)) (vs : List Value) : List Res := [.box bm [.map (some b)] 92, .box bi [.int .i64 i] 3, mpR encLf b l vs]
abbrev buildT (l : List (Lf × List Int)) (vs : List Value) : List Res := mT cwI 3 1 l vs
def JBu (bm bi b : Nat) (i : Int) (l : List (Lf × List Int)) (R : List Res) (_ : PH) : Prop := ∃ vs : List Value, l.length = vs.length ∧ R = HAppend.hAppend (buildA bm bi b i l vs) (buildT l vs)
noncomputable def buildStep (i : Int) (l : List (Lf × List Int)) (x : Lf) : Option (List (Lf × List Int)) := Go.L.chk (Go.E.Cap 8 ((mget [] x l).length + 1)) (some (mput x (mget [] x l ++ [i]) l))
set_option maxRecDepth 10000 in
theorem build1_fr {w0 w : World} {H : PH} (hH : Le H (hp w0)) {O : List Res} {bm bi b : Nat} {i : Int} {l : List (Lf × List Int)} {vs : List Value} {x : Lf} (hL : Lcl w0 (HAppend.hAppend (HAppend.hAppend (buildA bm bi b i l vs) O) (buildT l vs)) w) (hn : l.length = vs.length) {r : List (Lf × List Int)} (h : buildStep i l x = some r) :
    Ok Tryz.prog 58 [encLf x, .pointer (some ⟨bm, 0, none⟩), .pointer (some ⟨bi, 0, none⟩)] w (fun u w' => u = .tuple #[] ∧ ∃ vs' : List Value, r.length = vs'.length ∧ Lcl w0 (HAppend.hAppend (HAppend.hAppend (buildA bm bi b i r vs') O) (buildT r vs')) w' ∧ Le (fz w (HAppend.hAppend (HAppend.hAppend (buildA bm bi b i l vs) O) (buildT l vs))) (fz w' (HAppend.hAppend (HAppend.hAppend (buildA bm bi b i r vs') O) (buildT r vs')))) := by
  obtain ⟨hcap, h⟩ := Go.L.chk_some h
  obtain rfl := Option.some.inj h
  refine Ok_enter (n := 12) [(0, encLf x), (1, .pointer (some ⟨bm, 0, none⟩)), (2, .pointer (some ⟨bi, 0, none⟩))] Tryz.func58 rfl rfl rfl rfl rfl ?_
  refine W_seqr ?_
  refine S_box (t := 84) rfl rfl rfl hL ?_
  intro w1 b1 hL1 hle1 _
  refine S_seqnil ?_
  refine W_region ?_
  refine S_v (r_loadB1 1 rfl Tryz.underlying92 rfl hL1 rfl rfl) rfl ?_
  refine S_v (r_loadBN 0 rfl Tryz.underlying84 rfl zr84 hL1 rfl) rfl ?_
  refine S_v (r_loadB1 2 rfl Tryz.underlying3 rfl hL1 rfl rfl) rfl ?_
  refine S_litE (r := .int .i64) (l := [i]) rfl (fun _ => bsl52_1 _ _) rfl (show 1 ≤ 9223372036854775807 by decide) hH hL1 (.c1 rfl .nil) ?_
  intro v2 w2 hx2 hL2 hle2 hv2
  refine S_mapEntry (A := .box b1 [.string ⟨x.1.toArray⟩, .int .i64 x.2.1, .int .i64 x.2.2.1, .string ⟨x.2.2.2.toArray⟩] 84 :: HAppend.hAppend (buildA bm bi b i l vs) O) (l := l) (vs := vs) (k := x) (enc := encLf) 3 rfl rfl Tryz.underlying92 key84 Tryz.zeroValue52 rfl hL2 rfl hn ?_
  intro vs3 w3 hn3 hL3 hle3
  refine S_pu 1 rfl ?_
  have hv3 := hv2.mono (gz_mono hH hle3)
  refine S_appM (A := .box b1 [.string ⟨x.1.toArray⟩, .int .i64 x.2.1, .int .i64 x.2.2.1, .string ⟨x.2.2.2.toArray⟩] 84 :: HAppend.hAppend (buildA bm bi b i (mtouch x l) vs3) O) (l := mtouch x l) (vs := vs3) (k := x) (z := i) (r := .int .i64) (H := H) rel_I rfl rfl rfl Tryz.underlying52 zr3 rfl (by decide) rfl hH hL3 hn3 hv3 (by rw [mget_touch]; exact hcap) ?_
  intro v4 w4 T4 hpd4 hL4 hle4
  rw [mget_touch] at hpd4
  refine S_pu 1 rfl ?_
  refine S_estM (A := .box b1 [.string ⟨x.1.toArray⟩, .int .i64 x.2.1, .int .i64 x.2.2.1, .string ⟨x.2.2.2.toArray⟩] 84 :: HAppend.hAppend (buildA bm bi b i (mtouch x l) vs3) O) (T := T4) (k := x) (l := l) (vs := vs3) 3 hpd4 rfl rfl rfl hL4 rfl ?_
  intro vs5 w5 hn5 hL5 hle5
  refine S_nil ?_
  refine At_got0e rfl ?_
  refine ⟨rfl, vs5, hn5, hL5.dropAt (i := 0) rfl, ((((hle1.trans hle2).trans hle3).trans hle4).trans hle5).trans (fz_dropAt (i := 0) rfl)⟩
theorem build_perm (bm bi b : Nat) (i : Int) (l : List (Lf × List Int)) (vs : List Value) (O : List Res) : (HAppend.hAppend (HAppend.hAppend (buildA bm bi b i l vs) O) (buildT l vs)).Perm (HAppend.hAppend O (HAppend.hAppend (buildA bm bi b i l vs) (buildT l vs))) := by
  rw [← List.append_assoc O]
  exact List.perm_append_comm.append_right _
theorem cb_build {w0 : World} {H : PH} (hH : Le H (hp w0)) (bm bi b : Nat) (i : Int) : Cb Tryz.prog w0 H 58 [.pointer (some ⟨bm, 0, none⟩), .pointer (some ⟨bi, 0, none⟩)] (JBu bm bi b i) (buildStep i) := by
  constructor
  · exact fun _ h => h
  · rintro w O R l l' x hL ⟨vs, hn, rfl⟩ h
    have hc := build1_fr hH (O := O) (hL.perm (build_perm bm bi b i l vs O)) hn h
    refine ⟨hc.1, hc.2.mono fun e w' ⟨u, hu, h1, vs', h2, h3, h4⟩ => ⟨u, hu, h1, _, h3.perm (build_perm bm bi b i l' vs' O).symm, ?_, vs', h2, rfl⟩⟩
    rw [← fz_perm (build_perm bm bi b i l vs O), ← fz_perm (build_perm bm bi b i l' vs' O)]
    exact h4
theorem leaves_build {w0 w : World} {H : PH} (hH : Le H (hp w0)) {O : List Res} {bm bi b : Nat} {i : Int} {l : List (Lf × List Int)} {vs : List Value} {a0 : Go.L.Pv} {a1 : List (List UInt8)} {va0_2 va0_3 va0_4 va1 : Value}
    (hL : Lcl w0 (HAppend.hAppend (HAppend.hAppend (buildA bm bi b i l vs) O) (buildT l vs)) w) (ha0_2 : Vec .byte (gz H w0 w (HAppend.hAppend (HAppend.hAppend (buildA bm bi b i l vs) O) (buildT l vs))) va0_2 a0.f.2.2.1) (ha0_3 : Vec .st (gz H w0 w (HAppend.hAppend (HAppend.hAppend (buildA bm bi b i l vs) O) (buildT l vs))) va0_3 a0.f.2.2.2.1) (ha0_4 : Vec .tree (gz H w0 w (HAppend.hAppend (HAppend.hAppend (buildA bm bi b i l vs) O) (buildT l vs))) va0_4 a0.f.2.2.2.2) (ha1 : Vec .st (gz H w0 w (HAppend.hAppend (HAppend.hAppend (buildA bm bi b i l vs) O) (buildT l vs))) va1 a1)
    (hn : l.length = vs.length) {r : List (Lf × List Int)} (h : shapes_leaves (buildStep i) a0 a1 l = some r) :
    Ok Tryz.prog 51 [.agg #[.int .i64 a0.f.1, .int .i64 a0.f.2.1, va0_2, va0_3, va0_4], va1, .func (.func 58) #[] #[.pointer (some ⟨bm, 0, none⟩), .pointer (some ⟨bi, 0, none⟩)]] w (fun u w' => u = .tuple #[] ∧ ∃ vs' : List Value, r.length = vs'.length ∧ Lcl w0 (HAppend.hAppend (HAppend.hAppend (buildA bm bi b i r vs') O) (buildT r vs')) w' ∧ Le (fz w (HAppend.hAppend (HAppend.hAppend (buildA bm bi b i l vs) O) (buildT l vs))) (fz w' (HAppend.hAppend (HAppend.hAppend (buildA bm bi b i r vs') O) (buildT r vs')))) := by
  have hz : Le (gz H w0 w (HAppend.hAppend (HAppend.hAppend (buildA bm bi b i l vs) O) (buildT l vs))) (gz H w0 w (HAppend.hAppend O (HAppend.hAppend (buildA bm bi b i l vs) (buildT l vs)))) := gz_mono hH (by rw [fz_perm (build_perm bm bi b i l vs O)]; exact Le.refl _)
  have hc := shapes_leaves_J hH (cb_build hH bm bi b i) (O := O) (hL.perm (build_perm bm bi b i l vs O).symm) (ha0_2.mono hz) (ha0_3.mono hz) (ha0_4.mono hz) (ha1.mono hz) (s := l) ⟨vs, hn, rfl⟩ h
  refine ⟨hc.1, hc.2.mono fun e w' ⟨u, hu, h1, R', h2, h3, vs', h4, h5⟩ => ?_⟩
  subst h5
  refine ⟨u, hu, h1, vs', h4, h2.perm (build_perm bm bi b i r vs' O), ?_⟩
  rw [fz_perm (build_perm bm bi b i l vs O), fz_perm (build_perm bm bi b i r vs' O)]
  exact h3
end Go.Proofs.YtmfiaecglndldaaGreatDoor
end
section
namespace Go.L
theorem sum_drop {α : Type} [Inhabited α] (f : α → Nat) {l : List α} {i : Nat} (h : i < l.length) : ((l.drop i).map f).sum = f (l.getD i default) + ((l.drop (i + 1)).map f).sum := by rw [drop_cons h]; simp
end Go.L
namespace Go.Proofs.YtmfiaecglndldaaGreatDoor
open Go Go.L
theorem chk_loop {d : Nat} {v : Pv} {a2 : Int} {self : Pv → Int → Int → Option (Int × (Int × Int))} (hlen : v.f.2.2.2.2.length ≤ 1000) (ha : I64 (a2 + 1))
    (hs : ∀ p ∈ v.f.2.2.2.2, ∀ m : Int, 0 ≤ m → ∃ r, self p m (a2 + 1) = some r ∧ ((r.2 = (0, 0) ∧ Vd d p ∧ r.1 = m + (nodes d p : Nat) ∧ r.1 ≤ 600) ∨ r.2.1 ≠ 0)) :
    ∀ (k i : Nat) (m : Int), i + k = v.f.2.2.2.2.length → 0 ≤ m → m ≤ 600 → ∃ r, Go.L.run (value_check_body_bl2 v a2 self) (m, (i : Int)) = some r ∧ ((r.2 = (0, 0) ∧ (∀ p ∈ v.f.2.2.2.2.drop i, Vd d p) ∧ r.1 = m + (((v.f.2.2.2.2.drop i).map (nodes d)).sum : Nat) ∧ r.1 ≤ 600) ∨ r.2.1 ≠ 0)
  | 0, i, m, hi, h0, h6 => by
    refine ⟨(m, 0, 0), run_inr (m := some (m, 0, 0)) ?_, .inl ⟨rfl, ?_⟩⟩
    · unfold value_check_body_bl2 value_check_body_k1
      dsimp only
      rw [if_neg (by omega)]
    · rw [List.drop_eq_nil_of_le (by omega)]
      exact ⟨by simp, by simp, h6⟩
  | k + 1, i, m, hi, h0, h6 => by
    have hil : i < v.f.2.2.2.2.length := by omega
    obtain ⟨r, h1, h2⟩ := hs _ (getD_mem hil) m h0
    rcases h2 with ⟨hr, g1, g2, g3⟩ | hr
    · have hb : value_check_body_bl2 v a2 self (m, (i : Int)) = some (.inl (r.1, ((i + 1 : Nat) : Int))) := by
        unfold value_check_body_bl2
        dsimp only
        rw [if_pos (by omega), chk_pos (by omega), chk_pos ha, Int.toNat_natCast, h1, Option.bind_some, if_pos (by rw [hr]; exact ⟨rfl, rfl⟩), chk_pos (by unfold I64; omega)]
        rfl
      obtain ⟨q, k1, k2⟩ := chk_loop hlen ha hs k (i + 1) r.1 (by omega) (by omega) g3
      refine ⟨q, by rw [run_inl hb, k1], ?_⟩
      rcases k2 with ⟨hq, l1, l2, l3⟩ | hq
      rotate_left
      · exact .inr hq
      rw [drop_cons hil]
      refine .inl ⟨hq, fun p hp => ?_, ?_, l3⟩
      · rcases List.mem_cons.1 hp with rfl | hp
        · exact g1
        · exact l1 p hp
      · rw [List.map_cons, List.sum_cons, l2, g2]; omega
    · refine ⟨(0, r.2.1, r.2.2), run_inr (m := some (0, r.2.1, r.2.2)) ?_, .inr hr⟩
      unfold value_check_body_bl2
      dsimp only
      rw [if_pos (by omega), chk_pos (by omega), chk_pos ha, Int.toNat_natCast, h1, Option.bind_some, if_neg (fun hh => hr hh.1)]
theorem chk_ex {B : Nat} (hB : B ≤ 100000000000) : ∀ (d n : Nat) (v : Pv) (m : Int), d < n → Sm B d v → d ≤ 10 → 0 ≤ m → ∃ r, value_check_n n v m (11 - (d : Int)) = some r ∧ ((r.2 = (0, 0) ∧ Vd d v ∧ r.1 = m + (nodes d v : Nat) ∧ r.1 ≤ 600) ∨ r.2.1 ≠ 0)
  | _, 0, _, _, h, _, _, _ => absurd h (by omega)
  | 0, n + 1, v, m, _, _, _, _ => by
    refine ⟨(0, 2, m), ?_, .inr (by simp)⟩
    show value_check_body (value_check_n n) v m _ = _
    unfold value_check_body
    rw [if_pos (by right; omega)]
    rfl
  | d + 1, n + 1, v, m, hn, hs, hd, hm => by
    obtain ⟨s1, s2, s3, s4, s5, s6, s7⟩ := hs
    show ∃ r, value_check_body (value_check_n n) v m _ = some r ∧ _
    unfold value_check_body
    by_cases h1 : (600 : Int) ≤ m
    · rw [if_pos (.inl h1)]
      exact ⟨(0, 2, m), rfl, .inr (by simp)⟩
    · rw [if_neg (by omega)]
      obtain ⟨c, h2, h3⟩ := checkNode_ex v (by omega)
      rw [h2, Option.bind_some]
      by_cases hc : c = 0
      · rw [if_pos hc, chk_pos (by unfold I64; omega)]
        have hok := h3 hc
        obtain ⟨r, k1, k2⟩ := chk_loop (d := d) (v := v) (a2 := 11 - ((d + 1 : Nat) : Int)) (self := value_check_n n) (by have := hok.many; omega) (by unfold I64; omega)
          (fun p hp q hq => by
            have := chk_ex hB d n p q (by omega) (s7 p hp) (by omega) hq
            rwa [show (11 : Int) - ((d + 1 : Nat) : Int) + 1 = 11 - (d : Int) by omega]) v.f.2.2.2.2.length 0 (m + 1) (by omega) (by omega) (by omega)
        refine ⟨r, k1, ?_⟩
        rcases k2 with ⟨hr, l1, l2, l3⟩ | hr
        rotate_left
        · exact .inr hr
        rw [List.drop_zero] at l1 l2
        refine .inl ⟨hr, ⟨hok, l1⟩, ?_, l3⟩
        rw [l2]
        unfold nodes
        omega
      · rw [if_neg hc]
        exact ⟨(0, c, m), rfl, .inr hc⟩
/-! ### Encoding -/
theorem chunk_ex {B : Nat} (hB : B ≤ 100000000000) {b : List UInt8} (h : b.length ≤ B) : wire_Chunk b = some (vint (zz (b.length : Int)) ++ b) := by
  unfold wire_Chunk
  have := vint_len (zz (b.length : Int))
  rw [number_eq (by unfold I64; omega), Option.bind_some, chk_pos (by unfold Go.E.Cap; omega)]
theorem enc_loop {B d : Nat} (hB : B ≤ 100000000000) {v : Pv} {self : Pv → Option (List UInt8)} (hlen : v.f.2.2.2.2.length ≤ 600) (hsame : v.f.1 = 4 → v.f.2.2.2.1.length = v.f.2.2.2.2.length) (hnm : ∀ x ∈ v.f.2.2.2.1, x.length ≤ 32)
    (hnod : ((v.f.2.2.2.2).map (nodes d)).sum ≤ 600)
    (hs : ∀ p ∈ v.f.2.2.2.2, ∃ b, self p = some b ∧ b.length + 42 ≤ nodes d p * (B + 100)) :
    ∀ (k i : Nat) (L : List UInt8) (C : Nat), i + k = v.f.2.2.2.2.length → C ≤ 700 → L.length + 42 + (((v.f.2.2.2.2.drop i).map (nodes d)).sum) * (B + 100) ≤ C * (B + 100) → ∃ b, Go.L.run (value_encode_body_bl2 v self) (L, (i : Int)) = some b ∧ b.length + 42 ≤ C * (B + 100)
  | 0, i, L, C, hi, hC, hL => by
    refine ⟨L, run_inr (m := some L) ?_, by omega⟩
    unfold value_encode_body_bl2 value_encode_body_k1
    dsimp only
    rw [if_neg (by omega)]
  | k + 1, i, L, C, hi, hC, hL => by
    have hil : i < v.f.2.2.2.2.length := by omega
    obtain ⟨b, h1, h2⟩ := hs _ (getD_mem hil)
    rw [sum_drop _ hil, Nat.add_mul] at hL
    have hCB : C * (B + 100) ≤ 700 * (100000000000 + 100) := Nat.mul_le_mul hC (by omega)
    have hk3 : ∀ M : List UInt8, M.length + b.length + 42 + ((v.f.2.2.2.2.drop (i + 1)).map (nodes d)).sum * (B + 100) ≤ C * (B + 100) → value_encode_body_k3 v (i : Int) self M = some (.inl (M ++ b, ((i + 1 : Nat) : Int))) := by
      intro M hM
      unfold value_encode_body_k3
      rw [Int.toNat_natCast, h1, Option.bind_some, chk_pos (by unfold Go.E.Cap; omega), chk_pos (by unfold I64; omega)]
      rfl
    by_cases h4 : v.f.1 = 4
    · have hin : i < v.f.2.2.2.1.length := by rw [hsame h4]; exact hil
      have hx := hnm _ (getD_mem hin)
      have hv := vint_len (zz ((v.f.2.2.2.1.getD i default).length : Int))
      have hb : value_encode_body_bl2 v self (L, (i : Int)) = some (.inl ((L ++ (vint (zz ((v.f.2.2.2.1.getD i default).length : Int)) ++ v.f.2.2.2.1.getD i default)) ++ b, ((i + 1 : Nat) : Int))) := by
        unfold value_encode_body_bl2
        dsimp only
        rw [if_pos (by omega), chk_pos (by omega), if_pos h4, chk_pos (by omega), Int.toNat_natCast, chk_pos (by omega), chunk_ex (B := 32) (by decide) hx, Option.bind_some, chk_pos (by unfold Go.E.Cap; simp only [List.length_append]; omega)]
        exact hk3 _ (by simp only [List.length_append]; omega)
      obtain ⟨q, k1, k2⟩ := enc_loop hB hlen hsame hnm hnod hs k (i + 1) _ C (by omega) hC (show ((L ++ (vint (zz ((v.f.2.2.2.1.getD i default).length : Int)) ++ v.f.2.2.2.1.getD i default)) ++ b).length + 42 + _ ≤ _ by simp only [List.length_append]; omega)
      exact ⟨q, by rw [run_inl hb, k1], k2⟩
    · have hb : value_encode_body_bl2 v self (L, (i : Int)) = some (.inl (L ++ b, ((i + 1 : Nat) : Int))) := by
        unfold value_encode_body_bl2
        dsimp only
        rw [if_pos (by omega), chk_pos (by omega), if_neg h4]
        exact hk3 _ (by omega)
      obtain ⟨q, k1, k2⟩ := enc_loop hB hlen hsame hnm hnod hs k (i + 1) _ C (by omega) hC (show (L ++ b).length + 42 + _ ≤ _ by simp only [List.length_append]; omega)
      exact ⟨q, by rw [run_inl hb, k1], k2⟩
theorem nok_len {x : List UInt8} (h : nok x = true) : x.length ≤ 32 := by
  unfold nok at h
  rw [Bool.and_eq_true, decide_eq_true_eq] at h
  omega
theorem nodes_mem {d : Nat} {l : List Pv} {p : Pv} (h : p ∈ l) : nodes d p ≤ (l.map (nodes d)).sum := by
  induction l with
  | nil => cases h
  | cons a l ih =>
    rw [List.map_cons, List.sum_cons]
    rcases List.mem_cons.1 h with rfl | h
    · omega
    · have := ih h; omega
theorem enc_ex {B : Nat} (hB : B ≤ 100000000000) : ∀ (d n : Nat) (v : Pv), d ≤ n → Sm B d v → Vd d v → nodes d v ≤ 600 → ∃ b, value_encode_n n v = some b ∧ b.length + 42 ≤ nodes d v * (B + 100)
  | 0, _, _, _, _, h, _ => h.elim
  | d + 1, 0, _, h, _, _, _ => absurd h (by omega)
  | d + 1, n + 1, v, hn, hs, hv, hnod => by
    obtain ⟨s1, s2, s3, s4, s5, s6, s7⟩ := hs
    obtain ⟨hok, hvp⟩ := hv
    unfold nodes at hnod
    show ∃ b, value_encode_body (value_encode_n n) v = some b ∧ _
    unfold value_encode_body
    have l1 := vint_len (zz v.f.1)
    have l2 := vint_len (zz v.f.2.1)
    have l3 := vint_len (zz (v.f.2.2.1.length : Int))
    have l4 := vint_len (zz (v.f.2.2.2.2.length : Int))
    have hN : 1 * (B + 100) ≤ nodes (d + 1) v * (B + 100) := Nat.mul_le_mul_right _ (by unfold nodes; omega)
    rw [number_eq s5, Option.bind_some]
    by_cases k1 : v.f.1 = 1
    · rw [if_pos k1, number_eq s6, Option.bind_some, chk_pos (by unfold Go.E.Cap; omega)]
      exact ⟨_, rfl, by simp only [List.length_append]; omega⟩
    · rw [if_neg k1]
      by_cases k2 : v.f.1 = 2
      · rw [if_pos k2, chunk_ex hB s1, Option.bind_some, chk_pos (by unfold Go.E.Cap; simp only [List.length_append]; omega)]
        exact ⟨_, rfl, by simp only [List.length_append]; omega⟩
      · have hmany := hok.many
        rw [if_neg k2, number_eq (by unfold I64; omega), Option.bind_some, chk_pos (by unfold Go.E.Cap; omega)]
        obtain ⟨b, h1, h2⟩ := enc_loop (d := d) hB (v := v) (self := value_encode_n n) hok.many hok.same (fun x hx => nok_len (hok.nok x hx)) (by omega)
          (fun p hp => enc_ex hB d n p (by omega) (s7 p hp) (hvp p hp) (by have := nodes_mem (d := d) hp; omega)) v.f.2.2.2.2.length 0 (vint (zz v.f.1) ++ vint (zz (v.f.2.2.2.2.length : Int))) ((v.f.2.2.2.2.map (nodes d)).sum + 1) (by omega) (by omega)
          (by rw [List.drop_zero, Nat.add_mul]; simp only [List.length_append]; omega)
        refine ⟨b, h1, ?_⟩
        unfold nodes
        rwa [Nat.add_comm 1]
theorem validate_ex {B : Nat} (hB : B ≤ 100000000000) {v : Pv} (hs : Sm B 10 v) : ∃ f, value_Validate v = some f ∧ ((f = (0, 0) ∧ Vd 10 v ∧ nodes 10 v ≤ 600) ∨ f.1 ≠ 0) := by
  obtain ⟨r, h1, h2⟩ := chk_ex hB 10 1000 v 0 (by omega) hs (by omega) (Int.le_refl _)
  have h1' : value_check v 0 1 = some r := h1
  unfold value_Validate value_Encode
  rw [h1', Option.bind_some]
  rcases h2 with ⟨hr, k1, k2, k3⟩ | hr
  · rw [if_pos (by rw [hr]; exact ⟨rfl, rfl⟩)]
    obtain ⟨b, h3, h4⟩ := enc_ex hB 10 1000 v (by omega) hs k1 (by omega)
    have h3' : value_encode v = some b := h3
    rw [h3', Option.bind_some]
    by_cases h5 : (4000 : Int) < (b.length : Int)
    · rw [if_pos h5]
      exact ⟨(14, -1), rfl, .inr (by simp)⟩
    · rw [if_neg h5]
      exact ⟨(0, 0), rfl, .inl ⟨rfl, k1, by omega⟩⟩
  · rw [if_neg (fun h => hr h.1)]
    exact ⟨r.2, rfl, .inr hr⟩
end Go.Proofs.YtmfiaecglndldaaGreatDoor
end
section
namespace Go.L
/-- A list, taken element by element. -/
def foldO {σ α : Type} (step : σ → α → Option σ) : σ → List α → Option σ
  | s, [] => some s
  | s, x :: l => (step s x).bind fun s' => foldO step s' l
theorem foldO_append {σ α : Type} {step : σ → α → Option σ} : ∀ (l m : List α) (s : σ), foldO step s (l ++ m) = (foldO step s l).bind fun s' => foldO step s' m
  | [], _, _ => rfl
  | x :: l, m, s => by
    simp only [List.cons_append, foldO]
    cases step s x with
    | none => rfl
    | some s' => exact foldO_append l m s'
/-- The step to a part. -/
def cst (v : Pv) (i : Nat) : List UInt8 := if v.f.1 = 4 then v.f.2.2.2.1.getD i default else [35]
/-- The leaves of a value on a path. -/
def lvs : Nat → Pv → List (List UInt8) → List Lf
  | 0, _, _ => []
  | d + 1, v, p => (jn p, v.f.1, v.f.2.1, v.f.2.2.1) :: (List.range' 0 v.f.2.2.2.2.length).flatMap fun i => lvs d (v.f.2.2.2.2.getD i default) (p ++ [cst v i])
theorem map_getD {α : Type} [Inhabited α] (l : List α) : (List.range' 0 l.length).map (fun i => l.getD i default) = l := by
  rw [← List.range_eq_range']
  apply List.ext_getElem
  · simp
  · intro i h1 h2
    simp [List.getD_eq_getElem?_getD, h2]
theorem lvs_len : ∀ (d : Nat) (v : Pv) (p : List (List UInt8)), (lvs d v p).length = nodes d v
  | 0, _, _ => rfl
  | d + 1, v, p => by
    unfold lvs nodes
    rw [List.length_cons, List.length_flatMap, Nat.add_comm]
    congr 2
    conv => rhs; rw [← map_getD v.f.2.2.2.2]
    rw [List.map_map]
    apply List.map_congr_left
    intro i _
    exact lvs_len d _ _
theorem join_jn : ∀ p : List (List UInt8), Lib.join p [47] = jn p
  | [] => rfl
  | x :: l => by
    have key : ∀ (l : List (List UInt8)) (x : List UInt8), jn (x :: l) = x ++ Lib.joinTail [47] l := by
      intro l
      induction l with
      | nil => intro x; simp [jn, Lib.joinTail]
      | cons y l ih =>
        intro x
        unfold jn
        rw [if_neg (by simp), ih y]
        simp [Lib.joinTail]
    rw [Lib.join_cons, key]
/-- A path of a valid value. -/
def POk (p : List (List UInt8)) : Prop := ∀ x ∈ p, stp x = true
theorem stp_len {x : List UInt8} (h : stp x = true) : x.length ≤ 32 := by
  unfold stp at h
  rw [Bool.or_eq_true, decide_eq_true_eq] at h
  rcases h with h | rfl
  · unfold nok at h; rw [Bool.and_eq_true, decide_eq_true_eq] at h; omega
  · decide
theorem POk.tot {p : List (List UInt8)} (h : POk p) : tot p ≤ 33 * p.length := by
  induction p with
  | nil => simp [Go.L.tot]
  | cons x p ih =>
    have := stp_len (h x (.head _))
    have := ih fun y hy => h y (.tail _ hy)
    unfold Go.L.tot
    simp only [List.length_cons]
    omega
theorem POk.jn_len {p : List (List UInt8)} (h : POk p) : (jn p).length ≤ 33 * p.length := by
  by_cases h0 : p = []
  · subst h0; simp [jn]
  · have := Go.L.jn_len h0
    have := h.tot
    omega
theorem POk.snoc {p : List (List UInt8)} (h : POk p) {x : List UInt8} (hx : stp x = true) : POk (p ++ [x]) := fun y hy => by
  rcases List.mem_append.1 hy with hy | hy
  · exact h y hy
  · rw [List.mem_singleton] at hy; subst hy; exact hx
theorem cst_ok {v : Pv} (h : NodeOk v) {i : Nat} (hi : i < v.f.2.2.2.2.length) : stp (cst v i) = true := by
  unfold cst
  by_cases h4 : v.f.1 = 4
  · rw [if_pos h4]
    have := h.nok _ (getD_mem (by rw [h.same h4]; exact hi))
    unfold stp
    rw [this]; rfl
  · rw [if_neg h4]; decide
theorem POk.nil {p : List (List UInt8)} (h : POk p) : jn p = [] ↔ p = [] := by
  constructor
  · intro hj
    cases p with
    | nil => rfl
    | cons x p =>
      have := (stp_ne (h x (.head _))).1
      unfold jn at hj
      split at hj
      · exact absurd hj this
      · simp at hj
  · rintro rfl; rfl
end Go.L
namespace Go.Proofs.YtmfiaecglndldaaGreatDoor
open Go Go.L
section
variable {σ : Type} {step : σ → Lf → Option σ}
theorem lv_loop {v : Pv} {p : List (List UInt8)} {self : Pv → List (List UInt8) → σ → Option σ} {d : Nat} (hv : NodeOk v) (hp : p.length ≤ 20) (hs : ∀ i s, i < v.f.2.2.2.2.length → self (v.f.2.2.2.2.getD i default) (p ++ [cst v i]) s = foldO step s (lvs d (v.f.2.2.2.2.getD i default) (p ++ [cst v i]))) :
    ∀ (k i : Nat) (s : σ), i + k = v.f.2.2.2.2.length → Go.L.run (shapes_leaves_body_bl1 v p self) ((i : Int), s) = foldO step s ((List.range' i k).flatMap fun i => lvs d (v.f.2.2.2.2.getD i default) (p ++ [cst v i]))
  | 0, i, s, hi => by
    refine run_inr (m := some s) ?_
    unfold shapes_leaves_body_bl1
    dsimp only
    rw [if_neg (by omega)]
  | k + 1, i, s, hi => by
    have hil : i < v.f.2.2.2.2.length := by omega
    have hmany := hv.many
    rw [List.range'_succ, List.flatMap_cons, foldO_append, ← hs i s hil]
    have hk : ∀ x, x = cst v i → shapes_leaves_body_k2 v p (i : Int) self x s = (self (v.f.2.2.2.2.getD i default) (p ++ [cst v i]) s).bind fun s' => some (.inl (((i + 1 : Nat) : Int), s')) := by
      rintro x rfl
      unfold shapes_leaves_body_k2 slices_Clone_string_string
      rw [chk_pos (by unfold Go.E.Cap; simp; omega), Option.bind_some, chk_pos (by unfold Go.E.Cap; simp; omega), Int.toNat_natCast, List.nil_append]
      refine congrArg (Option.bind _) (funext fun x => ?_)
      rw [chk_pos (by unfold I64; omega)]
      rfl
    have hb : shapes_leaves_body_bl1 v p self ((i : Int), s) = (self (v.f.2.2.2.2.getD i default) (p ++ [cst v i]) s).bind fun s' => some (.inl (((i + 1 : Nat) : Int), s')) := by
      unfold shapes_leaves_body_bl1
      dsimp only
      rw [if_pos (by omega), chk_pos (by omega)]
      by_cases h4 : v.f.1 = 4
      · have := hv.same h4
        rw [if_pos h4, chk_pos (by omega), Int.toNat_natCast]
        exact hk _ (by unfold cst; rw [if_pos h4])
      · rw [if_neg h4]
        exact hk _ (by unfold cst; rw [if_neg h4])
    cases hc : self (v.f.2.2.2.2.getD i default) (p ++ [cst v i]) s with
    | none =>
      rw [hc] at hb
      exact run_inr (m := none) hb
    | some s' =>
      rw [hc] at hb
      rw [run_inl hb]
      exact lv_loop hv hp hs k (i + 1) s' (by omega)
theorem lv_n : ∀ (d n : Nat) (v : Pv) (p : List (List UInt8)) (s : σ), d ≤ n → Vd d v → POk p → p.length + d ≤ 20 → shapes_leaves_n step n v p s = foldO step s (lvs d v p)
  | 0, _, _, _, _, _, h, _, _ => h.elim
  | d + 1, 0, _, _, _, h, _, _, _ => absurd h (by omega)
  | d + 1, n + 1, v, p, s, hn, hv, hp, hl => by
    obtain ⟨hok, hvp⟩ := hv
    show shapes_leaves_body step (shapes_leaves_n step n) v p s = _
    unfold shapes_leaves_body joinL lvs
    have := hp.jn_len
    rw [join_jn, chk_pos (by omega), Option.bind_some]
    show (step s (jn p, v.f.1, v.f.2.1, v.f.2.2.1)).bind _ = (step s (jn p, v.f.1, v.f.2.1, v.f.2.2.1)).bind _
    congr 1
    funext s'
    exact lv_loop hok (by omega) (fun i s hi => lv_n d n _ _ s (by omega) (hvp _ (getD_mem hi)) (hp.snoc (cst_ok hok hi)) (by simp; omega)) v.f.2.2.2.2.length 0 s' (by omega)
theorem leaves_eq {v : Pv} (hv : Vd 10 v) (s : σ) : shapes_leaves step v [] s = foldO step s (lvs 10 v []) := lv_n 10 1000 v [] s (by omega) hv (fun x hx => by cases hx) (by simp)
end
theorem fold_paths : ∀ (l : List Lf) (s : List (List UInt8)), s.length + l.length ≤ 1000000000 → foldO pathStep s l = some (s ++ l.map (·.1))
  | [], s, _ => by simp [foldO]
  | x :: l, s, h => by
    simp only [List.length_cons] at h
    unfold foldO
    have e : pathStep s x = some (s ++ [x.1]) := by
      unfold pathStep shapes_Paths_1
      rw [chk_pos (by unfold Go.E.Cap; simp; omega)]
    rw [e, Option.bind_some, fold_paths l _ (by simp; omega)]
    simp
end Go.Proofs.YtmfiaecglndldaaGreatDoor
end
section
namespace Go.L
/-- What m yields, m' yields. -/
def Ap {α : Type} (m m' : Option α) : Prop := ∀ r, m = some r → m' = some r
theorem apR {α : Type} (m : Option α) : Ap m m := fun _ h => h
theorem apB {α β : Type} {m m' : Option α} {f f' : α → Option β} (h : Ap m m') (k : ∀ x, Ap (f x) (f' x)) : Ap (Option.bind m f) (Option.bind m' f') := fun r e => by
  obtain ⟨x, h1, h2⟩ := bind_some e
  rw [h x h1, Option.bind_some]
  exact k x r h2
theorem apC {α : Type} {p : Prop} [Decidable p] {m m' : Option α} (h : Ap m m') : Ap (Go.L.chk p m) (Go.L.chk p m') := fun r e => by
  obtain ⟨h1, h2⟩ := chk_some e
  rw [chk_pos h1]
  exact h r h2
theorem apI {α : Type} {p : Prop} [Decidable p] {a b a' b' : Option α} (h : Ap a a') (k : Ap b b') : Ap (if p then a else b) (if p then a' else b') := fun r e => by
  by_cases hp : p
  · rw [if_pos hp] at e ⊢; exact h r e
  · rw [if_neg hp] at e ⊢; exact k r e
theorem apM {α β : Type} {f : α → β} {m m' : Option α} (h : Ap m m') : Ap (Option.map f m) (Option.map f m') := fun r e => by
  cases m with
  | none => cases e
  | some x => rw [h x rfl]; exact e
theorem apO {α β : Type} {x : Option α} {ex ex' : Option β} {k k' : α → Option β} (h : Ap ex ex') (hk : ∀ y, Ap (k y) (k' y)) : Ap (Go.L.onX x ex k) (Go.L.onX x ex' k') := by
  cases x with
  | none => exact h
  | some y => exact hk y
theorem Ap.itr {σ ρ : Type} {b b' : σ → Option (σ ⊕ ρ)} (h : ∀ s, Ap (b s) (b' s)) : ∀ (n : Nat) (s : σ), Ap (itr b n s) (itr b' n s)
  | 0, _ => fun _ e => by cases e
  | n + 1, s => fun r e => by
    obtain ⟨m, x, hm, h1, h2⟩ := itr_some e
    obtain rfl : n = m := by omega
    rw [Go.L.itr, h s x h1]
    cases x with
    | inl s' => exact Ap.itr h n s' r h2
    | inr y => exact congrArg some h2
theorem Ap.run {σ ρ : Type} {b b' : σ → Option (σ ⊕ ρ)} (h : ∀ s, Ap (b s) (b' s)) (n : Nat) (s : σ) : Ap (Go.L.itr b n s) (Go.L.run b' s) := fun r e => run_of (Ap.itr h n s r e)
/-- A computation with its loops cut off. -/
class Mi {α : Type} (m : Option α) where
  c : Option α
  h : Ap c m
noncomputable instance {α : Type} (x : α) : Mi (some x) := ⟨some x, apR _⟩
noncomputable instance {α : Type} : Mi (none : Option α) := ⟨none, apR _⟩
noncomputable instance iB {α β : Type} (m : Option α) (f : α → Option β) [i : Mi m] [j : ∀ x, Mi (f x)] : Mi (Option.bind m f) := ⟨Option.bind i.c fun x => (j x).c, apB i.h fun x => (j x).h⟩
noncomputable instance iC {α : Type} (p : Prop) [Decidable p] (m : Option α) [i : Mi m] : Mi (Go.L.chk p m) := ⟨Go.L.chk p i.c, apC i.h⟩
noncomputable instance iI {α : Type} (p : Prop) [Decidable p] (a b : Option α) [i : Mi a] [j : Mi b] : Mi (if p then a else b) := ⟨if p then i.c else j.c, apI i.h j.h⟩
noncomputable instance {α β : Type} (f : α → β) (m : Option α) [i : Mi m] : Mi (Option.map f m) := ⟨Option.map f i.c, apM i.h⟩
noncomputable instance {α β : Type} (x : Option α) (ex : Option β) (k : α → Option β) [i : Mi ex] [j : ∀ y, Mi (k y)] : Mi (Go.L.onX x ex k) := ⟨Go.L.onX x i.c fun y => (j y).c, apO i.h fun y => (j y).h⟩
noncomputable instance {σ ρ : Type} (b : σ → Option (σ ⊕ ρ)) (s : σ) [i : ∀ s, Mi (b s)] : Mi (Go.L.run b s) := ⟨Go.L.itr (fun s => (i s).c) 200 s, Ap.run (fun s => (i s).h) 200 s⟩
end Go.L
namespace Go.L
/-! ### Sorting by insertion -/
def insB {α : Type} (le : α → α → Bool) (a : α) : List α → List α
  | [] => [a]
  | b :: l => if le a b then a :: b :: l else b :: insB le a l
def isB {α : Type} (le : α → α → Bool) : List α → List α
  | [] => []
  | a :: l => insB le a (isB le l)
section
variable {α : Type} {le : α → α → Bool}
theorem insB_perm (a : α) : ∀ l : List α, (insB le a l).Perm (a :: l)
  | [] => .refl _
  | b :: l => by
    unfold insB
    split
    · exact .refl _
    · exact ((insB_perm a l).cons b).trans (.swap a b l)
theorem isB_perm : ∀ l : List α, (isB le l).Perm l
  | [] => .refl _
  | a :: l => (insB_perm a _).trans ((isB_perm l).cons a)
theorem insB_sorted (htr : ∀ a b c, le a b = true → le b c = true → le a c = true) (hto : ∀ a b, le a b = true ∨ le b a = true) (a : α) : ∀ l : List α, l.Pairwise (fun x y => le x y = true) → (insB le a l).Pairwise fun x y => le x y = true
  | [], _ => List.pairwise_singleton _ _
  | b :: l, h => by
    unfold insB
    split
    · rename_i h1
      refine .cons (fun x hx => ?_) h
      rcases List.mem_cons.1 hx with rfl | hx
      · exact h1
      · exact htr _ _ _ h1 ((List.pairwise_cons.1 h).1 x hx)
    · rename_i h1
      have h2 : le b a = true := by rcases hto a b with h | h; exact absurd h h1; exact h
      refine .cons (fun x hx => ?_) (insB_sorted htr hto a l (List.pairwise_cons.1 h).2)
      rcases List.mem_cons.1 ((insB_perm a l).mem_iff.1 hx) with rfl | hx
      · exact h2
      · exact (List.pairwise_cons.1 h).1 x hx
theorem isB_sorted (htr : ∀ a b c, le a b = true → le b c = true → le a c = true) (hto : ∀ a b, le a b = true ∨ le b a = true) : ∀ l : List α, (isB le l).Pairwise fun x y => le x y = true
  | [] => .nil
  | a :: l => insB_sorted htr hto a _ (isB_sorted htr hto l)
theorem sorted_eq (has : ∀ a b, le a b = true → le b a = true → a = b) : ∀ {l m : List α}, l.Perm m → l.Pairwise (fun x y => le x y = true) → m.Pairwise (fun x y => le x y = true) → l = m
  | [], m, hp, _, _ => hp.nil_eq
  | a :: l, m, hp, hl, hm => by
    cases m with
    | nil => exact absurd hp.symm.nil_eq (by simp)
    | cons b m =>
      obtain ⟨l1, l2⟩ := List.pairwise_cons.1 hl
      obtain ⟨m1, m2⟩ := List.pairwise_cons.1 hm
      have hab : a = b := by
        rcases List.mem_cons.1 (hp.mem_iff.1 (.head _)) with h1 | h1
        · exact h1
        · rcases List.mem_cons.1 (hp.mem_iff.2 (.head _)) with h2 | h2
          · exact h2.symm
          · exact has a b (l1 b h2) (m1 a h1)
      subst hab
      rw [sorted_eq has hp.cons_inv l2 m2]
theorem isB_eq (htr : ∀ a b c, le a b = true → le b c = true → le a c = true) (hto : ∀ a b, le a b = true ∨ le b a = true) (has : ∀ a b, le a b = true → le b a = true → a = b) (l : List α) : isB le l = l.mergeSort le :=
  sorted_eq has ((isB_perm l).trans (List.mergeSort_perm l _).symm) (isB_sorted htr hto l) (List.pairwise_mergeSort htr (fun a b => by simpa using hto a b) l)
end
def isS (l : List (List UInt8)) : List (List UInt8) := isB (fun x y => decide (x ≤ y)) l
def isI (l : List Int) : List Int := isB (fun x y => decide (x ≤ y)) l
def isL (l : List Lf) : List Lf := isB (fun x y => !(Go.Proofs.ltOf lfCmp) y x) l
theorem isI_eq (l : List Int) : isI l = Go.E.srtI l := isB_eq (fun a b c h1 h2 => by simp only [decide_eq_true_eq] at *; omega) (fun a b => by simp only [decide_eq_true_eq]; omega) (fun a b h1 h2 => by simp only [decide_eq_true_eq] at *; omega) l
theorem isS_eq (l : List (List UInt8)) : isS l = Go.E.srtS l := isB_eq (fun a b c h1 h2 => by simp only [decide_eq_true_eq] at *; exact List.le_trans h1 h2) (fun a b => by simp only [decide_eq_true_eq]; exact List.le_total a b) (fun a b h1 h2 => by simp only [decide_eq_true_eq] at *; exact List.le_antisymm h1 h2) l
theorem isL_eq (l : List Lf) : isL l = srtL l := by
  have hlt : ∀ a b, (!(Go.Proofs.ltOf lfCmp) b a) = true ↔ ¬ lfCmp b a < 0 := fun a b => by simp [Go.Proofs.ltOf]
  refine isB_eq (fun a b c h1 h2 => ?_) (fun a b => ?_) (fun a b h1 h2 => ?_) l
  · rw [hlt] at *
    intro h3
    have s1 := ordLf.swap a b
    rcases Int.lt_trichotomy (lfCmp a b) 0 with h4 | h4 | h4
    · exact h2 (ordLf.trans c a b h3 h4)
    · rw [ordLf.zero a b h4] at h3; exact h2 h3
    · omega
  · rw [hlt, hlt]
    have s1 := ordLf.swap a b
    omega
  · exact ordLf.parts a b (by simpa using h2) (by simpa using h1)
end Go.L
namespace Go.Proofs.YtmfiaecglndldaaGreatDoor
open Go Go.E Go.L
noncomputable def sortedKi (l : List (Lf × List Int)) : Option (List Lf) := Go.L.chk (Go.E.Cap 48 l.length) (some (isL (l.map Prod.fst)))
theorem sortedKi_eq (l : List (Lf × List Int)) : sortedKi l = sortedK l := by unfold sortedKi sortedK; rw [isL_eq]
noncomputable instance (l : List (Lf × List Int)) : Mi (sortedK l) := ⟨sortedKi l, by rw [sortedKi_eq]; exact apR _⟩
end Go.Proofs.YtmfiaecglndldaaGreatDoor
end
section
namespace Go.L
section
variable {α : Type} {le : α → α → Prop}
/-- Two lists in strict order with the same elements are one. -/
theorem uniq_sorted (has : ∀ a b, le a b → le b a → a = b) : ∀ {l m : List α}, l.Pairwise (fun a b => le a b ∧ a ≠ b) → m.Pairwise (fun a b => le a b ∧ a ≠ b) → (∀ x, x ∈ l ↔ x ∈ m) → l = m
  | [], m, _, _, h => by
    cases m with
    | nil => rfl
    | cons b m => exact absurd ((h b).2 (.head _)) (by simp)
  | a :: l, [], _, _, h => absurd ((h a).1 (.head _)) (by simp)
  | a :: l, b :: m, hl, hm, h => by
    obtain ⟨l1, l2⟩ := List.pairwise_cons.1 hl
    obtain ⟨m1, m2⟩ := List.pairwise_cons.1 hm
    have hab : a = b := by
      rcases List.mem_cons.1 ((h a).1 (.head _)) with h1 | h1
      · exact h1
      · rcases List.mem_cons.1 ((h b).2 (.head _)) with h2 | h2
        · exact h2.symm
        · exact has a b (l1 b h2).1 (m1 a h1).1
    subst hab
    have : l = m := uniq_sorted has l2 m2 fun x => by
      constructor
      · intro hx
        rcases List.mem_cons.1 ((h x).1 (.tail _ hx)) with h1 | h1
        · exact absurd h1.symm (l1 x hx).2
        · exact h1
      · intro hx
        rcases List.mem_cons.1 ((h x).2 (.tail _ hx)) with h1 | h1
        · exact absurd h1.symm (m1 x hx).2
        · exact h1
    rw [this]
theorem compactUpTo_spec [Inhabited α] [DecidableEq α] (hre : ∀ a, le a a) (htr : ∀ a b c, le a b → le b c → le a c) (has : ∀ a b, le a b → le b a → a = b) (d : Array α) (hs : ∀ i j, i < j → j < d.size → le d[i]! d[j]!) : ∀ m, m ≤ d.size →
    (Lib.compactUpTo d m).Pairwise (fun a b => le a b ∧ a ≠ b) ∧ (∀ x, x ∈ Lib.compactUpTo d m ↔ ∃ j, j < m ∧ x = d[j]!)
  | 0, _ => ⟨by simp [Lib.compactUpTo], fun x => by simp [Lib.compactUpTo]⟩
  | m + 1, hm => by
    obtain ⟨h1, h2⟩ := compactUpTo_spec hre htr has d hs m (by omega)
    rw [Lib.compactUpTo_succ]
    by_cases hk : Lib.keeps d m = true
    · rw [if_pos hk]
      refine ⟨List.pairwise_append.2 ⟨h1, List.pairwise_singleton _ _, fun a ha b hb => ?_⟩, fun x => ?_⟩
      · rw [List.mem_singleton] at hb
        subst hb
        obtain ⟨j, hj, rfl⟩ := (h2 a).1 ha
        refine ⟨hs j m hj (by omega), fun e => ?_⟩
        unfold Lib.keeps at hk
        rw [decide_eq_true_eq] at hk
        rcases hk with hk | hk
        · omega
        · refine hk (has _ _ ?_ ?_)
          · by_cases hjm : j = m - 1
            · rw [← e, hjm]; exact hre _
            · rw [← e]; exact hs j (m - 1) (by omega) (by omega)
          · exact hs (m - 1) m (by omega) (by omega)
      · rw [List.mem_append, h2, List.mem_singleton]
        constructor
        · rintro (⟨j, hj, rfl⟩ | rfl)
          · exact ⟨j, by omega, rfl⟩
          · exact ⟨m, by omega, rfl⟩
        · rintro ⟨j, hj, rfl⟩
          by_cases hjm : j = m
          · subst hjm; exact .inr rfl
          · exact .inl ⟨j, by omega, rfl⟩
    · have hk' : ¬ (m = 0 ∨ d[m]! ≠ d[m - 1]!) := by
        unfold Lib.keeps at hk
        simpa using hk
      rw [if_neg hk, List.append_nil]
      refine ⟨h1, fun x => (h2 x).trans ?_⟩
      constructor
      · rintro ⟨j, hj, rfl⟩; exact ⟨j, by omega, rfl⟩
      · rintro ⟨j, hj, rfl⟩
        by_cases hjm : j = m
        · subst hjm
          have e : d[j]! = d[j - 1]! := Decidable.not_not.1 fun h => hk' (.inr h)
          have h0 : j ≠ 0 := fun h => hk' (.inl h)
          exact ⟨j - 1, by omega, e⟩
        · exact ⟨j, by omega, rfl⟩
theorem compact_spec [Inhabited α] [DecidableEq α] (hre : ∀ a, le a a) (htr : ∀ a b c, le a b → le b c → le a c) (has : ∀ a b, le a b → le b a → a = b) {l : List α} (hs : l.Pairwise le) : (Lib.compact l).Pairwise (fun a b => le a b ∧ a ≠ b) ∧ ∀ x, x ∈ Lib.compact l ↔ x ∈ l := by
  have hget : ∀ i, i < l.length → l.toArray[i]! = l.getD i default := fun i hi => by simp [hi]
  have := compactUpTo_spec hre htr has l.toArray (fun i j hij hj => by
    have hj' : j < l.length := by simpa using hj
    have hi' : i < l.length := by omega
    have := List.pairwise_iff_getElem.1 hs i j hi' hj' hij
    simpa [hi', hj'] using this) l.length (by simp)
  refine ⟨this.1, fun x => (this.2 x).trans ?_⟩
  constructor
  · rintro ⟨j, hj, rfl⟩
    simp [hj]
  · intro hx
    obtain ⟨j, hj, rfl⟩ := List.getElem_of_mem hx
    exact ⟨j, hj, by simp [hj]⟩
end
theorem srtS_perm (l : List (List UInt8)) : (Go.E.srtS l).Perm l := List.mergeSort_perm l _
theorem srtS_sorted (l : List (List UInt8)) : (Go.E.srtS l).Pairwise (fun x y => x ≤ y) := by
  have := List.pairwise_mergeSort (le := fun x y : List UInt8 => decide (x ≤ y)) (fun a b c h1 h2 => by simp only [decide_eq_true_eq] at *; exact List.le_trans h1 h2) (fun a b => by simpa using List.le_total a b) l
  exact this.imp fun h => by simpa using h
/-- Texts in order without repetition. -/
def setS (l : List (List UInt8)) : List (List UInt8) := Lib.compact (Go.E.srtS l)
theorem setS_spec (l : List (List UInt8)) : (setS l).Pairwise (fun a b => a ≤ b ∧ a ≠ b) ∧ ∀ x, x ∈ setS l ↔ x ∈ l := by
  have := compact_spec (le := fun a b : List UInt8 => a ≤ b) List.le_refl (fun _ _ _ => List.le_trans) (fun _ _ => List.le_antisymm) (srtS_sorted l)
  exact ⟨this.1, fun x => (this.2 x).trans (srtS_perm l).mem_iff⟩
theorem setS_eq {l m : List (List UInt8)} (hm : m.Pairwise (fun a b => a ≤ b ∧ a ≠ b)) (h : ∀ x, x ∈ m ↔ x ∈ l) : setS l = m :=
  uniq_sorted (fun _ _ => List.le_antisymm) (setS_spec l).1 hm fun x => ((setS_spec l).2 x).trans (h x).symm
end Go.L
end
section
namespace Go.Proofs.YtmfiaecglndldaaGreatDoor
open Go Go.E Go.RowKit
set_option maxHeartbeats 1000000
set_option maxRecDepth 10000
open _root_.Go.Proofs.Tryz
noncomputable def ref4_Leaves_body_k4 (a0 : Go.L.Pv) (l84 : List ((List UInt8) × Int × Int × (List UInt8))) (s6_85 : Int) (self : Go.L.Pv → (List UInt8) → Option ((List ((List UInt8) × Int × Int × (List UInt8))))) (s7_111 : List UInt8) : Option (((List ((List UInt8) × Int × Int × (List UInt8))) × Int) ⊕ ((List ((List UInt8) × Int × Int × (List UInt8))))) :=
 Go.L.chk (0 ≤ s6_85 ∧ s6_85 < (a0.f.2.2.2.2.length : Int)) (Option.bind (self (a0.f.2.2.2.2.getD s6_85.toNat default) s7_111) (fun x122 => Go.L.chk (Go.E.Cap 48 (l84.length + x122.length)) (Go.L.chk (Go.L.I64 (s6_85 + (1 : Int))) (some (Sum.inl ((l84 ++ x122), (s6_85 + (1 : Int))))))))
noncomputable def ref4_Leaves_body_k3 (a0 : Go.L.Pv) (a1 : List UInt8) (l84 : List ((List UInt8) × Int × Int × (List UInt8))) (s6_85 : Int) (self : Go.L.Pv → (List UInt8) → Option ((List ((List UInt8) × Int × Int × (List UInt8))))) (s7_96 : List UInt8) : Option (((List ((List UInt8) × Int × Int × (List UInt8))) × Int) ⊕ ((List ((List UInt8) × Int × Int × (List UInt8))))) :=
 if a1 = ([] : List UInt8) then (ref4_Leaves_body_k4 a0 l84 s6_85 self) s7_96 else Go.L.chk (a1.length + ([47] : List UInt8).length ≤ 9223372036854775807) (Go.L.chk ((a1 ++ ([47] : List UInt8)).length + s7_96.length ≤ 9223372036854775807) ((ref4_Leaves_body_k4 a0 l84 s6_85 self) ((a1 ++ ([47] : List UInt8)) ++ s7_96)))
noncomputable def ref4_Leaves_body_k1 (l56 : List ((List UInt8) × Int × Int × (List UInt8))) : Option ((List ((List UInt8) × Int × Int × (List UInt8)))) :=
 some (l56)
noncomputable def ref4_Leaves_body_bl2 (a0 : Go.L.Pv) (a1 : List UInt8) (self : Go.L.Pv → (List UInt8) → Option ((List ((List UInt8) × Int × Int × (List UInt8))))) : (List ((List UInt8) × Int × Int × (List UInt8))) × Int → Option (((List ((List UInt8) × Int × Int × (List UInt8))) × Int) ⊕ ((List ((List UInt8) × Int × Int × (List UInt8))))) := fun ⟨l84, s6_85⟩ =>
 if s6_85 < (a0.f.2.2.2.2.length : Int) then (if a0.f.1 = (4 : Int) then Go.L.chk (0 ≤ s6_85 ∧ s6_85 < (a0.f.2.2.2.1.length : Int)) ((ref4_Leaves_body_k3 a0 a1 l84 s6_85 self) (a0.f.2.2.2.1.getD s6_85.toNat default)) else (ref4_Leaves_body_k3 a0 a1 l84 s6_85 self) ([35] : List UInt8)) else Option.map Sum.inr (ref4_Leaves_body_k1 l84)
noncomputable def ref4_Leaves_body_l2 (a0 : Go.L.Pv) (a1 : List UInt8) (self : Go.L.Pv → (List UInt8) → Option ((List ((List UInt8) × Int × Int × (List UInt8))))) (s : (List ((List UInt8) × Int × Int × (List UInt8))) × Int) : Option ((List ((List UInt8) × Int × Int × (List UInt8)))) := Go.L.run (ref4_Leaves_body_bl2 a0 a1 self) s
noncomputable def ref4_Leaves_body (self : Go.L.Pv → (List UInt8) → Option ((List ((List UInt8) × Int × Int × (List UInt8))))) (a0 : Go.L.Pv) (a1 : List UInt8) : Option ((List ((List UInt8) × Int × Int × (List UInt8)))) :=
 (ref4_Leaves_body_l2 a0 a1 self) ([(a1, a0.f.1, a0.f.2.1, a0.f.2.2.1)], (0 : Int))
noncomputable def ref4_Leaves_n : Nat → Go.L.Pv → (List UInt8) → Option ((List ((List UInt8) × Int × Int × (List UInt8))))
 | 0 => fun _ _ => none
 | n + 1 => ref4_Leaves_body (ref4_Leaves_n n)
noncomputable def ref4_Leaves : Go.L.Pv → (List UInt8) → Option ((List ((List UInt8) × Int × Int × (List UInt8)))) := ref4_Leaves_n 1000
theorem ref4_Leaves_body_ok (self : Go.L.Pv → (List UInt8) → Option ((List ((List UInt8) × Int × Int × (List UInt8))))) (hself : ∀ (w : World) (H : PH) (hH : Le H (hp w)) {a0 : Go.L.Pv} {a1 : List UInt8} {v0_0 : Value} {v0_1 : Value} {v0_2 : Value} (h0_0 : Vec .byte H v0_0 (a0.f.2.2.1)) (h0_1 : Vec .st H v0_1 (a0.f.2.2.2.1)) (h0_2 : Vec .tree H v0_2 (a0.f.2.2.2.2)) {r : (List ((List UInt8) × Int × Int × (List UInt8)))} (h : self a0 a1 = some r), Ok Tryz.prog 56 [.agg #[.int .i64 a0.f.1, .int .i64 a0.f.2.1, v0_0, v0_1, v0_2], .string ⟨(a1).toArray⟩] w (fun v w' => Ext w w' ∧ ∃ u0, v = u0 ∧ OwnH 73 (.pair .st (.pair (.int .i64) (.pair (.int .i64) .st))) H w w' u0 (r))) (w : World) (H : PH) (hH : Le H (hp w)) {a0 : Go.L.Pv} {a1 : List UInt8} {v0_0 : Value} {v0_1 : Value} {v0_2 : Value} (h0_0 : Vec .byte H v0_0 (a0.f.2.2.1)) (h0_1 : Vec .st H v0_1 (a0.f.2.2.2.1)) (h0_2 : Vec .tree H v0_2 (a0.f.2.2.2.2)) {r : (List ((List UInt8) × Int × Int × (List UInt8)))} (h : ref4_Leaves_body self a0 a1 = some r) :
  Ok Tryz.prog 56 [.agg #[.int .i64 a0.f.1, .int .i64 a0.f.2.1, v0_0, v0_1, v0_2], .string ⟨(a1).toArray⟩] w (fun v w' => Ext w w' ∧ ∃ u0, v = u0 ∧ OwnH 73 (.pair .st (.pair (.int .i64) (.pair (.int .i64) .st))) H w w' u0 (r)) := by
 refine Ok_enter (n := 49) [(0, .agg #[.int .i64 a0.f.1, .int .i64 a0.f.2.1, v0_0, v0_1, v0_2]), (1, .string ⟨(a1).toArray⟩)] func56 rfl rfl rfl rfl rfl ?_
 have hL := Lcl.start w
 refine W_seqr ?_
 refine S_box (t := 38) rfl rfl rfl hL ?_
 intro w1 b1 hL1 hle1 _
 refine S_pz 1 rfl ?_
 refine W_p 1 rfl ?_
 refine S_v (r_field rfl underlying38 rfl zr3 (by decide)) rfl ?_
 refine S_v (r_loadB1 0 rfl underlying3 rfl hL1 rfl rfl) rfl ?_
 refine S_v (r_field rfl underlying38 rfl zr3 (by decide)) rfl ?_
 refine S_v (r_loadB1 0 rfl underlying3 rfl hL1 rfl rfl) rfl ?_
 refine S_v (r_field rfl underlying38 rfl zr35 (by decide)) rfl ?_
 refine S_v (r_loadB1 0 rfl underlying35 rfl hL1 rfl rfl) rfl ?_
 refine S_v (r_str rfl underlying35 underlying5 underlying9 h0_0 (hH.trans hL1.arg)) rfl ?_
 refine S_v (r_build rfl (fun _ => bld73_0_1_2_3 _ rfl _ _ _ rfl _)) rfl ?_
 refine S_litO (r := (.pair .st (.pair (.int .i64) (.pair (.int .i64) .st)))) (l := [(a1, a0.f.1, a0.f.2.1, a0.f.2.2.1)]) rfl (fun _ => bsl67_1 _ _ _ _ _) rfl (show 1 ≤ 9223372036854775807 by decide) hH hL1 (.c4 ⟨_, _, rfl, rfl, ⟨_, _, rfl, rfl, ⟨_, _, rfl, rfl, rfl⟩⟩⟩ .nil) ?_
 intro v2 w2 xs2 hL2 hle2 he2
 refine S_pz 1 rfl ?_
 refine W_cut (σ := (List ((List UInt8) × Int × Int × (List UInt8))) × Value × (List Value)) (fun ⟨l56, vl56, xsl56⟩ => [(5, vl56)]) (fun ⟨l56, vl56, xsl56⟩ wr => InO w [.row (vl56) 73 4 (l56).length (xsl56), .box b1 [.int .i64 a0.f.1, .int .i64 a0.f.2.1, v0_0, v0_1, v0_2] 38] wr fun Oz => Elems (.pair .st (.pair (.int .i64) (.pair (.int .i64) .st))) (gz H w wr Oz) (l56) (xsl56) ∧ ref4_Leaves_body_k1 l56 = some r) ?_ ?_
 ·refine W_pz 1 rfl ?_
  refine W_block ?_
  obtain ⟨n86, h⟩ := Go.L.run_some h
  refine W_loop (σ := (List ((List UInt8) × Int × Int × (List UInt8))) × Int × Value × (List Value) × Nat) (fun ⟨l84, s6_85, vl84, xsl84, n⟩ => [(1, .string ⟨(a1).toArray⟩), (2, .pointer (some ⟨b1, 0, none⟩)), (5, vl84), (6, .int .i64 s6_85)]) (fun ⟨l84, s6_85, vl84, xsl84, n⟩ wr => InO w [.row (vl84) 73 4 (l84).length (xsl84), .box b1 [.int .i64 a0.f.1, .int .i64 a0.f.2.1, v0_0, v0_1, v0_2] 38] wr fun Oz => Elems (.pair .st (.pair (.int .i64) (.pair (.int .i64) .st))) (gz H w wr Oz) (l84) (xsl84) ∧ Go.L.itr (ref4_Leaves_body_bl2 a0 a1 self) n (l84, s6_85) = some r) (fun ⟨l84, s6_85, vl84, xsl84, n⟩ => n) ([(a1, a0.f.1, a0.f.2.1, a0.f.2.2.1)], (0 : Int), v2, xs2, n86) (.cons rfl (.cons rfl (.cons rfl (.cons rfl (Sub.nil _))))) ⟨hL2, he2, h⟩ ?_
  rintro ⟨l84, s6_85, vl84, xsl84, nn86⟩ wr86 ⟨hL86, hel84, h⟩
  obtain ⟨n86, e86, rfl, h, hm86⟩ := Go.L.itr_some h
  refine W_seq ?_
  refine W_p 1 rfl ?_
  refine S_v (r_field rfl underlying38 rfl zr36 (by decide)) rfl ?_
  refine S_v (r_loadB1 1 rfl underlying36 rfl hL86 rfl rfl) rfl ?_
  refine S_v (r_len rfl underlying36 h0_2) rfl ?_
  refine S_pz 1 rfl ?_
  refine W_if rfl (fun hc88 => ?_) (fun hc88 => ?_)
  ·replace h := Go.L.ite_p hc88 h
   refine W_skip ?_
   refine At_seq ?_
   refine W_seq ?_
   refine W_block ?_
   refine W_pz 1 rfl ?_
   refine W_cut (σ := (List UInt8)) (fun s7_96 => [(1, .string ⟨(a1).toArray⟩), (2, .pointer (some ⟨b1, 0, none⟩)), (5, vl84), (6, .int .i64 s6_85), (7, .string ⟨(s7_96).toArray⟩)]) (fun s7_96 wr => InO w [.row (vl84) 73 4 (l84).length (xsl84), .box b1 [.int .i64 a0.f.1, .int .i64 a0.f.2.1, v0_0, v0_1, v0_2] 38] wr fun Oz => Elems (.pair .st (.pair (.int .i64) (.pair (.int .i64) .st))) (gz H w wr Oz) (l84) (xsl84) ∧ (ref4_Leaves_body_k3 a0 a1 l84 s6_85 self) s7_96 = some e86) ?_ ?_
   ·refine W_seqr ?_
    refine S_v (r_field rfl underlying38 rfl zr3 (by decide)) rfl ?_
    refine S_v (r_loadB1 1 rfl underlying3 rfl hL86 rfl rfl) rfl ?_
    refine S_pz 1 rfl ?_
    refine W_if rfl (fun hc99 => ?_) (fun hc99 => ?_)
    ·replace h := Go.L.ite_p hc99 h
     refine W_region ?_
     refine S_v (r_field rfl underlying38 rfl zr30 (by decide)) rfl ?_
     refine S_v (r_loadB1 1 rfl underlying30 rfl hL86 rfl rfl) rfl ?_
     refine S_pu 1 rfl ?_
     obtain ⟨hk102, h⟩ := Go.L.chk_some h
     refine S_index rfl rfl underlying30 zr9 h0_1 s6_85.toNat (Int.toNat_of_nonneg hk102.1).symm (idx_lt hk102) rfl ?_
     rintro p101 _ rfl hp101
     refine S_v (r_load1 rfl underlying9 rfl hp101 (hH.trans hL86.arg)) rfl ?_
     refine S_pu 1 rfl ?_
     refine S_nil ?_
     refine At_cut (a0.f.2.2.2.1.getD s6_85.toNat default) (.cons rfl (.cons rfl (.cons rfl (.cons rfl (.cons rfl (Sub.nil _)))))) ⟨hL86, hel84, h⟩
    ·replace h := Go.L.ite_n hc99 h
     refine W_skip ?_
     refine At_cut ([35] : List UInt8) (.cons rfl (.cons rfl (.cons rfl (.cons rfl (.cons rfl (Sub.nil _)))))) ⟨hL86, hel84, h⟩
   ·rintro s7_96 wr97 ⟨hL97, hel84, h⟩
    refine W_cut (σ := (List UInt8)) (fun s7_111 => [(1, .string ⟨(a1).toArray⟩), (2, .pointer (some ⟨b1, 0, none⟩)), (5, vl84), (6, .int .i64 s6_85), (7, .string ⟨(s7_111).toArray⟩)]) (fun s7_111 wr => InO w [.row (vl84) 73 4 (l84).length (xsl84), .box b1 [.int .i64 a0.f.1, .int .i64 a0.f.2.1, v0_0, v0_1, v0_2] 38] wr fun Oz => Elems (.pair .st (.pair (.int .i64) (.pair (.int .i64) .st))) (gz H w wr Oz) (l84) (xsl84) ∧ (ref4_Leaves_body_k4 a0 l84 s6_85 self) s7_111 = some e86) ?_ ?_
    ·refine W_p 1 rfl ?_
     refine S_v (r_sne rfl rfl) rfl ?_
     refine S_seqnil ?_
     refine W_ifn rfl (fun hc114 => ?_) (fun hc114 => ?_)
     ·replace h := Go.L.ite_n hc114 h
      refine W_region ?_
      refine S_pu 1 rfl ?_
      obtain ⟨hk116, h⟩ := Go.L.chk_some h
      refine S_v (r_cat rfl rfl hk116) rfl ?_
      refine S_pu 1 rfl ?_
      obtain ⟨hk117, h⟩ := Go.L.chk_some h
      refine S_v (r_cat rfl rfl hk117) rfl ?_
      refine S_pu 1 rfl ?_
      refine S_nil ?_
      refine At_cut ((a1 ++ ([47] : List UInt8)) ++ s7_96) (.cons rfl (.cons rfl (.cons rfl (.cons rfl (.cons rfl (Sub.nil _)))))) ⟨hL97, hel84, h⟩
     ·replace h := Go.L.ite_p hc114 h
      refine W_skip ?_
      refine At_cut s7_96 (.cons rfl (.cons rfl (.cons rfl (.cons rfl (.cons rfl (Sub.nil _)))))) ⟨hL97, hel84, h⟩
    ·rintro s7_111 wr112 ⟨hL112, hel84, h⟩
     refine W_region ?_
     refine S_pu 1 rfl ?_
     refine S_v (r_field rfl underlying38 rfl zr36 (by decide)) rfl ?_
     refine S_v (r_loadB1 1 rfl underlying36 rfl hL112 rfl rfl) rfl ?_
     refine S_pu 1 rfl ?_
     obtain ⟨hk121, h⟩ := Go.L.chk_some h
     refine S_index rfl rfl underlying36 zr38 h0_2 s6_85.toNat (Int.toNat_of_nonneg hk121.1).symm (idx_lt hk121) rfl ?_
     rintro p120 _ e120t0 hp120
     obtain ⟨_, _, rfl, rfl, ⟨_, _, rfl, rfl, ⟨_, _, rfl, ⟨e120v2, rfl, e120h2⟩, ⟨_, _, rfl, ⟨e120v3, rfl, e120h3⟩, ⟨e120v4, rfl, e120h4⟩⟩⟩⟩⟩ := Go.E.Rp.tree_open e120t0
     refine S_v (r_loadN rfl underlying38 rfl zr38 hp120 (hH.trans hL112.arg)) rfl ?_
     refine S_pu 1 rfl ?_
     obtain ⟨x122, hb122, h⟩ := Go.L.bind_some h
     refine S_callL rfl rfl hL112 (hself _ _ (gz_le hH hL112) (e120h2.mono (gz_left hH)) (e120h3.mono (gz_left hH)) (e120h4.mono (gz_left hH)) hb122) ?_
     rintro u123_0 w123 ⟨_, rfl, hR123_0⟩ hx123 hL123 hle123
     have hv123_0 := hR123_0.vecG hH hL112 hx123
     replace hel84 := hel84.mono (gz_mono hH hle123)
     obtain ⟨hk125, h⟩ := Go.L.chk_some h
     refine S_appE (r := (.pair .st (.pair (.int .i64) (.pair (.int .i64) .st)))) (l := l84) (m := x122) 0 rfl rfl underlying67 zr73 rfl (by decide) rfl hH hL123 rfl hel84 hv123_0 hk125 ?_
     intro v124 w124 xs124 hL124 hle124 he124
     replace hv123_0 := hv123_0.mono (gz_mono hH hle124)
     refine S_pu 1 rfl ?_
     refine S_nil ?_
     refine At_block ?_
     refine At_seq ?_
     refine W_region ?_
     refine S_pu 1 rfl ?_
     obtain ⟨hk126, h⟩ := Go.L.chk_some h
     refine S_v (r_ar64 rfl rfl rfl hk126) rfl ?_
     refine S_pu 1 rfl ?_
     refine S_nil ?_
     have h := Go.L.Nxt.again h hm86
     refine At_round ((l84 ++ x122), (s6_85 + (1 : Int)), v124, xs124, n86) (.cons rfl (.cons rfl (.cons rfl (.cons rfl (Sub.nil _))))) ⟨hL124, he124, h⟩ (Nat.lt_succ_self _)
  ·replace h := Go.L.ite_n hc88 h
   refine W_exit ?_
   refine At_seq_exit ?_
   refine At_loop_exit ?_
   replace h := Go.L.Nxt.out h hm86
   refine At_exit ?_
   refine At_cut (l84, vl84, xsl84) (.cons rfl (Sub.nil _)) ⟨hL86, hel84, h⟩
 ·rintro ⟨l56, vl56, xsl56⟩ wr57 ⟨hL57, hel56, h⟩
  refine W_pz 2 rfl ?_
  refine W_ret ?_
  obtain rfl := Option.some.inj h
  refine At_body rfl rfl ?_
  exact ⟨hL57.ext, _, rfl, (hL57.ownH hH (i := 0) rfl hel56)⟩
theorem ref4_Leaves_n_ok (n : Nat) : ∀ (w : World) (H : PH) (hH : Le H (hp w)) {a0 : Go.L.Pv} {a1 : List UInt8} {v0_0 : Value} {v0_1 : Value} {v0_2 : Value} (h0_0 : Vec .byte H v0_0 (a0.f.2.2.1)) (h0_1 : Vec .st H v0_1 (a0.f.2.2.2.1)) (h0_2 : Vec .tree H v0_2 (a0.f.2.2.2.2)) {r : (List ((List UInt8) × Int × Int × (List UInt8)))} (h : ref4_Leaves_n n a0 a1 = some r), Ok Tryz.prog 56 [.agg #[.int .i64 a0.f.1, .int .i64 a0.f.2.1, v0_0, v0_1, v0_2], .string ⟨(a1).toArray⟩] w (fun v w' => Ext w w' ∧ ∃ u0, v = u0 ∧ OwnH 73 (.pair .st (.pair (.int .i64) (.pair (.int .i64) .st))) H w w' u0 (r)) := by
 induction n with
 | zero => intros; rename_i h; cases h
 | succ n ih => exact @ref4_Leaves_body_ok (ref4_Leaves_n n) ih
theorem ref4_Leaves_ok (w : World) (H : PH) (hH : Le H (hp w)) {a0 : Go.L.Pv} {a1 : List UInt8} {v0_0 : Value} {v0_1 : Value} {v0_2 : Value} (h0_0 : Vec .byte H v0_0 (a0.f.2.2.1)) (h0_1 : Vec .st H v0_1 (a0.f.2.2.2.1)) (h0_2 : Vec .tree H v0_2 (a0.f.2.2.2.2)) {r : (List ((List UInt8) × Int × Int × (List UInt8)))} (h : ref4_Leaves a0 a1 = some r) : Ok Tryz.prog 56 [.agg #[.int .i64 a0.f.1, .int .i64 a0.f.2.1, v0_0, v0_1, v0_2], .string ⟨(a1).toArray⟩] w (fun v w' => Ext w w' ∧ ∃ u0, v = u0 ∧ OwnH 73 (.pair .st (.pair (.int .i64) (.pair (.int .i64) .st))) H w w' u0 (r)) := ref4_Leaves_n_ok 1000 w H hH h0_0 h0_1 h0_2 h
noncomputable def ref4_Insert_k1 (l70 : List (List UInt8)) : Option ((List (List UInt8))) :=
 some (l70)
noncomputable def ref4_Insert_bl2 : (List (List UInt8)) × Int → Option (((List (List UInt8)) × Int) ⊕ ((List (List UInt8)))) := fun ⟨l132, s6_133⟩ =>
 if (0 : Int) < s6_133 then Go.L.chk (0 ≤ s6_133 ∧ s6_133 < (l132.length : Int)) (Go.L.chk (Go.L.I64 (s6_133 - (1 : Int))) (Go.L.chk (0 ≤ (s6_133 - (1 : Int)) ∧ (s6_133 - (1 : Int)) < (l132.length : Int)) (if Op.bytesLess (l132.getD s6_133.toNat default) (l132.getD ((s6_133 - (1 : Int)).toNat) default) then Go.L.chk (Go.L.I64 (s6_133 - (1 : Int))) (Go.L.chk (Go.L.I64 (s6_133 - (1 : Int))) (Go.L.chk (0 ≤ (s6_133 - (1 : Int)) ∧ (s6_133 - (1 : Int)) < (l132.length : Int)) (Go.L.chk (0 ≤ s6_133 ∧ s6_133 < (l132.length : Int)) (Go.L.chk (0 ≤ s6_133 ∧ s6_133 < (l132.length : Int)) (Go.L.chk (0 ≤ (s6_133 - (1 : Int)) ∧ (s6_133 - (1 : Int)) < ((l132.set s6_133.toNat (l132.getD ((s6_133 - (1 : Int)).toNat) default)).length : Int)) (Go.L.chk (Go.L.I64 (s6_133 - (1 : Int))) (some (Sum.inl (((l132.set s6_133.toNat (l132.getD ((s6_133 - (1 : Int)).toNat) default)).set ((s6_133 - (1 : Int)).toNat) (l132.getD s6_133.toNat default)), (s6_133 - (1 : Int))))))))))) else Option.map Sum.inr (ref4_Insert_k1 l132)))) else Option.map Sum.inr (ref4_Insert_k1 l132)
noncomputable def ref4_Insert_l2 (s : (List (List UInt8)) × Int) : Option ((List (List UInt8))) := Go.L.run (ref4_Insert_bl2) s
noncomputable def ref4_Insert (a0 : List (List UInt8)) (a1 : List UInt8) : Option ((List (List UInt8))) :=
 Option.bind (ref4_HasText a0 a1) (fun x1 => if x1 then some (a0) else Go.L.chk (Go.E.Cap 16 (a0.length + ([a1]).length)) (Go.L.chk (Go.L.I64 (((a0 ++ [a1]).length : Int) - (1 : Int))) (ref4_Insert_l2 ((a0 ++ [a1]), (((a0 ++ [a1]).length : Int) - (1 : Int))))))
theorem ref4_Insert_fr {w0 w : World} {H : PH} (hH : Le H (hp w0)) {O : List Res} {a0 : List (List UInt8)} {a1 : List UInt8} {va0 : Value} {xsa0 : List Value} (hL : Lcl w0 (HAppend.hAppend ([.row (va0) 9 1 (a0).length (xsa0)] : List Res) O) w) (hea0 : Elems .st (gz H w0 w (HAppend.hAppend ([.row (va0) 9 1 (a0).length (xsa0)] : List Res) O)) (a0) xsa0) {r : (List (List UInt8))} (h : ref4_Insert a0 a1 = some r) :
  Ok Tryz.prog 57 [va0, .string ⟨(a1).toArray⟩] w (fun v w' => ∃ (u0 : Value) (y0 : List Value), v = u0 ∧ Lcl w0 (HAppend.hAppend ([.row u0 9 1 (r).length y0] : List Res) O) w' ∧ Le (fz w (HAppend.hAppend ([.row (va0) 9 1 (a0).length (xsa0)] : List Res) O)) (fz w' (HAppend.hAppend ([.row u0 9 1 (r).length y0] : List Res) O)) ∧ Elems .st (gz H w0 w' (HAppend.hAppend ([.row u0 9 1 (r).length y0] : List Res) O)) (r) y0) := by
 refine Ok_enter (n := 51) [(0, va0), (1, .string ⟨(a1).toArray⟩)] func57 rfl rfl rfl rfl rfl ?_
 have hT := Le.refl (fz w (HAppend.hAppend ([.row (va0) 9 1 (a0).length (xsa0)] : List Res) O))
 refine W_pz 1 rfl ?_
 refine W_seq ?_
 refine W_p 2 rfl ?_
 obtain ⟨x1, hb1, h⟩ := Go.L.bind_some h
 refine S_callL rfl rfl hL (ref4_HasText_ok _ _ (Le.refl _) (hL.vecN hH (i := 0) rfl hea0) hb1) ?_
 rintro _ w2 rfl hx2 hL2 hle2
 replace hea0 := hea0.mono (gz_mono hH hle2)
 replace hT := hT.trans hle2
 refine S_seqnil ?_
 refine W_cond rfl (fun hc3 => ?_) (fun hc3 => ?_)
 ·replace h := Go.L.ite_t hc3 h
  refine W_pz 2 rfl ?_
  refine W_ret ?_
  refine At_seq_ret ?_
  obtain rfl := Option.some.inj h
  refine At_body rfl rfl ?_
  exact ⟨va0, xsa0, rfl, hL2, hT, hea0⟩
 ·replace h := Go.L.ite_f hc3 h
  refine W_skip ?_
  refine At_seq ?_
  refine W_p 2 rfl ?_
  refine S_litE (r := .st) (l := [a1]) rfl (fun _ => bsl30_1 _ rfl _) rfl (show 1 ≤ 9223372036854775807 by decide) hH hL2 (.c1 rfl .nil) ?_
  intro v6 w6 hx6 hL6 hle6 hv6
  replace hea0 := hea0.mono (gz_mono hH hle6)
  replace hT := hT.trans hle6
  obtain ⟨hk8, h⟩ := Go.L.chk_some h
  refine S_appE (r := .st) (l := a0) (m := [a1]) 0 rfl rfl underlying30 zr9 rfl (by decide) rfl hH hL6 rfl hea0 hv6 hk8 ?_
  intro v7 w7 xs7 hL7 hle7 he7
  replace hv6 := hv6.mono (gz_mono hH hle7)
  replace hT := hT.trans hle7
  refine S_pz 1 rfl ?_
  refine W_cut (σ := (List (List UInt8)) × (List Value)) (fun ⟨l70, xsl70⟩ => [(5, v7)]) (fun ⟨l70, xsl70⟩ wr => InO w0 (HAppend.hAppend ([.row (v7) 9 1 (l70).length (xsl70)] : List Res) O) wr fun Oz => Elems .st (gz H w0 wr Oz) (l70) (xsl70) ∧ Le (fz w (HAppend.hAppend ([.row (va0) 9 1 (a0).length (xsa0)] : List Res) O)) (fz wr Oz) ∧ ref4_Insert_k1 l70 = some r) ?_ ?_
  ·refine W_p 1 rfl ?_
   refine S_v (r_lenR (i := 0) rfl underlying30 hL7 rfl) rfl ?_
   obtain ⟨hk73, h⟩ := Go.L.chk_some h
   refine S_v (r_ar64 rfl rfl rfl hk73) rfl ?_
   refine S_pz 1 rfl ?_
   refine W_block ?_
   obtain ⟨n134, h⟩ := Go.L.run_some h
   refine W_loop (σ := (List (List UInt8)) × Int × (List Value) × Nat) (fun ⟨l132, s6_133, xsl132, n⟩ => [(5, v7), (6, .int .i64 s6_133)]) (fun ⟨l132, s6_133, xsl132, n⟩ wr => InO w0 (HAppend.hAppend ([.row (v7) 9 1 (l132).length (xsl132)] : List Res) O) wr fun Oz => Elems .st (gz H w0 wr Oz) (l132) (xsl132) ∧ Le (fz w (HAppend.hAppend ([.row (va0) 9 1 (a0).length (xsa0)] : List Res) O)) (fz wr Oz) ∧ Go.L.itr ref4_Insert_bl2 n (l132, s6_133) = some r) (fun ⟨l132, s6_133, xsl132, n⟩ => n) ((a0 ++ [a1]), (((a0 ++ [a1]).length : Int) - (1 : Int)), xs7, n134) (.cons rfl (.cons rfl (Sub.nil _))) ⟨hL7, he7, hT, h⟩ ?_
   rintro ⟨l132, s6_133, xsl132, nn134⟩ wr134 ⟨hL134, hel132, hT, h⟩
   obtain ⟨n134, e134, rfl, h, hm134⟩ := Go.L.itr_some h
   refine W_seq ?_
   refine W_seqd (.q 0 (.q 1 (.q 2 (.q 3 (.q 4 (.q 5 (.q 6 (.q 7 (.q 8 (.q 9 (.q 10 (.q 11 (.q 12 (.q 13 (.tail 14))))))))))))))) mixed (by kernel_rfl) (fun w136 hx136 => ?_)
   have hL137 := hL134.call hx136
   have hle137 := fz_ext hL134 hx136
   replace hel132 := hel132.mono (gz_mono hH hle137)
   replace hT := hT.trans hle137
   refine D_pu 3 rfl ?_
   refine D_split (s := 20) rfl (fun hg138 => ?_) (fun hg138 => ?_)
   ·replace h := Go.L.ite_p (of_decide_eq_true hg138) h
    iterate 2 refine D_vg (RunsAt_pu rfl) rfl rfl rfl rfl hg138 rfl ?_
    obtain ⟨hk141, h⟩ := Go.L.chk_some h
    refine D_indexg rfl rfl rfl rfl hg138 rfl rfl underlying30 zr9 (hL137.vecN hH (i := 0) rfl hel132) s6_133.toNat (Int.toNat_of_nonneg hk141.1).symm (idx_lt hk141) rfl ?_
    rintro p140 _ rfl hp140
    refine D_vg (r_load1 rfl underlying9 rfl hp140 (Le.refl _)) rfl rfl rfl rfl hg138 rfl ?_
    iterate 2 refine D_vg (RunsAt_pu rfl) rfl rfl rfl rfl hg138 rfl ?_
    obtain ⟨hk142, h⟩ := Go.L.chk_some h
    refine D_vg (r_ar64 rfl rfl rfl hk142) rfl rfl rfl rfl hg138 rfl ?_
    obtain ⟨hk144, h⟩ := Go.L.chk_some h
    refine D_indexg rfl rfl rfl rfl hg138 rfl rfl underlying30 zr9 (hL137.vecN hH (i := 0) rfl hel132) ((s6_133 - (1 : Int)).toNat) (Int.toNat_of_nonneg hk144.1).symm (idx_lt hk144) rfl ?_
    rintro p143 _ rfl hp143
    refine D_vg (r_load1 rfl underlying9 rfl hp143 (Le.refl _)) rfl rfl rfl rfl hg138 rfl ?_
    refine D_vg (r_slt rfl rfl) rfl rfl rfl rfl hg138 rfl ?_
    refine D_v (r_pickT rfl hg138 rfl) rfl rfl ?_
    refine D_tail (fun w145 hx145 => ?_)
    have hL146 := hL137.call hx145
    have hle146 := fz_ext hL137 hx145
    replace hel132 := hel132.mono (gz_mono hH hle146)
    replace hT := hT.trans hle146
    refine S_seqnil ?_
    refine W_cond rfl (fun hc147 => ?_) (fun hc147 => ?_)
    ·replace h := Go.L.ite_t hc147 h
     refine W_skip ?_
     refine At_seq ?_
     refine W_seq ?_
     refine W_block ?_
     refine W_naiveI (fun z0 z => Le (gz H w0 z0 (HAppend.hAppend ([.row (v7) 9 1 (l132).length (xsl132)] : List Res) O)) (hp z)) mixed rfl (fun w149 hx149 => ?_)
     have hL150 := hL146.call hx149
     have hle150 := fz_ext hL146 hx149
     replace hel132 := hel132.mono (gz_mono hH hle150)
     replace hT := hT.trans hle150
     have hG151 := hL150.rG H
     refine NI_hoist 0 (np_block (np_seq (np_loop (np_block (np_cut np_body))))) (hG151.trans (gz_le hH hL150)) (by kernel_rfl) rfl (fun _ _ => RunsAt_pu rfl) rfl ?_
     refine NI_hoist 1 (np_block (np_seq (np_loop (np_block (np_cut np_body))))) (hG151.trans (gz_le hH hL150)) (by kernel_rfl) rfl (fun _ _ => RunsAt_pu rfl) rfl ?_
     refine NI_hoist 2 (np_block (np_seq (np_loop (np_block (np_cut np_body))))) (hG151.trans (gz_le hH hL150)) (by kernel_rfl) rfl (fun _ _ => RunsAt_pu rfl) rfl ?_
     refine NI_hoist 3 (np_block (np_seq (np_loop (np_block (np_cut np_body))))) (hG151.trans (gz_le hH hL150)) (by kernel_rfl) rfl (fun _ _ => RunsAt_pu rfl) rfl ?_
     obtain ⟨hk152, h⟩ := Go.L.chk_some h
     refine NI_hoist 4 (np_block (np_seq (np_loop (np_block (np_cut np_body))))) (hG151.trans (gz_le hH hL150)) (by kernel_rfl) rfl (fun _ _ => r_ar64 rfl rfl rfl hk152) rfl ?_
     refine NI_hoist 5 (np_block (np_seq (np_loop (np_block (np_cut np_body))))) (hG151.trans (gz_le hH hL150)) (by kernel_rfl) rfl (fun _ _ => RunsAt_pu rfl) rfl ?_
     refine NI_hoist 6 (np_block (np_seq (np_loop (np_block (np_cut np_body))))) (hG151.trans (gz_le hH hL150)) (by kernel_rfl) rfl (fun _ _ => RunsAt_pu rfl) rfl ?_
     obtain ⟨hk153, h⟩ := Go.L.chk_some h
     refine NI_hoist 7 (np_block (np_seq (np_loop (np_block (np_cut np_body))))) (hG151.trans (gz_le hH hL150)) (by kernel_rfl) rfl (fun _ _ => r_ar64 rfl rfl rfl hk153) rfl ?_
     refine NI_hoist 10 (np_block (np_seq (np_loop (np_block (np_cut np_body))))) (hG151.trans (gz_le hH hL150)) (by kernel_rfl) rfl (fun _ _ => RunsAt_pu rfl) rfl ?_
     refine NI_hoist 11 (np_block (np_seq (np_loop (np_block (np_cut np_body))))) (hG151.trans (gz_le hH hL150)) (by kernel_rfl) rfl (fun _ _ => RunsAt_pu rfl) rfl ?_
     refine NI2 (i := 8) (j := 12) (by kernel_rfl) rfl rfl ?_ ?_
     ·obtain ⟨hk155, h⟩ := Go.L.chk_some h
      refine S_index rfl rfl underlying30 zr9 (hL150.vecN hH (i := 0) rfl (hel132.mono hG151)) ((s6_133 - (1 : Int)).toNat) (Int.toNat_of_nonneg hk155.1).symm (idx_lt hk155) rfl ?_
      rintro p154 _ rfl hp154
      refine NI_nil (hG151.trans (gz_le hH hL150)) ?_
      refine NI2 (i := 9) (j := 12) (by kernel_rfl) rfl rfl ?_ ?_
      ·refine S_v (r_load1 rfl underlying9 rfl hp154 (Le.refl _)) rfl ?_
       refine NI_nil (hG151.trans (gz_le hH hL150)) ?_
       refine NI1 (i := 12) (by kernel_rfl) rfl ?_
       obtain ⟨hk157, h⟩ := Go.L.chk_some h
       refine S_index rfl rfl underlying30 zr9 (hL150.vecN hH (i := 0) rfl (hel132.mono hG151)) s6_133.toNat (Int.toNat_of_nonneg hk157.1).symm (idx_lt hk157) rfl ?_
       rintro p156 _ rfl hp156
       refine NI_nil (hG151.trans (gz_le hH hL150)) ?_
       refine NI1 (i := 13) (by kernel_rfl) rfl ?_
       refine S_v (r_load1 rfl underlying9 rfl hp156 (Le.refl _)) rfl ?_
       refine NI_nil (hG151.trans (gz_le hH hL150)) ?_
       refine NI1 (i := 14) (by kernel_rfl) rfl ?_
       obtain ⟨hk159, h⟩ := Go.L.chk_some h
       refine S_indexR 0 rfl rfl underlying30 zr9 hL150 rfl s6_133.toNat (Int.toNat_of_nonneg hk159.1).symm (idx_lt hk159) rfl ?_
       intro p158 hp158
       refine NI_nil (hG151.trans (gz_le hH hL150)) ?_
       refine NI1 (i := 15) (by kernel_rfl) rfl ?_
       refine S_storeE (z := l132.getD ((s6_133 - (1 : Int)).toNat) default) (j := s6_133.toNat) 0 rfl rfl rfl zr9 hH hL150 rfl (hel132.mono hG151) hp158 rfl (idx_lt hk159) rfl ?_
       intro w160 xs160 hL160 hle160 he160
       replace hG151 := hG151.trans (gz_mono hH hle160)
       replace hT := hT.trans hle160
       refine NI_nil (hG151.trans (gz_le hH hL160)) ?_
       refine NI1 (i := 16) (by kernel_rfl) rfl ?_
       obtain ⟨hk162, h⟩ := Go.L.chk_some h
       refine S_indexR 0 rfl rfl underlying30 zr9 hL160 rfl ((s6_133 - (1 : Int)).toNat) (Int.toNat_of_nonneg hk162.1).symm (idx_lt hk162) rfl ?_
       intro p161 hp161
       refine NI_nil (hG151.trans (gz_le hH hL160)) ?_
       refine NI1 (i := 17) (by kernel_rfl) rfl ?_
       refine S_storeE (z := l132.getD s6_133.toNat default) (j := (s6_133 - (1 : Int)).toNat) 0 rfl rfl rfl zr9 hH hL160 rfl he160 hp161 rfl (idx_lt hk162) rfl ?_
       intro w163 xs163 hL163 hle163 he163
       replace hG151 := hG151.trans (gz_mono hH hle163)
       replace hT := hT.trans hle163
       refine NI_last (by kernel_rfl) ?_
       refine NI_end (by kernel_rfl) ?_
       refine At_block ?_
       refine At_seq ?_
       refine W_region ?_
       refine S_pu 1 rfl ?_
       obtain ⟨hk164, h⟩ := Go.L.chk_some h
       refine S_v (r_ar64 rfl rfl rfl hk164) rfl ?_
       refine S_pu 1 rfl ?_
       refine S_nil ?_
       have h := Go.L.Nxt.again h hm134
       refine At_round (((l132.set s6_133.toNat (l132.getD ((s6_133 - (1 : Int)).toNat) default)).set ((s6_133 - (1 : Int)).toNat) (l132.getD s6_133.toNat default)), (s6_133 - (1 : Int)), xs163, n134) (.cons rfl (.cons rfl (Sub.nil _))) ⟨hL163, he163, hT, h⟩ (Nat.lt_succ_self _)
      ·obtain ⟨hk157, h⟩ := Go.L.chk_some h
       obtain ⟨hk159, h⟩ := Go.L.chk_some h
       obtain ⟨hk162, h⟩ := Go.L.chk_some h
       obtain ⟨hk164, h⟩ := Go.L.chk_some h
       refine S_index rfl rfl underlying30 zr9 (hL150.vecN hH (i := 0) rfl (hel132.mono hG151)) s6_133.toNat (Int.toNat_of_nonneg hk157.1).symm (idx_lt hk157) rfl ?_
       rintro p165 _ rfl hp165
       refine NI_nil (hG151.trans (gz_le hH hL150)) ?_
       refine NI2 (i := 9) (j := 13) (by kernel_rfl) rfl rfl ?_ ?_
       ·refine S_v (r_load1 rfl underlying9 rfl hp154 (Le.refl _)) rfl ?_
        refine NI_nil (hG151.trans (gz_le hH hL150)) ?_
        refine NI1 (i := 13) (by kernel_rfl) rfl ?_
        refine S_v (r_load1 rfl underlying9 rfl hp165 (Le.refl _)) rfl ?_
        refine NI_nil (hG151.trans (gz_le hH hL150)) ?_
        refine NI1 (i := 14) (by kernel_rfl) rfl ?_
        refine S_indexR 0 rfl rfl underlying30 zr9 hL150 rfl s6_133.toNat (Int.toNat_of_nonneg hk159.1).symm (idx_lt hk159) rfl ?_
        intro p166 hp166
        refine NI_nil (hG151.trans (gz_le hH hL150)) ?_
        refine NI1 (i := 15) (by kernel_rfl) rfl ?_
        refine S_storeE (z := l132.getD ((s6_133 - (1 : Int)).toNat) default) (j := s6_133.toNat) 0 rfl rfl rfl zr9 hH hL150 rfl (hel132.mono hG151) hp166 rfl (idx_lt hk159) rfl ?_
        intro w167 xs167 hL167 hle167 he167
        replace hG151 := hG151.trans (gz_mono hH hle167)
        replace hT := hT.trans hle167
        refine NI_nil (hG151.trans (gz_le hH hL167)) ?_
        refine NI1 (i := 16) (by kernel_rfl) rfl ?_
        refine S_indexR 0 rfl rfl underlying30 zr9 hL167 rfl ((s6_133 - (1 : Int)).toNat) (Int.toNat_of_nonneg hk162.1).symm (idx_lt hk162) rfl ?_
        intro p168 hp168
        refine NI_nil (hG151.trans (gz_le hH hL167)) ?_
        refine NI1 (i := 17) (by kernel_rfl) rfl ?_
        refine S_storeE (z := l132.getD s6_133.toNat default) (j := (s6_133 - (1 : Int)).toNat) 0 rfl rfl rfl zr9 hH hL167 rfl he167 hp168 rfl (idx_lt hk162) rfl ?_
        intro w169 xs169 hL169 hle169 he169
        replace hG151 := hG151.trans (gz_mono hH hle169)
        replace hT := hT.trans hle169
        refine NI_last (by kernel_rfl) ?_
        refine NI_end (by kernel_rfl) ?_
        refine At_block ?_
        refine At_seq ?_
        refine W_region ?_
        refine S_pu 1 rfl ?_
        refine S_v (r_ar64 rfl rfl rfl hk164) rfl ?_
        refine S_pu 1 rfl ?_
        refine S_nil ?_
        have h := Go.L.Nxt.again h hm134
        refine At_round (((l132.set s6_133.toNat (l132.getD ((s6_133 - (1 : Int)).toNat) default)).set ((s6_133 - (1 : Int)).toNat) (l132.getD s6_133.toNat default)), (s6_133 - (1 : Int)), xs169, n134) (.cons rfl (.cons rfl (Sub.nil _))) ⟨hL169, he169, hT, h⟩ (Nat.lt_succ_self _)
       ·refine S_v (r_load1 rfl underlying9 rfl hp165 (Le.refl _)) rfl ?_
        refine NI_nil (hG151.trans (gz_le hH hL150)) ?_
        refine NI1 (i := 9) (by kernel_rfl) rfl ?_
        refine S_v (r_load1 rfl underlying9 rfl hp154 (Le.refl _)) rfl ?_
        refine NI_nil (hG151.trans (gz_le hH hL150)) ?_
        refine NI1 (i := 14) (by kernel_rfl) rfl ?_
        refine S_indexR 0 rfl rfl underlying30 zr9 hL150 rfl s6_133.toNat (Int.toNat_of_nonneg hk159.1).symm (idx_lt hk159) rfl ?_
        intro p170 hp170
        refine NI_nil (hG151.trans (gz_le hH hL150)) ?_
        refine NI1 (i := 15) (by kernel_rfl) rfl ?_
        refine S_storeE (z := l132.getD ((s6_133 - (1 : Int)).toNat) default) (j := s6_133.toNat) 0 rfl rfl rfl zr9 hH hL150 rfl (hel132.mono hG151) hp170 rfl (idx_lt hk159) rfl ?_
        intro w171 xs171 hL171 hle171 he171
        replace hG151 := hG151.trans (gz_mono hH hle171)
        replace hT := hT.trans hle171
        refine NI_nil (hG151.trans (gz_le hH hL171)) ?_
        refine NI1 (i := 16) (by kernel_rfl) rfl ?_
        refine S_indexR 0 rfl rfl underlying30 zr9 hL171 rfl ((s6_133 - (1 : Int)).toNat) (Int.toNat_of_nonneg hk162.1).symm (idx_lt hk162) rfl ?_
        intro p172 hp172
        refine NI_nil (hG151.trans (gz_le hH hL171)) ?_
        refine NI1 (i := 17) (by kernel_rfl) rfl ?_
        refine S_storeE (z := l132.getD s6_133.toNat default) (j := (s6_133 - (1 : Int)).toNat) 0 rfl rfl rfl zr9 hH hL171 rfl he171 hp172 rfl (idx_lt hk162) rfl ?_
        intro w173 xs173 hL173 hle173 he173
        replace hG151 := hG151.trans (gz_mono hH hle173)
        replace hT := hT.trans hle173
        refine NI_last (by kernel_rfl) ?_
        refine NI_end (by kernel_rfl) ?_
        refine At_block ?_
        refine At_seq ?_
        refine W_region ?_
        refine S_pu 1 rfl ?_
        refine S_v (r_ar64 rfl rfl rfl hk164) rfl ?_
        refine S_pu 1 rfl ?_
        refine S_nil ?_
        have h := Go.L.Nxt.again h hm134
        refine At_round (((l132.set s6_133.toNat (l132.getD ((s6_133 - (1 : Int)).toNat) default)).set ((s6_133 - (1 : Int)).toNat) (l132.getD s6_133.toNat default)), (s6_133 - (1 : Int)), xs173, n134) (.cons rfl (.cons rfl (Sub.nil _))) ⟨hL173, he173, hT, h⟩ (Nat.lt_succ_self _)
     ·obtain ⟨hk155, h⟩ := Go.L.chk_some h
      obtain ⟨hk157, h⟩ := Go.L.chk_some h
      obtain ⟨hk159, h⟩ := Go.L.chk_some h
      obtain ⟨hk162, h⟩ := Go.L.chk_some h
      obtain ⟨hk164, h⟩ := Go.L.chk_some h
      refine S_index rfl rfl underlying30 zr9 (hL150.vecN hH (i := 0) rfl (hel132.mono hG151)) s6_133.toNat (Int.toNat_of_nonneg hk157.1).symm (idx_lt hk157) rfl ?_
      rintro p174 _ rfl hp174
      refine NI_nil (hG151.trans (gz_le hH hL150)) ?_
      refine NI2 (i := 8) (j := 13) (by kernel_rfl) rfl rfl ?_ ?_
      ·refine S_index rfl rfl underlying30 zr9 (hL150.vecN hH (i := 0) rfl (hel132.mono hG151)) ((s6_133 - (1 : Int)).toNat) (Int.toNat_of_nonneg hk155.1).symm (idx_lt hk155) rfl ?_
       rintro p175 _ rfl hp175
       refine NI_nil (hG151.trans (gz_le hH hL150)) ?_
       refine NI2 (i := 9) (j := 13) (by kernel_rfl) rfl rfl ?_ ?_
       ·refine S_v (r_load1 rfl underlying9 rfl hp175 (Le.refl _)) rfl ?_
        refine NI_nil (hG151.trans (gz_le hH hL150)) ?_
        refine NI1 (i := 13) (by kernel_rfl) rfl ?_
        refine S_v (r_load1 rfl underlying9 rfl hp174 (Le.refl _)) rfl ?_
        refine NI_nil (hG151.trans (gz_le hH hL150)) ?_
        refine NI1 (i := 14) (by kernel_rfl) rfl ?_
        refine S_indexR 0 rfl rfl underlying30 zr9 hL150 rfl s6_133.toNat (Int.toNat_of_nonneg hk159.1).symm (idx_lt hk159) rfl ?_
        intro p176 hp176
        refine NI_nil (hG151.trans (gz_le hH hL150)) ?_
        refine NI1 (i := 15) (by kernel_rfl) rfl ?_
        refine S_storeE (z := l132.getD ((s6_133 - (1 : Int)).toNat) default) (j := s6_133.toNat) 0 rfl rfl rfl zr9 hH hL150 rfl (hel132.mono hG151) hp176 rfl (idx_lt hk159) rfl ?_
        intro w177 xs177 hL177 hle177 he177
        replace hG151 := hG151.trans (gz_mono hH hle177)
        replace hT := hT.trans hle177
        refine NI_nil (hG151.trans (gz_le hH hL177)) ?_
        refine NI1 (i := 16) (by kernel_rfl) rfl ?_
        refine S_indexR 0 rfl rfl underlying30 zr9 hL177 rfl ((s6_133 - (1 : Int)).toNat) (Int.toNat_of_nonneg hk162.1).symm (idx_lt hk162) rfl ?_
        intro p178 hp178
        refine NI_nil (hG151.trans (gz_le hH hL177)) ?_
        refine NI1 (i := 17) (by kernel_rfl) rfl ?_
        refine S_storeE (z := l132.getD s6_133.toNat default) (j := (s6_133 - (1 : Int)).toNat) 0 rfl rfl rfl zr9 hH hL177 rfl he177 hp178 rfl (idx_lt hk162) rfl ?_
        intro w179 xs179 hL179 hle179 he179
        replace hG151 := hG151.trans (gz_mono hH hle179)
        replace hT := hT.trans hle179
        refine NI_last (by kernel_rfl) ?_
        refine NI_end (by kernel_rfl) ?_
        refine At_block ?_
        refine At_seq ?_
        refine W_region ?_
        refine S_pu 1 rfl ?_
        refine S_v (r_ar64 rfl rfl rfl hk164) rfl ?_
        refine S_pu 1 rfl ?_
        refine S_nil ?_
        have h := Go.L.Nxt.again h hm134
        refine At_round (((l132.set s6_133.toNat (l132.getD ((s6_133 - (1 : Int)).toNat) default)).set ((s6_133 - (1 : Int)).toNat) (l132.getD s6_133.toNat default)), (s6_133 - (1 : Int)), xs179, n134) (.cons rfl (.cons rfl (Sub.nil _))) ⟨hL179, he179, hT, h⟩ (Nat.lt_succ_self _)
       ·refine S_v (r_load1 rfl underlying9 rfl hp174 (Le.refl _)) rfl ?_
        refine NI_nil (hG151.trans (gz_le hH hL150)) ?_
        refine NI1 (i := 9) (by kernel_rfl) rfl ?_
        refine S_v (r_load1 rfl underlying9 rfl hp175 (Le.refl _)) rfl ?_
        refine NI_nil (hG151.trans (gz_le hH hL150)) ?_
        refine NI1 (i := 14) (by kernel_rfl) rfl ?_
        refine S_indexR 0 rfl rfl underlying30 zr9 hL150 rfl s6_133.toNat (Int.toNat_of_nonneg hk159.1).symm (idx_lt hk159) rfl ?_
        intro p180 hp180
        refine NI_nil (hG151.trans (gz_le hH hL150)) ?_
        refine NI1 (i := 15) (by kernel_rfl) rfl ?_
        refine S_storeE (z := l132.getD ((s6_133 - (1 : Int)).toNat) default) (j := s6_133.toNat) 0 rfl rfl rfl zr9 hH hL150 rfl (hel132.mono hG151) hp180 rfl (idx_lt hk159) rfl ?_
        intro w181 xs181 hL181 hle181 he181
        replace hG151 := hG151.trans (gz_mono hH hle181)
        replace hT := hT.trans hle181
        refine NI_nil (hG151.trans (gz_le hH hL181)) ?_
        refine NI1 (i := 16) (by kernel_rfl) rfl ?_
        refine S_indexR 0 rfl rfl underlying30 zr9 hL181 rfl ((s6_133 - (1 : Int)).toNat) (Int.toNat_of_nonneg hk162.1).symm (idx_lt hk162) rfl ?_
        intro p182 hp182
        refine NI_nil (hG151.trans (gz_le hH hL181)) ?_
        refine NI1 (i := 17) (by kernel_rfl) rfl ?_
        refine S_storeE (z := l132.getD s6_133.toNat default) (j := (s6_133 - (1 : Int)).toNat) 0 rfl rfl rfl zr9 hH hL181 rfl he181 hp182 rfl (idx_lt hk162) rfl ?_
        intro w183 xs183 hL183 hle183 he183
        replace hG151 := hG151.trans (gz_mono hH hle183)
        replace hT := hT.trans hle183
        refine NI_last (by kernel_rfl) ?_
        refine NI_end (by kernel_rfl) ?_
        refine At_block ?_
        refine At_seq ?_
        refine W_region ?_
        refine S_pu 1 rfl ?_
        refine S_v (r_ar64 rfl rfl rfl hk164) rfl ?_
        refine S_pu 1 rfl ?_
        refine S_nil ?_
        have h := Go.L.Nxt.again h hm134
        refine At_round (((l132.set s6_133.toNat (l132.getD ((s6_133 - (1 : Int)).toNat) default)).set ((s6_133 - (1 : Int)).toNat) (l132.getD s6_133.toNat default)), (s6_133 - (1 : Int)), xs183, n134) (.cons rfl (.cons rfl (Sub.nil _))) ⟨hL183, he183, hT, h⟩ (Nat.lt_succ_self _)
      ·refine S_v (r_load1 rfl underlying9 rfl hp174 (Le.refl _)) rfl ?_
       refine NI_nil (hG151.trans (gz_le hH hL150)) ?_
       refine NI1 (i := 8) (by kernel_rfl) rfl ?_
       refine S_index rfl rfl underlying30 zr9 (hL150.vecN hH (i := 0) rfl (hel132.mono hG151)) ((s6_133 - (1 : Int)).toNat) (Int.toNat_of_nonneg hk155.1).symm (idx_lt hk155) rfl ?_
       rintro p184 _ rfl hp184
       refine NI_nil (hG151.trans (gz_le hH hL150)) ?_
       refine NI1 (i := 9) (by kernel_rfl) rfl ?_
       refine S_v (r_load1 rfl underlying9 rfl hp184 (Le.refl _)) rfl ?_
       refine NI_nil (hG151.trans (gz_le hH hL150)) ?_
       refine NI1 (i := 14) (by kernel_rfl) rfl ?_
       refine S_indexR 0 rfl rfl underlying30 zr9 hL150 rfl s6_133.toNat (Int.toNat_of_nonneg hk159.1).symm (idx_lt hk159) rfl ?_
       intro p185 hp185
       refine NI_nil (hG151.trans (gz_le hH hL150)) ?_
       refine NI1 (i := 15) (by kernel_rfl) rfl ?_
       refine S_storeE (z := l132.getD ((s6_133 - (1 : Int)).toNat) default) (j := s6_133.toNat) 0 rfl rfl rfl zr9 hH hL150 rfl (hel132.mono hG151) hp185 rfl (idx_lt hk159) rfl ?_
       intro w186 xs186 hL186 hle186 he186
       replace hG151 := hG151.trans (gz_mono hH hle186)
       replace hT := hT.trans hle186
       refine NI_nil (hG151.trans (gz_le hH hL186)) ?_
       refine NI1 (i := 16) (by kernel_rfl) rfl ?_
       refine S_indexR 0 rfl rfl underlying30 zr9 hL186 rfl ((s6_133 - (1 : Int)).toNat) (Int.toNat_of_nonneg hk162.1).symm (idx_lt hk162) rfl ?_
       intro p187 hp187
       refine NI_nil (hG151.trans (gz_le hH hL186)) ?_
       refine NI1 (i := 17) (by kernel_rfl) rfl ?_
       refine S_storeE (z := l132.getD s6_133.toNat default) (j := (s6_133 - (1 : Int)).toNat) 0 rfl rfl rfl zr9 hH hL186 rfl he186 hp187 rfl (idx_lt hk162) rfl ?_
       intro w188 xs188 hL188 hle188 he188
       replace hG151 := hG151.trans (gz_mono hH hle188)
       replace hT := hT.trans hle188
       refine NI_last (by kernel_rfl) ?_
       refine NI_end (by kernel_rfl) ?_
       refine At_block ?_
       refine At_seq ?_
       refine W_region ?_
       refine S_pu 1 rfl ?_
       refine S_v (r_ar64 rfl rfl rfl hk164) rfl ?_
       refine S_pu 1 rfl ?_
       refine S_nil ?_
       have h := Go.L.Nxt.again h hm134
       refine At_round (((l132.set s6_133.toNat (l132.getD ((s6_133 - (1 : Int)).toNat) default)).set ((s6_133 - (1 : Int)).toNat) (l132.getD s6_133.toNat default)), (s6_133 - (1 : Int)), xs188, n134) (.cons rfl (.cons rfl (Sub.nil _))) ⟨hL188, he188, hT, h⟩ (Nat.lt_succ_self _)
    ·replace h := Go.L.ite_f hc147 h
     refine W_exit ?_
     refine At_seq_exit ?_
     refine At_loop_exit ?_
     replace h := Go.L.Nxt.out h hm134
     refine At_exit ?_
     refine At_cut (l132, xsl132) (.cons rfl (Sub.nil _)) ⟨hL146, hel132, hT, h⟩
   ·replace h := Go.L.ite_n (of_decide_eq_false hg138) h
    iterate 10 refine D_no rfl rfl rfl rfl hg138 rfl ?_
    refine D_v (r_pickF rfl hg138 rfl) rfl rfl ?_
    refine D_tail (fun w191 hx191 => ?_)
    have hL192 := hL137.call hx191
    have hle192 := fz_ext hL137 hx191
    replace hel132 := hel132.mono (gz_mono hH hle192)
    replace hT := hT.trans hle192
    refine S_seqnil ?_
    refine W_false rfl ?_
    refine W_exit ?_
    refine At_seq_exit ?_
    refine At_loop_exit ?_
    replace h := Go.L.Nxt.out h hm134
    refine At_exit ?_
    refine At_cut (l132, xsl132) (.cons rfl (Sub.nil _)) ⟨hL192, hel132, hT, h⟩
  ·rintro ⟨l70, xsl70⟩ wr71 ⟨hL71, hel70, hT, h⟩
   refine W_pz 2 rfl ?_
   refine W_ret ?_
   obtain rfl := Option.some.inj h
   refine At_body rfl rfl ?_
   exact ⟨v7, xsl70, rfl, hL71, hT, hel70⟩
noncomputable def ref4_Paths_k1 (l28 : List (List UInt8)) : Option ((List (List UInt8))) :=
 some (l28)
noncomputable def ref4_Paths_bl2 (x2 : (List ((List UInt8) × Int × Int × (List UInt8)))) : (List (List UInt8)) × Int → Option (((List (List UInt8)) × Int) ⊕ ((List (List UInt8)))) := fun ⟨l41, s5_42⟩ =>
 if s5_42 < (x2.length : Int) then Go.L.chk (0 ≤ s5_42 ∧ s5_42 < (x2.length : Int)) (Option.bind (ref4_Insert l41 ((x2.getD s5_42.toNat default).1)) (fun x50 => Go.L.chk (Go.L.I64 (s5_42 + (1 : Int))) (some (Sum.inl (x50, (s5_42 + (1 : Int))))))) else Option.map Sum.inr (ref4_Paths_k1 l41)
noncomputable def ref4_Paths_l2 (x2 : (List ((List UInt8) × Int × Int × (List UInt8)))) (s : (List (List UInt8)) × Int) : Option ((List (List UInt8))) := Go.L.run (ref4_Paths_bl2 x2) s
noncomputable def ref4_Paths (a0 : Go.L.Pv) : Option ((List (List UInt8))) :=
 Option.bind (ref4_Leaves a0 ([] : List UInt8)) (fun x2 => (ref4_Paths_l2 x2) (([] : List (List UInt8)), (0 : Int)))
theorem ref4_Paths_ok (w : World) (H : PH) (hH : Le H (hp w)) {a0 : Go.L.Pv} {v0_0 : Value} {v0_1 : Value} {v0_2 : Value} (h0_0 : Vec .byte H v0_0 (a0.f.2.2.1)) (h0_1 : Vec .st H v0_1 (a0.f.2.2.2.1)) (h0_2 : Vec .tree H v0_2 (a0.f.2.2.2.2)) {r : (List (List UInt8))} (h : ref4_Paths a0 = some r) :
  Ok Tryz.prog 24 [.agg #[.int .i64 a0.f.1, .int .i64 a0.f.2.1, v0_0, v0_1, v0_2]] w (fun v w' => Ext w w' ∧ ∃ u0, v = u0 ∧ OwnH 9 .st H w w' u0 (r)) := by
 refine Ok_enter (n := 22) [(0, .agg #[.int .i64 a0.f.1, .int .i64 a0.f.2.1, v0_0, v0_1, v0_2])] func24 rfl rfl rfl rfl rfl ?_
 have hL := Lcl.start w
 refine W_seqr ?_
 refine S_box (t := 38) rfl rfl rfl hL ?_
 intro w1 b1 hL1 hle1 _
 refine S_pz 1 rfl ?_
 refine W_seqr ?_
 refine S_v (r_loadBN 0 rfl underlying38 rfl zr38 hL1 rfl) rfl ?_
 obtain ⟨x2, hb2, h⟩ := Go.L.bind_some h
 refine S_callL rfl rfl hL1 (ref4_Leaves_ok (a0 := a0) _ _ (gz_le hH hL1) (h0_0.mono (gz_left hH)) (h0_1.mono (gz_left hH)) (h0_2.mono (gz_left hH)) hb2) ?_
 rintro u3_0 w3 ⟨_, rfl, hR3_0⟩ hx3 hL3 hle3
 have hv3_0 := hR3_0.vecG hH hL1 hx3
 refine S_pz 1 rfl ?_
 refine W_p 1 rfl ?_
 obtain ⟨hL4, hle4, he4⟩ := row_nilE .st H 9 hL3
 replace hv3_0 := hv3_0.mono (gz_mono hH hle4)
 refine S_seqnil ?_
 refine W_cut (σ := (List (List UInt8)) × Value × (List Value)) (fun ⟨l28, vl28, xsl28⟩ => [(4, vl28)]) (fun ⟨l28, vl28, xsl28⟩ wr => InO w [.row (vl28) 9 1 (l28).length (xsl28), .box b1 [.int .i64 a0.f.1, .int .i64 a0.f.2.1, v0_0, v0_1, v0_2] 38] wr fun Oz => Elems .st (gz H w wr Oz) (l28) (xsl28) ∧ ref4_Paths_k1 l28 = some r) ?_ ?_
 ·refine W_pz 1 rfl ?_
  refine W_block ?_
  obtain ⟨n43, h⟩ := Go.L.run_some h
  refine W_loop (σ := (List (List UInt8)) × Int × Value × (List Value) × Nat) (fun ⟨l41, s5_42, vl41, xsl41, n⟩ => [(3, u3_0), (4, vl41), (5, .int .i64 s5_42)]) (fun ⟨l41, s5_42, vl41, xsl41, n⟩ wr => InO w [.row (vl41) 9 1 (l41).length (xsl41), .box b1 [.int .i64 a0.f.1, .int .i64 a0.f.2.1, v0_0, v0_1, v0_2] 38] wr fun Oz => Vec (.pair .st (.pair (.int .i64) (.pair (.int .i64) .st))) (gz H w wr Oz) (u3_0) (x2) ∧ Elems .st (gz H w wr Oz) (l41) (xsl41) ∧ Go.L.itr (ref4_Paths_bl2 x2) n (l41, s5_42) = some r) (fun ⟨l41, s5_42, vl41, xsl41, n⟩ => n) (([] : List (List UInt8)), (0 : Int), .slice none 0 0, [], n43) (.cons rfl (.cons rfl (.cons rfl (Sub.nil _)))) ⟨hL4, hv3_0, he4, h⟩ ?_
  rintro ⟨l41, s5_42, vl41, xsl41, nn43⟩ wr43 ⟨hL43, hf43_0, hel41, h⟩
  obtain ⟨n43, e43, rfl, h, hm43⟩ := Go.L.itr_some h
  refine W_seq ?_
  refine W_p 2 rfl ?_
  refine S_v (r_len rfl underlying67 hf43_0) rfl ?_
  refine S_pz 1 rfl ?_
  refine W_if rfl (fun hc45 => ?_) (fun hc45 => ?_)
  ·replace h := Go.L.ite_p hc45 h
   refine W_skip ?_
   refine At_seq ?_
   refine W_seq ?_
   refine W_block ?_
   refine W_region ?_
   refine S_pu 3 rfl ?_
   obtain ⟨hk48, h⟩ := Go.L.chk_some h
   refine S_index rfl rfl underlying67 zr73 hf43_0 s5_42.toNat (Int.toNat_of_nonneg hk48.1).symm (idx_lt hk48) rfl ?_
   rintro p47 _ ⟨_, _, rfl, rfl, ⟨_, _, rfl, rfl, ⟨_, _, rfl, rfl, rfl⟩⟩⟩ hp47
   refine S_v (r_field rfl underlying73 rfl zr9 (by decide)) rfl ?_
   have hp49 := hp47.add 0
   refine S_v (r_load1 rfl underlying9 rfl hp49 (gz_le hH hL43)) rfl ?_
   obtain ⟨x50, hb50, h⟩ := Go.L.bind_some h
   refine S_call rfl rfl (ref4_Insert_fr (a0 := l41) (a1 := ((x2.getD s5_42.toNat default).1)) (O := [.box b1 [.int .i64 a0.f.1, .int .i64 a0.f.2.1, v0_0, v0_1, v0_2] 38]) hH hL43 hel41 hb50) ?_
   rintro u51_0 w51 ⟨_, y51_0, rfl, hL51, hle51, hf51_0⟩
   replace hf43_0 := hf43_0.mono (gz_mono hH hle51)
   replace hp47 := hp47.mono (gz_mono hH hle51)
   replace hp49 := hp49.mono (gz_mono hH hle51)
   refine S_pu 1 rfl ?_
   refine S_nil ?_
   refine At_block ?_
   refine At_seq ?_
   refine W_region ?_
   refine S_pu 1 rfl ?_
   obtain ⟨hk52, h⟩ := Go.L.chk_some h
   refine S_v (r_ar64 rfl rfl rfl hk52) rfl ?_
   refine S_pu 1 rfl ?_
   refine S_nil ?_
   have h := Go.L.Nxt.again h hm43
   refine At_round (x50, (s5_42 + (1 : Int)), u51_0, y51_0, n43) (.cons rfl (.cons rfl (.cons rfl (Sub.nil _)))) ⟨hL51, hf43_0, hf51_0, h⟩ (Nat.lt_succ_self _)
  ·replace h := Go.L.ite_n hc45 h
   refine W_exit ?_
   refine At_seq_exit ?_
   refine At_loop_exit ?_
   replace h := Go.L.Nxt.out h hm43
   refine At_exit ?_
   refine At_cut (l41, vl41, xsl41) (.cons rfl (Sub.nil _)) ⟨hL43, hel41, h⟩
 ·rintro ⟨l28, vl28, xsl28⟩ wr29 ⟨hL29, hel28, h⟩
  refine W_pz 2 rfl ?_
  refine W_ret ?_
  obtain rfl := Option.some.inj h
  refine At_body rfl rfl ?_
  exact ⟨hL29.ext, _, rfl, (hL29.ownH hH (i := 0) rfl hel28)⟩
end Go.Proofs.YtmfiaecglndldaaGreatDoor
end
section
namespace Go.L
theorem less_lt : ∀ x y : List UInt8, Op.bytesLess x y = decide (x < y)
  | [], [] => by simp [Op.bytesLess]
  | _ :: _, [] => by simp [Op.bytesLess]
  | [], _ :: _ => by simp [Op.bytesLess]
  | a :: x, b :: y => by
    rw [Op.bytesLess, less_lt x y]
    simp only [List.cons_lt_cons_iff]
    by_cases h1 : a < b <;> by_cases h2 : a = b <;> by_cases h3 : x < y <;> simp [h1, h2, h3]
end Go.L
namespace Go.Proofs.YtmfiaecglndldaaGreatDoor
open Go Go.L
theorem rl_loop {v : Pv} {p : List (List UInt8)} {self : Pv → List UInt8 → Option (List Lf)} {d : Nat} (hv : NodeOk v) (hpo : POk p) (hp : p.length ≤ 20)
    (hs : ∀ i, i < v.f.2.2.2.2.length → self (v.f.2.2.2.2.getD i default) (jn (p ++ [cst v i])) = some (lvs d (v.f.2.2.2.2.getD i default) (p ++ [cst v i]))) :
    ∀ (k i : Nat) (L : List Lf), i + k = v.f.2.2.2.2.length → (L ++ (List.range' i k).flatMap fun i => lvs d (v.f.2.2.2.2.getD i default) (p ++ [cst v i])).length ≤ 1000000 →
      Go.L.run (ref4_Leaves_body_bl2 v (jn p) self) (L, (i : Int)) = some (L ++ (List.range' i k).flatMap fun i => lvs d (v.f.2.2.2.2.getD i default) (p ++ [cst v i]))
  | 0, i, L, hi, _ => by
    refine run_inr (m := some (L ++ (List.range' i 0).flatMap fun i => lvs d (v.f.2.2.2.2.getD i default) (p ++ [cst v i]))) ?_
    unfold ref4_Leaves_body_bl2 ref4_Leaves_body_k1
    dsimp only
    rw [if_neg (by omega)]
    simp
  | k + 1, i, L, hi, hL => by
    have hil : i < v.f.2.2.2.2.length := by omega
    have hmany := hv.many
    have hpl := hpo.jn_len
    have hcl := stp_len (cst_ok hv hil)
    rw [List.range'_succ, List.flatMap_cons, ← List.append_assoc] at hL ⊢
    have hk4 : ref4_Leaves_body_k4 v L (i : Int) self (jn (p ++ [cst v i])) = some (.inl (L ++ lvs d (v.f.2.2.2.2.getD i default) (p ++ [cst v i]), ((i + 1 : Nat) : Int))) := by
      unfold ref4_Leaves_body_k4
      rw [chk_pos (by omega), Int.toNat_natCast, hs i hil, Option.bind_some, chk_pos (by unfold Go.E.Cap; simp only [List.length_append] at hL; omega), chk_pos (by unfold I64; omega)]
      rfl
    have hk3 : ∀ x, x = cst v i → ref4_Leaves_body_k3 v (jn p) L (i : Int) self x = some (.inl (L ++ lvs d (v.f.2.2.2.2.getD i default) (p ++ [cst v i]), ((i + 1 : Nat) : Int))) := by
      rintro x rfl
      rw [jn_snoc] at hk4
      unfold ref4_Leaves_body_k3
      by_cases h0 : p = []
      · rw [if_pos (hpo.nil.2 h0)]
        rw [if_pos h0] at hk4
        exact hk4
      · rw [if_neg (fun h => h0 (hpo.nil.1 h)), chk_pos (by simp; omega), chk_pos (by simp; omega)]
        rw [if_neg h0] at hk4
        rw [show (jn p ++ [47]) ++ cst v i = jn p ++ 47 :: cst v i by simp]
        exact hk4
    have hb : ref4_Leaves_body_bl2 v (jn p) self (L, (i : Int)) = some (.inl (L ++ lvs d (v.f.2.2.2.2.getD i default) (p ++ [cst v i]), ((i + 1 : Nat) : Int))) := by
      unfold ref4_Leaves_body_bl2
      dsimp only
      rw [if_pos (by omega)]
      by_cases h4 : v.f.1 = 4
      · have := hv.same h4
        rw [if_pos h4, chk_pos (by omega), Int.toNat_natCast]
        exact hk3 _ (by unfold cst; rw [if_pos h4])
      · rw [if_neg h4]
        exact hk3 _ (by unfold cst; rw [if_neg h4])
    rw [run_inl hb]
    exact rl_loop hv hpo hp hs k (i + 1) _ (by omega) hL
theorem rl_n : ∀ (d n : Nat) (v : Pv) (p : List (List UInt8)), d ≤ n → Vd d v → POk p → p.length + d ≤ 20 → nodes d v ≤ 1000000 → ref4_Leaves_n n v (jn p) = some (lvs d v p)
  | 0, _, _, _, _, h, _, _, _ => h.elim
  | d + 1, 0, _, _, h, _, _, _, _ => absurd h (by omega)
  | d + 1, n + 1, v, p, hn, hv, hp, hl, hnd => by
    have hlen := lvs_len (d + 1) v p
    obtain ⟨hok, hvp⟩ := hv
    show ref4_Leaves_body (ref4_Leaves_n n) v (jn p) = _
    unfold ref4_Leaves_body ref4_Leaves_body_l2
    have := rl_loop (d := d) (self := ref4_Leaves_n n) hok hp (by omega) (fun i hi => rl_n d n _ _ (by omega) (hvp _ (getD_mem hi)) (hp.snoc (cst_ok hok hi)) (by simp; omega) (by
      unfold nodes at hnd
      have := nodes_mem (d := d) (getD_mem hi)
      omega)) v.f.2.2.2.2.length 0 [(jn p, v.f.1, v.f.2.1, v.f.2.2.1)] (by omega) (by
      unfold lvs at hlen
      simp only [List.singleton_append]
      rw [hlen]; exact hnd)
    exact this
theorem ref_leaves {v : Pv} (hv : Vd 10 v) (hn : nodes 10 v ≤ 1000000) : ref4_Leaves v [] = some (lvs 10 v []) := by
  unfold ref4_Leaves
  exact rl_n 10 1000 v [] (by omega) hv (fun x hx => by cases hx) (by simp) hn
/-! ### Insertion -/
theorem hasText_eq {l : List (List UInt8)} (hl : l.length ≤ 1000000000) (a : List UInt8) : ref4_HasText l a = some (decide (a ∈ l)) := by
  have key : ∀ (d i : Nat), i + d = l.length → Go.L.run (ref4_HasText_bl2 l a) (i : Int) = some (decide (a ∈ l.drop i)) := by
    intro d
    induction d with
    | zero =>
      intro i hi
      rw [List.drop_eq_nil_of_le (by omega)]
      refine run_inr (m := some _) ?_
      unfold ref4_HasText_bl2 ref4_HasText_k1
      rw [if_neg (by omega)]
      simp
    | succ d ih =>
      intro i hi
      have hil : i < l.length := by omega
      rw [drop_cons hil]
      have hb : ref4_HasText_bl2 l a (i : Int) = if l.getD i default = a then some (.inr true) else some (.inl ((i + 1 : Nat) : Int)) := by
        unfold ref4_HasText_bl2
        rw [if_pos (by omega), chk_pos (by omega), Int.toNat_natCast, chk_pos (by unfold I64; omega)]
        rfl
      by_cases h : l.getD i default = a
      · rw [if_pos h] at hb
        rw [run_inr (m := some true) hb, h]
        simp
      · rw [if_neg h] at hb
        rw [run_inl hb, ih (i + 1) (by omega)]
        congr 1
        rw [decide_eq_decide, List.mem_cons]
        exact ⟨.inr, fun hh => hh.resolve_left (fun e => h e.symm)⟩
  have := key l.length 0 (by omega)
  rwa [List.drop_zero] at this
theorem swap_mid {α : Type} [Inhabited α] {A B : List α} {y x : α} : (((A ++ y :: x :: B).set (A.length + 1) y).set A.length x) = A ++ x :: y :: B := by
  rw [List.set_append_right _ _ (by omega), show A.length + 1 - A.length = 1 by omega, List.set_append_right _ _ (Nat.le_refl _), Nat.sub_self]
  rfl
theorem mem_mid {α : Type} {A B : List α} {x z : α} : z ∈ A ++ x :: B ↔ z = x ∨ z ∈ A ++ B := by
  simp only [List.mem_append, List.mem_cons]
  constructor
  · rintro (h | h | h)
    · exact .inr (.inl h)
    · exact .inl h
    · exact .inr (.inr h)
  · rintro (h | h | h)
    · exact .inr (.inl h)
    · exact .inl h
    · exact .inr (.inr h)
/-- Where the new text goes. -/
theorem ins_run : ∀ (A B : List (List UInt8)) (x : List UInt8), A.length + B.length ≤ 1000000000 → (A ++ B).Pairwise (fun a b => a ≤ b ∧ a ≠ b) → x ∉ A ++ B → (∀ b ∈ B, x ≤ b) →
    ∃ r, Go.L.run ref4_Insert_bl2 (A ++ x :: B, (A.length : Int)) = some r ∧ r.Pairwise (fun a b => a ≤ b ∧ a ≠ b) ∧ (∀ y, y ∈ r ↔ y = x ∨ y ∈ A ++ B) ∧ r.length = A.length + B.length + 1 := by
  intro A
  induction h : A.length generalizing A with
  | zero =>
    intro B x hl hp hx hb
    have : A = [] := List.eq_nil_of_length_eq_zero h
    subst this
    refine ⟨x :: B, run_inr (m := some (x :: B)) ?_, ?_, ?_, ?_⟩
    · unfold ref4_Insert_bl2 ref4_Insert_k1
      dsimp only
      rw [if_neg (by omega)]
      rfl
    · exact List.pairwise_cons.2 ⟨fun b hbm => ⟨hb b hbm, fun e => hx (by rw [e]; exact hbm)⟩, hp⟩
    · intro y; simp
    · simp
  | succ n ih =>
    intro B x hl hp hx hb
    obtain ⟨A', y, rfl⟩ : ∃ A' y, A = A' ++ [y] := by
      rcases List.eq_nil_or_concat A with h0 | ⟨A', y, h0⟩
      · subst h0; simp at h
      · exact ⟨A', y, by simpa using h0⟩
    have hA' : A'.length = n := by simpa using h
    have hg1 : ((A' ++ [y]) ++ x :: B).getD (n + 1) default = x := by
      rw [List.getD_eq_getElem?_getD, List.getElem?_append_right (by simp; omega)]
      simp [hA']
    have hg0 : ((A' ++ [y]) ++ x :: B).getD n default = y := by
      rw [List.getD_eq_getElem?_getD, List.append_assoc, List.getElem?_append_right (by omega), hA', Nat.sub_self]
      rfl
    have hlen : ((A' ++ [y]) ++ x :: B).length = n + 1 + B.length + 1 := by simp; omega
    have hyx : y ≠ x := fun e => hx (by rw [← e]; simp)
    by_cases hlt : x < y
    · have hstep : ref4_Insert_bl2 ((A' ++ [y]) ++ x :: B, ((n + 1 : Nat) : Int)) = some (.inl (A' ++ x :: y :: B, (n : Int))) := by
        unfold ref4_Insert_bl2
        dsimp only
        rw [if_pos (by omega), chk_pos (by omega), chk_pos (by unfold I64; omega), chk_pos (by omega), Int.toNat_natCast, show (((n + 1 : Nat) : Int) - 1).toNat = n by omega, hg1, hg0, less_lt, if_pos (by simpa using hlt), chk_pos (by unfold I64; omega), chk_pos (by unfold I64; omega), chk_pos (by omega), chk_pos (by omega), chk_pos (by omega), chk_pos (by rw [List.length_set]; omega), chk_pos (by unfold I64; omega)]
        have := swap_mid (A := A') (B := B) (y := y) (x := x)
        rw [hA'] at this
        rw [show (A' ++ [y]) ++ x :: B = A' ++ y :: x :: B by simp, this, show ((n + 1 : Nat) : Int) - 1 = (n : Int) by omega]
      rw [run_inl hstep]
      have hAB : (A' ++ [y]) ++ B = A' ++ (y :: B) := by simp
      rw [hAB] at hp hx ⊢
      obtain ⟨r, h1, h2, h3, h4⟩ := ih A' hA' (y :: B) x (by simp only [List.length_cons]; omega) hp hx (fun b hbm => by
        rcases List.mem_cons.1 hbm with rfl | hbm
        · exact List.le_of_lt hlt
        · exact hb b hbm)
      exact ⟨r, h1, h2, h3, by rw [h4]; simp; omega⟩
    · have hle : y ≤ x := List.not_lt.1 hlt
      refine ⟨(A' ++ [y]) ++ x :: B, run_inr (m := some ((A' ++ [y]) ++ x :: B)) ?_, ?_, ?_, ?_⟩
      · unfold ref4_Insert_bl2 ref4_Insert_k1
        dsimp only
        rw [if_pos (by omega), chk_pos (by omega), chk_pos (by unfold I64; omega), chk_pos (by omega), Int.toNat_natCast, show (((n + 1 : Nat) : Int) - 1).toNat = n by omega, hg1, hg0, less_lt, if_neg (by simpa using hlt)]
      · obtain ⟨p1, p2, p3⟩ := List.pairwise_append.1 hp
        refine List.pairwise_append.2 ⟨p1, List.pairwise_cons.2 ⟨fun b hbm => ⟨hb b hbm, fun e => hx (by rw [e]; simp [hbm])⟩, p2⟩, fun a ha b hbm => ?_⟩
        rcases List.mem_cons.1 hbm with rfl | hbm
        · refine ⟨?_, fun e => hx (by rw [← e]; exact List.mem_append_left _ ha)⟩
          rcases List.mem_append.1 ha with ha' | ha'
          · exact List.le_trans (((List.pairwise_append.1 p1).2.2 a ha' y (by simp)).1) hle
          · rw [List.mem_singleton] at ha'; subst ha'; exact hle
        · exact p3 a ha b hbm
      · exact fun z => mem_mid
      · rw [hlen]
theorem insert_ex {l : List (List UInt8)} (x : List UInt8) (hl : l.length ≤ 100000000) (hp : l.Pairwise (fun a b => a ≤ b ∧ a ≠ b)) : ∃ r, ref4_Insert l x = some r ∧ r.Pairwise (fun a b => a ≤ b ∧ a ≠ b) ∧ (∀ y, y ∈ r ↔ y = x ∨ y ∈ l) ∧ r.length ≤ l.length + 1 := by
  unfold ref4_Insert
  rw [hasText_eq (by omega), Option.bind_some]
  by_cases hx : x ∈ l
  · rw [if_pos (by simpa using hx)]
    exact ⟨l, rfl, hp, fun y => ⟨.inr, fun h => by rcases h with rfl | h; exact hx; exact h⟩, by omega⟩
  · rw [if_neg (by simpa using hx), chk_pos (by unfold Go.E.Cap; simp; omega), chk_pos (by unfold I64; simp; omega)]
    obtain ⟨r, h1, h2, h3, h4⟩ := ins_run l [] x (by simp; omega) (by simpa using hp) (by simpa using hx) (fun b hb => by cases hb)
    refine ⟨r, ?_, h2, fun y => by rw [h3]; simp, by simp at h4; omega⟩
    unfold ref4_Insert_l2
    rw [show (((l ++ [x]).length : Int) - 1) = (l.length : Int) by simp]
    exact h1
theorem ref_paths {v : Pv} (hv : Vd 10 v) (hn : nodes 10 v ≤ 1000000) : ref4_Paths v = some (setS ((lvs 10 v []).map (·.1))) := by
  unfold ref4_Paths ref4_Paths_l2
  rw [ref_leaves hv hn, Option.bind_some]
  have hlen : (lvs 10 v []).length ≤ 1000000 := by rw [lvs_len]; exact hn
  generalize lvs 10 v [] = l at *
  have key : ∀ (d i : Nat) (L : List (List UInt8)), i + d = l.length → L.length ≤ i → L.Pairwise (fun a b => a ≤ b ∧ a ≠ b) → ∃ r, Go.L.run (ref4_Paths_bl2 l) (L, (i : Int)) = some r ∧ r.Pairwise (fun a b => a ≤ b ∧ a ≠ b) ∧ ∀ y, y ∈ r ↔ y ∈ L ∨ y ∈ (l.drop i).map (·.1) := by
    intro d
    induction d with
    | zero =>
      intro i L hi hL hp
      refine ⟨L, run_inr (m := some L) ?_, hp, fun y => by rw [List.drop_eq_nil_of_le (by omega)]; simp⟩
      unfold ref4_Paths_bl2 ref4_Paths_k1
      dsimp only
      rw [if_neg (by omega)]
    | succ d ih =>
      intro i L hi hL hp
      have hil : i < l.length := by omega
      obtain ⟨r, h1, h2, h3, h4⟩ := insert_ex (l.getD i default).1 (by omega) hp
      have hb : ref4_Paths_bl2 l (L, (i : Int)) = some (.inl (r, ((i + 1 : Nat) : Int))) := by
        unfold ref4_Paths_bl2
        dsimp only
        rw [if_pos (by omega), chk_pos (by omega), Int.toNat_natCast, h1, Option.bind_some, chk_pos (by unfold I64; omega)]
        rfl
      obtain ⟨q, k1, k2, k3⟩ := ih (i + 1) r (by omega) (by omega) h2
      refine ⟨q, by rw [run_inl hb, k1], k2, fun y => ?_⟩
      rw [k3, h3, drop_cons hil, List.map_cons, List.mem_cons]
      constructor
      · rintro ((h | h) | h)
        · exact .inr (.inl h)
        · exact .inl h
        · exact .inr (.inr h)
      · rintro (h | h | h)
        · exact .inl (.inr h)
        · exact .inl (.inl h)
        · exact .inr h
  obtain ⟨r, h1, h2, h3⟩ := key l.length 0 [] (by omega) (by simp) .nil
  rw [show ((0 : Int)) = ((0 : Nat) : Int) from rfl, h1]
  congr 1
  exact (setS_eq h2 (fun y => by rw [h3]; simp)).symm
theorem texts_self (a : List (List UInt8)) (h : a.length ≤ 1000000000) : ref4_Texts a a = some true := by
  unfold ref4_Texts ref4_Texts_l2
  rw [if_pos rfl]
  refine run_count (b := ref4_Texts_bl2 a a) (m := some true) (fun i => ((i : Nat) : Int)) a.length (fun i hi => ?_) ?_ 0 (by omega)
  · unfold ref4_Texts_bl2
    rw [if_pos (by omega), chk_pos ⟨by omega, by omega⟩, chk_pos ⟨by omega, by omega⟩, if_pos rfl, chk_pos (by constructor <;> omega)]
    rfl
  · unfold ref4_Texts_bl2 ref4_Texts_k1
    rw [if_neg (by omega)]
end Go.Proofs.YtmfiaecglndldaaGreatDoor
end
section
namespace Go.Proofs.YtmfiaecglndldaaGreatDoor
open Go Go.E Go.RowKit
set_option maxHeartbeats 1000000
set_option maxRecDepth 10000
open _root_.Go.Proofs.Tryz
noncomputable def shapes_Paths (a0 : Go.L.Pv) : Option ((List (List UInt8)) × (Int × Int)) :=
 Option.bind (value_Validate a0) (fun x3 => if x3.1 = (0 : Int) ∧ x3.2 = (0 : Int) then Option.bind (shapes_leaves pathStep a0 ([] : List (List UInt8)) ([] : List (List UInt8))) (fun x18 => Go.L.chk (x18.length < 4611686018427387904) (Go.L.chk ((srtS x18).length ≤ 9223372036854775807) (some ((Lib.compact (srtS x18)), ((0 : Int), (0 : Int)))))) else some ([], (x3.1, x3.2)))
theorem shapes_Paths_ok (w : World) (H : PH) (hH : Le H (hp w)) {a0 : Go.L.Pv} {v0_0 : Value} {v0_1 : Value} {v0_2 : Value} (h0_0 : Vec .byte H v0_0 (a0.f.2.2.1)) (h0_1 : Vec .st H v0_1 (a0.f.2.2.2.1)) (h0_2 : Vec .tree H v0_2 (a0.f.2.2.2.2)) {r : (List (List UInt8)) × (Int × Int)} (h : shapes_Paths a0 = some r) :
  Ok Tryz.prog 21 [.agg #[.int .i64 a0.f.1, .int .i64 a0.f.2.1, v0_0, v0_1, v0_2]] w (fun v w' => Ext w w' ∧ ∃ u0, v = .tuple #[u0, .agg #[.int .i64 r.2.1, .int .i64 r.2.2]] ∧ OwnH 9 .st H w w' u0 (r.1)) := by
 refine Ok_enter (n := 20) [(0, .agg #[.int .i64 a0.f.1, .int .i64 a0.f.2.1, v0_0, v0_1, v0_2])] func21 rfl rfl rfl rfl rfl ?_
 have hL := Lcl.start w
 refine W_seqr ?_
 refine S_box (t := 38) rfl rfl rfl hL ?_
 intro w1 b1 hL1 hle1 _
 refine S_pu 1 rfl ?_
 refine S_alloc zr23 rfl rfl hL1 ?_
 intro w2 b2 hL2 hle2 _
 refine S_seqnil ?_
 refine W_seq ?_
 refine W_seqr ?_
 refine S_v (r_loadBN 1 rfl underlying38 rfl zr38 hL2 rfl) rfl ?_
 obtain ⟨x3, hb3, h⟩ := Go.L.bind_some h
 refine S_callL rfl rfl hL2 (value_Validate_ok (a0 := a0) _ _ (gz_le hH hL2) (h0_0.mono (gz_left hH)) (h0_1.mono (gz_left hH)) (h0_2.mono (gz_left hH)) hb3) ?_
 rintro _ w4 rfl hx4 hL4 hle4
 refine S_alloc zr23 rfl rfl hL4 ?_
 intro w5 b5 hL5 hle5 _
 refine S_storeBN 0 rfl rfl rfl zr23 hL5 rfl rfl (onc rfl (onc rfl on0)) ?_
 intro w6 hL6 hle6
 refine S_seqnil ?_
 refine W_seqr ?_
 refine S_v (r_loadBN 0 rfl underlying23 rfl zr23 hL6 rfl) rfl ?_
 refine S_v (r_build rfl (fun _ => bld23_z _)) rfl ?_
 refine S_v (r_neA rfl rfl eqg23 (eq23 _ _ _ _ )) rfl ?_
 refine S_seqnil ?_
 refine W_ifn rfl (fun hc7 => ?_) (fun hc7 => ?_)
 ·replace h := Go.L.ite_n hc7 h
  refine W_seqd (.q 0 (.q 1 (.tail 2))) mixed (by kernel_rfl) (fun w9 hx9 => ?_)
  have hL10 := hL6.call hx9
  refine D_v (r_loadBN 0 rfl underlying23 rfl zr23 hL10 rfl) rfl rfl ?_
  refine D_pu 1 rfl ?_
  refine D_tail (fun w11 hx11 => ?_)
  have hL12 := hL10.call hx11
  refine S_storeBN 1 rfl rfl rfl zr23 hL12 rfl rfl (onc rfl (onc rfl on0)) ?_
  intro w13 hL13 hle13
  refine S_seqnil ?_
  refine W_ret ?_
  refine At_seq_ret ?_
  obtain rfl := Option.some.inj h
  refine At_got2 rfl (.tmp rfl) (.cell rfl underlying23 rfl zr23 (box_ptr (i := 1) hL13 rfl)) ?_
  exact ⟨hL13.ext, _, rfl, OwnH.nil⟩
 ·replace h := Go.L.ite_p hc7 h
  refine W_skip ?_
  refine At_seq ?_
  refine W_seqr ?_
  refine S_alloc zr30 rfl rfl hL6 ?_
  intro w15 b15 hL15 hle15 _
  refine S_seqnil ?_
  refine W_seqr ?_
  refine S_v (r_loadBN 3 rfl underlying38 rfl zr38 hL15 rfl) rfl ?_
  refine S_pu 1 rfl ?_
  obtain ⟨hL16, hle16, he16⟩ := row_nilE .st H 9 hL15
  have hL17 : Lcl w [.box b15 [.slice none 0 0] 30, .row (.slice none 0 0) 9 1 (([] : List (List UInt8))).length ([]), .box b5 [.int .i64 x3.1, .int .i64 x3.2] 23, .box b2 [.int .i64 (0 : Int), .int .i64 (0 : Int)] 23, .box b1 [.int .i64 a0.f.1, .int .i64 a0.f.2.1, v0_0, v0_1, v0_2] 38] w15 := hL16.picks [1] rfl
  have hle17 := fz_picks [1] hL16 hL17 rfl
  replace he16 := he16.mono (gz_mono hH hle17)
  obtain ⟨x18, hb18, h⟩ := Go.L.bind_some h
  refine S_call rfl rfl (leaves_paths hH (O := [.box b5 [.int .i64 x3.1, .int .i64 x3.2] 23, .box b2 [.int .i64 (0 : Int), .int .i64 (0 : Int)] 23, .box b1 [.int .i64 a0.f.1, .int .i64 a0.f.2.1, v0_0, v0_1, v0_2] 38]) (a0 := a0) (a1 := ([] : List (List UInt8))) (s := ([] : List (List UInt8))) hL17 he16 (h0_0.mono (gz_left hH)) (h0_1.mono (gz_left hH)) (h0_2.mono (gz_left hH)) (Vec.nil _ _) hb18) ?_
  rintro _ w19 ⟨rfl, u19, y19, hL19, hle19, he19⟩
  refine S_seqnil ?_
  refine W_seqr ?_
  refine S_v (r_loadB1 0 rfl underlying30 rfl hL19 rfl rfl) rfl ?_
  obtain ⟨hk21, h⟩ := Go.L.chk_some h
  refine S_sortS (i := 1) Tryz.laySS rfl ⟨Tryz.f53, _, func53, rfl, rfl⟩ rfl rfl hH hL19 rfl he19 hk21 ?_
  intro w20 xs20 hL20 hle20 he20
  refine S_seqnil ?_
  refine W_seqr ?_
  refine S_v (r_loadB1 0 rfl underlying30 rfl hL20 rfl rfl) rfl ?_
  obtain ⟨hk23, h⟩ := Go.L.chk_some h
  refine S_compS (i := 1) Tryz.layCS rfl ⟨Tryz.f54, _, func54, rfl, rfl⟩ rfl rfl hH hL20 rfl he20 hk23 ?_
  intro v22 w22 xs22 hL22 hle22 he22
  refine S_v (r_build rfl (fun _ => bld23_z _)) rfl ?_
  refine S_pu 1 rfl ?_
  refine S_storeBN 3 rfl rfl rfl zr23 hL22 rfl rfl (onc rfl (onc rfl on0)) ?_
  intro w24 hL24 hle24
  replace he22 := he22.mono (gz_mono hH hle24)
  refine S_seqnil ?_
  refine W_ret ?_
  obtain rfl := Option.some.inj h
  refine At_got2 rfl (.tmp rfl) (.cell rfl underlying23 rfl zr23 (box_ptr (i := 3) hL24 rfl)) ?_
  exact ⟨hL24.ext, _, rfl, (hL24.ownH hH (i := 1) rfl he22)⟩
end Go.Proofs.YtmfiaecglndldaaGreatDoor
end
section
namespace Go.Proofs.YtmfiaecglndldaaGreatDoor
open Go Go.E Go.RowKit
set_option maxHeartbeats 1000000
set_option maxRecDepth 10000
open _root_.Go.Proofs.Tryz
noncomputable def slices_Grow_byte_byte_k1 (a1 : Int) : Option ((List UInt8)) :=
 Go.L.chk (Go.L.I64 ((0 : Int) - (0 : Int))) (Go.L.chk (Go.L.I64 (a1 - ((0 : Int) - (0 : Int)))) (if (0 : Int) < (a1 - ((0 : Int) - (0 : Int))) then Go.L.chk (0 < (a1 - ((0 : Int) - (0 : Int))) ∧ (a1 - ((0 : Int) - (0 : Int))) * 1 ≤ 281474976710656) (some (([] : List UInt8))) else some ([])))
noncomputable def slices_Grow_byte_byte (_a0 : List UInt8) (a1 : Int) : Option ((List UInt8)) :=
 if a1 < (0 : Int) then none else (slices_Grow_byte_byte_k1 a1)
theorem slices_Grow_byte_byte_ok (w : World) (H : PH) (hH : Le H (hp w)) {a0 : List UInt8} {a1 : Int}  (_ : Vec .byte H (.slice none 0 0) a0) {r : (List UInt8)} (h : slices_Grow_byte_byte a0 a1 = some r) :
  Ok Tryz.prog 135 [.slice none 0 0, .int .i64 a1] w (fun v w' => Ext w w' ∧ ∃ u0, v = u0 ∧ OwnH 5 .byte H w w' u0 (r)) := by
 refine Ok_enter (n := 27) [(0, .slice none 0 0), (1, .int .i64 a1)] func135 rfl rfl rfl rfl rfl ?_
 have hL := Lcl.start w
 refine W_pz 1 rfl ?_
 refine W_cut (σ := Unit) (fun (_ : Unit) => [(0, .slice none 0 0), (1, .int .i64 a1)]) (fun (_ : Unit) wr => Lcl w [] wr ∧ (slices_Grow_byte_byte_k1 a1) = some r) ?_ ?_
 ·refine W_pz 2 rfl ?_
  refine W_if rfl (fun hc7 => ?_) (fun hc7 => ?_)
  ·replace h := Go.L.ite_p hc7 h
   refine W_region ?_
   cases h
  ·replace h := Go.L.ite_n hc7 h
   refine W_skip ?_
   refine At_cut () (.cons rfl (.cons rfl (Sub.nil _))) ⟨hL, h⟩
 ·rintro _ wr5 ⟨hL5, h⟩
  refine W_seq ?_
  refine W_p 2 rfl ?_
  refine S_v (r_cap rfl underlying35) rfl ?_
  refine S_pu 1 rfl ?_
  refine S_v (r_lenH rfl underlying35) rfl ?_
  obtain ⟨hk11, h⟩ := Go.L.chk_some h
  refine S_v (r_ar64 rfl rfl rfl hk11) rfl ?_
  obtain ⟨hk12, h⟩ := Go.L.chk_some h
  refine S_v (r_ar64 rfl rfl rfl hk12) rfl ?_
  refine S_pz 1 rfl ?_
  refine W_pz 2 rfl ?_
  refine W_if rfl (fun hc13 => ?_) (fun hc13 => ?_)
  ·replace h := Go.L.ite_p hc13 h
   refine W_region ?_
   refine S_pu 2 rfl ?_
   refine S_v (r_cap rfl underlying35) rfl ?_
   refine S_v (r_sliceNil rfl rfl underlying35 zr5) rfl ?_
   refine S_pu 1 rfl ?_
   obtain ⟨hk16, h⟩ := Go.L.chk_some h
   obtain ⟨m15, hm15⟩ := Int.eq_ofNat_of_zero_le (show 0 ≤ (a1 - ((0 : Int) - (0 : Int))) by omega)
   refine S_growZ (k := .i64) (m := m15) rfl (by rw [← hm15]; rfl) underlying35 underlying3 zr5 rfl rfl (by omega) (by omega) (by omega) ?_
   intro g15 cap15 cur15 w15 hx15 hg15 hh15 hc15 hs15
   refine S_pu 1 rfl ?_
   refine S_v (r_lenH rfl underlying35) rfl ?_
   refine S_v (r_cut0 rfl rfl underlying35 zr5) rfl ?_
   obtain ⟨hL15, hle15⟩ := row_new (v := .slice (some ⟨g15, 0, none⟩) 0 cap15) (e := 5) (sz := 1) (m := 0) (xs := []) hL5 hx15 ⟨rfl, .inr ⟨g15, cap15, cur15, rfl, hg15, hh15, Nat.zero_le _, hc15, by rw [hs15, Nat.mul_one], rfl⟩⟩
   refine S_pu 1 rfl ?_
   refine S_nil ?_
   refine At_seq ?_
   refine W_pz 2 rfl ?_
   refine W_ret ?_
   obtain rfl := Option.some.inj h
   refine At_body rfl rfl ?_
   exact ⟨hL15.ext, _, rfl, (hL15.ownH hH (i := 0) rfl .nil)⟩
  ·replace h := Go.L.ite_n hc13 h
   refine W_skip ?_
   refine At_seq ?_
   refine W_pz 2 rfl ?_
   refine W_ret ?_
   obtain rfl := Option.some.inj h
   refine At_body rfl rfl ?_
   exact ⟨hL5.ext, _, rfl, OwnH.nil⟩
noncomputable def slices_Concat_byte_byte_k3 (l57 : List UInt8) : Option ((List UInt8)) :=
 some (l57)
noncomputable def slices_Concat_byte_byte_bl4 (a0 : List (List UInt8)) : (List UInt8) × Int → Option (((List UInt8) × Int) ⊕ ((List UInt8))) := fun ⟨l69, s27_70⟩ =>
 if s27_70 < (a0.length : Int) then Go.L.chk (0 ≤ s27_70 ∧ s27_70 < (a0.length : Int)) (Go.L.chk (Go.E.Cap 1 (l69.length + (a0.getD s27_70.toNat default).length)) (Go.L.chk (Go.L.I64 (s27_70 + (1 : Int))) (some (Sum.inl ((l69 ++ a0.getD s27_70.toNat default), (s27_70 + (1 : Int))))))) else Option.map Sum.inr (slices_Concat_byte_byte_k3 l69)
noncomputable def slices_Concat_byte_byte_l4 (a0 : List (List UInt8)) (s : (List UInt8) × Int) : Option ((List UInt8)) := Go.L.run (slices_Concat_byte_byte_bl4 a0) s
noncomputable def slices_Concat_byte_byte_k1 (a0 : List (List UInt8)) (s3_15 : Int) : Option ((List UInt8)) :=
 Option.bind (slices_Grow_byte_byte ([]) s3_15) (fun x44 => (slices_Concat_byte_byte_l4 a0) (x44, (0 : Int)))
noncomputable def slices_Concat_byte_byte_bl2 (a0 : List (List UInt8)) : Int × Int → Option ((Int × Int) ⊕ ((List UInt8))) := fun ⟨s3_29, s11_30⟩ =>
 if s11_30 < (a0.length : Int) then Go.L.chk (0 ≤ s11_30 ∧ s11_30 < (a0.length : Int)) (Go.L.chk (Go.L.I64 (s3_29 + ((a0.getD s11_30.toNat default).length : Int))) (if (s3_29 + ((a0.getD s11_30.toNat default).length : Int)) < (0 : Int) then none else Go.L.chk (Go.L.I64 (s11_30 + (1 : Int))) (some (Sum.inl ((s3_29 + ((a0.getD s11_30.toNat default).length : Int)), (s11_30 + (1 : Int))))))) else Option.map Sum.inr ((slices_Concat_byte_byte_k1 a0) s3_29)
noncomputable def slices_Concat_byte_byte_l2 (a0 : List (List UInt8)) (s : Int × Int) : Option ((List UInt8)) := Go.L.run (slices_Concat_byte_byte_bl2 a0) s
noncomputable def slices_Concat_byte_byte (a0 : List (List UInt8)) : Option ((List UInt8)) :=
 (slices_Concat_byte_byte_l2 a0) ((0 : Int), (0 : Int))
theorem slices_Concat_byte_byte_ok (w : World) (H : PH) (hH : Le H (hp w)) {a0 : List (List UInt8)} {v0_0 : Value} (h0_0 : Vec (.vec .byte) H v0_0 (a0)) {r : (List UInt8)} (h : slices_Concat_byte_byte a0 = some r) :
  Ok Tryz.prog 108 [v0_0] w (fun v w' => Ext w w' ∧ ∃ u0, v = u0 ∧ OwnH 5 .byte H w w' u0 (r)) := by
 refine Ok_enter (n := 36) [(0, v0_0)] func108 rfl rfl rfl rfl rfl ?_
 have hL := Lcl.start w
 refine W_pz 1 rfl ?_
 refine W_pz 1 rfl ?_
 refine W_cut (σ := Int) (fun s3_15 => [(0, v0_0), (3, .int .i64 s3_15)]) (fun s3_15 wr => Lcl w [] wr ∧ (slices_Concat_byte_byte_k1 a0) s3_15 = some r) ?_ ?_
 ·refine W_p 1 rfl ?_
  refine S_v (r_len rfl underlying178 h0_0) rfl ?_
  refine S_pz 1 rfl ?_
  refine W_block ?_
  obtain ⟨n31, h⟩ := Go.L.run_some h
  refine W_loop (σ := Int × Int × Nat) (fun ⟨s3_29, s11_30, n⟩ => [(0, v0_0), (3, .int .i64 s3_29), (9, v0_0), (10, .int .i64 (a0.length : Int)), (11, .int .i64 s11_30)]) (fun ⟨s3_29, s11_30, n⟩ wr => Lcl w [] wr ∧ Go.L.itr (slices_Concat_byte_byte_bl2 a0) n (s3_29, s11_30) = some r) (fun ⟨s3_29, s11_30, n⟩ => n) ((0 : Int), (0 : Int), n31) (.cons rfl (.cons rfl (.cons rfl (.cons rfl (.cons rfl (Sub.nil _)))))) ⟨hL, h⟩ ?_
  rintro ⟨s3_29, s11_30, nn31⟩ wr31 ⟨hL31, h⟩
  obtain ⟨n31, e31, rfl, h, hm31⟩ := Go.L.itr_some h
  refine W_pz 1 rfl ?_
  refine W_seq ?_
  refine W_if rfl (fun hc33 => ?_) (fun hc33 => ?_)
  ·replace h := Go.L.ite_p hc33 h
   refine W_skip ?_
   refine At_seq ?_
   refine W_seq ?_
   refine W_block ?_
   refine W_seqr ?_
   obtain ⟨hk36, h⟩ := Go.L.chk_some h
   refine S_index rfl rfl underlying178 zr35 h0_0 s11_30.toNat (Int.toNat_of_nonneg hk36.1).symm (idx_lt hk36) rfl ?_
   rintro p35 _ ⟨e35v0, rfl, e35h0⟩ hp35
   refine S_v (r_load1 rfl underlying35 rfl hp35 (hH.trans hL31.arg)) rfl ?_
   refine S_pz 1 rfl ?_
   refine W_p 2 rfl ?_
   refine S_v (r_len rfl underlying35 e35h0) rfl ?_
   obtain ⟨hk37, h⟩ := Go.L.chk_some h
   refine S_v (r_ar64 rfl rfl rfl hk37) rfl ?_
   refine S_pz 1 rfl ?_
   refine W_pz 2 rfl ?_
   refine W_if rfl (fun hc38 => ?_) (fun hc38 => ?_)
   ·replace h := Go.L.ite_p hc38 h
    refine W_region ?_
    cases h
   ·replace h := Go.L.ite_n hc38 h
    refine W_skip ?_
    refine At_block ?_
    refine At_seq ?_
    refine W_region ?_
    obtain ⟨hk41, h⟩ := Go.L.chk_some h
    refine S_v (r_ar64 rfl rfl rfl hk41) rfl ?_
    refine S_pu 1 rfl ?_
    refine S_nil ?_
    have h := Go.L.Nxt.again h hm31
    refine At_round ((s3_29 + ((a0.getD s11_30.toNat default).length : Int)), (s11_30 + (1 : Int)), n31) (.cons rfl (.cons rfl (.cons rfl (.cons rfl (.cons rfl (Sub.nil _)))))) ⟨hL31, h⟩ (Nat.lt_succ_self _)
  ·replace h := Go.L.ite_n hc33 h
   refine W_exit ?_
   refine At_seq_exit ?_
   refine At_loop_exit ?_
   replace h := Go.L.Nxt.out h hm31
   refine At_exit ?_
   refine At_cut s3_29 (.cons rfl (.cons rfl (Sub.nil _))) ⟨hL31, h⟩
 ·rintro s3_15 wr16 ⟨hL16, h⟩
  refine W_p 1 rfl ?_
  obtain ⟨x44, hb44, h⟩ := Go.L.bind_some h
  refine S_callL rfl rfl hL16 (slices_Grow_byte_byte_ok _ _ (gz_le hH hL16) (Vec.nil _ _) hb44) ?_
  rintro u45_0 w45 ⟨_, rfl, hR45_0⟩ hx45 hL45 hle45
  obtain ⟨xs45, hL45, hle45, he45⟩ := hR45_0.take hH hL16 hx45
  refine S_pz 1 rfl ?_
  refine W_cut (σ := (List UInt8) × Value × (List Value)) (fun ⟨l57, vl57, xsl57⟩ => [(6, vl57)]) (fun ⟨l57, vl57, xsl57⟩ wr => InO w [.row (vl57) 5 1 (l57).length (xsl57)] wr fun Oz => Elems .byte (gz H w wr Oz) (l57) (xsl57) ∧ slices_Concat_byte_byte_k3 l57 = some r) ?_ ?_
  ·refine W_p 1 rfl ?_
   refine S_v (r_len rfl underlying178 h0_0) rfl ?_
   refine S_pz 1 rfl ?_
   refine W_block ?_
   obtain ⟨n71, h⟩ := Go.L.run_some h
   refine W_loop (σ := (List UInt8) × Int × Value × (List Value) × Nat) (fun ⟨l69, s27_70, vl69, xsl69, n⟩ => [(6, vl69), (25, v0_0), (26, .int .i64 (a0.length : Int)), (27, .int .i64 s27_70)]) (fun ⟨l69, s27_70, vl69, xsl69, n⟩ wr => InO w [.row (vl69) 5 1 (l69).length (xsl69)] wr fun Oz => Elems .byte (gz H w wr Oz) (l69) (xsl69) ∧ Go.L.itr (slices_Concat_byte_byte_bl4 a0) n (l69, s27_70) = some r) (fun ⟨l69, s27_70, vl69, xsl69, n⟩ => n) (x44, (0 : Int), u45_0, xs45, n71) (.cons rfl (.cons rfl (.cons rfl (.cons rfl (Sub.nil _))))) ⟨hL45, he45, h⟩ ?_
   rintro ⟨l69, s27_70, vl69, xsl69, nn71⟩ wr71 ⟨hL71, hel69, h⟩
   obtain ⟨n71, e71, rfl, h, hm71⟩ := Go.L.itr_some h
   refine W_pz 1 rfl ?_
   refine W_seq ?_
   refine W_if rfl (fun hc73 => ?_) (fun hc73 => ?_)
   ·replace h := Go.L.ite_p hc73 h
    refine W_skip ?_
    refine At_seq ?_
    refine W_seq ?_
    refine W_block ?_
    refine W_seqr ?_
    obtain ⟨hk76, h⟩ := Go.L.chk_some h
    refine S_index rfl rfl underlying178 zr35 h0_0 s27_70.toNat (Int.toNat_of_nonneg hk76.1).symm (idx_lt hk76) rfl ?_
    rintro p75 _ ⟨e75v0, rfl, e75h0⟩ hp75
    refine S_v (r_load1 rfl underlying35 rfl hp75 (hH.trans hL71.arg)) rfl ?_
    refine S_pz 1 rfl ?_
    refine W_region ?_
    refine S_pu 2 rfl ?_
    obtain ⟨hk78, h⟩ := Go.L.chk_some h
    refine S_appE (r := .byte) (l := l69) (m := a0.getD s27_70.toNat default) 0 rfl rfl underlying35 zr5 rfl (by decide) rfl hH hL71 rfl hel69 (e75h0.mono (gz_left hH)) hk78 ?_
    intro v77 w77 xs77 hL77 hle77 he77
    refine S_pu 1 rfl ?_
    refine S_nil ?_
    refine At_block ?_
    refine At_seq ?_
    refine W_region ?_
    obtain ⟨hk79, h⟩ := Go.L.chk_some h
    refine S_v (r_ar64 rfl rfl rfl hk79) rfl ?_
    refine S_pu 1 rfl ?_
    refine S_nil ?_
    have h := Go.L.Nxt.again h hm71
    refine At_round ((l69 ++ a0.getD s27_70.toNat default), (s27_70 + (1 : Int)), v77, xs77, n71) (.cons rfl (.cons rfl (.cons rfl (.cons rfl (Sub.nil _))))) ⟨hL77, he77, h⟩ (Nat.lt_succ_self _)
   ·replace h := Go.L.ite_n hc73 h
    refine W_exit ?_
    refine At_seq_exit ?_
    refine At_loop_exit ?_
    replace h := Go.L.Nxt.out h hm71
    refine At_exit ?_
    refine At_cut (l69, vl69, xsl69) (.cons rfl (Sub.nil _)) ⟨hL71, hel69, h⟩
  ·rintro ⟨l57, vl57, xsl57⟩ wr58 ⟨hL58, hel57, h⟩
   refine W_pz 2 rfl ?_
   refine W_ret ?_
   obtain rfl := Option.some.inj h
   refine At_body rfl rfl ?_
   exact ⟨hL58.ext, _, rfl, (hL58.ownH hH (i := 0) rfl hel57)⟩
noncomputable def wslice_Number_k1 (l16 : List UInt8) : Option ((List UInt8)) :=
 some (l16)
noncomputable def wslice_Number_bl2 (a0 : List Int) : (List UInt8) × Int → Option (((List UInt8) × Int) ⊕ ((List UInt8))) := fun ⟨l30, s13_31⟩ =>
 if s13_31 < (a0.length : Int) then Go.L.chk (0 ≤ s13_31 ∧ s13_31 < (a0.length : Int)) (Option.bind (wire_Number (a0.getD s13_31.toNat default)) (fun x38 => Go.L.chk (Go.E.Cap 1 (l30.length + x38.length)) (Go.L.chk (Go.L.I64 (s13_31 + (1 : Int))) (some (Sum.inl ((l30 ++ x38), (s13_31 + (1 : Int)))))))) else Option.map Sum.inr (wslice_Number_k1 l30)
noncomputable def wslice_Number_l2 (a0 : List Int) (s : (List UInt8) × Int) : Option ((List UInt8)) := Go.L.run (wslice_Number_bl2 a0) s
noncomputable def wslice_Number (a0 : List Int) : Option ((List UInt8)) :=
 Option.bind (wire_Number (a0.length : Int)) (fun x1 => (wslice_Number_l2 a0) (x1, (0 : Int)))
theorem wslice_Number_ok (w : World) (H : PH) (hH : Le H (hp w)) {a0 : List Int} {v0_0 : Value} (h0_0 : Vec (.int .i64) H v0_0 (a0)) {r : (List UInt8)} (h : wslice_Number a0 = some r) :
  Ok Tryz.prog 110 [v0_0, .func (.func 74) #[] #[]] w (fun v w' => Ext w w' ∧ ∃ u0, v = u0 ∧ OwnH 5 .byte H w w' u0 (r)) := by
 refine Ok_enter (n := 24) [(0, v0_0), (1, .func (.func 74) #[] #[])] func110 rfl rfl rfl rfl rfl ?_
 have hL := Lcl.start w
 refine W_pz 1 rfl ?_
 refine W_p 1 rfl ?_
 refine S_v (r_len rfl underlying52 h0_0) rfl ?_
 obtain ⟨x1, hb1, h⟩ := Go.L.bind_some h
 refine S_callL rfl rfl hL (wire_Number_ok _ _ (gz_le hH hL) hb1) ?_
 rintro u2_0 w2 ⟨_, rfl, hR2_0⟩ hx2 hL2 hle2
 obtain ⟨xs2, hL2, hle2, he2⟩ := hR2_0.take hH hL hx2
 refine S_pz 1 rfl ?_
 refine W_cut (σ := (List UInt8) × Value × (List Value)) (fun ⟨l16, vl16, xsl16⟩ => [(5, vl16)]) (fun ⟨l16, vl16, xsl16⟩ wr => InO w [.row (vl16) 5 1 (l16).length (xsl16)] wr fun Oz => Elems .byte (gz H w wr Oz) (l16) (xsl16) ∧ wslice_Number_k1 l16 = some r) ?_ ?_
 ·refine W_p 1 rfl ?_
  refine S_v (r_len rfl underlying52 h0_0) rfl ?_
  refine S_pz 1 rfl ?_
  refine W_block ?_
  obtain ⟨n32, h⟩ := Go.L.run_some h
  refine W_loop (σ := (List UInt8) × Int × Value × (List Value) × Nat) (fun ⟨l30, s13_31, vl30, xsl30, n⟩ => [(1, .func (.func 74) #[] #[]), (5, vl30), (11, v0_0), (12, .int .i64 (a0.length : Int)), (13, .int .i64 s13_31)]) (fun ⟨l30, s13_31, vl30, xsl30, n⟩ wr => InO w [.row (vl30) 5 1 (l30).length (xsl30)] wr fun Oz => Elems .byte (gz H w wr Oz) (l30) (xsl30) ∧ Go.L.itr (wslice_Number_bl2 a0) n (l30, s13_31) = some r) (fun ⟨l30, s13_31, vl30, xsl30, n⟩ => n) (x1, (0 : Int), u2_0, xs2, n32) (.cons rfl (.cons rfl (.cons rfl (.cons rfl (.cons rfl (Sub.nil _)))))) ⟨hL2, he2, h⟩ ?_
  rintro ⟨l30, s13_31, vl30, xsl30, nn32⟩ wr32 ⟨hL32, hel30, h⟩
  obtain ⟨n32, e32, rfl, h, hm32⟩ := Go.L.itr_some h
  refine W_pz 1 rfl ?_
  refine W_seq ?_
  refine W_if rfl (fun hc34 => ?_) (fun hc34 => ?_)
  ·replace h := Go.L.ite_p hc34 h
   refine W_skip ?_
   refine At_seq ?_
   refine W_seq ?_
   refine W_block ?_
   refine W_seqr ?_
   obtain ⟨hk37, h⟩ := Go.L.chk_some h
   refine S_index rfl rfl underlying52 zr3 h0_0 s13_31.toNat (Int.toNat_of_nonneg hk37.1).symm (idx_lt hk37) rfl ?_
   rintro p36 _ rfl hp36
   refine S_v (r_load1 rfl underlying3 rfl hp36 (hH.trans hL32.arg)) rfl ?_
   refine S_pz 1 rfl ?_
   refine W_region ?_
   refine S_pu 3 rfl ?_
   obtain ⟨x38, hb38, h⟩ := Go.L.bind_some h
   refine S_callwL rfl rfl rfl hL32 (wire_Number_ok _ _ (gz_le hH hL32) hb38) ?_
   rintro u39_0 w39 ⟨_, rfl, hR39_0⟩ hx39 hL39 hle39
   have hv39_0 := hR39_0.vecG hH hL32 hx39
   replace hel30 := hel30.mono (gz_mono hH hle39)
   obtain ⟨hk41, h⟩ := Go.L.chk_some h
   refine S_appE (r := .byte) (l := l30) (m := x38) 0 rfl rfl underlying35 zr5 rfl (by decide) rfl hH hL39 rfl hel30 hv39_0 hk41 ?_
   intro v40 w40 xs40 hL40 hle40 he40
   replace hv39_0 := hv39_0.mono (gz_mono hH hle40)
   refine S_pu 1 rfl ?_
   refine S_nil ?_
   refine At_block ?_
   refine At_seq ?_
   refine W_region ?_
   obtain ⟨hk42, h⟩ := Go.L.chk_some h
   refine S_v (r_ar64 rfl rfl rfl hk42) rfl ?_
   refine S_pu 1 rfl ?_
   refine S_nil ?_
   have h := Go.L.Nxt.again h hm32
   refine At_round ((l30 ++ x38), (s13_31 + (1 : Int)), v40, xs40, n32) (.cons rfl (.cons rfl (.cons rfl (.cons rfl (.cons rfl (Sub.nil _)))))) ⟨hL40, he40, h⟩ (Nat.lt_succ_self _)
  ·replace h := Go.L.ite_n hc34 h
   refine W_exit ?_
   refine At_seq_exit ?_
   refine At_loop_exit ?_
   replace h := Go.L.Nxt.out h hm32
   refine At_exit ?_
   refine At_cut (l30, vl30, xsl30) (.cons rfl (Sub.nil _)) ⟨hL32, hel30, h⟩
 ·rintro ⟨l16, vl16, xsl16⟩ wr17 ⟨hL17, hel16, h⟩
  refine W_pz 2 rfl ?_
  refine W_ret ?_
  obtain rfl := Option.some.inj h
  refine At_body rfl rfl ?_
  exact ⟨hL17.ext, _, rfl, (hL17.ownH hH (i := 0) rfl hel16)⟩
end Go.Proofs.YtmfiaecglndldaaGreatDoor
end
