/- Texts of a claim, merged. -/
import Derived.Test.YtmfiaecglndldaaGreatDoorKa5
import Derived.KernelRfl
import Derived.Shelf.Sort.Plain
import Derived.Shelf.Slices.In.SortNone
import Derived.Shelf.Slices.CompactI
import Derived.Shelf.Slices.CompactS
import Derived.Shelf.SlSortCmp.NoneTotal
import Derived.Maps.RangeRun
set_option linter.unusedVariables false
set_option linter.unusedSimpArgs false
section
namespace Go.Proofs.YtmfiaecglndldaaGreatDoor
open Go Go.E Go.RowKit
set_option maxHeartbeats 1000000
set_option maxRecDepth 10000
open _root_.Go.Proofs.Tryz
noncomputable def shapes_Paths_1 (a0 : (List UInt8) × Int × Int × (List UInt8)) (a1 : List (List UInt8)) : Option ((List (List UInt8))) :=
 Go.L.chk (Go.E.Cap 16 (a1.length + ([a0.1]).length)) (some ((a1 ++ [a0.1])))
theorem shapes_Paths_1_fr {w0 w : World} {H : PH} (hH : Le H (hp w0)) {O : List Res} {a0 : (List UInt8) × Int × Int × (List UInt8)} {a1 : List (List UInt8)} {ba1 : Nat} {va1_0 : Value} {xsa1_0 : List Value} (hL : Lcl w0 (HAppend.hAppend ([.box ba1 [va1_0] 30, .row (va1_0) 9 1 (a1).length (xsa1_0)] : List Res) O) w) (hea1_0 : Elems .st (gz H w0 w (HAppend.hAppend ([.box ba1 [va1_0] 30, .row (va1_0) 9 1 (a1).length (xsa1_0)] : List Res) O)) (a1) xsa1_0) {r : (List (List UInt8))} (h : shapes_Paths_1 a0 a1 = some r) :
  Ok Tryz.prog 52 [.agg #[.string ⟨(a0.1).toArray⟩, .int .i64 a0.2.1, .int .i64 a0.2.2.1, .string ⟨(a0.2.2.2).toArray⟩], .pointer (some ⟨ba1, 0, none⟩)] w (fun v w' => ∃ (u0 : Value) (y0 : List Value), v = .tuple #[] ∧ Lcl w0 (HAppend.hAppend ([.box ba1 [u0] 30, .row u0 9 1 (r).length y0] : List Res) O) w' ∧ Le (fz w (HAppend.hAppend ([.box ba1 [va1_0] 30, .row (va1_0) 9 1 (a1).length (xsa1_0)] : List Res) O)) (fz w' (HAppend.hAppend ([.box ba1 [u0] 30, .row u0 9 1 (r).length y0] : List Res) O)) ∧ Elems .st (gz H w0 w' (HAppend.hAppend ([.box ba1 [u0] 30, .row u0 9 1 (r).length y0] : List Res) O)) (r) y0) := by
 refine Ok_enter (n := 8) [(0, .agg #[.string ⟨(a0.1).toArray⟩, .int .i64 a0.2.1, .int .i64 a0.2.2.1, .string ⟨(a0.2.2.2).toArray⟩]), (1, .pointer (some ⟨ba1, 0, none⟩))] func52 rfl rfl rfl rfl rfl ?_
 have hT := Le.refl (fz w (HAppend.hAppend ([.box ba1 [va1_0] 30, .row (va1_0) 9 1 (a1).length (xsa1_0)] : List Res) O))
 refine W_seqr ?_
 refine S_box (t := 84) rfl rfl rfl hL ?_
 intro w1 b1 hL1 hle1 _
 replace hea1_0 := hea1_0.mono (gz_mono hH hle1)
 replace hT := hT.trans hle1
 refine S_seqnil ?_
 refine W_region ?_
 refine S_v (r_loadB1 1 rfl underlying30 rfl hL1 rfl rfl) rfl ?_
 refine S_v (r_field rfl underlying84 rfl zr9 (by decide)) rfl ?_
 refine S_v (r_loadB1 0 rfl underlying9 rfl hL1 rfl rfl) rfl ?_
 refine S_litE (r := .st) (l := [a0.1]) rfl (fun _ => bsl30_1 _ rfl _) rfl (show 1 ≤ 9223372036854775807 by decide) hH hL1 (.c1 rfl .nil) ?_
 intro v2 w2 hx2 hL2 hle2 hv2
 replace hea1_0 := hea1_0.mono (gz_mono hH hle2)
 replace hT := hT.trans hle2
 obtain ⟨hk4, h⟩ := Go.L.chk_some h
 refine S_appE (r := .st) (l := a1) (m := [a0.1]) 2 rfl rfl underlying30 zr9 rfl (by decide) rfl hH hL2 rfl hea1_0 hv2 hk4 ?_
 intro v3 w3 xs3 hL3 hle3 he3
 replace hv2 := hv2.mono (gz_mono hH hle3)
 replace hT := hT.trans hle3
 refine S_storeB1 1 rfl rfl (row_one (hL3.at (i := 2) rfl)) zr30 hL3 rfl rfl ?_
 intro w5 hL5 hle5
 replace hv2 := hv2.mono (gz_mono hH hle5)
 replace he3 := he3.mono (gz_mono hH hle5)
 replace hT := hT.trans hle5
 refine S_nil ?_
 obtain rfl := Option.some.inj h
 refine At_got0e rfl ?_
 have hL6 := hL5.dropAt (i := 0) rfl
 replace hv2 := hv2.mono (gz_mono hH (fz_dropAt (i := 0) rfl))
 replace he3 := he3.mono (gz_mono hH (fz_dropAt (i := 0) rfl))
 replace hT := hT.trans (fz_dropAt (i := 0) rfl)
 exact ⟨v3, xs3, rfl, hL6, hT, he3⟩
end Go.Proofs.YtmfiaecglndldaaGreatDoor
end
section
namespace Go.Proofs.YtmfiaecglndldaaGreatDoor
open Go Go.E Go.RowKit
set_option maxHeartbeats 1000000
set_option maxRecDepth 10000
open _root_.Go.Proofs.Tryz
noncomputable def internal_bytealg_CompareString (a0 : List UInt8) (a1 : List UInt8) : Option (Int) :=
 some ((Lib.compareBytes a0 a1))
theorem internal_bytealg_CompareString_ok [Dr] (w : World) (H : PH) (_hH : Le H (hp w)) {a0 : List UInt8} {a1 : List UInt8}   {r : Int} (h : internal_bytealg_CompareString a0 a1 = some r) :
  Ok Tryz.prog 133 [.string ⟨(a0).toArray⟩, .string ⟨(a1).toArray⟩] w (fun v w' => Ext w w' ∧ v = .int .i64 r) := by
 refine Ok_enter (n := 8) [(0, .string ⟨(a0).toArray⟩), (1, .string ⟨(a1).toArray⟩)] func133 rfl rfl rfl rfl rfl ?_
 have hL := Lcl.start w
 refine W_pz 1 rfl ?_
 refine W_p 2 rfl ?_
 refine S_v (r_scmp func166 rfl rfl (by kernel_rfl) (by kernel_rfl) rfl rfl) rfl ?_
 refine S_pz 1 rfl ?_
 refine W_ret ?_
 obtain rfl := Option.some.inj h
 refine At_body rfl rfl ?_
 exact ⟨hL.ext, rfl⟩
noncomputable def strings_Compare (a0 : List UInt8) (a1 : List UInt8) : Option (Int) :=
 Option.bind (internal_bytealg_CompareString a0 a1) (fun x1 => some (x1))
theorem strings_Compare_ok [Dr] (w : World) (H : PH) (hH : Le H (hp w)) {a0 : List UInt8} {a1 : List UInt8}   {r : Int} (h : strings_Compare a0 a1 = some r) :
  Ok Tryz.prog 106 [.string ⟨(a0).toArray⟩, .string ⟨(a1).toArray⟩] w (fun v w' => Ext w w' ∧ v = .int .i64 r) := by
 refine Ok_enter (n := 8) [(0, .string ⟨(a0).toArray⟩), (1, .string ⟨(a1).toArray⟩)] func106 rfl rfl rfl rfl rfl ?_
 have hL := Lcl.start w
 refine W_pz 1 rfl ?_
 refine W_p 2 rfl ?_
 obtain ⟨x1, hb1, h⟩ := Go.L.bind_some h
 refine S_callL rfl rfl hL (internal_bytealg_CompareString_ok _ _ (gz_le hH hL) hb1) ?_
 rintro _ w2 rfl hx2 hL2 hle2
 refine S_pz 1 rfl ?_
 refine W_ret ?_
 obtain rfl := Option.some.inj h
 refine At_body rfl rfl ?_
 exact ⟨hL2.ext, rfl⟩
noncomputable def cmp_isNaN_int (a0 : Int) : Option (Bool) :=
 some (!decide (a0 = a0))
theorem cmp_isNaN_int_ok [Dr] (w : World) (H : PH) (_hH : Le H (hp w)) {a0 : Int}   {r : Bool} (h : cmp_isNaN_int a0 = some r) :
  Ok Tryz.prog 134 [.int .i64 a0] w (fun v w' => Ext w w' ∧ v = .bool r) := by
 refine Ok_enter (n := 6) [(0, .int .i64 a0)] func134 rfl rfl rfl rfl rfl ?_
 have hL := Lcl.start w
 refine W_pz 1 rfl ?_
 refine W_pz 4 rfl ?_
 refine W_ret ?_
 obtain rfl := Option.some.inj h
 refine At_body rfl rfl ?_
 exact ⟨hL.ext, rfl⟩
noncomputable def cmp_Compare_int (a0 : Int) (a1 : Int) : Option (Int) :=
 Option.bind (cmp_isNaN_int a0) (fun x1 => Option.bind (cmp_isNaN_int a1) (fun x3 => if x1 then (if x3 then some ((0 : Int)) else some ((-1 : Int))) else (if x3 then some ((1 : Int)) else (if a0 < a1 then some ((-1 : Int)) else (if a1 < a0 then some ((1 : Int)) else some ((0 : Int)))))))
theorem cmp_Compare_int_ok [Dr] (w : World) (H : PH) (hH : Le H (hp w)) {a0 : Int} {a1 : Int}   {r : Int} (h : cmp_Compare_int a0 a1 = some r) :
  Ok Tryz.prog 107 [.int .i64 a0, .int .i64 a1] w (fun v w' => Ext w w' ∧ v = .int .i64 r) := by
 refine Ok_enter (n := 20) [(0, .int .i64 a0), (1, .int .i64 a1)] func107 rfl rfl rfl rfl rfl ?_
 have hL := Lcl.start w
 refine W_pz 1 rfl ?_
 refine W_p 1 rfl ?_
 obtain ⟨x1, hb1, h⟩ := Go.L.bind_some h
 refine S_callL rfl rfl hL (cmp_isNaN_int_ok _ _ (gz_le hH hL) hb1) ?_
 rintro _ w2 rfl hx2 hL2 hle2
 refine S_pz 1 rfl ?_
 refine W_p 1 rfl ?_
 obtain ⟨x3, hb3, h⟩ := Go.L.bind_some h
 refine S_callL rfl rfl hL2 (cmp_isNaN_int_ok _ _ (gz_le hH hL2) hb3) ?_
 rintro _ w4 rfl hx4 hL4 hle4
 refine S_pz 1 rfl ?_
 refine W_seq ?_
 refine W_pz 1 rfl ?_
 refine W_cond rfl (fun hc5 => ?_) (fun hc5 => ?_)
 ·replace h := Go.L.ite_t hc5 h
  refine W_seq ?_
  refine W_pz 1 rfl ?_
  refine W_cond rfl (fun hc7 => ?_) (fun hc7 => ?_)
  ·replace h := Go.L.ite_t hc7 h
   refine W_pz 1 rfl ?_
   refine W_ret ?_
   iterate 2 refine At_seq_ret ?_
   obtain rfl := Option.some.inj h
   refine At_body rfl rfl ?_
   exact ⟨hL4.ext, rfl⟩
  ·replace h := Go.L.ite_f hc7 h
   refine W_skip ?_
   refine At_seq ?_
   refine W_pz 1 rfl ?_
   refine W_ret ?_
   refine At_seq_ret ?_
   obtain rfl := Option.some.inj h
   refine At_body rfl rfl ?_
   exact ⟨hL4.ext, rfl⟩
 ·replace h := Go.L.ite_f hc5 h
  refine W_skip ?_
  refine At_seq ?_
  refine W_seq ?_
  refine W_pz 1 rfl ?_
  refine W_cond rfl (fun hc11 => ?_) (fun hc11 => ?_)
  ·replace h := Go.L.ite_t hc11 h
   refine W_pz 1 rfl ?_
   refine W_ret ?_
   refine At_seq_ret ?_
   obtain rfl := Option.some.inj h
   refine At_body rfl rfl ?_
   exact ⟨hL4.ext, rfl⟩
  ·replace h := Go.L.ite_f hc11 h
   refine W_skip ?_
   refine At_seq ?_
   refine W_seq ?_
   refine W_pz 3 rfl ?_
   refine W_if rfl (fun hc14 => ?_) (fun hc14 => ?_)
   ·replace h := Go.L.ite_p hc14 h
    refine W_pz 1 rfl ?_
    refine W_ret ?_
    refine At_seq_ret ?_
    obtain rfl := Option.some.inj h
    refine At_body rfl rfl ?_
    exact ⟨hL4.ext, rfl⟩
   ·replace h := Go.L.ite_n hc14 h
    refine W_skip ?_
    refine At_seq ?_
    refine W_seq ?_
    refine W_pz 3 rfl ?_
    refine W_if rfl (fun hc17 => ?_) (fun hc17 => ?_)
    ·replace h := Go.L.ite_p hc17 h
     refine W_pz 1 rfl ?_
     refine W_ret ?_
     refine At_seq_ret ?_
     obtain rfl := Option.some.inj h
     refine At_body rfl rfl ?_
     exact ⟨hL4.ext, rfl⟩
    ·replace h := Go.L.ite_n hc17 h
     refine W_skip ?_
     refine At_seq ?_
     refine W_pz 1 rfl ?_
     refine W_ret ?_
     obtain rfl := Option.some.inj h
     refine At_body rfl rfl ?_
     exact ⟨hL4.ext, rfl⟩
noncomputable def cmp_Or_int_k1 : Option (Int) :=
 some ((0 : Int))
noncomputable def cmp_Or_int_bl2 (a0 : List Int) : Int → Option ((Int) ⊕ (Int)) := fun s8_25 =>
 if s8_25 < (a0.length : Int) then Go.L.chk (0 ≤ s8_25 ∧ s8_25 < (a0.length : Int)) (if a0.getD s8_25.toNat default = (0 : Int) then Go.L.chk (Go.L.I64 (s8_25 + (1 : Int))) (some (Sum.inl (s8_25 + (1 : Int)))) else Option.map Sum.inr (some (a0.getD s8_25.toNat default))) else Option.map Sum.inr (cmp_Or_int_k1)
noncomputable def cmp_Or_int_l2 (a0 : List Int) (s : Int) : Option (Int) := Go.L.run (cmp_Or_int_bl2 a0) s
noncomputable def cmp_Or_int (a0 : List Int) : Option (Int) :=
 (cmp_Or_int_l2 a0) (0 : Int)
theorem cmp_Or_int_ok [Dr] (w : World) (H : PH) (hH : Le H (hp w)) {a0 : List Int} {v0_0 : Value} (h0_0 : Vec (.int .i64) H v0_0 (a0)) {r : Int} (h : cmp_Or_int a0 = some r) :
  Ok Tryz.prog 105 [v0_0] w (fun v w' => Ext w w' ∧ v = .int .i64 r) := by
 refine Ok_enter (n := 18) [(0, v0_0)] func105 rfl rfl rfl rfl rfl ?_
 have hL := Lcl.start w
 refine W_pz 1 rfl ?_
 refine W_pz 1 rfl ?_
 refine W_cut (σ := Unit) (fun (_ : Unit) => [(3, .int .i64 (0 : Int))]) (fun (_ : Unit) wr => Lcl w [] wr ∧ cmp_Or_int_k1 = some r) ?_ ?_
 ·refine W_p 1 rfl ?_
  refine S_v (r_len rfl underlying52 h0_0) rfl ?_
  refine S_pz 1 rfl ?_
  refine W_block ?_
  obtain ⟨n26, h⟩ := Go.L.run_some h
  refine W_loop (σ := Int × Nat) (fun ⟨s8_25, n⟩ => [(3, .int .i64 (0 : Int)), (6, v0_0), (7, .int .i64 (a0.length : Int)), (8, .int .i64 s8_25)]) (fun ⟨s8_25, n⟩ wr => Lcl w [] wr ∧ Go.L.itr (cmp_Or_int_bl2 a0) n s8_25 = some r) (fun ⟨s8_25, n⟩ => n) ((0 : Int), n26) (.cons rfl (.cons rfl (.cons rfl (.cons rfl (Sub.nil _))))) ⟨hL, h⟩ ?_
  rintro ⟨s8_25, nn26⟩ wr26 ⟨hL26, h⟩
  obtain ⟨n26, e26, rfl, h, hm26⟩ := Go.L.itr_some h
  refine W_pz 1 rfl ?_
  refine W_seq ?_
  refine W_if rfl (fun hc28 => ?_) (fun hc28 => ?_)
  ·replace h := Go.L.ite_p hc28 h
   refine W_skip ?_
   refine At_seq ?_
   refine W_seq ?_
   refine W_block ?_
   refine W_seqr ?_
   obtain ⟨hk31, h⟩ := Go.L.chk_some h
   refine S_index rfl rfl underlying52 zr3 h0_0 s8_25.toNat (Int.toNat_of_nonneg hk31.1).symm (idx_lt hk31) rfl ?_
   rintro p30 _ rfl hp30
   refine S_v (r_load1 rfl underlying3 rfl hp30 (hH.trans hL26.arg)) rfl ?_
   refine S_pz 1 rfl ?_
   refine W_pz 3 rfl ?_
   refine W_ifn rfl (fun hc32 => ?_) (fun hc32 => ?_)
   ·replace h := Go.L.ite_n hc32 h
    refine W_pz 2 rfl ?_
    refine W_ret ?_
    refine At_block_ret ?_
    refine At_seq_ret ?_
    refine At_loop_ret ?_
    replace h := Go.L.Nxt.out h hm26
    refine At_block_ret ?_
    refine At_cut_ret ?_
    obtain rfl := Option.some.inj h
    refine At_body rfl rfl ?_
    exact ⟨hL26.ext, rfl⟩
   ·replace h := Go.L.ite_p hc32 h
    refine W_skip ?_
    refine At_block ?_
    refine At_seq ?_
    refine W_region ?_
    obtain ⟨hk35, h⟩ := Go.L.chk_some h
    refine S_v (r_ar64 rfl rfl rfl hk35) rfl ?_
    refine S_pu 1 rfl ?_
    refine S_nil ?_
    have h := Go.L.Nxt.again h hm26
    refine At_round ((s8_25 + (1 : Int)), n26) (.cons rfl (.cons rfl (.cons rfl (.cons rfl (Sub.nil _))))) ⟨hL26, h⟩ (Nat.lt_succ_self _)
  ·replace h := Go.L.ite_n hc28 h
   refine W_exit ?_
   refine At_seq_exit ?_
   refine At_loop_exit ?_
   replace h := Go.L.Nxt.out h hm26
   refine At_exit ?_
   refine At_cut () (.cons rfl (Sub.nil _)) ⟨hL26, h⟩
 ·rintro _ wr13 ⟨hL13, h⟩
  refine W_pz 2 rfl ?_
  refine W_ret ?_
  obtain rfl := Option.some.inj h
  refine At_body rfl rfl ?_
  exact ⟨hL13.ext, rfl⟩
noncomputable def shapes_leaf_compare (a0 : (List UInt8) × Int × Int × (List UInt8)) (a1 : (List UInt8) × Int × Int × (List UInt8)) : Option (Int) :=
 Option.bind (strings_Compare a0.1 a1.1) (fun x5 => Option.bind (cmp_Compare_int a0.2.1 a1.2.1) (fun x7 => Option.bind (cmp_Compare_int a0.2.2.1 a1.2.2.1) (fun x9 => Option.bind (strings_Compare a0.2.2.2 a1.2.2.2) (fun x11 => Option.bind (cmp_Or_int ([x5, x7, x9, x11])) (fun x14 => some (x14))))))
theorem shapes_leaf_compare_ok [Dr] (w : World) (H : PH) (hH : Le H (hp w)) {a0 : (List UInt8) × Int × Int × (List UInt8)} {a1 : (List UInt8) × Int × Int × (List UInt8)}   {r : Int} (h : shapes_leaf_compare a0 a1 = some r) :
  Ok Tryz.prog 72 [.agg #[.string ⟨(a0.1).toArray⟩, .int .i64 a0.2.1, .int .i64 a0.2.2.1, .string ⟨(a0.2.2.2).toArray⟩], .agg #[.string ⟨(a1.1).toArray⟩, .int .i64 a1.2.1, .int .i64 a1.2.2.1, .string ⟨(a1.2.2.2).toArray⟩]] w (fun v w' => Ext w w' ∧ v = .int .i64 r) := by
 refine Ok_enter (n := 27) [(0, .agg #[.string ⟨(a0.1).toArray⟩, .int .i64 a0.2.1, .int .i64 a0.2.2.1, .string ⟨(a0.2.2.2).toArray⟩]), (1, .agg #[.string ⟨(a1.1).toArray⟩, .int .i64 a1.2.1, .int .i64 a1.2.2.1, .string ⟨(a1.2.2.2).toArray⟩])] func72 rfl rfl rfl rfl rfl ?_
 have hL := Lcl.start w
 refine W_seqr ?_
 refine S_box (t := 84) rfl rfl rfl hL ?_
 intro w1 b1 hL1 hle1 _
 refine S_box (t := 84) rfl rfl rfl hL1 ?_
 intro w2 b2 hL2 hle2 _
 refine S_pz 1 rfl ?_
 refine W_seqd (.q 0 (.q 1 (.q 2 (.q 3 (.q 4 (.q 5 (.q 6 (.q 7 (.q 8 (.q 9 (.q 10 (.q 11 (.q 12 (.q 13 (.q 14 (.q 15 (.q 16 (.q 17 (.q 18 (.q 19 (.h 20 (.q 21 (.q 22 (.tail 23)))))))))))))))))))))))) mixed (by kernel_rfl) (fun w3 hx3 => ?_)
 have hL4 := hL2.call hx3
 refine D_v (r_field rfl underlying84 rfl zr9 (by decide)) rfl rfl ?_
 refine D_v (r_loadB1 1 rfl underlying9 rfl hL4 rfl rfl) rfl rfl ?_
 refine D_v (r_field rfl underlying84 rfl zr9 (by decide)) rfl rfl ?_
 refine D_v (r_loadB1 0 rfl underlying9 rfl hL4 rfl rfl) rfl rfl ?_
 obtain ⟨x5, hb5, h⟩ := Go.L.bind_some h
 refine D_call rfl rfl rfl (fun w6 hx6 => strings_Compare_ok _ _ (Le.refl _) hb5) ?_
 refine D_v (r_field rfl underlying84 rfl zr3 (by decide)) rfl rfl ?_
 refine D_v (r_loadB1 1 rfl underlying3 rfl hL4 rfl rfl) rfl rfl ?_
 refine D_v (r_field rfl underlying84 rfl zr3 (by decide)) rfl rfl ?_
 refine D_v (r_loadB1 0 rfl underlying3 rfl hL4 rfl rfl) rfl rfl ?_
 obtain ⟨x7, hb7, h⟩ := Go.L.bind_some h
 refine D_call rfl rfl rfl (fun w8 hx8 => cmp_Compare_int_ok _ _ (Le.refl _) hb7) ?_
 refine D_v (r_field rfl underlying84 rfl zr3 (by decide)) rfl rfl ?_
 refine D_v (r_loadB1 1 rfl underlying3 rfl hL4 rfl rfl) rfl rfl ?_
 refine D_v (r_field rfl underlying84 rfl zr3 (by decide)) rfl rfl ?_
 refine D_v (r_loadB1 0 rfl underlying3 rfl hL4 rfl rfl) rfl rfl ?_
 obtain ⟨x9, hb9, h⟩ := Go.L.bind_some h
 refine D_call rfl rfl rfl (fun w10 hx10 => cmp_Compare_int_ok _ _ (Le.refl _) hb9) ?_
 refine D_v (r_field rfl underlying84 rfl zr9 (by decide)) rfl rfl ?_
 refine D_v (r_loadB1 1 rfl underlying9 rfl hL4 rfl rfl) rfl rfl ?_
 refine D_v (r_field rfl underlying84 rfl zr9 (by decide)) rfl rfl ?_
 refine D_v (r_loadB1 0 rfl underlying9 rfl hL4 rfl rfl) rfl rfl ?_
 obtain ⟨x11, hb11, h⟩ := Go.L.bind_some h
 refine D_call rfl rfl rfl (fun w12 hx12 => strings_Compare_ok _ _ (Le.refl _) hb11) ?_
 refine D_litE (r := (.int .i64)) (l := [x5, x7, x9, x11]) rfl rfl (fun _ => bsl52_4 _ _ _ _ _) rfl (show 4 ≤ 9223372036854775807 by decide) hH hL4 (.c1 rfl (.c1 rfl (.c1 rfl (.c1 rfl .nil)))) ?_
 intro v13 w13 hx13 hL13 hle13 hv13
 obtain ⟨x14, hb14, h⟩ := Go.L.bind_some h
 refine D_call rfl rfl rfl (fun w15 hx15 => cmp_Or_int_ok _ _ (Le.refl _) ((hv13.mono (gz_le hH hL13)).mono hx15.le) hb14) ?_
 refine D_pu 1 rfl ?_
 refine D_tail (fun w16 hx16 => ?_)
 have hL17 := hL13.call hx16
 have hle17 := fz_ext hL13 hx16
 replace hv13 := hv13.mono (gz_mono hH hle17)
 refine S_seqnil ?_
 refine W_ret ?_
 obtain rfl := Option.some.inj h
 refine At_body rfl rfl ?_
 exact ⟨hL17.ext, rfl⟩
end Go.Proofs.YtmfiaecglndldaaGreatDoor
end
section
namespace Go.E
open Go Go.RowKit Go.Sort Go.Proofs Go.Shelf
theorem ext_grow [Dr] {w w' : World} (hd : Dr.on = true) (h : Ext w w') : ∃ q os, w' = grow (w.drewN q) os := by
  refine ⟨w'.drawn - w.drawn, w'.heap.extract w.heap.size w'.heap.size, ?_⟩
  have hd := h.drawn hd
  have hh : w.heap ++ w'.heap.extract w.heap.size w'.heap.size = w'.heap := by
    apply Array.ext_getElem?
    intro k
    rcases Nat.lt_or_ge k w.heap.size with hk | hk
    · rw [Array.getElem?_append_left hk, h.block k hk]
    · rw [Array.getElem?_append_right hk, Array.getElem?_extract]
      have := h.size
      split
      · congr 1; omega
      · rw [Array.getElem?_eq_none (by omega)]
  obtain ⟨heap, tape, drawn, os, output⟩ := w
  obtain ⟨heap', tape', drawn', os', output'⟩ := w'
  have h1 := h.os
  have h2 := h.tape
  have h3 := h.output
  simp only at h1 h2 h3 hd hh
  subst h1; subst h2; subst h3
  simp only [grow, World.drewN, World.mk.injEq, and_true, true_and]
  exact ⟨hh.symm, by omega⟩
section
variable {α : Type} [Inhabited α]
theorem sortWorld_heap (enc : α → Value) (w : World) (g m : Nat) (d : Array α) (os : Array Obj) (k : Nat) (hk : k < w.heap.size) : (sortWorld enc w g 0 m d os).heap[k]? = if k = g then (w.heap[k]?).map (onCells (putCells enc 0 d)) else w.heap[k]? := by
  unfold sortWorld grow putRow mapBlock Sort.ahead
  simp only
  rw [Array.getElem?_append_left (by simpa using hk), Array.getElem?_modify]
  by_cases h : g = k
  · subst h; simp
  · rw [if_neg h, if_neg (fun e => h e.symm)]
theorem sortWorld_grown (enc : α → Value) (w : World) (g m : Nat) (d : Array α) (os : Array Obj) : w.grownBy (sortWorld enc w g 0 m d os) (some g) :=
  ⟨rfl, rfl, rfl, by simp [sortWorld, grow, putRow, mapBlock, Sort.ahead], fun k hk hne => by rw [sortWorld_heap enc w g m d os k hk, if_neg (fun e => hne (by rw [e]))]⟩
theorem putCells_take (enc : α → Value) (d : Array α) (c : Array Value) (h : d.size ≤ c.size) : (putCells enc 0 d c).toList.take d.size = d.toList.map enc := by
  apply List.ext_getElem?
  intro k
  rw [List.getElem?_take]
  by_cases hk : k < d.size
  · rw [if_pos hk]
    have hkc : k < c.size := by omega
    simp [putCells, hk, hkc]
  · rw [if_neg hk, List.getElem?_eq_none (by simp; omega)]
/-- A row behind such a sort: other cells, as many. -/
theorem row_put {enc : α → Value} {w : World} {e : TypeId} {g cap n sz m : Nat} {xs : List Value} {d : Array α} {os : Array Obj} (ho : w.ownsRow 0 e sz (.slice (some ⟨g, 0, none⟩) n cap) n xs) (hl : d.size = xs.length) :
    (sortWorld enc w g 0 m d os).ownsRow 0 e sz (.slice (some ⟨g, 0, none⟩) n cap) n (d.toList.map enc) := by
  obtain ⟨h1, h2⟩ := ho
  refine ⟨by simp; omega, ?_⟩
  rcases h2 with ⟨hc, _⟩ | ⟨g', cap', cur, hv, hb, hg, hnc, hcm, hcs, htake⟩
  · cases hc
  · cases hv
    have hgl := lt_of_heap hg
    have hle : n * sz ≤ cap * sz := Nat.mul_le_mul_right _ hnc
    refine .inr ⟨g, cap, putCells enc 0 d cur, rfl, hb, ?_, hnc, hcm, by simp [putCells, hcs], ?_⟩
    · rw [sortWorld_heap enc w g m _ os g hgl, if_pos rfl, hg]
      rfl
    · have := putCells_take enc d cur (by omega)
      rw [show n * sz = d.size by omega]
      exact this
theorem row_holds {enc : α → Value} {w : World} {e : TypeId} {g cap n sz : Nat} {xs : List Value} {d : Array α} (ho : w.ownsRow 0 e sz (.slice (some ⟨g, 0, none⟩) n cap) n xs) (hd : d.toList.map enc = xs) : Holds enc w g 0 d ∧ g < w.heap.size := by
  obtain ⟨h1, h2⟩ := ho
  have hsz : d.size = xs.length := by rw [← hd]; simp
  rcases h2 with ⟨hc, _⟩ | ⟨g', cap', cur, hv, hb, hg, hnc, hcm, hcs, htake⟩
  · cases hc
  · cases hv
    have hle : n * sz ≤ cap * sz := Nat.mul_le_mul_right _ hnc
    refine ⟨fun j hj => ?_, lt_of_heap hg⟩
    constructor
    · have h4 : xs[j]? = some (enc d[j]!) := by rw [← hd]; simp [hj]
      have : cur.toList[j]? = some (enc d[j]!) := by
        rw [← htake, List.getElem?_take, if_pos (by omega)] at h4
        exact h4
      simp only [World.cell?, hg, Nat.zero_add]
      simpa using this
    · simp [World.frozen?, hg]
end
theorem row_cut {w : World} {e : TypeId} {g cap n q : Nat} {xs : List Value} (ho : w.ownsRow 0 e 1 (.slice (some ⟨g, 0, none⟩) n cap) n xs) (hq : q ≤ n) : w.ownsRow 0 e 1 (.slice (some ⟨g, 0, none⟩) q cap) q (xs.take q) := by
  obtain ⟨h1, h2⟩ := ho
  rcases h2 with ⟨hc, _⟩ | ⟨g', cap', cur, hv, hb, hg, hnc, hcm, hcs, htake⟩
  · cases hc
  · cases hv
    refine ⟨by rw [List.length_take, h1]; omega, .inr ⟨g, cap, cur, rfl, hb, hg, by omega, hcm, hcs, ?_⟩⟩
    rw [← htake, List.take_take, Nat.mul_one, Nat.mul_one, Nat.min_eq_left hq]
section
variable {P : Program} {n : Sz} {ops : Array Oper} {Q : Exit → Act → World → Prop} {L : Env} {w w0 : World} {O : List Res} {rest : List Oper} {d : Nat} {ty : TypeId} {pos : String} {af : Array Edge} {v : Value} {e : TypeId} {H : PH} {α β : Type} [Inhabited β] {r : Rp α}
/-- A call that leaves other cells in a row of the call's own, as many. -/
theorem S_putRow [Dr] {f i sz : Nat} {at_ : Array TypeId} {args : List Operand} {l l' : List α} {xs ys : List Value} {dd : Array β} {enc : β → Value} {fa : List Value} (hc : Callable P f) (ha : evl L args = some (v :: fa)) (hn : Nat.blt d n.n = true) (hL : Lcl w0 O w) (hi : nthR O i = some (.row v e sz l.length xs)) (hd : dd.toList.map enc = ys) (hl : l'.length = l.length) (hy : ys.length = xs.length) (hys : l.length = 0 → ys = xs)
    (hnil : v = .slice none 0 0 → Calls P f (v :: fa).toArray w fun e w' => e = .returned (.tuple #[]) ∧ w' = w)
    (hs : ∀ g cap, v = .slice (some ⟨g, 0, none⟩) l.length cap → l.length ≤ cap → Calls P f (v :: fa).toArray w fun e w' => e = .returned (.tuple #[]) ∧ ∃ m os, w' = sortWorld enc w g 0 m dd os)
    (h : ∀ w', Lcl w0 (setR O i (.row v e sz l'.length ys)) w' → Le (fz w O) (fz w' (setR O i (.row v e sz l'.length ys))) → S P n ops Q rest ((d, .tuple #[]) :: L) w') :
    S P n ops Q (⟨some d, .call ⟨.value (.func f), args.toArray, at_⟩, ty, pos, af, none⟩ :: rest) L w := by
  have hown : w.ownsRow 0 e sz v l.length xs := hL.at hi
  rw [hl] at h
  rcases hown.2 with ⟨hv, hn0⟩ | ⟨g0, cap, cur, hv, hb0, hg0, hnc, _⟩
  · refine S_op rfl fun a fr => ?_
    unfold Oper.wp
    rw [run_call hc ha _ fr.rho]
    refine (hnil hv).mono fun en w' ⟨he, hw⟩ => ?_
    subst he; subst hw
    have hyx := hys hn0
    subst hyx
    exact h w' (hL.turnAt hi (Nat.le_refl _) (World.grownBy.refl _ _) (hL.at hi) (fun b e => .inl e)) (fz_turnAt (r' := .row v e sz l.length ys) hL hi (World.grownBy.refl _ _) (fun b e => .inl e)) _ (fr.put hn)
  · refine S_op rfl fun a fr => ?_
    unfold Oper.wp
    rw [run_call hc ha _ fr.rho]
    refine (hs g0 cap hv hnc).mono fun en w' ⟨he, m, os, hw⟩ => ?_
    subst he
    have hgr := sortWorld_grown enc w g0 m dd os
    rw [← hw] at hgr
    have hok : (Res.row v e sz l.length ys).ok w' := by
      rw [hw, hv, ← hd]
      refine row_put (by rw [← hv]; exact hown) ?_
      have : dd.toList.length = ys.length := by rw [← hd]; simp
      simpa [hy] using this
    have hdr : w.drawn ≤ w'.drawn := by rw [hw]; exact Nat.le_add_right _ _
    have hgr' : w.grownBy w' (Res.row v e sz l.length xs).block := by rw [hv]; exact hgr
    exact h w' (hL.turnAt hi hdr hgr' hok (fun b e => .inl e)) (fz_turnAt (r' := .row v e sz l.length ys) hL hi hgr' (fun b e => .inl e)) _ (fr.put hn)
/-- A call that leaves fewer elements in a row and hands it back cut off. -/
theorem S_cutCall [Dr] {f i : Nat} {at_ : Array TypeId} {args : List Operand} {l : List α} {l' : List β} {z : β} {xs : List Value} {enc : β → Value} (hc : Callable P f) (ha : evl L args = some [v]) (hn : Nat.blt d n.n = true) (hL : Lcl w0 O w) (hi : nthR O i = some (.row v e 1 l.length xs)) (hle : l'.length ≤ l.length)
    (hnil : v = .slice none 0 0 → Calls P f #[v] w fun e w' => e = .returned v ∧ w' = w)
    (hs : ∀ g cap, v = .slice (some ⟨g, 0, none⟩) l.length cap → l.length ≤ cap → Calls P f #[v] w fun e w' => e = .returned (.slice (some ⟨g, 0, none⟩) l'.length cap) ∧ ∃ q, w' = putRow enc (Sort.ahead w q) g 0 (l' ++ List.replicate (l.length - l'.length) z).toArray)
    (h : ∀ v' w', Lcl w0 (setR O i (.row v' e 1 l'.length (l'.map enc))) w' → Le (fz w O) (fz w' (setR O i (.row v' e 1 l'.length (l'.map enc)))) → S P n ops Q rest ((d, v') :: L) w') :
    S P n ops Q (⟨some d, .call ⟨.value (.func f), args.toArray, at_⟩, ty, pos, af, none⟩ :: rest) L w := by
  have hown : w.ownsRow 0 e 1 v l.length xs := hL.at hi
  rcases hown.2 with ⟨hv, hn0⟩ | ⟨g0, cap, cur, hv, hb0, hg0, hnc, _⟩
  · have hl0 : l' = [] := List.eq_nil_of_length_eq_zero (by omega)
    subst hl0
    refine S_op rfl fun a fr => ?_
    unfold Oper.wp
    rw [run_call hc ha _ fr.rho]
    refine (hnil hv).mono fun en w' ⟨he, hw⟩ => ?_
    subst he; subst hw
    have hx0 : xs = [] := List.eq_nil_of_length_eq_zero (by rw [hown.1, hn0])
    have hok : (Res.row v e 1 ([] : List β).length (([] : List β).map enc)).ok w' := by
      have := hL.at hi
      rw [hn0, hx0] at this
      exact this
    exact h v w' (hL.turnAt hi (Nat.le_refl _) (World.grownBy.refl _ _) hok (fun b e => .inl e)) (fz_turnAt (r' := .row v e 1 ([] : List β).length (([] : List β).map enc)) hL hi (World.grownBy.refl _ _) (fun b e => .inl e)) _ (fr.put hn)
  · refine S_op rfl fun a fr => ?_
    unfold Oper.wp
    rw [run_call hc ha _ fr.rho]
    refine (hs g0 cap hv hnc).mono fun en w' ⟨he, q, hw⟩ => ?_
    subst he
    have hw2 : w' = sortWorld enc w g0 0 q (l' ++ List.replicate (l.length - l'.length) z).toArray #[] := by rw [hw]; unfold sortWorld; rw [grow_empty]
    have hgr := sortWorld_grown enc w g0 q (l' ++ List.replicate (l.length - l'.length) z).toArray #[]
    rw [← hw2] at hgr
    have hok : (Res.row (.slice (some ⟨g0, 0, none⟩) l'.length cap) e 1 l'.length (l'.map enc)).ok w' := by
      have h1 : w'.ownsRow 0 e 1 (.slice (some ⟨g0, 0, none⟩) l.length cap) l.length ((l' ++ List.replicate (l.length - l'.length) z).map enc) := by
        have h0 := row_put (enc := enc) (m := q) (d := (l' ++ List.replicate (l.length - l'.length) z).toArray) (os := #[]) (by rw [← hv]; exact hown) (by have := hown.1; simp; omega)
        rw [← hw2] at h0
        simpa using h0
      have h2 := row_cut h1 hle
      rwa [List.map_append, List.take_left' (by simp)] at h2
    have hdr : w.drawn ≤ w'.drawn := by rw [hw2]; exact Nat.le_add_right _ _
    have hgr' : w.grownBy w' (Res.row v e 1 l.length xs).block := by rw [hv]; exact hgr
    have hb : ∀ b, (Res.row (.slice (some ⟨g0, 0, none⟩) l'.length cap) e 1 l'.length (l'.map enc)).block = some b → (Res.row v e 1 l.length xs).block = some b := fun b e => by rw [hv]; exact e
    exact h _ w' (hL.turnAt hi hdr hgr' hok (fun b e => .inl (hb b e))) (fz_turnAt (r' := .row (.slice (some ⟨g0, 0, none⟩) l'.length cap) e 1 l'.length (l'.map enc)) hL hi hgr' (fun b e => .inl (hb b e))) _ (fr.put hn)
end
/-! ### Elements of one cell as their cells -/
theorem st_elems {H : PH} {l : List (List UInt8)} {xs : List Value} (h : Elems .st H l xs) : l.map encStr = xs := by
  induction h with
  | nil => rfl
  | cons h _ ih => cases h; rw [List.map_cons, ih]; rfl
theorem elems_st' (H : PH) : ∀ l : List (List UInt8), Elems .st H l (l.map encStr)
  | [] => .nil
  | _ :: l => .cons (c := [_]) rfl (elems_st' H l)
theorem in_elems {H : PH} {l : List Int} {xs : List Value} (h : Elems (.int .i64) H l xs) : l.map (Value.int .i64) = xs := by
  induction h with
  | nil => rfl
  | cons h _ ih => cases h; rw [List.map_cons, ih]; rfl
theorem elems_in (H : PH) : ∀ l : List Int, Elems (.int .i64) H l (l.map (Value.int .i64))
  | [] => .nil
  | _ :: l => .cons (c := [_]) rfl (elems_in H l)
section
variable {P : Program} {n : Sz} {ops : Array Oper} {Q : Exit → Act → World → Prop} {L : Env} {w w0 : World} {O : List Res} {rest : List Oper} {d : Nat} {ty : TypeId} {pos : String} {af : Array Edge} {v : Value} {e : TypeId} {H : PH} {ρr : Go.Shelf.Ren} {f i : Nat} {at_ : Array TypeId} {args : List Operand} {xs : List Value}
def srtS (l : List (List UInt8)) : List (List UInt8) := l.mergeSort fun x y => decide (x ≤ y)
def srtI (l : List Int) : List Int := l.mergeSort fun x y => decide (x ≤ y)
theorem S_sortS [Dr] {l : List (List UInt8)} (Ls : Lays.n190 P ρr) (hf : ρr.f 190 = f) (hc : Callable P f) (ha : evl L args = some [v]) (hn : Nat.blt d n.n = true) (hH : Le H (hp w0)) (hL : Lcl w0 O w) (hi : nthR O i = some (.row v e 1 l.length xs)) (he : Elems .st (gz H w0 w O) l xs) (hlen : l.length < 4611686018427387904)
    (h : ∀ w' xs', Lcl w0 (setR O i (.row v e 1 (srtS l).length xs')) w' → Le (fz w O) (fz w' (setR O i (.row v e 1 (srtS l).length xs'))) → Elems .st (gz H w0 w' (setR O i (.row v e 1 (srtS l).length xs'))) (srtS l) xs' → S P n ops Q rest ((d, .tuple #[]) :: L) w') :
    S P n ops Q (⟨some d, .call ⟨.value (.func f), args.toArray, at_⟩, ty, pos, af, none⟩ :: rest) L w := by
  have hxs := st_elems he
  have hll : (srtS l).length = l.length := List.length_mergeSort _
  subst hf
  refine S_putRow (l' := srtS l) (enc := encStr) (dd := (srtS l).toArray) (ys := (srtS l).map encStr) hc ha hn hL hi (by simp) hll (by rw [← hxs]; simp [hll]) (fun h0 => ?_) (fun hv => ?_) (fun g cap hv hcap => ?_) (fun w' h1 h2 => h w' _ h1 h2 (elems_st' _ _))
  · have : l = [] := List.eq_nil_of_length_eq_zero h0
    subst this
    rw [← hxs, show srtS [] = [] from List.mergeSort_nil]
  · subst hv
    exact Any.slices_Sort_string_none Ls none 0 w
  · have hown : w.ownsRow 0 e 1 v l.length xs := hL.at hi
    rw [hv] at hown
    obtain ⟨hH', hblk⟩ := row_holds (enc := encStr) (d := l.toArray) hown (by simpa using hxs)
    subst hv
    exact Any.slices_Sort_string Ls g 0 cap l w hH' hblk hlen
theorem S_sortI [Dr] {l : List Int} (Ls : Lays.n189 P ρr) (hf : ρr.f 189 = f) (hc : Callable P f) (ha : evl L args = some [v]) (hn : Nat.blt d n.n = true) (hH : Le H (hp w0)) (hL : Lcl w0 O w) (hi : nthR O i = some (.row v e 1 l.length xs)) (he : Elems (.int .i64) (gz H w0 w O) l xs) (hlen : l.length < 4611686018427387904)
    (h : ∀ w' xs', Lcl w0 (setR O i (.row v e 1 (srtI l).length xs')) w' → Le (fz w O) (fz w' (setR O i (.row v e 1 (srtI l).length xs'))) → Elems (.int .i64) (gz H w0 w' (setR O i (.row v e 1 (srtI l).length xs'))) (srtI l) xs' → S P n ops Q rest ((d, .tuple #[]) :: L) w') :
    S P n ops Q (⟨some d, .call ⟨.value (.func f), args.toArray, at_⟩, ty, pos, af, none⟩ :: rest) L w := by
  have hxs := in_elems he
  have hll : (srtI l).length = l.length := List.length_mergeSort _
  subst hf
  refine S_putRow (l' := srtI l) (enc := Value.int .i64) (dd := (srtI l).toArray) (ys := (srtI l).map (Value.int .i64)) hc ha hn hL hi (by simp) hll (by rw [← hxs]; simp [hll]) (fun h0 => ?_) (fun hv => ?_) (fun g cap hv hcap => ?_) (fun w' h1 h2 => h w' _ h1 h2 (elems_in _ _))
  · have : l = [] := List.eq_nil_of_length_eq_zero h0
    subst this
    rw [← hxs, show srtI [] = [] from List.mergeSort_nil]
  · subst hv
    exact Any.slices_Sort_int_none Ls none 0 w
  · have hown : w.ownsRow 0 e 1 v l.length xs := hL.at hi
    rw [hv] at hown
    obtain ⟨hH', hblk⟩ := row_holds (enc := Value.int .i64) (d := l.toArray) hown (by simpa using hxs)
    subst hv
    exact Any.slices_Sort_int Ls g 0 cap l w hH' hblk hlen
theorem compact_le {α : Type} [Inhabited α] [DecidableEq α] (l : List α) : (Lib.compact l).length ≤ l.length := by
  unfold Lib.compact Lib.compactUpTo
  rw [List.length_map]
  exact Nat.le_trans (List.length_filter_le _ _) (by simp)
theorem S_compS [Dr] {l : List (List UInt8)} (Ls : Lays.n194 P ρr) (hf : ρr.f 194 = f) (hc : Callable P f) (ha : evl L args = some [v]) (hn : Nat.blt d n.n = true) (hH : Le H (hp w0)) (hL : Lcl w0 O w) (hi : nthR O i = some (.row v e 1 l.length xs)) (he : Elems .st (gz H w0 w O) l xs) (hlen : l.length ≤ 9223372036854775807)
    (h : ∀ v' w' xs', Lcl w0 (setR O i (.row v' e 1 (Lib.compact l).length xs')) w' → Le (fz w O) (fz w' (setR O i (.row v' e 1 (Lib.compact l).length xs'))) → Elems .st (gz H w0 w' (setR O i (.row v' e 1 (Lib.compact l).length xs'))) (Lib.compact l) xs' → S P n ops Q rest ((d, v') :: L) w') :
    S P n ops Q (⟨some d, .call ⟨.value (.func f), args.toArray, at_⟩, ty, pos, af, none⟩ :: rest) L w := by
  have hxs := st_elems he
  subst hf
  refine S_cutCall (l' := Lib.compact l) (enc := encStr) (z := []) hc ha hn hL hi (compact_le l) (fun hv => ?_) (fun g cap hv hcap => ?_) (fun v' w' h1 h2 => h v' w' _ h1 h2 (elems_st' _ _))
  · subst hv
    exact Any.slices_Compact_string_empty Ls none 0 w
  · have hown : w.ownsRow 0 e 1 v l.length xs := hL.at hi
    rw [hv] at hown
    obtain ⟨hH', hblk⟩ := row_holds (enc := encStr) (d := l.toArray) hown (by simpa using hxs)
    subst hv
    exact Any.slices_Compact_string Ls g 0 cap l w hH' hlen hcap
theorem S_compI [Dr] {l : List Int} (Ls : Lays2.n20 P ρr) (hf : ρr.f 20 = f) (hc : Callable P f) (ha : evl L args = some [v]) (hn : Nat.blt d n.n = true) (hH : Le H (hp w0)) (hL : Lcl w0 O w) (hi : nthR O i = some (.row v e 1 l.length xs)) (he : Elems (.int .i64) (gz H w0 w O) l xs) (hlen : l.length ≤ 9223372036854775807)
    (h : ∀ v' w' xs', Lcl w0 (setR O i (.row v' e 1 (Lib.compact l).length xs')) w' → Le (fz w O) (fz w' (setR O i (.row v' e 1 (Lib.compact l).length xs'))) → Elems (.int .i64) (gz H w0 w' (setR O i (.row v' e 1 (Lib.compact l).length xs'))) (Lib.compact l) xs' → S P n ops Q rest ((d, v') :: L) w') :
    S P n ops Q (⟨some d, .call ⟨.value (.func f), args.toArray, at_⟩, ty, pos, af, none⟩ :: rest) L w := by
  have hxs := in_elems he
  subst hf
  refine S_cutCall (l' := Lib.compact l) (enc := Value.int .i64) (z := 0) hc ha hn hL hi (compact_le l) (fun hv => ?_) (fun g cap hv hcap => ?_) (fun v' w' h1 h2 => h v' w' _ h1 h2 (elems_in _ _))
  · subst hv
    exact Any.slices_Compact_int_empty Ls none 0 w
  · have hown : w.ownsRow 0 e 1 v l.length xs := hL.at hi
    rw [hv] at hown
    obtain ⟨hH', hblk⟩ := row_holds (enc := Value.int .i64) (d := l.toArray) hown (by simpa using hxs)
    subst hv
    exact Any.slices_Compact_int Ls g 0 cap l w hH' hlen hcap
end
end Go.E
end
section
namespace Go.L
theorem u8_eq_of {a b : UInt8} (h1 : ¬ a < b) (h2 : ¬ b < a) : a = b := UInt8.toNat.inj (by rw [UInt8.lt_iff_toNat_lt] at h1 h2; omega)
theorem cmp_swap : ∀ l m : List UInt8, Lib.compareBytes l m = - Lib.compareBytes m l
  | [], [] => rfl
  | [], _ :: _ => rfl
  | _ :: _, [] => rfl
  | a :: l, b :: m => by
    have ih := cmp_swap l m
    unfold Lib.compareBytes
    by_cases h1 : a < b
    · have h2 : ¬ b < a := fun h => by have := UInt8.lt_iff_toNat_lt.1 h; have := UInt8.lt_iff_toNat_lt.1 h1; omega
      rw [if_pos h1, if_neg h2, if_pos h1]
    · by_cases h2 : b < a
      · rw [if_neg h1, if_pos h2, if_pos h2]; rfl
      · rw [if_neg h1, if_neg h2, if_neg h2, if_neg h1, ih]
theorem cmp_zero : ∀ l m : List UInt8, Lib.compareBytes l m = 0 → l = m
  | [], [], _ => rfl
  | [], _ :: _, h => by cases h
  | _ :: _, [], h => by cases h
  | a :: l, b :: m, h => by
    unfold Lib.compareBytes at h
    split at h
    · cases h
    · rename_i h1
      split at h
      · cases h
      · rename_i h2
        have e : a = b := u8_eq_of h1 h2
        rw [e, cmp_zero l m h]
theorem cmp_trans : ∀ l m k : List UInt8, Lib.compareBytes l m < 0 → Lib.compareBytes m k < 0 → Lib.compareBytes l k < 0
  | [], [], _, h, _ => by simp [Lib.compareBytes] at h
  | [], _ :: _, [], _, h => by simp [Lib.compareBytes] at h
  | [], _ :: _, _ :: _, _, _ => by simp [Lib.compareBytes]
  | _ :: _, [], _, h, _ => by simp [Lib.compareBytes] at h
  | _ :: _, _ :: _, [], _, h => by simp [Lib.compareBytes] at h
  | a :: l, b :: m, c :: k, h1, h2 => by
    have ih := cmp_trans l m k
    unfold Lib.compareBytes at h1 h2 ⊢
    by_cases hab : a < b
    · by_cases hbc : b < c
      · rw [if_pos (UInt8.lt_iff_toNat_lt.2 (by have := UInt8.lt_iff_toNat_lt.1 hab; have := UInt8.lt_iff_toNat_lt.1 hbc; omega))]; decide
      · rw [if_neg hbc] at h2
        by_cases hcb : c < b
        · rw [if_pos hcb] at h2; omega
        · have e : b = c := u8_eq_of hbc hcb
          subst e
          rw [if_pos hab]; decide
    · rw [if_neg hab] at h1
      by_cases hba : b < a
      · rw [if_pos hba] at h1; omega
      · rw [if_neg hba] at h1
        have e : a = b := u8_eq_of hab hba
        subst e
        by_cases hac : a < c
        · rw [if_pos hac]; decide
        · rw [if_neg hac] at h2 ⊢
          by_cases hca : c < a
          · rw [if_pos hca] at h2; omega
          · rw [if_neg hca] at h2 ⊢
            exact ih h1 h2
/-- A comparison that parts any two. -/
structure Ord3 {α : Type} (c : α → α → Int) : Prop where
  swap : ∀ x y, c x y = - c y x
  zero : ∀ x y, c x y = 0 → x = y
  trans : ∀ x y z, c x y < 0 → c y z < 0 → c x z < 0
theorem ordB : Ord3 Go.Lib.compareBytes := ⟨cmp_swap, cmp_zero, cmp_trans⟩
def cmpN (a b : Int) : Int := if a < b then -1 else if b < a then 1 else 0
theorem ordI : Ord3 cmpN := by
  constructor
  · intro x y; unfold cmpN; rcases Int.lt_trichotomy x y with h | h | h
    · rw [if_pos h, if_neg (by omega), if_pos h]
    · subst h; rw [if_neg (Int.lt_irrefl _), if_neg (Int.lt_irrefl _)]; rfl
    · rw [if_neg (by omega), if_pos h, if_pos h]; rfl
  · intro x y h; unfold cmpN at h; split at h; cases h; split at h; cases h; omega
  · intro x y z h1 h2; unfold cmpN at *
    split at h1
    · split at h2
      · rw [if_pos (by omega)]; decide
      · split at h2 <;> omega
    · split at h1 <;> omega
def lexC {α β : Type} (c : α → α → Int) (d : β → β → Int) (x y : α × β) : Int := if c x.1 y.1 = 0 then d x.2 y.2 else c x.1 y.1
theorem ordLex {α β : Type} {c : α → α → Int} {d : β → β → Int} (hc : Ord3 c) (hd : Ord3 d) : Ord3 (lexC c d) := by
  constructor
  · intro x y
    unfold lexC
    have := hc.swap x.1 y.1
    by_cases h : c x.1 y.1 = 0
    · rw [if_pos h, if_pos (by omega)]; exact hd.swap _ _
    · rw [if_neg h, if_neg (by omega)]; exact this
  · intro x y h
    unfold lexC at h
    split at h
    · rename_i h1
      exact Prod.ext (hc.zero _ _ h1) (hd.zero _ _ h)
    · rename_i h1; exact absurd h h1
  · intro x y z h1 h2
    unfold lexC at *
    by_cases e1 : c x.1 y.1 = 0
    · rw [if_pos e1] at h1
      have := hc.zero _ _ e1
      rw [this]
      by_cases e2 : c y.1 z.1 = 0
      · rw [if_pos e2] at h2 ⊢; exact hd.trans _ _ _ h1 h2
      · rw [if_neg e2] at h2 ⊢; exact h2
    · rw [if_neg e1] at h1
      by_cases e2 : c y.1 z.1 = 0
      · have := hc.zero _ _ e2
        rw [← this, if_neg e1]; exact h1
      · rw [if_neg e2] at h2
        have := hc.trans _ _ _ h1 h2
        rw [if_neg (by omega)]; exact this
theorem Ord3.swo {α : Type} {c : α → α → Int} (h : Ord3 c) : Go.Sort.SWO (Go.Proofs.ltOf c) := by
  have hs := fun x => h.swap x x
  constructor
  · intro x; have := hs x; simp only [Go.Proofs.ltOf, decide_eq_false_iff_not]; omega
  · intro x y z h1 h2
    simp only [Go.Proofs.ltOf, decide_eq_true_eq] at *
    exact h.trans _ _ _ h1 h2
  · intro x y z h1 h2
    simp only [Go.Proofs.ltOf, decide_eq_false_iff_not] at *
    intro h3
    have s1 := h.swap x y
    have s2 := h.swap y z
    rcases Int.lt_trichotomy (c y x) 0 with h4 | h4 | h4
    · have := h.trans _ _ _ h4 h3
      omega
    · rw [h.zero _ _ h4] at h2; omega
    · omega
theorem Ord3.parts {α : Type} {c : α → α → Int} (h : Ord3 c) (x y : α) (h1 : Go.Proofs.ltOf c x y = false) (h2 : Go.Proofs.ltOf c y x = false) : x = y := by
  simp only [Go.Proofs.ltOf, decide_eq_false_iff_not] at h1 h2
  have := h.swap x y
  exact h.zero _ _ (by omega)
abbrev Lf : Type := List UInt8 × Int × Int × List UInt8
def lfCmp : Lf → Lf → Int := lexC Go.Lib.compareBytes (lexC cmpN (lexC cmpN Go.Lib.compareBytes))
theorem ordLf : Ord3 lfCmp := ordLex ordB (ordLex ordI (ordLex ordI ordB))
/-- Leaves in order. -/
def srtL (l : List Lf) : List Lf := l.mergeSort fun x y => !(Go.Proofs.ltOf lfCmp) y x
theorem srtL_length (l : List Lf) : (srtL l).length = l.length := List.length_mergeSort _
end Go.L
namespace Go.Proofs.YtmfiaecglndldaaGreatDoor
open Go Go.L Go.E
theorem cmpc_eq (a b : Int) : cmp_Compare_int a b = some (cmpN a b) := by
  unfold cmp_Compare_int cmp_isNaN_int cmpN
  simp only [Option.bind_some, decide_true, Bool.not_true, Bool.false_eq_true, if_false]
  split
  · rfl
  · split <;> rfl
theorem cmps_eq (a b : List UInt8) : strings_Compare a b = some (Lib.compareBytes a b) := rfl
theorem or4_eq (a b c d : Int) : cmp_Or_int [a, b, c, d] = some (if a = 0 then (if b = 0 then (if c = 0 then d else c) else b) else a) := by
  unfold cmp_Or_int cmp_Or_int_l2
  have step : ∀ (i : Nat) (x : Int), [a, b, c, d][i]? = some x → x = 0 → cmp_Or_int_bl2 [a, b, c, d] (i : Int) = some (.inl ((i + 1 : Nat) : Int)) := fun i x hx h0 => by
    have hi : i < 4 := (List.getElem?_eq_some_iff.1 hx).1
    unfold cmp_Or_int_bl2
    rw [if_pos (by simp; omega), chk_pos (by simp; omega), if_pos (by rw [Int.toNat_natCast, List.getD_eq_getElem?_getD, hx]; exact h0), chk_pos (by unfold I64; omega)]
    rfl
  have stop : ∀ (i : Nat) (x : Int), [a, b, c, d][i]? = some x → x ≠ 0 → Go.L.run (cmp_Or_int_bl2 [a, b, c, d]) (i : Int) = some x := fun i x hx h0 => by
    have hi : i < 4 := (List.getElem?_eq_some_iff.1 hx).1
    refine run_inr ?_
    unfold cmp_Or_int_bl2
    have hg : [a, b, c, d].getD (i : Int).toNat default = x := by rw [Int.toNat_natCast, List.getD_eq_getElem?_getD, hx]; rfl
    rw [if_pos (by simp; omega), chk_pos (by simp; omega), hg, if_neg h0]
  have last : Go.L.run (cmp_Or_int_bl2 [a, b, c, d]) ((4 : Nat) : Int) = some 0 := by
    refine run_inr ?_
    unfold cmp_Or_int_bl2
    rw [if_neg (by simp)]
    rfl
  show Go.L.run _ ((0 : Nat) : Int) = _
  by_cases ha : a = 0
  · rw [if_pos ha, run_inl (step 0 a rfl ha)]
    by_cases hb : b = 0
    · rw [if_pos hb, run_inl (step 1 b rfl hb)]
      by_cases hc : c = 0
      · rw [if_pos hc, run_inl (step 2 c rfl hc)]
        by_cases hd : d = 0
        · rw [run_inl (step 3 d rfl hd)]; rw [hd] at last ⊢; exact last
        · exact stop 3 d rfl hd
      · rw [if_neg hc]; exact stop 2 c rfl hc
    · rw [if_neg hb]; exact stop 1 b rfl hb
  · rw [if_neg ha]; exact stop 0 a rfl ha
theorem compare_eq (x y : Lf) : shapes_leaf_compare x y = some (lfCmp x y) := by
  unfold shapes_leaf_compare lfCmp lexC
  simp only [cmps_eq, cmpc_eq, or4_eq, Option.bind_some]
end Go.Proofs.YtmfiaecglndldaaGreatDoor
end
section
namespace Go.E
open Go Go.RowKit
theorem mE_bornL {κ : Type} {enc : κ → Value} : ∀ (l : List κ) (vs : List Value) (i : Nat), l.length = vs.length → (mE enc i l vs).map (·.born) = List.range' i l.length
  | [], [], _, _ => rfl
  | a :: l, u :: vs, i, h => by
    simp only [mE, List.map_cons, List.length_cons, List.range'_succ]
    rw [mE_bornL l vs (i + 1) (by simpa using h)]
theorem mE_mem {κ : Type} {enc : κ → Value} {l : List κ} {vs : List Value} (h : l.length = vs.length) {x : MapEntry} (hx : x ∈ mE enc 0 l vs) : ∃ a, l[x.born]? = some a ∧ x = ⟨enc a, vs.getD x.born default, x.born⟩ := by
  obtain ⟨j, hj⟩ := List.getElem?_of_mem hx
  have hjl : j < l.length := by have := (List.getElem?_eq_some_iff.1 hj).1; rwa [mE_length l vs 0 h] at this
  have := mE_get (enc := enc) l vs 0 j l[j] h (List.getElem?_eq_getElem hjl)
  rw [hj, Nat.zero_add] at this
  obtain rfl := Option.some.inj this
  exact ⟨l[j], List.getElem?_eq_getElem hjl, rfl⟩
section
variable {P : Program} {n : Sz} {ops : Array Oper} {Q : Exit → Act → World → Prop} {L : Env} {w w0 : World} {O : List Res} {rest : List Oper} {d : Nat} {ty t kt et : TypeId} {pos : String} {af : Array Edge} {x : Operand} {κ : Type} {enc : κ → Value} {keys : List κ} {vs : List Value} {m N : Nat}
theorem S_rangeM [Dr] (hx : ev L x = some (.map (some m))) (ht : P.underlying t = some (.map kt et)) (hm : w.heap[m]? = some (.map (mE enc 0 keys vs).toArray N)) (hn : Nat.blt d n.n = true) (hL : Lcl w0 O w)
    (h : ∀ w' b, Lcl w0 (.obj b (.mapIter (some m) N ([] : List Nat).toArray N) :: O) w' → Le (fz w O) (fz w' (.obj b (.mapIter (some m) N ([] : List Nat).toArray N) :: O)) → S P n ops Q rest ((d, .pointer (some ⟨b, 0, none⟩)) :: L) w') : S P n ops Q (⟨some d, .range t x, ty, pos, af, none⟩ :: rest) L w := by
  have hb : ∀ b, (Res.obj w.heap.size (.mapIter (some m) N ([] : List Nat).toArray N)).block = some b → w.heap.size ≤ b := fun b e => by cases e; exact Nat.le_refl _
  refine S_value (v := .pointer (some ⟨w.heap.size, 0, none⟩)) (w' := w.alloc (.mapIter (some m) N ([] : List Nat).toArray N)) rfl rfl hn (fun ρ hρ => ?_) (h _ _ (hL.new (ext_alloc w _) (World.alloc_heap_new w _) hb) (fz_new hL (ext_alloc w _) hb))
  have := run_range_map (P := P) w t kt et m _ N ht hm
  simp [execOp, hρ x _ hx, this]
/-- Some key that has not come yet comes, or all have come. -/
theorem S_nextM [Dr] (i : Nat) {b : Nat} {seen : List Nat} (hx : ev L x = some (.pointer (some ⟨b, 0, none⟩))) (hn : Nat.blt d n.n = true) (hL : Lcl w0 O w) (hi : nthR O i = some (.obj b (.mapIter (some m) N seen.toArray N))) (hm : w.heap[m]? = some (.map (mE enc 0 keys vs).toArray N)) (hk : keys.length = vs.length) (hN : keys.length = N)
    (h1 : ∀ j a, keys[j]? = some a → j ∉ seen → ∀ w', Lcl w0 (setR O i (.obj b (.mapIter (some m) N (seen ++ [j]).toArray N))) w' → Le (fz w O) (fz w' (setR O i (.obj b (.mapIter (some m) N (seen ++ [j]).toArray N)))) → w'.heap[m]? = some (.map (mE enc 0 keys vs).toArray N) → S P n ops Q rest ((d, .tuple #[.bool true, enc a, vs.getD j default]) :: L) w')
    (h2 : (∀ j, j < N → j ∈ seen) → S P n ops Q rest ((d, .tuple #[.bool false]) :: L) w) : S P n ops Q (⟨some d, .next x false, ty, pos, af, none⟩ :: rest) L w := by
  have hb : w.heap[b]? = some (.mapIter (some m) N seen.toArray N) := hL.at hi
  have hold : ∀ x ∈ (mE enc 0 keys vs).toArray.toList, x.born < N := fun x hx => by
    obtain ⟨a, ha, _⟩ := mE_mem hk (by simpa using hx)
    have := (List.getElem?_eq_some_iff.1 ha).1
    omega
  rcases run_next_at (P := P) w ty b m N N seen.toArray _ N hb hm hold (Nat.le_refl _) with ⟨h0, hr⟩ | ⟨e, he, w1, hw1, hr⟩
  · refine S_value (v := .tuple #[.bool false]) (w' := w) rfl rfl hn (fun ρ hρ => by simp [execOp, hρ x _ hx, hr]) (h2 fun j hj => ?_)
    have hjk : j < keys.length := by omega
    have hg := mE_get (enc := enc) keys vs 0 j keys[j] hk (List.getElem?_eq_getElem hjk)
    rw [Nat.zero_add] at hg
    have hemp : leftOf (mE enc 0 keys vs).toArray seen.toArray = #[] := Array.eq_empty_of_size_eq_zero h0
    unfold leftOf at hemp
    rw [Array.filter_eq_empty_iff] at hemp
    have := hemp _ (by simpa using List.mem_of_getElem? hg)
    simpa using this
  · have hmem : e ∈ mE enc 0 keys vs ∧ e.born ∉ seen := by
      unfold leftOf at he
      simpa using he
    obtain ⟨a, ha, hee⟩ := mE_mem hk hmem.1
    have hx1 : Ext w w1 := by
      rcases hw1 with rfl | rfl
      · exact Ext.refl _
      · exact drawn_world
    have hL1 := hL.call hx1
    have hle1 := fz_ext hL hx1
    have hput := hL1.putAt (.mapIter (some m) N (seen ++ [e.born]).toArray N) hi
    have hne : m ≠ b := fun eq => by rw [eq, hb] at hm; cases hm
    have hm1 : w1.heap[m]? = some (.map (mE enc 0 keys vs).toArray N) := by rw [hx1.block m (lt_of_heap hm)]; exact hm
    have hm2 : (w1.putObj b (.mapIter (some m) N (seen ++ [e.born]).toArray N)).heap[m]? = some (.map (mE enc 0 keys vs).toArray N) := by rw [World.putObj_heap_other hne]; exact hm1
    have hval : e.key = enc a ∧ e.val = vs.getD e.born default := by rw [hee]; exact ⟨rfl, rfl⟩
    rw [hval.1, hval.2] at hr
    have hw2 : ChangeMaps.setBlock w1 b (.mapIter (some m) N (seen.toArray.push e.born) N) = w1.putObj b (.mapIter (some m) N (seen ++ [e.born]).toArray N) := by
      rw [List.push_toArray]; rfl
    rw [hw2] at hr
    refine S_value (v := _) (w' := _) rfl rfl hn (fun ρ hρ => ?_) (h1 e.born a ha hmem.2 _ hput.1 (hle1.trans hput.2) hm2)
    simp [execOp, hρ x _ hx, hr]
theorem r_entryM {b : Nat} {seen : List Nat} {j : Nat} {a : κ} (hx : ev L x = some (.pointer (some ⟨b, 0, none⟩))) (hn : Nat.blt d n.n = true) (hb : w.heap[b]? = some (.mapIter (some m) N (seen ++ [j]).toArray N)) (hm : w.heap[m]? = some (.map (mE enc 0 keys vs).toArray N)) (hk : keys.length = vs.length) (ha : keys[j]? = some a)
    (h : S P n ops Q rest ((d, .tuple #[enc a, vs.getD j default]) :: L) w) : S P n ops Q (⟨some d, .entry x, ty, pos, af, none⟩ :: rest) L w := by
  have hg := mE_get (enc := enc) keys vs 0 j a hk ha
  rw [Nat.zero_add] at hg
  have hr := run_entry_at (P := P) w b m N seen.toArray (mE enc 0 keys vs).toArray N ⟨enc a, vs.getD j default, j⟩ (by rw [hb, List.push_toArray]) hm (by simpa using List.mem_of_getElem? hg) (by rw [List.toList_toArray, mE_bornL _ _ _ hk]; exact List.nodup_range')
  refine S_value (v := _) (w' := w) rfl rfl hn (fun ρ hρ => ?_) h
  simp [execOp, hρ x _ hx, hr]
end
end Go.E
end
section
namespace Go.L
theorem sorted_perm_eq {α : Type} {c : α → α → Int} (h : Ord3 c) : ∀ {l m : List α}, l.Perm m → l.Pairwise (fun x y => (!(Go.Proofs.ltOf c) y x) = true) → m.Pairwise (fun x y => (!(Go.Proofs.ltOf c) y x) = true) → l = m
  | [], m, hp, _, _ => hp.nil_eq
  | a :: l, m, hp, hl, hm => by
    cases m with
    | nil => exact absurd hp.symm.nil_eq (by simp)
    | cons b m =>
      obtain ⟨l1, l2⟩ := List.pairwise_cons.1 hl
      obtain ⟨m1, m2⟩ := List.pairwise_cons.1 hm
      have hab : a = b := by
        by_cases e : a = b
        · exact e
        · have ha : a ∈ m := by rcases List.mem_cons.1 (hp.mem_iff.1 (.head _)) with h1 | h1; exact absurd h1 e; exact h1
          have hb : b ∈ l := by rcases List.mem_cons.1 (hp.mem_iff.2 (.head _)) with h1 | h1; exact absurd h1.symm e; exact h1
          exact h.parts a b (by simpa using m1 a ha) (by simpa using l1 b hb)
      subst hab
      rw [sorted_perm_eq h hp.cons_inv l2 m2]
theorem nd_le : ∀ (N : Nat) (l : List Nat), l.Nodup → (∀ j ∈ l, j < N) → l.length ≤ N
  | 0, l, _, h => by
    cases l with
    | nil => exact Nat.le_refl _
    | cons a l => exact absurd (h a (.head _)) (Nat.not_lt_zero a)
  | N + 1, l, hn, h => by
    have h1 := nd_le N (l.erase N) (hn.erase N) (fun j hj => by
      have h2 := (hn.mem_erase_iff).1 hj
      have := h j h2.2
      omega)
    by_cases hm : N ∈ l
    · rw [List.length_erase_of_mem hm] at h1; omega
    · rw [List.erase_of_not_mem hm] at h1; omega
theorem srt_perm {α : Type} {c : α → α → Int} (h : Ord3 c) {l m : List α} (hp : l.Perm m) : (l.mergeSort fun x y => !(Go.Proofs.ltOf c) y x) = m.mergeSort fun x y => !(Go.Proofs.ltOf c) y x := by
  have htr : ∀ a b c' : α, (!(Go.Proofs.ltOf c) b a) = true → (!(Go.Proofs.ltOf c) c' b) = true → (!(Go.Proofs.ltOf c) c' a) = true := by
    intro a b d h1 h2
    simp only [Go.Proofs.ltOf, Bool.not_eq_true', decide_eq_false_iff_not] at *
    intro h3
    have s1 := h.swap a b
    have s2 := h.swap b d
    rcases Int.lt_trichotomy (c a b) 0 with h4 | h4 | h4
    · exact h2 (h.trans d a b h3 h4)
    · rw [h.zero a b h4] at h3; exact h2 h3
    · omega
  have hto : ∀ a b : α, ((!(Go.Proofs.ltOf c) b a) || (!(Go.Proofs.ltOf c) a b)) = true := by
    intro a b
    have s1 := h.swap a b
    simp only [Go.Proofs.ltOf, Bool.or_eq_true, Bool.not_eq_true', decide_eq_false_iff_not]
    omega
  refine sorted_perm_eq h (((List.mergeSort_perm l _).trans hp).trans (List.mergeSort_perm m _).symm) ?_ ?_
  · exact List.pairwise_mergeSort htr hto l
  · exact List.pairwise_mergeSort htr hto m
end Go.L
namespace Go.Proofs.YtmfiaecglndldaaGreatDoor
open Go Go.E Go.RowKit Go.Shelf Go.L Go.Sort
abbrev cwLf (x : Lf) : List Value := [.string ⟨x.1.toArray⟩, .int .i64 x.2.1, .int .i64 x.2.2.1, .string ⟨x.2.2.2.toArray⟩]
abbrev rpLf : Rp Lf := .pair .st (.pair (.int .i64) (.pair (.int .i64) .st))
theorem rel_Lf (G : PH) (x : Lf) (c : List Value) : rpLf.rel G x c ↔ c = cwLf x := by
  constructor
  · rintro ⟨_, _, rfl, rfl, _, _, rfl, rfl, _, _, rfl, rfl, rfl⟩
    rfl
  · rintro rfl
    exact ⟨[_], [_, _, _], rfl, rfl, [_], [_, _], rfl, rfl, [_], [_], rfl, rfl, rfl⟩
theorem lf_elems {G : PH} {l : List Lf} {xs : List Value} (h : Elems rpLf G l xs) : l.flatMap cwLf = xs := by
  induction h with
  | nil => rfl
  | cons h _ ih => rw [List.flatMap_cons, ih, (rel_Lf _ _ _).1 h]
theorem elems_lf (G : PH) : ∀ l : List Lf, Elems rpLf G l (l.flatMap cwLf)
  | [] => .nil
  | x :: l => by rw [List.flatMap_cons]; exact .cons ((rel_Lf _ _ _).2 rfl) (elems_lf G l)
theorem flat_get (l : List Lf) : ∀ t, t < l.length * 4 → (l.flatMap cwLf)[t]? = some ((cwLf (l.getD (t / 4) default)).toArray[t % 4]!) := by
  induction l with
  | nil => intro t h; simp at h
  | cons a l ih =>
    intro t h
    rw [List.flatMap_cons]
    by_cases h4 : t < 4
    · rw [List.getElem?_append_left h4, Nat.div_eq_of_lt h4, Nat.mod_eq_of_lt h4]
      have : t = 0 ∨ t = 1 ∨ t = 2 ∨ t = 3 := by omega
      rcases this with rfl | rfl | rfl | rfl <;> rfl
    · rw [List.getElem?_append_right (by simpa using h4)]
      have := ih (t - 4) (by simp only [List.length_cons] at h; omega)
      rw [show (cwLf a).length = 4 from rfl, this]
      obtain ⟨s, rfl⟩ : ∃ s, t = s + 4 := ⟨t - 4, by omega⟩
      rw [Nat.add_sub_cancel, Nat.add_div_right _ (by decide), Nat.add_mod_right]
      rfl
theorem flat_list (l : List Lf) : (flatK cwLf 4 l.toArray).toList = l.flatMap cwLf := by
  have hlen : (l.flatMap cwLf).length = l.length * 4 := by
    induction l with
    | nil => rfl
    | cons a l ih => rw [List.flatMap_cons, List.length_append, ih]; show 4 + l.length * 4 = (l.length + 1) * 4; omega
  apply List.ext_getElem?
  intro t
  by_cases h : t < l.length * 4
  · rw [flat_get l t h]
    have hs : t < (flatK cwLf 4 l.toArray).size := by simpa using h
    have h2 := get_flatK cwLf 4 l.toArray t (by simpa using h)
    rw [getElem!_pos _ t hs] at h2
    rw [Array.getElem?_toList, Array.getElem?_eq_getElem hs, h2]
    have hd : t / 4 < l.length := by omega
    have e1 : l.toArray[t / 4]! = l.getD (t / 4) default := by simp [hd]
    rw [e1]
    simp
  · rw [List.getElem?_eq_none (by simpa using h), List.getElem?_eq_none (by omega)]
/-- slices.SortFunc of leaves by shapes.leaf.compare. -/
theorem S_sortL {n : Sz} {ops : Array Oper} {Q : Exit → Act → World → Prop} {L : Env} {w w0 : World} {O : List Res} {rest : List Oper} {d : Nat} {ty : TypeId} {pos : String} {af : Array Edge} {v : Value} {H : PH} {i : Nat} {at_ : Array TypeId} {args : List Operand} {xs : List Value} {l : List Lf}
    (ha : evl L args = some [v, .func (.func 72) #[] #[]]) (hn : Nat.blt d n.n = true) (_hH : Le H (hp w0)) (hL : Lcl w0 O w) (hi : nthR O i = some (.row v 84 4 l.length xs)) (he : Elems rpLf (gz H w0 w O) l xs) (hlen : l.length < 4611686018427387904)
    (h : ∀ w' xs', Lcl w0 (setR O i (.row v 84 4 (srtL l).length xs')) w' → Le (fz w O) (fz w' (setR O i (.row v 84 4 (srtL l).length xs'))) → Elems rpLf (gz H w0 w' (setR O i (.row v 84 4 (srtL l).length xs'))) (srtL l) xs' → S Tryz.prog n ops Q rest ((d, .tuple #[]) :: L) w') :
    S Tryz.prog n ops Q (⟨some d, .call ⟨.value (.func 131), args.toArray, at_⟩, ty, pos, af, none⟩ :: rest) L w := by
  have hxs := lf_elems he
  have hll : (srtL l).length = l.length := srtL_length l
  have hfl : ∀ l : List Lf, (l.flatMap cwLf).length = l.length * 4 := fun l => by
    induction l with
    | nil => rfl
    | cons a l ih => rw [List.flatMap_cons, List.length_append, ih]; show 4 + l.length * 4 = (l.length + 1) * 4; omega
  refine S_putRow (l' := srtL l) (enc := (id : Value → Value)) (dd := flatK cwLf 4 (srtL l).toArray) (ys := (srtL l).flatMap cwLf) ⟨Tryz.f131, _, Tryz.func131, rfl, rfl⟩ ha hn hL hi (by rw [List.map_id]; exact flat_list _) hll (by rw [← hxs, hfl, hfl, hll]) (fun h0 => ?_) (fun hv => ?_) (fun g cap hv hcap => ?_) (fun w' h1 h2 => h w' _ h1 h2 (elems_lf _ _))
  · have : l = [] := List.eq_nil_of_length_eq_zero h0
    subst this
    rw [← hxs, show srtL [] = [] from List.mergeSort_nil]
  · subst hv
    exact AnyF.slices_SortFunc_none Tryz.laySK none 0 _ w
  · have hown : w.ownsRow 0 84 4 v l.length xs := hL.at hi
    rw [hv] at hown
    have hhk : HoldsK cwLf 4 w g 0 l.toArray ∧ g < w.heap.size := row_holds (enc := (id : Value → Value)) (d := flatK cwLf 4 l.toArray) hown (by rw [List.map_id, flat_list]; exact hxs)
    subst hv
    refine AnyQ.slices_SortFunc_total Tryz.laySK 4 (fun w => by kernel_rfl) (fun w => by kernel_rfl) cwLf (fun _ => rfl) (fun x v hv => ?_) lfCmp ordLf.swo 72 #[] g 0 cap l.toArray w (enters_of Tryz.func72 (by kernel_rfl) rfl) ?_ hhk.1 hhk.2 (by simpa using hlen) ordLf.parts
    · simp only [List.mem_cons, List.mem_nil_iff, or_false] at hv
      rcases hv with rfl | rfl | rfl | rfl <;> rfl
    · intro m os dk hs x y
      have hk := @shapes_leaf_compare_ok ⟨true⟩ (sortWorldK cwLf 4 w g 0 m dk os) (hp _) (Le.refl _) x y _ (compare_eq x y)
      refine hk.2.mono fun en w' ⟨u, he, hx, hu⟩ => ?_
      subst he; subst hu
      obtain ⟨q, os', hw⟩ := @ext_grow ⟨true⟩ _ _ rfl hx
      exact ⟨rfl, q, os', hw⟩
/-- The keys of a map in order. -/
noncomputable def sortedK (l : List (Lf × List Int)) : Option (List Lf) := Go.L.chk (Go.E.Cap 48 l.length) (some (srtL (l.map Prod.fst)))
set_option maxRecDepth 10000 in
theorem sortedK_ok (w : World) (H : PH) (hH : Le H (hp w)) {v0 : Value} {a0 : List (Lf × List Int)} (h0 : VMap encLf (.vec (.int .i64)) H v0 a0) {r : List Lf} (h : sortedK a0 = some r) :
    Ok Tryz.prog 97 [v0, .func (.func 72) #[] #[]] w (fun v w' => Ext w w' ∧ ∃ u0, v = u0 ∧ OwnH 84 rpLf H w w' u0 r) := by
  obtain ⟨hcap0, h⟩ := Go.L.chk_some h
  have hcap : ∀ j, j ≤ a0.length → Go.E.Cap 48 j := fun j hj => ⟨Nat.le_trans (Nat.mul_le_mul_right _ hj) hcap0.1, Nat.le_trans hj hcap0.2⟩
  clear hcap0
  obtain rfl := Option.some.inj h
  obtain ⟨m, vs, rfl, hm, hl, _⟩ := h0
  have hkl : (a0.map Prod.fst).length = vs.length := by rw [List.length_map]; exact hl
  have hkN : (a0.map Prod.fst).length = a0.length := List.length_map _
  generalize hK : a0.map Prod.fst = K at *
  generalize hNN : a0.length = N at *
  have hNlt : N < 4611686018427387904 := by have := hcap N (Nat.le_refl _); unfold Go.E.Cap at this; omega
  refine Ok_enter (n := 21) [(0, .map (some m)), (1, .func (.func 72) #[] #[])] Tryz.func97 rfl rfl rfl rfl rfl ?_
  have hL := Lcl.start w
  refine W_pz 1 rfl ?_
  refine W_pz 1 rfl ?_
  obtain ⟨hL1, hle1, he1⟩ := row_nilE rpLf H 84 hL
  refine W_cut (σ := Value × List Value × List Lf) (fun ⟨v, _, _⟩ => [(1, .func (.func 72) #[] #[]), (5, v)]) (fun ⟨v, xs, l⟩ wr => Lcl w [.row v 84 4 l.length xs] wr ∧ Elems rpLf (gz H w wr [.row v 84 4 l.length xs]) l xs ∧ l.Perm K) ?_ ?_
  · refine W_p 1 rfl ?_
    refine S_rangeM (enc := encLf) (keys := K) (vs := vs) (N := N) rfl Tryz.underlying92 (hH _ _ hm) rfl hL1 ?_
    intro w2 b2 hL2 hle2
    refine S_seqnil ?_
    refine W_block ?_
    refine W_loop (σ := List Nat × Value × List Value) (fun ⟨_, v, _⟩ => [(1, .func (.func 72) #[] #[]), (5, v), (8, .pointer (some ⟨b2, 0, none⟩))])
      (fun ⟨seen, v, xs⟩ wr => Lcl w [.obj b2 (.mapIter (some m) N seen.toArray N), .row v 84 4 (seen.map fun j => K.getD j default).length xs] wr ∧ Elems rpLf (gz H w wr [.obj b2 (.mapIter (some m) N seen.toArray N), .row v 84 4 (seen.map fun j => K.getD j default).length xs]) (seen.map fun j => K.getD j default) xs ∧ seen.Nodup ∧ ∀ j ∈ seen, j < N)
      (fun ⟨seen, _, _⟩ => N - seen.length) ([], .slice none 0 0, []) (.cons rfl (.cons rfl (.cons rfl (Sub.nil _)))) ⟨hL2, he1.mono (gz_mono hH hle2), List.nodup_nil, fun j hj => by cases hj⟩ ?_
    rintro ⟨seen, v, xs⟩ wr ⟨hLr, her, hnd, hlt⟩
    have hseen : seen.length ≤ N := by
      exact nd_le N seen hnd hlt
    refine W_seqr ?_
    refine S_nextM (enc := encLf) (keys := K) (vs := vs) (m := m) (N := N) 0 rfl rfl hLr rfl ((hH.trans hLr.arg) _ _ hm) hkl hkN ?_ ?_
    · intro j a ha hj w3 hL3 hle3 hm3
      have hjN : j < N := by have := (List.getElem?_eq_some_iff.1 ha).1; omega
      refine S_pz 1 rfl ?_
      refine W_seq ?_
      refine W_true rfl ?_
      refine W_skip ?_
      refine At_seq ?_
      refine W_block ?_
      refine W_seqr ?_
      refine r_entryM (enc := encLf) rfl rfl (hL3.at (i := 0) rfl) hm3 hkl ha ?_
      refine S_pu 1 rfl ?_
      refine S_alloc zr84 rfl rfl hL3 ?_
      intro w4 b4 hL4 hle4 _
      refine S_storeBN 0 rfl rfl rfl zr84 hL4 rfl rfl (onc rfl (onc rfl (onc rfl (onc rfl on0)))) ?_
      intro w5 hL5 hle5
      refine S_seqnil ?_
      refine W_region ?_
      refine S_pu 1 rfl ?_
      refine S_v (r_loadBN 0 rfl Tryz.underlying84 rfl zr84 hL5 rfl) rfl ?_
      refine S_litE (r := rpLf) (l := [a]) rfl (fun _ => bsl131_1 _ _ _ _ _) rfl (show 1 ≤ 9223372036854775807 by decide) hH hL5 (.c4 ((rel_Lf _ _ _).2 rfl) .nil) ?_
      intro v6 w6 hx6 hL6 hle6 hv6
      have he6 := (((her.mono (gz_mono hH hle3)).mono (gz_mono hH hle4)).mono (gz_mono hH hle5)).mono (gz_mono hH hle6)
      refine S_appE (r := rpLf) (l := seen.map fun j => K.getD j default) (m := [a]) 2 rfl rfl Tryz.underlying131 zr84 rfl (by decide) rfl hH hL6 rfl he6 hv6 (hcap _ ?_) ?_
      · have h1 := nd_le N (seen ++ [j]) (List.nodup_append.2 ⟨hnd, List.pairwise_singleton _ j, fun x hx y hy => by rw [List.mem_singleton] at hy; subst hy; exact fun e => hj (e ▸ hx)⟩) (fun q hq => by rcases List.mem_append.1 hq with h2 | h2; exact hlt q h2; rw [List.mem_singleton] at h2; subst h2; exact hjN)
        simpa using h1
      intro v7 w7 xs7 hL7 hle7 he7
      refine S_pu 1 rfl ?_
      refine S_nil ?_
      refine At_block ?_
      have hmap : (seen ++ [j]).map (fun j => K.getD j default) = (seen.map fun j => K.getD j default) ++ [a] := by
        rw [List.map_append, List.map_singleton]
        have : K.getD j default = a := by rw [List.getD_eq_getElem?_getD, ha]; rfl
        rw [this]
      have hnd2 : (seen ++ [j]).Nodup := List.nodup_append.2 ⟨hnd, List.pairwise_singleton _ j, fun x hx y hy => by rw [List.mem_singleton] at hy; subst hy; exact fun e => hj (e ▸ hx)⟩
      have hL8 := hL7.dropAt (i := 0) rfl
      have he8 := he7.mono (gz_mono hH (fz_dropAt (i := 0) rfl))
      refine At_round (seen ++ [j], v7, xs7) (.cons rfl (.cons rfl (.cons rfl (Sub.nil _)))) ?_ ?_
      · show Lcl w [.obj b2 (.mapIter (some m) N (seen ++ [j]).toArray N), .row v7 84 4 ((seen ++ [j]).map fun j => K.getD j default).length xs7] w7 ∧ Elems rpLf (gz H w w7 [.obj b2 (.mapIter (some m) N (seen ++ [j]).toArray N), .row v7 84 4 ((seen ++ [j]).map fun j => K.getD j default).length xs7]) ((seen ++ [j]).map fun j => K.getD j default) xs7 ∧ _
        rw [hmap]
        refine ⟨hL8, he8, hnd2, fun q hq => ?_⟩
        rcases List.mem_append.1 hq with h2 | h2
        · exact hlt q h2
        · rw [List.mem_singleton] at h2; subst h2; exact hjN
      · show N - (seen ++ [j]).length < N - seen.length
        have h1 := nd_le N (seen ++ [j]) hnd2 (fun q hq => by rcases List.mem_append.1 hq with h2 | h2; exact hlt q h2; rw [List.mem_singleton] at h2; subst h2; exact hjN)
        rw [List.length_append, List.length_singleton] at h1
        rw [List.length_append, List.length_singleton]
        omega
    · intro hall
      refine S_pz 1 rfl ?_
      refine W_seq ?_
      refine W_false rfl ?_
      refine W_exit ?_
      refine At_seq_exit ?_
      refine At_loop_exit ?_
      refine At_exit ?_
      have hp : (seen.map fun j => K.getD j default).Perm K := by
        have h1 : seen.Perm (List.range N) := (List.perm_ext_iff_of_nodup hnd List.nodup_range).2 fun q => ⟨fun hq => List.mem_range.2 (hlt q hq), fun hq => hall q (List.mem_range.1 hq)⟩
        have h2 := h1.map (fun j => K.getD j default)
        have h3 : (List.range N).map (fun j => K.getD j default) = K := by
          apply List.ext_getElem?
          intro q
          rw [List.getElem?_map]
          by_cases hq : q < N
          · rw [List.getElem?_range hq, List.getElem?_eq_getElem (by omega : q < K.length)]
            simp [List.getD_eq_getElem?_getD, List.getElem?_eq_getElem (by omega : q < K.length)]
          · rw [List.getElem?_eq_none (by simpa using hq), List.getElem?_eq_none (by omega)]; rfl
        rwa [h3] at h2
      exact At_cut (v, xs, seen.map fun j => K.getD j default) (.cons rfl (.cons rfl (Sub.nil _))) ⟨hLr.dropAt (i := 0) rfl, her.mono (gz_mono hH (fz_dropAt (i := 0) rfl)), hp⟩
  · rintro ⟨v, xs, l⟩ wr ⟨hLr, her, hp⟩
    have hlN : l.length = N := by rw [hp.length_eq]; omega
    refine W_p 2 rfl ?_
    refine S_sortL (i := 0) rfl rfl hH hLr rfl her (by omega) ?_
    intro w8 xs8 hL8 hle8 he8
    refine S_seqnil ?_
    refine W_pz 2 rfl ?_
    refine W_ret ?_
    refine At_body rfl rfl ?_
    have e : srtL l = srtL K := srt_perm ordLf hp
    rw [e] at hL8 he8
    exact ⟨hL8.ext, _, rfl, hL8.ownH hH (i := 0) rfl he8⟩
end Go.Proofs.YtmfiaecglndldaaGreatDoor
end
section
namespace Go.Proofs.YtmfiaecglndldaaGreatDoor
open Go Go.E Go.RowKit Go.L
/-- What the function value of Paths turns: a variable and its row. -/
def JPa (b : Nat) (s : List (List UInt8)) (R : List Res) (G : PH) : Prop := ∃ (v : Value) (xs : List Value), R = [.box b [v] 30, .row v 9 1 s.length xs] ∧ Elems .st G s xs
noncomputable def pathStep (s : List (List UInt8)) (x : Lf) : Option (List (List UInt8)) := shapes_Paths_1 x s
theorem cb_paths {w0 : World} {H : PH} (hH : Le H (hp w0)) (b : Nat) : Cb Tryz.prog w0 H 52 [.pointer (some ⟨b, 0, none⟩)] (JPa b) pathStep := by
  constructor
  · rintro s R G G' hle ⟨v, xs, rfl, he⟩
    exact ⟨v, xs, rfl, he.mono hle⟩
  · rintro w O R s s' x hL ⟨v, xs, rfl, he⟩ h
    have hp : (HAppend.hAppend ([.box b [v] 30, .row v 9 1 s.length xs] : List Res) O).Perm (HAppend.hAppend O ([.box b [v] 30, .row v 9 1 s.length xs] : List Res)) := List.perm_append_comm
    have hc := shapes_Paths_1_fr hH (O := O) (hL.perm hp) (he.mono (gz_mono hH (by rw [fz_perm hp]; exact Le.refl _))) h
    refine ⟨hc.1, hc.2.mono fun e w' ⟨u, hu, u0, y0, h1, h2, h3, h4⟩ => ⟨u, hu, h1, _, h2.perm List.perm_append_comm, ?_, u0, y0, rfl, ?_⟩⟩
    · rw [fz_perm (O' := HAppend.hAppend O ([.box b [u0] 30, .row u0 9 1 s'.length y0] : List Res)) List.perm_append_comm]
      exact Le.trans (by rw [fz_perm hp]; exact Le.refl _) h3
    · exact h4.mono (gz_mono hH (by rw [fz_perm (O' := HAppend.hAppend O ([.box b [u0] 30, .row u0 9 1 s'.length y0] : List Res)) List.perm_append_comm]; exact Le.refl _))
theorem leaves_paths {w0 w : World} {H : PH} (hH : Le H (hp w0)) {O : List Res} {b : Nat} {v : Value} {xs : List Value} {s : List (List UInt8)} {a0 : Go.L.Pv} {a1 : List (List UInt8)} {va0_2 va0_3 va0_4 va1 : Value}
    (hL : Lcl w0 (HAppend.hAppend ([.box b [v] 30, .row v 9 1 s.length xs] : List Res) O) w) (he : Elems .st (gz H w0 w (HAppend.hAppend ([.box b [v] 30, .row v 9 1 s.length xs] : List Res) O)) s xs)
    (ha0_2 : Vec .byte (gz H w0 w (HAppend.hAppend ([.box b [v] 30, .row v 9 1 s.length xs] : List Res) O)) va0_2 a0.f.2.2.1) (ha0_3 : Vec .st (gz H w0 w (HAppend.hAppend ([.box b [v] 30, .row v 9 1 s.length xs] : List Res) O)) va0_3 a0.f.2.2.2.1) (ha0_4 : Vec .tree (gz H w0 w (HAppend.hAppend ([.box b [v] 30, .row v 9 1 s.length xs] : List Res) O)) va0_4 a0.f.2.2.2.2) (ha1 : Vec .st (gz H w0 w (HAppend.hAppend ([.box b [v] 30, .row v 9 1 s.length xs] : List Res) O)) va1 a1)
    {r : List (List UInt8)} (h : shapes_leaves pathStep a0 a1 s = some r) :
    Ok Tryz.prog 51 [.agg #[.int .i64 a0.f.1, .int .i64 a0.f.2.1, va0_2, va0_3, va0_4], va1, .func (.func 52) #[] #[.pointer (some ⟨b, 0, none⟩)]] w (fun u w' => u = .tuple #[] ∧ ∃ (u0 : Value) (y0 : List Value), Lcl w0 (HAppend.hAppend ([.box b [u0] 30, .row u0 9 1 r.length y0] : List Res) O) w' ∧ Le (fz w (HAppend.hAppend ([.box b [v] 30, .row v 9 1 s.length xs] : List Res) O)) (fz w' (HAppend.hAppend ([.box b [u0] 30, .row u0 9 1 r.length y0] : List Res) O)) ∧ Elems .st (gz H w0 w' (HAppend.hAppend ([.box b [u0] 30, .row u0 9 1 r.length y0] : List Res) O)) r y0) := by
  have hp : (HAppend.hAppend O ([.box b [v] 30, .row v 9 1 s.length xs] : List Res)).Perm (HAppend.hAppend ([.box b [v] 30, .row v 9 1 s.length xs] : List Res) O) := List.perm_append_comm
  have hz : Le (gz H w0 w (HAppend.hAppend ([.box b [v] 30, .row v 9 1 s.length xs] : List Res) O)) (gz H w0 w (HAppend.hAppend O ([.box b [v] 30, .row v 9 1 s.length xs] : List Res))) := gz_mono hH (by rw [fz_perm hp]; exact Le.refl _)
  have hc := shapes_leaves_J hH (cb_paths hH b) (O := O) (hL.perm hp) (ha0_2.mono hz) (ha0_3.mono hz) (ha0_4.mono hz) (ha1.mono hz) (s := s) ⟨v, xs, rfl, he.mono hz⟩ h
  refine ⟨hc.1, hc.2.mono fun e w' ⟨u, hu, h1, R', h2, h3, u0, y0, h4, h5⟩ => ?_⟩
  subst h4
  have hp' : (HAppend.hAppend ([.box b [u0] 30, .row u0 9 1 r.length y0] : List Res) O).Perm (HAppend.hAppend O ([.box b [u0] 30, .row u0 9 1 r.length y0] : List Res)) := List.perm_append_comm
  refine ⟨u, hu, h1, u0, y0, h2.perm hp', ?_, h5.mono (gz_mono hH (by rw [fz_perm hp']; exact Le.refl _))⟩
  rw [fz_perm hp']
  exact Le.trans (by rw [fz_perm hp]; exact Le.refl _) h3
/-- What the function value of Build turns: the map. -/
abbrev buildA (bm bi b : Nat) (i : Int) (l : List (Lf × List Int)) (vs : List Value) : List Res := [.box bm [.map (some b)] 92, .box bi [.int .i64 i] 3, mpR encLf b l vs]
abbrev buildT (l : List (Lf × List Int)) (vs : List Value) : List Res := mT cwI 3 1 l vs
def JBu (bm bi b : Nat) (i : Int) (l : List (Lf × List Int)) (R : List Res) (_ : PH) : Prop := ∃ vs : List Value, l.length = vs.length ∧ R = HAppend.hAppend (buildA bm bi b i l vs) (buildT l vs)
noncomputable def buildStep (i : Int) (l : List (Lf × List Int)) (x : Lf) : Option (List (Lf × List Int)) := Go.L.chk (Go.E.Cap 8 ((mget [] x l).length + 1)) (some (mput x (mget [] x l ++ [i]) l))
set_option maxRecDepth 10000 in
theorem build1_fr {w0 w : World} {H : PH} (hH : Le H (hp w0)) {O : List Res} {bm bi b : Nat} {i : Int} {l : List (Lf × List Int)} {vs : List Value} {x : Lf} (hL : Lcl w0 (HAppend.hAppend (HAppend.hAppend (buildA bm bi b i l vs) O) (buildT l vs)) w) (hn : l.length = vs.length) {r : List (Lf × List Int)} (h : buildStep i l x = some r) :
    Ok Tryz.prog 58 [encLf x, .pointer (some ⟨bm, 0, none⟩), .pointer (some ⟨bi, 0, none⟩)] w (fun u w' => u = .tuple #[] ∧ ∃ vs' : List Value, r.length = vs'.length ∧ Lcl w0 (HAppend.hAppend (HAppend.hAppend (buildA bm bi b i r vs') O) (buildT r vs')) w' ∧ Le (fz w (HAppend.hAppend (HAppend.hAppend (buildA bm bi b i l vs) O) (buildT l vs))) (fz w' (HAppend.hAppend (HAppend.hAppend (buildA bm bi b i r vs') O) (buildT r vs')))) := by
  obtain ⟨hcap, h⟩ := Go.L.chk_some h
  obtain rfl := Option.some.inj h
  refine Ok_enter (n := 12) [(0, encLf x), (1, .pointer (some ⟨bm, 0, none⟩)), (2, .pointer (some ⟨bi, 0, none⟩))] Tryz.func58 rfl rfl rfl rfl rfl ?_
  refine W_seqr ?_
  refine S_box (t := 84) rfl rfl rfl hL ?_
  intro w1 b1 hL1 hle1 _
  refine S_seqnil ?_
  refine W_region ?_
  refine S_v (r_loadB1 1 rfl Tryz.underlying92 rfl hL1 rfl rfl) rfl ?_
  refine S_v (r_loadBN 0 rfl Tryz.underlying84 rfl zr84 hL1 rfl) rfl ?_
  refine S_v (r_loadB1 2 rfl Tryz.underlying3 rfl hL1 rfl rfl) rfl ?_
  refine S_litE (r := .int .i64) (l := [i]) rfl (fun _ => bsl52_1 _ _) rfl (show 1 ≤ 9223372036854775807 by decide) hH hL1 (.c1 rfl .nil) ?_
  intro v2 w2 hx2 hL2 hle2 hv2
  refine S_mapEntry (A := .box b1 [.string ⟨x.1.toArray⟩, .int .i64 x.2.1, .int .i64 x.2.2.1, .string ⟨x.2.2.2.toArray⟩] 84 :: HAppend.hAppend (buildA bm bi b i l vs) O) (l := l) (vs := vs) (k := x) (enc := encLf) 3 rfl rfl Tryz.underlying92 key84 Tryz.zeroValue52 rfl hL2 rfl hn ?_
  intro vs3 w3 hn3 hL3 hle3
  refine S_pu 1 rfl ?_
  have hv3 := hv2.mono (gz_mono hH hle3)
  refine S_appM (A := .box b1 [.string ⟨x.1.toArray⟩, .int .i64 x.2.1, .int .i64 x.2.2.1, .string ⟨x.2.2.2.toArray⟩] 84 :: HAppend.hAppend (buildA bm bi b i (mtouch x l) vs3) O) (l := mtouch x l) (vs := vs3) (k := x) (z := i) (r := .int .i64) (H := H) rel_I rfl rfl rfl Tryz.underlying52 zr3 rfl (by decide) rfl hH hL3 hn3 hv3 (by rw [mget_touch]; exact hcap) ?_
  intro v4 w4 T4 hpd4 hL4 hle4
  rw [mget_touch] at hpd4
  refine S_pu 1 rfl ?_
  refine S_estM (A := .box b1 [.string ⟨x.1.toArray⟩, .int .i64 x.2.1, .int .i64 x.2.2.1, .string ⟨x.2.2.2.toArray⟩] 84 :: HAppend.hAppend (buildA bm bi b i (mtouch x l) vs3) O) (T := T4) (k := x) (l := l) (vs := vs3) 3 hpd4 rfl rfl rfl hL4 rfl ?_
  intro vs5 w5 hn5 hL5 hle5
  refine S_nil ?_
  refine At_got0e rfl ?_
  refine ⟨rfl, vs5, hn5, hL5.dropAt (i := 0) rfl, ((((hle1.trans hle2).trans hle3).trans hle4).trans hle5).trans (fz_dropAt (i := 0) rfl)⟩
theorem build_perm (bm bi b : Nat) (i : Int) (l : List (Lf × List Int)) (vs : List Value) (O : List Res) : (HAppend.hAppend (HAppend.hAppend (buildA bm bi b i l vs) O) (buildT l vs)).Perm (HAppend.hAppend O (HAppend.hAppend (buildA bm bi b i l vs) (buildT l vs))) := by
  rw [← List.append_assoc O]
  exact List.perm_append_comm.append_right _
theorem cb_build {w0 : World} {H : PH} (hH : Le H (hp w0)) (bm bi b : Nat) (i : Int) : Cb Tryz.prog w0 H 58 [.pointer (some ⟨bm, 0, none⟩), .pointer (some ⟨bi, 0, none⟩)] (JBu bm bi b i) (buildStep i) := by
  constructor
  · exact fun _ h => h
  · rintro w O R l l' x hL ⟨vs, hn, rfl⟩ h
    have hc := build1_fr hH (O := O) (hL.perm (build_perm bm bi b i l vs O)) hn h
    refine ⟨hc.1, hc.2.mono fun e w' ⟨u, hu, h1, vs', h2, h3, h4⟩ => ⟨u, hu, h1, _, h3.perm (build_perm bm bi b i l' vs' O).symm, ?_, vs', h2, rfl⟩⟩
    rw [← fz_perm (build_perm bm bi b i l vs O), ← fz_perm (build_perm bm bi b i l' vs' O)]
    exact h4
theorem leaves_build {w0 w : World} {H : PH} (hH : Le H (hp w0)) {O : List Res} {bm bi b : Nat} {i : Int} {l : List (Lf × List Int)} {vs : List Value} {a0 : Go.L.Pv} {a1 : List (List UInt8)} {va0_2 va0_3 va0_4 va1 : Value}
    (hL : Lcl w0 (HAppend.hAppend (HAppend.hAppend (buildA bm bi b i l vs) O) (buildT l vs)) w) (ha0_2 : Vec .byte (gz H w0 w (HAppend.hAppend (HAppend.hAppend (buildA bm bi b i l vs) O) (buildT l vs))) va0_2 a0.f.2.2.1) (ha0_3 : Vec .st (gz H w0 w (HAppend.hAppend (HAppend.hAppend (buildA bm bi b i l vs) O) (buildT l vs))) va0_3 a0.f.2.2.2.1) (ha0_4 : Vec .tree (gz H w0 w (HAppend.hAppend (HAppend.hAppend (buildA bm bi b i l vs) O) (buildT l vs))) va0_4 a0.f.2.2.2.2) (ha1 : Vec .st (gz H w0 w (HAppend.hAppend (HAppend.hAppend (buildA bm bi b i l vs) O) (buildT l vs))) va1 a1)
    (hn : l.length = vs.length) {r : List (Lf × List Int)} (h : shapes_leaves (buildStep i) a0 a1 l = some r) :
    Ok Tryz.prog 51 [.agg #[.int .i64 a0.f.1, .int .i64 a0.f.2.1, va0_2, va0_3, va0_4], va1, .func (.func 58) #[] #[.pointer (some ⟨bm, 0, none⟩), .pointer (some ⟨bi, 0, none⟩)]] w (fun u w' => u = .tuple #[] ∧ ∃ vs' : List Value, r.length = vs'.length ∧ Lcl w0 (HAppend.hAppend (HAppend.hAppend (buildA bm bi b i r vs') O) (buildT r vs')) w' ∧ Le (fz w (HAppend.hAppend (HAppend.hAppend (buildA bm bi b i l vs) O) (buildT l vs))) (fz w' (HAppend.hAppend (HAppend.hAppend (buildA bm bi b i r vs') O) (buildT r vs')))) := by
  have hz : Le (gz H w0 w (HAppend.hAppend (HAppend.hAppend (buildA bm bi b i l vs) O) (buildT l vs))) (gz H w0 w (HAppend.hAppend O (HAppend.hAppend (buildA bm bi b i l vs) (buildT l vs)))) := gz_mono hH (by rw [fz_perm (build_perm bm bi b i l vs O)]; exact Le.refl _)
  have hc := shapes_leaves_J hH (cb_build hH bm bi b i) (O := O) (hL.perm (build_perm bm bi b i l vs O).symm) (ha0_2.mono hz) (ha0_3.mono hz) (ha0_4.mono hz) (ha1.mono hz) (s := l) ⟨vs, hn, rfl⟩ h
  refine ⟨hc.1, hc.2.mono fun e w' ⟨u, hu, h1, R', h2, h3, vs', h4, h5⟩ => ?_⟩
  subst h5
  refine ⟨u, hu, h1, vs', h4, h2.perm (build_perm bm bi b i r vs' O), ?_⟩
  rw [fz_perm (build_perm bm bi b i l vs O), fz_perm (build_perm bm bi b i r vs' O)]
  exact h3
end Go.Proofs.YtmfiaecglndldaaGreatDoor
end
section
namespace Go.Proofs.YtmfiaecglndldaaGreatDoor
open Go Go.E Go.RowKit
set_option maxHeartbeats 1000000
set_option maxRecDepth 10000
open _root_.Go.Proofs.Tryz
noncomputable def slices_Grow_byte_byte_k1 (a1 : Int) : Option ((List UInt8)) :=
 Go.L.chk (Go.L.I64 ((0 : Int) - (0 : Int))) (Go.L.chk (Go.L.I64 (a1 - ((0 : Int) - (0 : Int)))) (if (0 : Int) < (a1 - ((0 : Int) - (0 : Int))) then Go.L.chk (0 < (a1 - ((0 : Int) - (0 : Int))) ∧ (a1 - ((0 : Int) - (0 : Int))) * 1 ≤ 281474976710656) (some (([] : List UInt8))) else some ([])))
noncomputable def slices_Grow_byte_byte (_a0 : List UInt8) (a1 : Int) : Option ((List UInt8)) :=
 if a1 < (0 : Int) then none else (slices_Grow_byte_byte_k1 a1)
theorem slices_Grow_byte_byte_ok (w : World) (H : PH) (hH : Le H (hp w)) {a0 : List UInt8} {a1 : Int}  (_ : Vec .byte H (.slice none 0 0) a0) {r : (List UInt8)} (h : slices_Grow_byte_byte a0 a1 = some r) :
  Ok Tryz.prog 135 [.slice none 0 0, .int .i64 a1] w (fun v w' => Ext w w' ∧ ∃ u0, v = u0 ∧ OwnH 5 .byte H w w' u0 (r)) := by
 refine Ok_enter (n := 27) [(0, .slice none 0 0), (1, .int .i64 a1)] func135 rfl rfl rfl rfl rfl ?_
 have hL := Lcl.start w
 refine W_pz 1 rfl ?_
 refine W_cut (σ := Unit) (fun (_ : Unit) => [(0, .slice none 0 0), (1, .int .i64 a1)]) (fun (_ : Unit) wr => Lcl w [] wr ∧ (slices_Grow_byte_byte_k1 a1) = some r) ?_ ?_
 ·refine W_pz 2 rfl ?_
  refine W_if rfl (fun hc7 => ?_) (fun hc7 => ?_)
  ·replace h := Go.L.ite_p hc7 h
   refine W_region ?_
   cases h
  ·replace h := Go.L.ite_n hc7 h
   refine W_skip ?_
   refine At_cut () (.cons rfl (.cons rfl (Sub.nil _))) ⟨hL, h⟩
 ·rintro _ wr5 ⟨hL5, h⟩
  refine W_seq ?_
  refine W_p 2 rfl ?_
  refine S_v (r_cap rfl underlying35) rfl ?_
  refine S_pu 1 rfl ?_
  refine S_v (r_lenH rfl underlying35) rfl ?_
  obtain ⟨hk11, h⟩ := Go.L.chk_some h
  refine S_v (r_ar64 rfl rfl rfl hk11) rfl ?_
  obtain ⟨hk12, h⟩ := Go.L.chk_some h
  refine S_v (r_ar64 rfl rfl rfl hk12) rfl ?_
  refine S_pz 1 rfl ?_
  refine W_pz 2 rfl ?_
  refine W_if rfl (fun hc13 => ?_) (fun hc13 => ?_)
  ·replace h := Go.L.ite_p hc13 h
   refine W_region ?_
   refine S_pu 2 rfl ?_
   refine S_v (r_cap rfl underlying35) rfl ?_
   refine S_v (r_sliceNil rfl rfl underlying35 zr5) rfl ?_
   refine S_pu 1 rfl ?_
   obtain ⟨hk16, h⟩ := Go.L.chk_some h
   obtain ⟨m15, hm15⟩ := Int.eq_ofNat_of_zero_le (show 0 ≤ (a1 - ((0 : Int) - (0 : Int))) by omega)
   refine S_growZ (k := .i64) (m := m15) rfl (by rw [← hm15]; rfl) underlying35 underlying3 zr5 rfl rfl (by omega) (by omega) (by omega) ?_
   intro g15 cap15 cur15 w15 hx15 hg15 hh15 hc15 hs15
   refine S_pu 1 rfl ?_
   refine S_v (r_lenH rfl underlying35) rfl ?_
   refine S_v (r_cut0 rfl rfl underlying35 zr5) rfl ?_
   obtain ⟨hL15, hle15⟩ := row_new (v := .slice (some ⟨g15, 0, none⟩) 0 cap15) (e := 5) (sz := 1) (m := 0) (xs := []) hL5 hx15 ⟨rfl, .inr ⟨g15, cap15, cur15, rfl, hg15, hh15, Nat.zero_le _, hc15, by rw [hs15, Nat.mul_one], rfl⟩⟩
   refine S_pu 1 rfl ?_
   refine S_nil ?_
   refine At_seq ?_
   refine W_pz 2 rfl ?_
   refine W_ret ?_
   obtain rfl := Option.some.inj h
   refine At_body rfl rfl ?_
   exact ⟨hL15.ext, _, rfl, (hL15.ownH hH (i := 0) rfl .nil)⟩
  ·replace h := Go.L.ite_n hc13 h
   refine W_skip ?_
   refine At_seq ?_
   refine W_pz 2 rfl ?_
   refine W_ret ?_
   obtain rfl := Option.some.inj h
   refine At_body rfl rfl ?_
   exact ⟨hL5.ext, _, rfl, OwnH.nil⟩
noncomputable def slices_Concat_byte_byte_k3 (l57 : List UInt8) : Option ((List UInt8)) :=
 some (l57)
noncomputable def slices_Concat_byte_byte_bl4 (a0 : List (List UInt8)) : (List UInt8) × Int → Option (((List UInt8) × Int) ⊕ ((List UInt8))) := fun ⟨l69, s27_70⟩ =>
 if s27_70 < (a0.length : Int) then Go.L.chk (0 ≤ s27_70 ∧ s27_70 < (a0.length : Int)) (Go.L.chk (Go.E.Cap 1 (l69.length + (a0.getD s27_70.toNat default).length)) (Go.L.chk (Go.L.I64 (s27_70 + (1 : Int))) (some (Sum.inl ((l69 ++ a0.getD s27_70.toNat default), (s27_70 + (1 : Int))))))) else Option.map Sum.inr (slices_Concat_byte_byte_k3 l69)
noncomputable def slices_Concat_byte_byte_l4 (a0 : List (List UInt8)) (s : (List UInt8) × Int) : Option ((List UInt8)) := Go.L.run (slices_Concat_byte_byte_bl4 a0) s
noncomputable def slices_Concat_byte_byte_k1 (a0 : List (List UInt8)) (s3_15 : Int) : Option ((List UInt8)) :=
 Option.bind (slices_Grow_byte_byte ([]) s3_15) (fun x44 => (slices_Concat_byte_byte_l4 a0) (x44, (0 : Int)))
noncomputable def slices_Concat_byte_byte_bl2 (a0 : List (List UInt8)) : Int × Int → Option ((Int × Int) ⊕ ((List UInt8))) := fun ⟨s3_29, s11_30⟩ =>
 if s11_30 < (a0.length : Int) then Go.L.chk (0 ≤ s11_30 ∧ s11_30 < (a0.length : Int)) (Go.L.chk (Go.L.I64 (s3_29 + ((a0.getD s11_30.toNat default).length : Int))) (if (s3_29 + ((a0.getD s11_30.toNat default).length : Int)) < (0 : Int) then none else Go.L.chk (Go.L.I64 (s11_30 + (1 : Int))) (some (Sum.inl ((s3_29 + ((a0.getD s11_30.toNat default).length : Int)), (s11_30 + (1 : Int))))))) else Option.map Sum.inr ((slices_Concat_byte_byte_k1 a0) s3_29)
noncomputable def slices_Concat_byte_byte_l2 (a0 : List (List UInt8)) (s : Int × Int) : Option ((List UInt8)) := Go.L.run (slices_Concat_byte_byte_bl2 a0) s
noncomputable def slices_Concat_byte_byte (a0 : List (List UInt8)) : Option ((List UInt8)) :=
 (slices_Concat_byte_byte_l2 a0) ((0 : Int), (0 : Int))
theorem slices_Concat_byte_byte_ok (w : World) (H : PH) (hH : Le H (hp w)) {a0 : List (List UInt8)} {v0_0 : Value} (h0_0 : Vec (.vec .byte) H v0_0 (a0)) {r : (List UInt8)} (h : slices_Concat_byte_byte a0 = some r) :
  Ok Tryz.prog 108 [v0_0] w (fun v w' => Ext w w' ∧ ∃ u0, v = u0 ∧ OwnH 5 .byte H w w' u0 (r)) := by
 refine Ok_enter (n := 36) [(0, v0_0)] func108 rfl rfl rfl rfl rfl ?_
 have hL := Lcl.start w
 refine W_pz 1 rfl ?_
 refine W_pz 1 rfl ?_
 refine W_cut (σ := Int) (fun s3_15 => [(0, v0_0), (3, .int .i64 s3_15)]) (fun s3_15 wr => Lcl w [] wr ∧ (slices_Concat_byte_byte_k1 a0) s3_15 = some r) ?_ ?_
 ·refine W_p 1 rfl ?_
  refine S_v (r_len rfl underlying178 h0_0) rfl ?_
  refine S_pz 1 rfl ?_
  refine W_block ?_
  obtain ⟨n31, h⟩ := Go.L.run_some h
  refine W_loop (σ := Int × Int × Nat) (fun ⟨s3_29, s11_30, n⟩ => [(0, v0_0), (3, .int .i64 s3_29), (9, v0_0), (10, .int .i64 (a0.length : Int)), (11, .int .i64 s11_30)]) (fun ⟨s3_29, s11_30, n⟩ wr => Lcl w [] wr ∧ Go.L.itr (slices_Concat_byte_byte_bl2 a0) n (s3_29, s11_30) = some r) (fun ⟨s3_29, s11_30, n⟩ => n) ((0 : Int), (0 : Int), n31) (.cons rfl (.cons rfl (.cons rfl (.cons rfl (.cons rfl (Sub.nil _)))))) ⟨hL, h⟩ ?_
  rintro ⟨s3_29, s11_30, nn31⟩ wr31 ⟨hL31, h⟩
  obtain ⟨n31, e31, rfl, h, hm31⟩ := Go.L.itr_some h
  refine W_pz 1 rfl ?_
  refine W_seq ?_
  refine W_if rfl (fun hc33 => ?_) (fun hc33 => ?_)
  ·replace h := Go.L.ite_p hc33 h
   refine W_skip ?_
   refine At_seq ?_
   refine W_seq ?_
   refine W_block ?_
   refine W_seqr ?_
   obtain ⟨hk36, h⟩ := Go.L.chk_some h
   refine S_index rfl rfl underlying178 zr35 h0_0 s11_30.toNat (Int.toNat_of_nonneg hk36.1).symm (idx_lt hk36) rfl ?_
   rintro p35 _ ⟨e35v0, rfl, e35h0⟩ hp35
   refine S_v (r_load1 rfl underlying35 rfl hp35 (hH.trans hL31.arg)) rfl ?_
   refine S_pz 1 rfl ?_
   refine W_p 2 rfl ?_
   refine S_v (r_len rfl underlying35 e35h0) rfl ?_
   obtain ⟨hk37, h⟩ := Go.L.chk_some h
   refine S_v (r_ar64 rfl rfl rfl hk37) rfl ?_
   refine S_pz 1 rfl ?_
   refine W_pz 2 rfl ?_
   refine W_if rfl (fun hc38 => ?_) (fun hc38 => ?_)
   ·replace h := Go.L.ite_p hc38 h
    refine W_region ?_
    cases h
   ·replace h := Go.L.ite_n hc38 h
    refine W_skip ?_
    refine At_block ?_
    refine At_seq ?_
    refine W_region ?_
    obtain ⟨hk41, h⟩ := Go.L.chk_some h
    refine S_v (r_ar64 rfl rfl rfl hk41) rfl ?_
    refine S_pu 1 rfl ?_
    refine S_nil ?_
    have h := Go.L.Nxt.again h hm31
    refine At_round ((s3_29 + ((a0.getD s11_30.toNat default).length : Int)), (s11_30 + (1 : Int)), n31) (.cons rfl (.cons rfl (.cons rfl (.cons rfl (.cons rfl (Sub.nil _)))))) ⟨hL31, h⟩ (Nat.lt_succ_self _)
  ·replace h := Go.L.ite_n hc33 h
   refine W_exit ?_
   refine At_seq_exit ?_
   refine At_loop_exit ?_
   replace h := Go.L.Nxt.out h hm31
   refine At_exit ?_
   refine At_cut s3_29 (.cons rfl (.cons rfl (Sub.nil _))) ⟨hL31, h⟩
 ·rintro s3_15 wr16 ⟨hL16, h⟩
  refine W_p 1 rfl ?_
  obtain ⟨x44, hb44, h⟩ := Go.L.bind_some h
  refine S_callL rfl rfl hL16 (slices_Grow_byte_byte_ok _ _ (gz_le hH hL16) (Vec.nil _ _) hb44) ?_
  rintro u45_0 w45 ⟨_, rfl, hR45_0⟩ hx45 hL45 hle45
  obtain ⟨xs45, hL45, hle45, he45⟩ := hR45_0.take hH hL16 hx45
  refine S_pz 1 rfl ?_
  refine W_cut (σ := (List UInt8) × Value × (List Value)) (fun ⟨l57, vl57, xsl57⟩ => [(6, vl57)]) (fun ⟨l57, vl57, xsl57⟩ wr => InO w [.row (vl57) 5 1 (l57).length (xsl57)] wr fun Oz => Elems .byte (gz H w wr Oz) (l57) (xsl57) ∧ slices_Concat_byte_byte_k3 l57 = some r) ?_ ?_
  ·refine W_p 1 rfl ?_
   refine S_v (r_len rfl underlying178 h0_0) rfl ?_
   refine S_pz 1 rfl ?_
   refine W_block ?_
   obtain ⟨n71, h⟩ := Go.L.run_some h
   refine W_loop (σ := (List UInt8) × Int × Value × (List Value) × Nat) (fun ⟨l69, s27_70, vl69, xsl69, n⟩ => [(6, vl69), (25, v0_0), (26, .int .i64 (a0.length : Int)), (27, .int .i64 s27_70)]) (fun ⟨l69, s27_70, vl69, xsl69, n⟩ wr => InO w [.row (vl69) 5 1 (l69).length (xsl69)] wr fun Oz => Elems .byte (gz H w wr Oz) (l69) (xsl69) ∧ Go.L.itr (slices_Concat_byte_byte_bl4 a0) n (l69, s27_70) = some r) (fun ⟨l69, s27_70, vl69, xsl69, n⟩ => n) (x44, (0 : Int), u45_0, xs45, n71) (.cons rfl (.cons rfl (.cons rfl (.cons rfl (Sub.nil _))))) ⟨hL45, he45, h⟩ ?_
   rintro ⟨l69, s27_70, vl69, xsl69, nn71⟩ wr71 ⟨hL71, hel69, h⟩
   obtain ⟨n71, e71, rfl, h, hm71⟩ := Go.L.itr_some h
   refine W_pz 1 rfl ?_
   refine W_seq ?_
   refine W_if rfl (fun hc73 => ?_) (fun hc73 => ?_)
   ·replace h := Go.L.ite_p hc73 h
    refine W_skip ?_
    refine At_seq ?_
    refine W_seq ?_
    refine W_block ?_
    refine W_seqr ?_
    obtain ⟨hk76, h⟩ := Go.L.chk_some h
    refine S_index rfl rfl underlying178 zr35 h0_0 s27_70.toNat (Int.toNat_of_nonneg hk76.1).symm (idx_lt hk76) rfl ?_
    rintro p75 _ ⟨e75v0, rfl, e75h0⟩ hp75
    refine S_v (r_load1 rfl underlying35 rfl hp75 (hH.trans hL71.arg)) rfl ?_
    refine S_pz 1 rfl ?_
    refine W_region ?_
    refine S_pu 2 rfl ?_
    obtain ⟨hk78, h⟩ := Go.L.chk_some h
    refine S_appE (r := .byte) (l := l69) (m := a0.getD s27_70.toNat default) 0 rfl rfl underlying35 zr5 rfl (by decide) rfl hH hL71 rfl hel69 (e75h0.mono (gz_left hH)) hk78 ?_
    intro v77 w77 xs77 hL77 hle77 he77
    refine S_pu 1 rfl ?_
    refine S_nil ?_
    refine At_block ?_
    refine At_seq ?_
    refine W_region ?_
    obtain ⟨hk79, h⟩ := Go.L.chk_some h
    refine S_v (r_ar64 rfl rfl rfl hk79) rfl ?_
    refine S_pu 1 rfl ?_
    refine S_nil ?_
    have h := Go.L.Nxt.again h hm71
    refine At_round ((l69 ++ a0.getD s27_70.toNat default), (s27_70 + (1 : Int)), v77, xs77, n71) (.cons rfl (.cons rfl (.cons rfl (.cons rfl (Sub.nil _))))) ⟨hL77, he77, h⟩ (Nat.lt_succ_self _)
   ·replace h := Go.L.ite_n hc73 h
    refine W_exit ?_
    refine At_seq_exit ?_
    refine At_loop_exit ?_
    replace h := Go.L.Nxt.out h hm71
    refine At_exit ?_
    refine At_cut (l69, vl69, xsl69) (.cons rfl (Sub.nil _)) ⟨hL71, hel69, h⟩
  ·rintro ⟨l57, vl57, xsl57⟩ wr58 ⟨hL58, hel57, h⟩
   refine W_pz 2 rfl ?_
   refine W_ret ?_
   obtain rfl := Option.some.inj h
   refine At_body rfl rfl ?_
   exact ⟨hL58.ext, _, rfl, (hL58.ownH hH (i := 0) rfl hel57)⟩
noncomputable def wslice_Number_k1 (l16 : List UInt8) : Option ((List UInt8)) :=
 some (l16)
noncomputable def wslice_Number_bl2 (a0 : List Int) : (List UInt8) × Int → Option (((List UInt8) × Int) ⊕ ((List UInt8))) := fun ⟨l30, s13_31⟩ =>
 if s13_31 < (a0.length : Int) then Go.L.chk (0 ≤ s13_31 ∧ s13_31 < (a0.length : Int)) (Option.bind (wire_Number (a0.getD s13_31.toNat default)) (fun x38 => Go.L.chk (Go.E.Cap 1 (l30.length + x38.length)) (Go.L.chk (Go.L.I64 (s13_31 + (1 : Int))) (some (Sum.inl ((l30 ++ x38), (s13_31 + (1 : Int)))))))) else Option.map Sum.inr (wslice_Number_k1 l30)
noncomputable def wslice_Number_l2 (a0 : List Int) (s : (List UInt8) × Int) : Option ((List UInt8)) := Go.L.run (wslice_Number_bl2 a0) s
noncomputable def wslice_Number (a0 : List Int) : Option ((List UInt8)) :=
 Option.bind (wire_Number (a0.length : Int)) (fun x1 => (wslice_Number_l2 a0) (x1, (0 : Int)))
theorem wslice_Number_ok (w : World) (H : PH) (hH : Le H (hp w)) {a0 : List Int} {v0_0 : Value} (h0_0 : Vec (.int .i64) H v0_0 (a0)) {r : (List UInt8)} (h : wslice_Number a0 = some r) :
  Ok Tryz.prog 110 [v0_0, .func (.func 74) #[] #[]] w (fun v w' => Ext w w' ∧ ∃ u0, v = u0 ∧ OwnH 5 .byte H w w' u0 (r)) := by
 refine Ok_enter (n := 24) [(0, v0_0), (1, .func (.func 74) #[] #[])] func110 rfl rfl rfl rfl rfl ?_
 have hL := Lcl.start w
 refine W_pz 1 rfl ?_
 refine W_p 1 rfl ?_
 refine S_v (r_len rfl underlying52 h0_0) rfl ?_
 obtain ⟨x1, hb1, h⟩ := Go.L.bind_some h
 refine S_callL rfl rfl hL (wire_Number_ok _ _ (gz_le hH hL) hb1) ?_
 rintro u2_0 w2 ⟨_, rfl, hR2_0⟩ hx2 hL2 hle2
 obtain ⟨xs2, hL2, hle2, he2⟩ := hR2_0.take hH hL hx2
 refine S_pz 1 rfl ?_
 refine W_cut (σ := (List UInt8) × Value × (List Value)) (fun ⟨l16, vl16, xsl16⟩ => [(5, vl16)]) (fun ⟨l16, vl16, xsl16⟩ wr => InO w [.row (vl16) 5 1 (l16).length (xsl16)] wr fun Oz => Elems .byte (gz H w wr Oz) (l16) (xsl16) ∧ wslice_Number_k1 l16 = some r) ?_ ?_
 ·refine W_p 1 rfl ?_
  refine S_v (r_len rfl underlying52 h0_0) rfl ?_
  refine S_pz 1 rfl ?_
  refine W_block ?_
  obtain ⟨n32, h⟩ := Go.L.run_some h
  refine W_loop (σ := (List UInt8) × Int × Value × (List Value) × Nat) (fun ⟨l30, s13_31, vl30, xsl30, n⟩ => [(1, .func (.func 74) #[] #[]), (5, vl30), (11, v0_0), (12, .int .i64 (a0.length : Int)), (13, .int .i64 s13_31)]) (fun ⟨l30, s13_31, vl30, xsl30, n⟩ wr => InO w [.row (vl30) 5 1 (l30).length (xsl30)] wr fun Oz => Elems .byte (gz H w wr Oz) (l30) (xsl30) ∧ Go.L.itr (wslice_Number_bl2 a0) n (l30, s13_31) = some r) (fun ⟨l30, s13_31, vl30, xsl30, n⟩ => n) (x1, (0 : Int), u2_0, xs2, n32) (.cons rfl (.cons rfl (.cons rfl (.cons rfl (.cons rfl (Sub.nil _)))))) ⟨hL2, he2, h⟩ ?_
  rintro ⟨l30, s13_31, vl30, xsl30, nn32⟩ wr32 ⟨hL32, hel30, h⟩
  obtain ⟨n32, e32, rfl, h, hm32⟩ := Go.L.itr_some h
  refine W_pz 1 rfl ?_
  refine W_seq ?_
  refine W_if rfl (fun hc34 => ?_) (fun hc34 => ?_)
  ·replace h := Go.L.ite_p hc34 h
   refine W_skip ?_
   refine At_seq ?_
   refine W_seq ?_
   refine W_block ?_
   refine W_seqr ?_
   obtain ⟨hk37, h⟩ := Go.L.chk_some h
   refine S_index rfl rfl underlying52 zr3 h0_0 s13_31.toNat (Int.toNat_of_nonneg hk37.1).symm (idx_lt hk37) rfl ?_
   rintro p36 _ rfl hp36
   refine S_v (r_load1 rfl underlying3 rfl hp36 (hH.trans hL32.arg)) rfl ?_
   refine S_pz 1 rfl ?_
   refine W_region ?_
   refine S_pu 3 rfl ?_
   obtain ⟨x38, hb38, h⟩ := Go.L.bind_some h
   refine S_callwL rfl rfl rfl hL32 (wire_Number_ok _ _ (gz_le hH hL32) hb38) ?_
   rintro u39_0 w39 ⟨_, rfl, hR39_0⟩ hx39 hL39 hle39
   have hv39_0 := hR39_0.vecG hH hL32 hx39
   replace hel30 := hel30.mono (gz_mono hH hle39)
   obtain ⟨hk41, h⟩ := Go.L.chk_some h
   refine S_appE (r := .byte) (l := l30) (m := x38) 0 rfl rfl underlying35 zr5 rfl (by decide) rfl hH hL39 rfl hel30 hv39_0 hk41 ?_
   intro v40 w40 xs40 hL40 hle40 he40
   replace hv39_0 := hv39_0.mono (gz_mono hH hle40)
   refine S_pu 1 rfl ?_
   refine S_nil ?_
   refine At_block ?_
   refine At_seq ?_
   refine W_region ?_
   obtain ⟨hk42, h⟩ := Go.L.chk_some h
   refine S_v (r_ar64 rfl rfl rfl hk42) rfl ?_
   refine S_pu 1 rfl ?_
   refine S_nil ?_
   have h := Go.L.Nxt.again h hm32
   refine At_round ((l30 ++ x38), (s13_31 + (1 : Int)), v40, xs40, n32) (.cons rfl (.cons rfl (.cons rfl (.cons rfl (.cons rfl (Sub.nil _)))))) ⟨hL40, he40, h⟩ (Nat.lt_succ_self _)
  ·replace h := Go.L.ite_n hc34 h
   refine W_exit ?_
   refine At_seq_exit ?_
   refine At_loop_exit ?_
   replace h := Go.L.Nxt.out h hm32
   refine At_exit ?_
   refine At_cut (l30, vl30, xsl30) (.cons rfl (Sub.nil _)) ⟨hL32, hel30, h⟩
 ·rintro ⟨l16, vl16, xsl16⟩ wr17 ⟨hL17, hel16, h⟩
  refine W_pz 2 rfl ?_
  refine W_ret ?_
  obtain rfl := Option.some.inj h
  refine At_body rfl rfl ?_
  exact ⟨hL17.ext, _, rfl, (hL17.ownH hH (i := 0) rfl hel16)⟩
end Go.Proofs.YtmfiaecglndldaaGreatDoor
end
section
namespace Go.Proofs.YtmfiaecglndldaaGreatDoor
open Go Go.E Go.RowKit
set_option maxHeartbeats 1000000
set_option maxRecDepth 10000
open _root_.Go.Proofs.Tryz
noncomputable def shapes_form_k1 (l117 : List UInt8) : Option ((List UInt8)) :=
 some (l117)
noncomputable def shapes_form (a0 : ((List UInt8) × Int × Int × (List UInt8)) × (List Int)) : Option ((List UInt8)) :=
 Go.L.chk (a0.1.1.length ≤ 9223372036854775807) (Option.bind (wire_Chunk a0.1.1) (fun x124 => Option.bind (wire_Number a0.1.2.1) (fun x128 => Option.bind (wire_Number a0.1.2.2.1) (fun x132 => Go.L.chk (a0.1.2.2.2.length ≤ 9223372036854775807) (Option.bind (wire_Chunk a0.1.2.2.2) (fun x138 => Option.bind (wslice_Number a0.2) (fun x142 => Option.bind (slices_Concat_byte_byte ([x124, x128, x132, x138, x142])) (fun x147 => shapes_form_k1 x147))))))))
theorem shapes_form_ok (w : World) (H : PH) (hH : Le H (hp w)) {a0 : ((List UInt8) × Int × Int × (List UInt8)) × (List Int)} {v0_0 : Value} (h0_0 : Vec (.int .i64) H v0_0 (a0.2)) {r : (List UInt8)} (h : shapes_form a0 = some r) :
  Ok Tryz.prog 76 [.agg #[.string ⟨(a0.1.1).toArray⟩, .int .i64 a0.1.2.1, .int .i64 a0.1.2.2.1, .string ⟨(a0.1.2.2.2).toArray⟩, v0_0]] w (fun v w' => Ext w w' ∧ ∃ u0, v = u0 ∧ OwnH 5 .byte H w w' u0 (r)) := by
 refine Ok_enter (n := 26) [(0, .agg #[.string ⟨(a0.1.1).toArray⟩, .int .i64 a0.1.2.1, .int .i64 a0.1.2.2.1, .string ⟨(a0.1.2.2.2).toArray⟩, v0_0])] func76 rfl rfl rfl rfl rfl ?_
 have hL := Lcl.start w
 refine W_seqr ?_
 refine S_box (t := 96) rfl rfl rfl hL ?_
 intro w1 b1 hL1 hle1 _
 refine S_pz 1 rfl ?_
 refine W_cut (σ := (List UInt8) × Value × (List Value)) (fun ⟨l117, vl117, xsl117⟩ => [(2, vl117)]) (fun ⟨l117, vl117, xsl117⟩ wr => InO w [.row (vl117) 5 1 (l117).length (xsl117), .box b1 [.string ⟨(a0.1.1).toArray⟩, .int .i64 a0.1.2.1, .int .i64 a0.1.2.2.1, .string ⟨(a0.1.2.2.2).toArray⟩, v0_0] 96] wr fun Oz => Elems .byte (gz H w wr Oz) (l117) (xsl117) ∧ shapes_form_k1 l117 = some r) ?_ ?_
 ·refine W_regd (.q 0 (.q 1 (.q 2 (.q 5 (.q 6 (.q 7 (.q 9 (.q 10 (.q 11 (.q 13 (.q 14 (.q 15 (.q 18 (.q 19 (.h2 3 (.h2 4 (.h2 8 (.h2 12 (.h 16 (.h 17 (.h 20 (.h 21 (.h 22 (.q 23 (.tail 24))))))) 16 (.h 12 (.h 17 (.h 20 (.h 21 (.h 22 (.q 23 (.tail 24)))))))) 16 (.h 8 (.h 12 (.h 17 (.h 20 (.h 21 (.h 22 (.q 23 (.tail 24))))))))) 16 (.h 4 (.h 8 (.h 12 (.h 17 (.h 20 (.h 21 (.h 22 (.q 23 (.tail 24)))))))))) 16 (.h 3 (.h 4 (.h 8 (.h 12 (.h 17 (.h 20 (.h 21 (.h 22 (.q 23 (.tail 24))))))))))))))))))))))))) mixed (by kernel_rfl) (fun w120 hx120 => ?_)
  have hL121 := hL1.call hx120
  refine D_v (r_field rfl underlying96 rfl zr84 (by decide)) rfl rfl ?_
  refine D_v (r_field rfl underlying84 rfl zr9 (by decide)) rfl rfl ?_
  refine D_v (r_loadB1 0 rfl underlying9 rfl hL121 rfl rfl) rfl rfl ?_
  refine D_v (r_field rfl underlying96 rfl zr84 (by decide)) rfl rfl ?_
  refine D_v (r_field rfl underlying84 rfl zr3 (by decide)) rfl rfl ?_
  refine D_v (r_loadB1 0 rfl underlying3 rfl hL121 rfl rfl) rfl rfl ?_
  refine D_v (r_field rfl underlying96 rfl zr84 (by decide)) rfl rfl ?_
  refine D_v (r_field rfl underlying84 rfl zr3 (by decide)) rfl rfl ?_
  refine D_v (r_loadB1 0 rfl underlying3 rfl hL121 rfl rfl) rfl rfl ?_
  refine D_v (r_field rfl underlying96 rfl zr84 (by decide)) rfl rfl ?_
  refine D_v (r_field rfl underlying84 rfl zr9 (by decide)) rfl rfl ?_
  refine D_v (r_loadB1 0 rfl underlying9 rfl hL121 rfl rfl) rfl rfl ?_
  refine D_v (r_field rfl underlying96 rfl zr52 (by decide)) rfl rfl ?_
  refine D_v (r_loadB1 0 rfl underlying52 rfl hL121 rfl rfl) rfl rfl ?_
  refine D_h2 ?_ ?_
  ·obtain ⟨hk123, h⟩ := Go.L.chk_some h
   refine D_s2b (H := H) rfl rfl underlying9 underlying35 underlying5 rfl hL121 hk123 ?_
   intro v122 w122 hx122 hL122 hle122 hv122
   refine D_h2 ?_ ?_
   ·obtain ⟨x124, hb124, h⟩ := Go.L.bind_some h
    refine D_hcall rfl rfl rfl (fun w126 hx126 => wire_Chunk_ok _ _ (gz_le hH (hL122.call hx126)) (hv122.mono (gz_mono hH (fz_ext hL122 hx126))) hb124) ?_
    rintro w126 u125_0 w125 hx126 hx125 ⟨_, rfl, hR125_0⟩
    have hL127 := hL122.call hx126
    have hle127 := fz_ext hL122 hx126
    replace hv122 := hv122.mono (gz_mono hH hle127)
    have hL125 := hL127.call hx125
    have hle125 := fz_ext hL127 hx125
    have hv125_0 := hR125_0.vecG hH hL127 hx125
    replace hv122 := hv122.mono (gz_mono hH hle125)
    refine D_h2 ?_ ?_
    ·obtain ⟨x128, hb128, h⟩ := Go.L.bind_some h
     refine D_hcall rfl rfl rfl (fun w130 hx130 => wire_Number_ok _ _ (gz_le hH (hL125.call hx130)) hb128) ?_
     rintro w130 u129_0 w129 hx130 hx129 ⟨_, rfl, hR129_0⟩
     have hL131 := hL125.call hx130
     have hle131 := fz_ext hL125 hx130
     replace hv122 := hv122.mono (gz_mono hH hle131)
     replace hv125_0 := hv125_0.mono (gz_mono hH hle131)
     have hL129 := hL131.call hx129
     have hle129 := fz_ext hL131 hx129
     have hv129_0 := hR129_0.vecG hH hL131 hx129
     replace hv122 := hv122.mono (gz_mono hH hle129)
     replace hv125_0 := hv125_0.mono (gz_mono hH hle129)
     refine D_h2 ?_ ?_
     ·obtain ⟨x132, hb132, h⟩ := Go.L.bind_some h
      refine D_hcall rfl rfl rfl (fun w134 hx134 => wire_Number_ok _ _ (gz_le hH (hL129.call hx134)) hb132) ?_
      rintro w134 u133_0 w133 hx134 hx133 ⟨_, rfl, hR133_0⟩
      have hL135 := hL129.call hx134
      have hle135 := fz_ext hL129 hx134
      replace hv122 := hv122.mono (gz_mono hH hle135)
      replace hv125_0 := hv125_0.mono (gz_mono hH hle135)
      replace hv129_0 := hv129_0.mono (gz_mono hH hle135)
      have hL133 := hL135.call hx133
      have hle133 := fz_ext hL135 hx133
      have hv133_0 := hR133_0.vecG hH hL135 hx133
      replace hv122 := hv122.mono (gz_mono hH hle133)
      replace hv125_0 := hv125_0.mono (gz_mono hH hle133)
      replace hv129_0 := hv129_0.mono (gz_mono hH hle133)
      obtain ⟨hk137, h⟩ := Go.L.chk_some h
      refine D_s2b (H := H) rfl rfl underlying9 underlying35 underlying5 rfl hL133 hk137 ?_
      intro v136 w136 hx136 hL136 hle136 hv136
      replace hv122 := hv122.mono (gz_mono hH hle136)
      replace hv125_0 := hv125_0.mono (gz_mono hH hle136)
      replace hv129_0 := hv129_0.mono (gz_mono hH hle136)
      replace hv133_0 := hv133_0.mono (gz_mono hH hle136)
      obtain ⟨x138, hb138, h⟩ := Go.L.bind_some h
      refine D_hcall rfl rfl rfl (fun w140 hx140 => wire_Chunk_ok _ _ (gz_le hH (hL136.call hx140)) (hv136.mono (gz_mono hH (fz_ext hL136 hx140))) hb138) ?_
      rintro w140 u139_0 w139 hx140 hx139 ⟨_, rfl, hR139_0⟩
      have hL141 := hL136.call hx140
      have hle141 := fz_ext hL136 hx140
      replace hv122 := hv122.mono (gz_mono hH hle141)
      replace hv125_0 := hv125_0.mono (gz_mono hH hle141)
      replace hv129_0 := hv129_0.mono (gz_mono hH hle141)
      replace hv133_0 := hv133_0.mono (gz_mono hH hle141)
      replace hv136 := hv136.mono (gz_mono hH hle141)
      have hL139 := hL141.call hx139
      have hle139 := fz_ext hL141 hx139
      have hv139_0 := hR139_0.vecG hH hL141 hx139
      replace hv122 := hv122.mono (gz_mono hH hle139)
      replace hv125_0 := hv125_0.mono (gz_mono hH hle139)
      replace hv129_0 := hv129_0.mono (gz_mono hH hle139)
      replace hv133_0 := hv133_0.mono (gz_mono hH hle139)
      replace hv136 := hv136.mono (gz_mono hH hle139)
      obtain ⟨x142, hb142, h⟩ := Go.L.bind_some h
      refine D_hcall rfl rfl rfl (fun w144 hx144 => wslice_Number_ok _ _ (gz_le hH (hL139.call hx144)) (h0_0.mono (gz_left hH)) hb142) ?_
      rintro w144 u143_0 w143 hx144 hx143 ⟨_, rfl, hR143_0⟩
      have hL145 := hL139.call hx144
      have hle145 := fz_ext hL139 hx144
      replace hv122 := hv122.mono (gz_mono hH hle145)
      replace hv125_0 := hv125_0.mono (gz_mono hH hle145)
      replace hv129_0 := hv129_0.mono (gz_mono hH hle145)
      replace hv133_0 := hv133_0.mono (gz_mono hH hle145)
      replace hv136 := hv136.mono (gz_mono hH hle145)
      replace hv139_0 := hv139_0.mono (gz_mono hH hle145)
      have hL143 := hL145.call hx143
      have hle143 := fz_ext hL145 hx143
      have hv143_0 := hR143_0.vecG hH hL145 hx143
      replace hv122 := hv122.mono (gz_mono hH hle143)
      replace hv125_0 := hv125_0.mono (gz_mono hH hle143)
      replace hv129_0 := hv129_0.mono (gz_mono hH hle143)
      replace hv133_0 := hv133_0.mono (gz_mono hH hle143)
      replace hv136 := hv136.mono (gz_mono hH hle143)
      replace hv139_0 := hv139_0.mono (gz_mono hH hle143)
      refine D_litE (r := (.vec .byte)) (l := [x124, x128, x132, x138, x142]) rfl rfl (fun _ => bsl178_5 _ hv125_0.one _ hv129_0.one _ hv133_0.one _ hv139_0.one _ hv143_0.one _) rfl (show 5 ≤ 9223372036854775807 by decide) hH hL143 (.c1 ⟨_, rfl, hv125_0⟩ (.c1 ⟨_, rfl, hv129_0⟩ (.c1 ⟨_, rfl, hv133_0⟩ (.c1 ⟨_, rfl, hv139_0⟩ (.c1 ⟨_, rfl, hv143_0⟩ .nil))))) ?_
      intro v146 w146 hx146 hL146 hle146 hv146
      replace hv122 := hv122.mono (gz_mono hH hle146)
      replace hv125_0 := hv125_0.mono (gz_mono hH hle146)
      replace hv129_0 := hv129_0.mono (gz_mono hH hle146)
      replace hv133_0 := hv133_0.mono (gz_mono hH hle146)
      replace hv136 := hv136.mono (gz_mono hH hle146)
      replace hv139_0 := hv139_0.mono (gz_mono hH hle146)
      replace hv143_0 := hv143_0.mono (gz_mono hH hle146)
      obtain ⟨x147, hb147, h⟩ := Go.L.bind_some h
      refine D_hcall rfl rfl rfl (fun w149 hx149 => slices_Concat_byte_byte_ok _ _ (gz_le hH (hL146.call hx149)) (hv146.mono (gz_mono hH (fz_ext hL146 hx149))) hb147) ?_
      rintro w149 u148_0 w148 hx149 hx148 ⟨_, rfl, hR148_0⟩
      have hL150 := hL146.call hx149
      have hle150 := fz_ext hL146 hx149
      replace hv122 := hv122.mono (gz_mono hH hle150)
      replace hv125_0 := hv125_0.mono (gz_mono hH hle150)
      replace hv129_0 := hv129_0.mono (gz_mono hH hle150)
      replace hv133_0 := hv133_0.mono (gz_mono hH hle150)
      replace hv136 := hv136.mono (gz_mono hH hle150)
      replace hv139_0 := hv139_0.mono (gz_mono hH hle150)
      replace hv143_0 := hv143_0.mono (gz_mono hH hle150)
      replace hv146 := hv146.mono (gz_mono hH hle150)
      have hL148 := hL150.call hx148
      have hle148 := fz_ext hL150 hx148
      obtain ⟨xs148, hL148, hle148, he148⟩ := hR148_0.take hH hL150 hx148
      replace hv122 := hv122.mono (gz_mono hH hle148)
      replace hv125_0 := hv125_0.mono (gz_mono hH hle148)
      replace hv129_0 := hv129_0.mono (gz_mono hH hle148)
      replace hv133_0 := hv133_0.mono (gz_mono hH hle148)
      replace hv136 := hv136.mono (gz_mono hH hle148)
      replace hv139_0 := hv139_0.mono (gz_mono hH hle148)
      replace hv143_0 := hv143_0.mono (gz_mono hH hle148)
      replace hv146 := hv146.mono (gz_mono hH hle148)
      refine D_pu 1 rfl ?_
      refine D_tail (fun w151 hx151 => ?_)
      have hL152 := hL148.call hx151
      have hle152 := fz_ext hL148 hx151
      replace hv122 := hv122.mono (gz_mono hH hle152)
      replace hv125_0 := hv125_0.mono (gz_mono hH hle152)
      replace hv129_0 := hv129_0.mono (gz_mono hH hle152)
      replace hv133_0 := hv133_0.mono (gz_mono hH hle152)
      replace hv136 := hv136.mono (gz_mono hH hle152)
      replace hv139_0 := hv139_0.mono (gz_mono hH hle152)
      replace hv143_0 := hv143_0.mono (gz_mono hH hle152)
      replace hv146 := hv146.mono (gz_mono hH hle152)
      replace he148 := he148.mono (gz_mono hH hle152)
      refine S_nil ?_
      refine At_cut (x147, u148_0, xs148) (.cons rfl (Sub.nil _)) ⟨hL152, he148, h⟩
     ·obtain ⟨x132, hb132, h⟩ := Go.L.bind_some h
      obtain ⟨hk137, h⟩ := Go.L.chk_some h
      obtain ⟨x138, hb138, h⟩ := Go.L.bind_some h
      obtain ⟨x142, hb142, h⟩ := Go.L.bind_some h
      obtain ⟨x147, hb147, h⟩ := Go.L.bind_some h
      refine D_s2b (H := H) rfl rfl underlying9 underlying35 underlying5 rfl hL129 hk137 ?_
      intro v153 w153 hx153 hL153 hle153 hv153
      replace hv122 := hv122.mono (gz_mono hH hle153)
      replace hv125_0 := hv125_0.mono (gz_mono hH hle153)
      replace hv129_0 := hv129_0.mono (gz_mono hH hle153)
      refine D_hcall rfl rfl rfl (fun w155 hx155 => wire_Number_ok _ _ (gz_le hH (hL153.call hx155)) hb132) ?_
      rintro w155 u154_0 w154 hx155 hx154 ⟨_, rfl, hR154_0⟩
      have hL156 := hL153.call hx155
      have hle156 := fz_ext hL153 hx155
      replace hv122 := hv122.mono (gz_mono hH hle156)
      replace hv125_0 := hv125_0.mono (gz_mono hH hle156)
      replace hv129_0 := hv129_0.mono (gz_mono hH hle156)
      replace hv153 := hv153.mono (gz_mono hH hle156)
      have hL154 := hL156.call hx154
      have hle154 := fz_ext hL156 hx154
      have hv154_0 := hR154_0.vecG hH hL156 hx154
      replace hv122 := hv122.mono (gz_mono hH hle154)
      replace hv125_0 := hv125_0.mono (gz_mono hH hle154)
      replace hv129_0 := hv129_0.mono (gz_mono hH hle154)
      replace hv153 := hv153.mono (gz_mono hH hle154)
      refine D_hcall rfl rfl rfl (fun w158 hx158 => wire_Chunk_ok _ _ (gz_le hH (hL154.call hx158)) (hv153.mono (gz_mono hH (fz_ext hL154 hx158))) hb138) ?_
      rintro w158 u157_0 w157 hx158 hx157 ⟨_, rfl, hR157_0⟩
      have hL159 := hL154.call hx158
      have hle159 := fz_ext hL154 hx158
      replace hv122 := hv122.mono (gz_mono hH hle159)
      replace hv125_0 := hv125_0.mono (gz_mono hH hle159)
      replace hv129_0 := hv129_0.mono (gz_mono hH hle159)
      replace hv153 := hv153.mono (gz_mono hH hle159)
      replace hv154_0 := hv154_0.mono (gz_mono hH hle159)
      have hL157 := hL159.call hx157
      have hle157 := fz_ext hL159 hx157
      have hv157_0 := hR157_0.vecG hH hL159 hx157
      replace hv122 := hv122.mono (gz_mono hH hle157)
      replace hv125_0 := hv125_0.mono (gz_mono hH hle157)
      replace hv129_0 := hv129_0.mono (gz_mono hH hle157)
      replace hv153 := hv153.mono (gz_mono hH hle157)
      replace hv154_0 := hv154_0.mono (gz_mono hH hle157)
      refine D_hcall rfl rfl rfl (fun w161 hx161 => wslice_Number_ok _ _ (gz_le hH (hL157.call hx161)) (h0_0.mono (gz_left hH)) hb142) ?_
      rintro w161 u160_0 w160 hx161 hx160 ⟨_, rfl, hR160_0⟩
      have hL162 := hL157.call hx161
      have hle162 := fz_ext hL157 hx161
      replace hv122 := hv122.mono (gz_mono hH hle162)
      replace hv125_0 := hv125_0.mono (gz_mono hH hle162)
      replace hv129_0 := hv129_0.mono (gz_mono hH hle162)
      replace hv153 := hv153.mono (gz_mono hH hle162)
      replace hv154_0 := hv154_0.mono (gz_mono hH hle162)
      replace hv157_0 := hv157_0.mono (gz_mono hH hle162)
      have hL160 := hL162.call hx160
      have hle160 := fz_ext hL162 hx160
      have hv160_0 := hR160_0.vecG hH hL162 hx160
      replace hv122 := hv122.mono (gz_mono hH hle160)
      replace hv125_0 := hv125_0.mono (gz_mono hH hle160)
      replace hv129_0 := hv129_0.mono (gz_mono hH hle160)
      replace hv153 := hv153.mono (gz_mono hH hle160)
      replace hv154_0 := hv154_0.mono (gz_mono hH hle160)
      replace hv157_0 := hv157_0.mono (gz_mono hH hle160)
      refine D_litE (r := (.vec .byte)) (l := [x124, x128, x132, x138, x142]) rfl rfl (fun _ => bsl178_5 _ hv125_0.one _ hv129_0.one _ hv154_0.one _ hv157_0.one _ hv160_0.one _) rfl (show 5 ≤ 9223372036854775807 by decide) hH hL160 (.c1 ⟨_, rfl, hv125_0⟩ (.c1 ⟨_, rfl, hv129_0⟩ (.c1 ⟨_, rfl, hv154_0⟩ (.c1 ⟨_, rfl, hv157_0⟩ (.c1 ⟨_, rfl, hv160_0⟩ .nil))))) ?_
      intro v163 w163 hx163 hL163 hle163 hv163
      replace hv122 := hv122.mono (gz_mono hH hle163)
      replace hv125_0 := hv125_0.mono (gz_mono hH hle163)
      replace hv129_0 := hv129_0.mono (gz_mono hH hle163)
      replace hv153 := hv153.mono (gz_mono hH hle163)
      replace hv154_0 := hv154_0.mono (gz_mono hH hle163)
      replace hv157_0 := hv157_0.mono (gz_mono hH hle163)
      replace hv160_0 := hv160_0.mono (gz_mono hH hle163)
      refine D_hcall rfl rfl rfl (fun w165 hx165 => slices_Concat_byte_byte_ok _ _ (gz_le hH (hL163.call hx165)) (hv163.mono (gz_mono hH (fz_ext hL163 hx165))) hb147) ?_
      rintro w165 u164_0 w164 hx165 hx164 ⟨_, rfl, hR164_0⟩
      have hL166 := hL163.call hx165
      have hle166 := fz_ext hL163 hx165
      replace hv122 := hv122.mono (gz_mono hH hle166)
      replace hv125_0 := hv125_0.mono (gz_mono hH hle166)
      replace hv129_0 := hv129_0.mono (gz_mono hH hle166)
      replace hv153 := hv153.mono (gz_mono hH hle166)
      replace hv154_0 := hv154_0.mono (gz_mono hH hle166)
      replace hv157_0 := hv157_0.mono (gz_mono hH hle166)
      replace hv160_0 := hv160_0.mono (gz_mono hH hle166)
      replace hv163 := hv163.mono (gz_mono hH hle166)
      have hL164 := hL166.call hx164
      have hle164 := fz_ext hL166 hx164
      obtain ⟨xs164, hL164, hle164, he164⟩ := hR164_0.take hH hL166 hx164
      replace hv122 := hv122.mono (gz_mono hH hle164)
      replace hv125_0 := hv125_0.mono (gz_mono hH hle164)
      replace hv129_0 := hv129_0.mono (gz_mono hH hle164)
      replace hv153 := hv153.mono (gz_mono hH hle164)
      replace hv154_0 := hv154_0.mono (gz_mono hH hle164)
      replace hv157_0 := hv157_0.mono (gz_mono hH hle164)
      replace hv160_0 := hv160_0.mono (gz_mono hH hle164)
      replace hv163 := hv163.mono (gz_mono hH hle164)
      refine D_pu 1 rfl ?_
      refine D_tail (fun w167 hx167 => ?_)
      have hL168 := hL164.call hx167
      have hle168 := fz_ext hL164 hx167
      replace hv122 := hv122.mono (gz_mono hH hle168)
      replace hv125_0 := hv125_0.mono (gz_mono hH hle168)
      replace hv129_0 := hv129_0.mono (gz_mono hH hle168)
      replace hv153 := hv153.mono (gz_mono hH hle168)
      replace hv154_0 := hv154_0.mono (gz_mono hH hle168)
      replace hv157_0 := hv157_0.mono (gz_mono hH hle168)
      replace hv160_0 := hv160_0.mono (gz_mono hH hle168)
      replace hv163 := hv163.mono (gz_mono hH hle168)
      replace he164 := he164.mono (gz_mono hH hle168)
      refine S_nil ?_
      refine At_cut (x147, u164_0, xs164) (.cons rfl (Sub.nil _)) ⟨hL168, he164, h⟩
    ·obtain ⟨x128, hb128, h⟩ := Go.L.bind_some h
     obtain ⟨x132, hb132, h⟩ := Go.L.bind_some h
     obtain ⟨hk137, h⟩ := Go.L.chk_some h
     obtain ⟨x138, hb138, h⟩ := Go.L.bind_some h
     obtain ⟨x142, hb142, h⟩ := Go.L.bind_some h
     obtain ⟨x147, hb147, h⟩ := Go.L.bind_some h
     refine D_s2b (H := H) rfl rfl underlying9 underlying35 underlying5 rfl hL125 hk137 ?_
     intro v169 w169 hx169 hL169 hle169 hv169
     replace hv122 := hv122.mono (gz_mono hH hle169)
     replace hv125_0 := hv125_0.mono (gz_mono hH hle169)
     refine D_hcall rfl rfl rfl (fun w171 hx171 => wire_Number_ok _ _ (gz_le hH (hL169.call hx171)) hb128) ?_
     rintro w171 u170_0 w170 hx171 hx170 ⟨_, rfl, hR170_0⟩
     have hL172 := hL169.call hx171
     have hle172 := fz_ext hL169 hx171
     replace hv122 := hv122.mono (gz_mono hH hle172)
     replace hv125_0 := hv125_0.mono (gz_mono hH hle172)
     replace hv169 := hv169.mono (gz_mono hH hle172)
     have hL170 := hL172.call hx170
     have hle170 := fz_ext hL172 hx170
     have hv170_0 := hR170_0.vecG hH hL172 hx170
     replace hv122 := hv122.mono (gz_mono hH hle170)
     replace hv125_0 := hv125_0.mono (gz_mono hH hle170)
     replace hv169 := hv169.mono (gz_mono hH hle170)
     refine D_hcall rfl rfl rfl (fun w174 hx174 => wire_Number_ok _ _ (gz_le hH (hL170.call hx174)) hb132) ?_
     rintro w174 u173_0 w173 hx174 hx173 ⟨_, rfl, hR173_0⟩
     have hL175 := hL170.call hx174
     have hle175 := fz_ext hL170 hx174
     replace hv122 := hv122.mono (gz_mono hH hle175)
     replace hv125_0 := hv125_0.mono (gz_mono hH hle175)
     replace hv169 := hv169.mono (gz_mono hH hle175)
     replace hv170_0 := hv170_0.mono (gz_mono hH hle175)
     have hL173 := hL175.call hx173
     have hle173 := fz_ext hL175 hx173
     have hv173_0 := hR173_0.vecG hH hL175 hx173
     replace hv122 := hv122.mono (gz_mono hH hle173)
     replace hv125_0 := hv125_0.mono (gz_mono hH hle173)
     replace hv169 := hv169.mono (gz_mono hH hle173)
     replace hv170_0 := hv170_0.mono (gz_mono hH hle173)
     refine D_hcall rfl rfl rfl (fun w177 hx177 => wire_Chunk_ok _ _ (gz_le hH (hL173.call hx177)) (hv169.mono (gz_mono hH (fz_ext hL173 hx177))) hb138) ?_
     rintro w177 u176_0 w176 hx177 hx176 ⟨_, rfl, hR176_0⟩
     have hL178 := hL173.call hx177
     have hle178 := fz_ext hL173 hx177
     replace hv122 := hv122.mono (gz_mono hH hle178)
     replace hv125_0 := hv125_0.mono (gz_mono hH hle178)
     replace hv169 := hv169.mono (gz_mono hH hle178)
     replace hv170_0 := hv170_0.mono (gz_mono hH hle178)
     replace hv173_0 := hv173_0.mono (gz_mono hH hle178)
     have hL176 := hL178.call hx176
     have hle176 := fz_ext hL178 hx176
     have hv176_0 := hR176_0.vecG hH hL178 hx176
     replace hv122 := hv122.mono (gz_mono hH hle176)
     replace hv125_0 := hv125_0.mono (gz_mono hH hle176)
     replace hv169 := hv169.mono (gz_mono hH hle176)
     replace hv170_0 := hv170_0.mono (gz_mono hH hle176)
     replace hv173_0 := hv173_0.mono (gz_mono hH hle176)
     refine D_hcall rfl rfl rfl (fun w180 hx180 => wslice_Number_ok _ _ (gz_le hH (hL176.call hx180)) (h0_0.mono (gz_left hH)) hb142) ?_
     rintro w180 u179_0 w179 hx180 hx179 ⟨_, rfl, hR179_0⟩
     have hL181 := hL176.call hx180
     have hle181 := fz_ext hL176 hx180
     replace hv122 := hv122.mono (gz_mono hH hle181)
     replace hv125_0 := hv125_0.mono (gz_mono hH hle181)
     replace hv169 := hv169.mono (gz_mono hH hle181)
     replace hv170_0 := hv170_0.mono (gz_mono hH hle181)
     replace hv173_0 := hv173_0.mono (gz_mono hH hle181)
     replace hv176_0 := hv176_0.mono (gz_mono hH hle181)
     have hL179 := hL181.call hx179
     have hle179 := fz_ext hL181 hx179
     have hv179_0 := hR179_0.vecG hH hL181 hx179
     replace hv122 := hv122.mono (gz_mono hH hle179)
     replace hv125_0 := hv125_0.mono (gz_mono hH hle179)
     replace hv169 := hv169.mono (gz_mono hH hle179)
     replace hv170_0 := hv170_0.mono (gz_mono hH hle179)
     replace hv173_0 := hv173_0.mono (gz_mono hH hle179)
     replace hv176_0 := hv176_0.mono (gz_mono hH hle179)
     refine D_litE (r := (.vec .byte)) (l := [x124, x128, x132, x138, x142]) rfl rfl (fun _ => bsl178_5 _ hv125_0.one _ hv170_0.one _ hv173_0.one _ hv176_0.one _ hv179_0.one _) rfl (show 5 ≤ 9223372036854775807 by decide) hH hL179 (.c1 ⟨_, rfl, hv125_0⟩ (.c1 ⟨_, rfl, hv170_0⟩ (.c1 ⟨_, rfl, hv173_0⟩ (.c1 ⟨_, rfl, hv176_0⟩ (.c1 ⟨_, rfl, hv179_0⟩ .nil))))) ?_
     intro v182 w182 hx182 hL182 hle182 hv182
     replace hv122 := hv122.mono (gz_mono hH hle182)
     replace hv125_0 := hv125_0.mono (gz_mono hH hle182)
     replace hv169 := hv169.mono (gz_mono hH hle182)
     replace hv170_0 := hv170_0.mono (gz_mono hH hle182)
     replace hv173_0 := hv173_0.mono (gz_mono hH hle182)
     replace hv176_0 := hv176_0.mono (gz_mono hH hle182)
     replace hv179_0 := hv179_0.mono (gz_mono hH hle182)
     refine D_hcall rfl rfl rfl (fun w184 hx184 => slices_Concat_byte_byte_ok _ _ (gz_le hH (hL182.call hx184)) (hv182.mono (gz_mono hH (fz_ext hL182 hx184))) hb147) ?_
     rintro w184 u183_0 w183 hx184 hx183 ⟨_, rfl, hR183_0⟩
     have hL185 := hL182.call hx184
     have hle185 := fz_ext hL182 hx184
     replace hv122 := hv122.mono (gz_mono hH hle185)
     replace hv125_0 := hv125_0.mono (gz_mono hH hle185)
     replace hv169 := hv169.mono (gz_mono hH hle185)
     replace hv170_0 := hv170_0.mono (gz_mono hH hle185)
     replace hv173_0 := hv173_0.mono (gz_mono hH hle185)
     replace hv176_0 := hv176_0.mono (gz_mono hH hle185)
     replace hv179_0 := hv179_0.mono (gz_mono hH hle185)
     replace hv182 := hv182.mono (gz_mono hH hle185)
     have hL183 := hL185.call hx183
     have hle183 := fz_ext hL185 hx183
     obtain ⟨xs183, hL183, hle183, he183⟩ := hR183_0.take hH hL185 hx183
     replace hv122 := hv122.mono (gz_mono hH hle183)
     replace hv125_0 := hv125_0.mono (gz_mono hH hle183)
     replace hv169 := hv169.mono (gz_mono hH hle183)
     replace hv170_0 := hv170_0.mono (gz_mono hH hle183)
     replace hv173_0 := hv173_0.mono (gz_mono hH hle183)
     replace hv176_0 := hv176_0.mono (gz_mono hH hle183)
     replace hv179_0 := hv179_0.mono (gz_mono hH hle183)
     replace hv182 := hv182.mono (gz_mono hH hle183)
     refine D_pu 1 rfl ?_
     refine D_tail (fun w186 hx186 => ?_)
     have hL187 := hL183.call hx186
     have hle187 := fz_ext hL183 hx186
     replace hv122 := hv122.mono (gz_mono hH hle187)
     replace hv125_0 := hv125_0.mono (gz_mono hH hle187)
     replace hv169 := hv169.mono (gz_mono hH hle187)
     replace hv170_0 := hv170_0.mono (gz_mono hH hle187)
     replace hv173_0 := hv173_0.mono (gz_mono hH hle187)
     replace hv176_0 := hv176_0.mono (gz_mono hH hle187)
     replace hv179_0 := hv179_0.mono (gz_mono hH hle187)
     replace hv182 := hv182.mono (gz_mono hH hle187)
     replace he183 := he183.mono (gz_mono hH hle187)
     refine S_nil ?_
     refine At_cut (x147, u183_0, xs183) (.cons rfl (Sub.nil _)) ⟨hL187, he183, h⟩
   ·obtain ⟨x124, hb124, h⟩ := Go.L.bind_some h
    obtain ⟨x128, hb128, h⟩ := Go.L.bind_some h
    obtain ⟨x132, hb132, h⟩ := Go.L.bind_some h
    obtain ⟨hk137, h⟩ := Go.L.chk_some h
    obtain ⟨x138, hb138, h⟩ := Go.L.bind_some h
    obtain ⟨x142, hb142, h⟩ := Go.L.bind_some h
    obtain ⟨x147, hb147, h⟩ := Go.L.bind_some h
    refine D_s2b (H := H) rfl rfl underlying9 underlying35 underlying5 rfl hL122 hk137 ?_
    intro v188 w188 hx188 hL188 hle188 hv188
    replace hv122 := hv122.mono (gz_mono hH hle188)
    refine D_hcall rfl rfl rfl (fun w190 hx190 => wire_Chunk_ok _ _ (gz_le hH (hL188.call hx190)) (hv122.mono (gz_mono hH (fz_ext hL188 hx190))) hb124) ?_
    rintro w190 u189_0 w189 hx190 hx189 ⟨_, rfl, hR189_0⟩
    have hL191 := hL188.call hx190
    have hle191 := fz_ext hL188 hx190
    replace hv122 := hv122.mono (gz_mono hH hle191)
    replace hv188 := hv188.mono (gz_mono hH hle191)
    have hL189 := hL191.call hx189
    have hle189 := fz_ext hL191 hx189
    have hv189_0 := hR189_0.vecG hH hL191 hx189
    replace hv122 := hv122.mono (gz_mono hH hle189)
    replace hv188 := hv188.mono (gz_mono hH hle189)
    refine D_hcall rfl rfl rfl (fun w193 hx193 => wire_Number_ok _ _ (gz_le hH (hL189.call hx193)) hb128) ?_
    rintro w193 u192_0 w192 hx193 hx192 ⟨_, rfl, hR192_0⟩
    have hL194 := hL189.call hx193
    have hle194 := fz_ext hL189 hx193
    replace hv122 := hv122.mono (gz_mono hH hle194)
    replace hv188 := hv188.mono (gz_mono hH hle194)
    replace hv189_0 := hv189_0.mono (gz_mono hH hle194)
    have hL192 := hL194.call hx192
    have hle192 := fz_ext hL194 hx192
    have hv192_0 := hR192_0.vecG hH hL194 hx192
    replace hv122 := hv122.mono (gz_mono hH hle192)
    replace hv188 := hv188.mono (gz_mono hH hle192)
    replace hv189_0 := hv189_0.mono (gz_mono hH hle192)
    refine D_hcall rfl rfl rfl (fun w196 hx196 => wire_Number_ok _ _ (gz_le hH (hL192.call hx196)) hb132) ?_
    rintro w196 u195_0 w195 hx196 hx195 ⟨_, rfl, hR195_0⟩
    have hL197 := hL192.call hx196
    have hle197 := fz_ext hL192 hx196
    replace hv122 := hv122.mono (gz_mono hH hle197)
    replace hv188 := hv188.mono (gz_mono hH hle197)
    replace hv189_0 := hv189_0.mono (gz_mono hH hle197)
    replace hv192_0 := hv192_0.mono (gz_mono hH hle197)
    have hL195 := hL197.call hx195
    have hle195 := fz_ext hL197 hx195
    have hv195_0 := hR195_0.vecG hH hL197 hx195
    replace hv122 := hv122.mono (gz_mono hH hle195)
    replace hv188 := hv188.mono (gz_mono hH hle195)
    replace hv189_0 := hv189_0.mono (gz_mono hH hle195)
    replace hv192_0 := hv192_0.mono (gz_mono hH hle195)
    refine D_hcall rfl rfl rfl (fun w199 hx199 => wire_Chunk_ok _ _ (gz_le hH (hL195.call hx199)) (hv188.mono (gz_mono hH (fz_ext hL195 hx199))) hb138) ?_
    rintro w199 u198_0 w198 hx199 hx198 ⟨_, rfl, hR198_0⟩
    have hL200 := hL195.call hx199
    have hle200 := fz_ext hL195 hx199
    replace hv122 := hv122.mono (gz_mono hH hle200)
    replace hv188 := hv188.mono (gz_mono hH hle200)
    replace hv189_0 := hv189_0.mono (gz_mono hH hle200)
    replace hv192_0 := hv192_0.mono (gz_mono hH hle200)
    replace hv195_0 := hv195_0.mono (gz_mono hH hle200)
    have hL198 := hL200.call hx198
    have hle198 := fz_ext hL200 hx198
    have hv198_0 := hR198_0.vecG hH hL200 hx198
    replace hv122 := hv122.mono (gz_mono hH hle198)
    replace hv188 := hv188.mono (gz_mono hH hle198)
    replace hv189_0 := hv189_0.mono (gz_mono hH hle198)
    replace hv192_0 := hv192_0.mono (gz_mono hH hle198)
    replace hv195_0 := hv195_0.mono (gz_mono hH hle198)
    refine D_hcall rfl rfl rfl (fun w202 hx202 => wslice_Number_ok _ _ (gz_le hH (hL198.call hx202)) (h0_0.mono (gz_left hH)) hb142) ?_
    rintro w202 u201_0 w201 hx202 hx201 ⟨_, rfl, hR201_0⟩
    have hL203 := hL198.call hx202
    have hle203 := fz_ext hL198 hx202
    replace hv122 := hv122.mono (gz_mono hH hle203)
    replace hv188 := hv188.mono (gz_mono hH hle203)
    replace hv189_0 := hv189_0.mono (gz_mono hH hle203)
    replace hv192_0 := hv192_0.mono (gz_mono hH hle203)
    replace hv195_0 := hv195_0.mono (gz_mono hH hle203)
    replace hv198_0 := hv198_0.mono (gz_mono hH hle203)
    have hL201 := hL203.call hx201
    have hle201 := fz_ext hL203 hx201
    have hv201_0 := hR201_0.vecG hH hL203 hx201
    replace hv122 := hv122.mono (gz_mono hH hle201)
    replace hv188 := hv188.mono (gz_mono hH hle201)
    replace hv189_0 := hv189_0.mono (gz_mono hH hle201)
    replace hv192_0 := hv192_0.mono (gz_mono hH hle201)
    replace hv195_0 := hv195_0.mono (gz_mono hH hle201)
    replace hv198_0 := hv198_0.mono (gz_mono hH hle201)
    refine D_litE (r := (.vec .byte)) (l := [x124, x128, x132, x138, x142]) rfl rfl (fun _ => bsl178_5 _ hv189_0.one _ hv192_0.one _ hv195_0.one _ hv198_0.one _ hv201_0.one _) rfl (show 5 ≤ 9223372036854775807 by decide) hH hL201 (.c1 ⟨_, rfl, hv189_0⟩ (.c1 ⟨_, rfl, hv192_0⟩ (.c1 ⟨_, rfl, hv195_0⟩ (.c1 ⟨_, rfl, hv198_0⟩ (.c1 ⟨_, rfl, hv201_0⟩ .nil))))) ?_
    intro v204 w204 hx204 hL204 hle204 hv204
    replace hv122 := hv122.mono (gz_mono hH hle204)
    replace hv188 := hv188.mono (gz_mono hH hle204)
    replace hv189_0 := hv189_0.mono (gz_mono hH hle204)
    replace hv192_0 := hv192_0.mono (gz_mono hH hle204)
    replace hv195_0 := hv195_0.mono (gz_mono hH hle204)
    replace hv198_0 := hv198_0.mono (gz_mono hH hle204)
    replace hv201_0 := hv201_0.mono (gz_mono hH hle204)
    refine D_hcall rfl rfl rfl (fun w206 hx206 => slices_Concat_byte_byte_ok _ _ (gz_le hH (hL204.call hx206)) (hv204.mono (gz_mono hH (fz_ext hL204 hx206))) hb147) ?_
    rintro w206 u205_0 w205 hx206 hx205 ⟨_, rfl, hR205_0⟩
    have hL207 := hL204.call hx206
    have hle207 := fz_ext hL204 hx206
    replace hv122 := hv122.mono (gz_mono hH hle207)
    replace hv188 := hv188.mono (gz_mono hH hle207)
    replace hv189_0 := hv189_0.mono (gz_mono hH hle207)
    replace hv192_0 := hv192_0.mono (gz_mono hH hle207)
    replace hv195_0 := hv195_0.mono (gz_mono hH hle207)
    replace hv198_0 := hv198_0.mono (gz_mono hH hle207)
    replace hv201_0 := hv201_0.mono (gz_mono hH hle207)
    replace hv204 := hv204.mono (gz_mono hH hle207)
    have hL205 := hL207.call hx205
    have hle205 := fz_ext hL207 hx205
    obtain ⟨xs205, hL205, hle205, he205⟩ := hR205_0.take hH hL207 hx205
    replace hv122 := hv122.mono (gz_mono hH hle205)
    replace hv188 := hv188.mono (gz_mono hH hle205)
    replace hv189_0 := hv189_0.mono (gz_mono hH hle205)
    replace hv192_0 := hv192_0.mono (gz_mono hH hle205)
    replace hv195_0 := hv195_0.mono (gz_mono hH hle205)
    replace hv198_0 := hv198_0.mono (gz_mono hH hle205)
    replace hv201_0 := hv201_0.mono (gz_mono hH hle205)
    replace hv204 := hv204.mono (gz_mono hH hle205)
    refine D_pu 1 rfl ?_
    refine D_tail (fun w208 hx208 => ?_)
    have hL209 := hL205.call hx208
    have hle209 := fz_ext hL205 hx208
    replace hv122 := hv122.mono (gz_mono hH hle209)
    replace hv188 := hv188.mono (gz_mono hH hle209)
    replace hv189_0 := hv189_0.mono (gz_mono hH hle209)
    replace hv192_0 := hv192_0.mono (gz_mono hH hle209)
    replace hv195_0 := hv195_0.mono (gz_mono hH hle209)
    replace hv198_0 := hv198_0.mono (gz_mono hH hle209)
    replace hv201_0 := hv201_0.mono (gz_mono hH hle209)
    replace hv204 := hv204.mono (gz_mono hH hle209)
    replace he205 := he205.mono (gz_mono hH hle209)
    refine S_nil ?_
    refine At_cut (x147, u205_0, xs205) (.cons rfl (Sub.nil _)) ⟨hL209, he205, h⟩
  ·obtain ⟨hk123, h⟩ := Go.L.chk_some h
   obtain ⟨x124, hb124, h⟩ := Go.L.bind_some h
   obtain ⟨x128, hb128, h⟩ := Go.L.bind_some h
   obtain ⟨x132, hb132, h⟩ := Go.L.bind_some h
   obtain ⟨hk137, h⟩ := Go.L.chk_some h
   obtain ⟨x138, hb138, h⟩ := Go.L.bind_some h
   obtain ⟨x142, hb142, h⟩ := Go.L.bind_some h
   obtain ⟨x147, hb147, h⟩ := Go.L.bind_some h
   refine D_s2b (H := H) rfl rfl underlying9 underlying35 underlying5 rfl hL121 hk137 ?_
   intro v210 w210 hx210 hL210 hle210 hv210
   refine D_s2b (H := H) rfl rfl underlying9 underlying35 underlying5 rfl hL210 hk123 ?_
   intro v211 w211 hx211 hL211 hle211 hv211
   replace hv210 := hv210.mono (gz_mono hH hle211)
   refine D_hcall rfl rfl rfl (fun w213 hx213 => wire_Chunk_ok _ _ (gz_le hH (hL211.call hx213)) (hv211.mono (gz_mono hH (fz_ext hL211 hx213))) hb124) ?_
   rintro w213 u212_0 w212 hx213 hx212 ⟨_, rfl, hR212_0⟩
   have hL214 := hL211.call hx213
   have hle214 := fz_ext hL211 hx213
   replace hv210 := hv210.mono (gz_mono hH hle214)
   replace hv211 := hv211.mono (gz_mono hH hle214)
   have hL212 := hL214.call hx212
   have hle212 := fz_ext hL214 hx212
   have hv212_0 := hR212_0.vecG hH hL214 hx212
   replace hv210 := hv210.mono (gz_mono hH hle212)
   replace hv211 := hv211.mono (gz_mono hH hle212)
   refine D_hcall rfl rfl rfl (fun w216 hx216 => wire_Number_ok _ _ (gz_le hH (hL212.call hx216)) hb128) ?_
   rintro w216 u215_0 w215 hx216 hx215 ⟨_, rfl, hR215_0⟩
   have hL217 := hL212.call hx216
   have hle217 := fz_ext hL212 hx216
   replace hv210 := hv210.mono (gz_mono hH hle217)
   replace hv211 := hv211.mono (gz_mono hH hle217)
   replace hv212_0 := hv212_0.mono (gz_mono hH hle217)
   have hL215 := hL217.call hx215
   have hle215 := fz_ext hL217 hx215
   have hv215_0 := hR215_0.vecG hH hL217 hx215
   replace hv210 := hv210.mono (gz_mono hH hle215)
   replace hv211 := hv211.mono (gz_mono hH hle215)
   replace hv212_0 := hv212_0.mono (gz_mono hH hle215)
   refine D_hcall rfl rfl rfl (fun w219 hx219 => wire_Number_ok _ _ (gz_le hH (hL215.call hx219)) hb132) ?_
   rintro w219 u218_0 w218 hx219 hx218 ⟨_, rfl, hR218_0⟩
   have hL220 := hL215.call hx219
   have hle220 := fz_ext hL215 hx219
   replace hv210 := hv210.mono (gz_mono hH hle220)
   replace hv211 := hv211.mono (gz_mono hH hle220)
   replace hv212_0 := hv212_0.mono (gz_mono hH hle220)
   replace hv215_0 := hv215_0.mono (gz_mono hH hle220)
   have hL218 := hL220.call hx218
   have hle218 := fz_ext hL220 hx218
   have hv218_0 := hR218_0.vecG hH hL220 hx218
   replace hv210 := hv210.mono (gz_mono hH hle218)
   replace hv211 := hv211.mono (gz_mono hH hle218)
   replace hv212_0 := hv212_0.mono (gz_mono hH hle218)
   replace hv215_0 := hv215_0.mono (gz_mono hH hle218)
   refine D_hcall rfl rfl rfl (fun w222 hx222 => wire_Chunk_ok _ _ (gz_le hH (hL218.call hx222)) (hv210.mono (gz_mono hH (fz_ext hL218 hx222))) hb138) ?_
   rintro w222 u221_0 w221 hx222 hx221 ⟨_, rfl, hR221_0⟩
   have hL223 := hL218.call hx222
   have hle223 := fz_ext hL218 hx222
   replace hv210 := hv210.mono (gz_mono hH hle223)
   replace hv211 := hv211.mono (gz_mono hH hle223)
   replace hv212_0 := hv212_0.mono (gz_mono hH hle223)
   replace hv215_0 := hv215_0.mono (gz_mono hH hle223)
   replace hv218_0 := hv218_0.mono (gz_mono hH hle223)
   have hL221 := hL223.call hx221
   have hle221 := fz_ext hL223 hx221
   have hv221_0 := hR221_0.vecG hH hL223 hx221
   replace hv210 := hv210.mono (gz_mono hH hle221)
   replace hv211 := hv211.mono (gz_mono hH hle221)
   replace hv212_0 := hv212_0.mono (gz_mono hH hle221)
   replace hv215_0 := hv215_0.mono (gz_mono hH hle221)
   replace hv218_0 := hv218_0.mono (gz_mono hH hle221)
   refine D_hcall rfl rfl rfl (fun w225 hx225 => wslice_Number_ok _ _ (gz_le hH (hL221.call hx225)) (h0_0.mono (gz_left hH)) hb142) ?_
   rintro w225 u224_0 w224 hx225 hx224 ⟨_, rfl, hR224_0⟩
   have hL226 := hL221.call hx225
   have hle226 := fz_ext hL221 hx225
   replace hv210 := hv210.mono (gz_mono hH hle226)
   replace hv211 := hv211.mono (gz_mono hH hle226)
   replace hv212_0 := hv212_0.mono (gz_mono hH hle226)
   replace hv215_0 := hv215_0.mono (gz_mono hH hle226)
   replace hv218_0 := hv218_0.mono (gz_mono hH hle226)
   replace hv221_0 := hv221_0.mono (gz_mono hH hle226)
   have hL224 := hL226.call hx224
   have hle224 := fz_ext hL226 hx224
   have hv224_0 := hR224_0.vecG hH hL226 hx224
   replace hv210 := hv210.mono (gz_mono hH hle224)
   replace hv211 := hv211.mono (gz_mono hH hle224)
   replace hv212_0 := hv212_0.mono (gz_mono hH hle224)
   replace hv215_0 := hv215_0.mono (gz_mono hH hle224)
   replace hv218_0 := hv218_0.mono (gz_mono hH hle224)
   replace hv221_0 := hv221_0.mono (gz_mono hH hle224)
   refine D_litE (r := (.vec .byte)) (l := [x124, x128, x132, x138, x142]) rfl rfl (fun _ => bsl178_5 _ hv212_0.one _ hv215_0.one _ hv218_0.one _ hv221_0.one _ hv224_0.one _) rfl (show 5 ≤ 9223372036854775807 by decide) hH hL224 (.c1 ⟨_, rfl, hv212_0⟩ (.c1 ⟨_, rfl, hv215_0⟩ (.c1 ⟨_, rfl, hv218_0⟩ (.c1 ⟨_, rfl, hv221_0⟩ (.c1 ⟨_, rfl, hv224_0⟩ .nil))))) ?_
   intro v227 w227 hx227 hL227 hle227 hv227
   replace hv210 := hv210.mono (gz_mono hH hle227)
   replace hv211 := hv211.mono (gz_mono hH hle227)
   replace hv212_0 := hv212_0.mono (gz_mono hH hle227)
   replace hv215_0 := hv215_0.mono (gz_mono hH hle227)
   replace hv218_0 := hv218_0.mono (gz_mono hH hle227)
   replace hv221_0 := hv221_0.mono (gz_mono hH hle227)
   replace hv224_0 := hv224_0.mono (gz_mono hH hle227)
   refine D_hcall rfl rfl rfl (fun w229 hx229 => slices_Concat_byte_byte_ok _ _ (gz_le hH (hL227.call hx229)) (hv227.mono (gz_mono hH (fz_ext hL227 hx229))) hb147) ?_
   rintro w229 u228_0 w228 hx229 hx228 ⟨_, rfl, hR228_0⟩
   have hL230 := hL227.call hx229
   have hle230 := fz_ext hL227 hx229
   replace hv210 := hv210.mono (gz_mono hH hle230)
   replace hv211 := hv211.mono (gz_mono hH hle230)
   replace hv212_0 := hv212_0.mono (gz_mono hH hle230)
   replace hv215_0 := hv215_0.mono (gz_mono hH hle230)
   replace hv218_0 := hv218_0.mono (gz_mono hH hle230)
   replace hv221_0 := hv221_0.mono (gz_mono hH hle230)
   replace hv224_0 := hv224_0.mono (gz_mono hH hle230)
   replace hv227 := hv227.mono (gz_mono hH hle230)
   have hL228 := hL230.call hx228
   have hle228 := fz_ext hL230 hx228
   obtain ⟨xs228, hL228, hle228, he228⟩ := hR228_0.take hH hL230 hx228
   replace hv210 := hv210.mono (gz_mono hH hle228)
   replace hv211 := hv211.mono (gz_mono hH hle228)
   replace hv212_0 := hv212_0.mono (gz_mono hH hle228)
   replace hv215_0 := hv215_0.mono (gz_mono hH hle228)
   replace hv218_0 := hv218_0.mono (gz_mono hH hle228)
   replace hv221_0 := hv221_0.mono (gz_mono hH hle228)
   replace hv224_0 := hv224_0.mono (gz_mono hH hle228)
   replace hv227 := hv227.mono (gz_mono hH hle228)
   refine D_pu 1 rfl ?_
   refine D_tail (fun w231 hx231 => ?_)
   have hL232 := hL228.call hx231
   have hle232 := fz_ext hL228 hx231
   replace hv210 := hv210.mono (gz_mono hH hle232)
   replace hv211 := hv211.mono (gz_mono hH hle232)
   replace hv212_0 := hv212_0.mono (gz_mono hH hle232)
   replace hv215_0 := hv215_0.mono (gz_mono hH hle232)
   replace hv218_0 := hv218_0.mono (gz_mono hH hle232)
   replace hv221_0 := hv221_0.mono (gz_mono hH hle232)
   replace hv224_0 := hv224_0.mono (gz_mono hH hle232)
   replace hv227 := hv227.mono (gz_mono hH hle232)
   replace he228 := he228.mono (gz_mono hH hle232)
   refine S_nil ?_
   refine At_cut (x147, u228_0, xs228) (.cons rfl (Sub.nil _)) ⟨hL232, he228, h⟩
 ·rintro ⟨l117, vl117, xsl117⟩ wr118 ⟨hL118, hel117, h⟩
  refine W_ret ?_
  obtain rfl := Option.some.inj h
  refine At_body rfl rfl ?_
  exact ⟨hL118.ext, _, rfl, (hL118.ownH hH (i := 0) rfl hel117)⟩
noncomputable def wslice_form_k1 (l18 : List UInt8) : Option ((List UInt8)) :=
 some (l18)
noncomputable def wslice_form_bl2 (a0 : List (((List UInt8) × Int × Int × (List UInt8)) × (List Int))) : (List UInt8) × Int → Option (((List UInt8) × Int) ⊕ ((List UInt8))) := fun ⟨l34, s13_35⟩ =>
 if s13_35 < (a0.length : Int) then Go.L.chk (0 ≤ s13_35 ∧ s13_35 < (a0.length : Int)) (Option.bind (shapes_form ((((a0.getD s13_35.toNat default).1).1, ((a0.getD s13_35.toNat default).1).2.1, ((a0.getD s13_35.toNat default).1).2.2.1, ((a0.getD s13_35.toNat default).1).2.2.2), (a0.getD s13_35.toNat default).2)) (fun x44 => Go.L.chk (Go.E.Cap 1 (l34.length + x44.length)) (Go.L.chk (Go.L.I64 (s13_35 + (1 : Int))) (some (Sum.inl ((l34 ++ x44), (s13_35 + (1 : Int)))))))) else Option.map Sum.inr (wslice_form_k1 l34)
noncomputable def wslice_form_l2 (a0 : List (((List UInt8) × Int × Int × (List UInt8)) × (List Int))) (s : (List UInt8) × Int) : Option ((List UInt8)) := Go.L.run (wslice_form_bl2 a0) s
noncomputable def wslice_form (a0 : List (((List UInt8) × Int × Int × (List UInt8)) × (List Int))) : Option ((List UInt8)) :=
 Option.bind (wire_Number (a0.length : Int)) (fun x1 => (wslice_form_l2 a0) (x1, (0 : Int)))
theorem wslice_form_ok (w : World) (H : PH) (hH : Le H (hp w)) {a0 : List (((List UInt8) × Int × Int × (List UInt8)) × (List Int))} {v0_0 : Value} (h0_0 : Vec (.pair (.pair .st (.pair (.int .i64) (.pair (.int .i64) .st))) (.vec (.int .i64))) H v0_0 (a0)) {r : (List UInt8)} (h : wslice_form a0 = some r) :
  Ok Tryz.prog 75 [v0_0, .func (.func 76) #[] #[]] w (fun v w' => Ext w w' ∧ ∃ u0, v = u0 ∧ OwnH 5 .byte H w w' u0 (r)) := by
 refine Ok_enter (n := 24) [(0, v0_0), (1, .func (.func 76) #[] #[])] func75 rfl rfl rfl rfl rfl ?_
 have hL := Lcl.start w
 refine W_pz 1 rfl ?_
 refine W_p 1 rfl ?_
 refine S_v (r_len rfl underlying45 h0_0) rfl ?_
 obtain ⟨x1, hb1, h⟩ := Go.L.bind_some h
 refine S_callL rfl rfl hL (wire_Number_ok _ _ (gz_le hH hL) hb1) ?_
 rintro u2_0 w2 ⟨_, rfl, hR2_0⟩ hx2 hL2 hle2
 obtain ⟨xs2, hL2, hle2, he2⟩ := hR2_0.take hH hL hx2
 refine S_pz 1 rfl ?_
 refine W_cut (σ := (List UInt8) × Value × (List Value)) (fun ⟨l18, vl18, xsl18⟩ => [(5, vl18)]) (fun ⟨l18, vl18, xsl18⟩ wr => InO w [.row (vl18) 5 1 (l18).length (xsl18)] wr fun Oz => Elems .byte (gz H w wr Oz) (l18) (xsl18) ∧ wslice_form_k1 l18 = some r) ?_ ?_
 ·refine W_p 1 rfl ?_
  refine S_v (r_len rfl underlying45 h0_0) rfl ?_
  refine S_pz 1 rfl ?_
  refine W_block ?_
  obtain ⟨n36, h⟩ := Go.L.run_some h
  refine W_loop (σ := (List UInt8) × Int × Value × (List Value) × Nat) (fun ⟨l34, s13_35, vl34, xsl34, n⟩ => [(1, .func (.func 76) #[] #[]), (5, vl34), (11, v0_0), (12, .int .i64 (a0.length : Int)), (13, .int .i64 s13_35)]) (fun ⟨l34, s13_35, vl34, xsl34, n⟩ wr => InO w [.row (vl34) 5 1 (l34).length (xsl34)] wr fun Oz => Elems .byte (gz H w wr Oz) (l34) (xsl34) ∧ Go.L.itr (wslice_form_bl2 a0) n (l34, s13_35) = some r) (fun ⟨l34, s13_35, vl34, xsl34, n⟩ => n) (x1, (0 : Int), u2_0, xs2, n36) (.cons rfl (.cons rfl (.cons rfl (.cons rfl (.cons rfl (Sub.nil _)))))) ⟨hL2, he2, h⟩ ?_
  rintro ⟨l34, s13_35, vl34, xsl34, nn36⟩ wr36 ⟨hL36, hel34, h⟩
  obtain ⟨n36, e36, rfl, h, hm36⟩ := Go.L.itr_some h
  refine W_pz 1 rfl ?_
  refine W_seq ?_
  refine W_if rfl (fun hc38 => ?_) (fun hc38 => ?_)
  ·replace h := Go.L.ite_p hc38 h
   refine W_skip ?_
   refine At_seq ?_
   refine W_seq ?_
   refine W_block ?_
   refine W_seqr ?_
   obtain ⟨hk41, h⟩ := Go.L.chk_some h
   refine S_index rfl rfl underlying45 zr96 h0_0 s13_35.toNat (Int.toNat_of_nonneg hk41.1).symm (idx_lt hk41) rfl ?_
   rintro p40 _ ⟨_, _, rfl, ⟨_, _, rfl, rfl, ⟨_, _, rfl, rfl, ⟨_, _, rfl, rfl, rfl⟩⟩⟩, ⟨e40v4, rfl, e40h4⟩⟩ hp40
   refine S_v (r_loadN rfl underlying96 rfl zr96 hp40 (hH.trans hL36.arg)) rfl ?_
   refine S_alloc zr96 rfl rfl hL36 ?_
   intro w42 b42 hL42 hle42 _
   replace hel34 := hel34.mono (gz_mono hH hle42)
   refine S_storeBN 0 rfl rfl rfl zr96 hL42 rfl rfl (onc rfl (onc rfl (onc rfl (onc rfl (onc e40h4.one on0))))) ?_
   intro w43 hL43 hle43
   replace hel34 := hel34.mono (gz_mono hH hle43)
   refine S_seqnil ?_
   refine W_region ?_
   refine S_pu 2 rfl ?_
   refine S_v (r_loadBN 0 rfl underlying96 rfl zr96 hL43 rfl) rfl ?_
   obtain ⟨x44, hb44, h⟩ := Go.L.bind_some h
   refine S_callwL rfl rfl rfl hL43 (shapes_form_ok (a0 := ((((a0.getD s13_35.toNat default).1).1, ((a0.getD s13_35.toNat default).1).2.1, ((a0.getD s13_35.toNat default).1).2.2.1, ((a0.getD s13_35.toNat default).1).2.2.2), (a0.getD s13_35.toNat default).2)) _ _ (gz_le hH hL43) (e40h4.mono (gz_left hH)) hb44) ?_
   rintro u45_0 w45 ⟨_, rfl, hR45_0⟩ hx45 hL45 hle45
   have hv45_0 := hR45_0.vecG hH hL43 hx45
   replace hel34 := hel34.mono (gz_mono hH hle45)
   obtain ⟨hk47, h⟩ := Go.L.chk_some h
   refine S_appE (r := .byte) (l := l34) (m := x44) 1 rfl rfl underlying35 zr5 rfl (by decide) rfl hH hL45 rfl hel34 hv45_0 hk47 ?_
   intro v46 w46 xs46 hL46 hle46 he46
   replace hv45_0 := hv45_0.mono (gz_mono hH hle46)
   refine S_pu 1 rfl ?_
   refine S_nil ?_
   refine At_block ?_
   refine At_seq ?_
   refine W_region ?_
   obtain ⟨hk48, h⟩ := Go.L.chk_some h
   refine S_v (r_ar64 rfl rfl rfl hk48) rfl ?_
   refine S_pu 1 rfl ?_
   refine S_nil ?_
   have hL49 := hL46.dropAt (i := 0) rfl
   replace he46 := he46.mono (gz_mono hH (fz_dropAt (i := 0) rfl))
   have h := Go.L.Nxt.again h hm36
   refine At_round ((l34 ++ x44), (s13_35 + (1 : Int)), v46, xs46, n36) (.cons rfl (.cons rfl (.cons rfl (.cons rfl (.cons rfl (Sub.nil _)))))) ⟨hL49, he46, h⟩ (Nat.lt_succ_self _)
  ·replace h := Go.L.ite_n hc38 h
   refine W_exit ?_
   refine At_seq_exit ?_
   refine At_loop_exit ?_
   replace h := Go.L.Nxt.out h hm36
   refine At_exit ?_
   refine At_cut (l34, vl34, xsl34) (.cons rfl (Sub.nil _)) ⟨hL36, hel34, h⟩
 ·rintro ⟨l18, vl18, xsl18⟩ wr19 ⟨hL19, hel18, h⟩
  refine W_pz 2 rfl ?_
  refine W_ret ?_
  obtain rfl := Option.some.inj h
  refine At_body rfl rfl ?_
  exact ⟨hL19.ext, _, rfl, (hL19.ownH hH (i := 0) rfl hel18)⟩
end Go.Proofs.YtmfiaecglndldaaGreatDoor
end
