/- Texts of a claim, merged. -/
import Derived.Test.YtmfiaecglndldaaGreatDoorKb5
import Derived.KernelRfl
set_option linter.unusedVariables false
set_option linter.unusedSimpArgs false
section
namespace Go.Proofs.YtmfiaecglndldaaGreatDoor
open Go Go.E Go.RowKit
set_option maxHeartbeats 1000000
set_option maxRecDepth 10000
open _root_.Go.Proofs.Tryz
noncomputable def shapes_readEntry_k1 (x3 : (List UInt8) × Int × (Int × Int)) (c14 : List UInt8) (c15 : Int) (c16 : Int) (c17 : List UInt8) (s5_19 : Int) : Option ((((List UInt8) × Int × Int × (List UInt8)) × (List Int)) × Int × (Int × Int)) :=
 some (((c14, c15, c16, c17), []), s5_19, (x3.2.2.1, x3.2.2.2))
noncomputable def shapes_readEntry_k2 (x30 : Int × Int × (Int × Int)) (c42 : List UInt8) (c43 : Int) (c44 : Int) (c45 : List UInt8) (s5_47 : Int) : Option ((((List UInt8) × Int × Int × (List UInt8)) × (List Int)) × Int × (Int × Int)) :=
 some (((c42, c43, c44, c45), []), s5_47, (x30.2.2.1, x30.2.2.2))
noncomputable def shapes_readEntry_k3 (x57 : Int × Int × (Int × Int)) (c69 : List UInt8) (c70 : Int) (c71 : Int) (c72 : List UInt8) (s5_74 : Int) : Option ((((List UInt8) × Int × Int × (List UInt8)) × (List Int)) × Int × (Int × Int)) :=
 some (((c69, c70, c71, c72), []), s5_74, (x57.2.2.1, x57.2.2.2))
noncomputable def shapes_readEntry_k4 (x84 : (List UInt8) × Int × (Int × Int)) (c95 : List UInt8) (c96 : Int) (c97 : Int) (c98 : List UInt8) (s5_100 : Int) : Option ((((List UInt8) × Int × Int × (List UInt8)) × (List Int)) × Int × (Int × Int)) :=
 some (((c95, c96, c97, c98), []), s5_100, (x84.2.2.1, x84.2.2.2))
noncomputable def shapes_readEntry_k5 (x111 : (List Int) × Int × (Int × Int)) (c123 : List UInt8) (c124 : Int) (c125 : Int) (c126 : List UInt8) (s5_128 : Int) : Option ((((List UInt8) × Int × Int × (List UInt8)) × (List Int)) × Int × (Int × Int)) :=
 some (((c123, c124, c125, c126), []), s5_128, (x111.2.2.1, x111.2.2.2))
noncomputable def shapes_readEntry (a0 : List UInt8) (a1 : Int) : Option ((((List UInt8) × Int × Int × (List UInt8)) × (List Int)) × Int × (Int × Int)) :=
 Option.bind (wire_ReadChunk a0 a1) (fun x3 => if x3.2.2.1 = (0 : Int) ∧ x3.2.2.2 = (0 : Int) then Option.bind (wire_ReadNumber a0 x3.2.1) (fun x30 => if x30.2.2.1 = (0 : Int) ∧ x30.2.2.2 = (0 : Int) then Option.bind (wire_ReadNumber a0 x30.2.1) (fun x57 => if x57.2.2.1 = (0 : Int) ∧ x57.2.2.2 = (0 : Int) then Option.bind (wire_ReadChunk a0 x57.2.1) (fun x84 => if x84.2.2.1 = (0 : Int) ∧ x84.2.2.2 = (0 : Int) then Option.bind (wreads_Number a0 x84.2.1 (64 : Int)) (fun x111 => if x111.2.2.1 = (0 : Int) ∧ x111.2.2.2 = (0 : Int) then some (((x3.1, x30.1, x57.1, x84.1), x111.1), x111.2.1, ((0 : Int), (0 : Int))) else (shapes_readEntry_k5 x111) ([] : List UInt8) (0 : Int) (0 : Int) ([] : List UInt8) (0 : Int)) else (shapes_readEntry_k4 x84) ([] : List UInt8) (0 : Int) (0 : Int) ([] : List UInt8) (0 : Int)) else (shapes_readEntry_k3 x57) ([] : List UInt8) (0 : Int) (0 : Int) ([] : List UInt8) (0 : Int)) else (shapes_readEntry_k2 x30) ([] : List UInt8) (0 : Int) (0 : Int) ([] : List UInt8) (0 : Int)) else (shapes_readEntry_k1 x3) ([] : List UInt8) (0 : Int) (0 : Int) ([] : List UInt8) (0 : Int))
theorem shapes_readEntry_ok (w : World) (H : PH) (hH : Le H (hp w)) {a0 : List UInt8} {a1 : Int} {v0_0 : Value} (h0_0 : Vec .byte H v0_0 (a0)) {r : (((List UInt8) × Int × Int × (List UInt8)) × (List Int)) × Int × (Int × Int)} (h : shapes_readEntry a0 a1 = some r) :
  Ok Tryz.prog 70 [v0_0, .int .i64 a1] w (fun v w' => Ext w w' ∧ ∃ u0, v = .tuple #[.agg #[.string ⟨(r.1.1.1).toArray⟩, .int .i64 r.1.1.2.1, .int .i64 r.1.1.2.2.1, .string ⟨(r.1.1.2.2.2).toArray⟩, u0], .int .i64 r.2.1, .agg #[.int .i64 r.2.2.1, .int .i64 r.2.2.2]] ∧ Vec (.int .i64) (un H (nw w w')) u0 (r.1.2)) := by
 refine Ok_enter (n := 85) [(0, v0_0), (1, .int .i64 a1)] func70 rfl rfl rfl rfl rfl ?_
 have hL := Lcl.start w
 refine W_seqr ?_
 refine S_alloc zr96 rfl rfl hL ?_
 intro w1 b1 hL1 hle1 _
 refine S_pu 1 rfl ?_
 refine S_alloc zr23 rfl rfl hL1 ?_
 intro w2 b2 hL2 hle2 _
 refine S_seqnil ?_
 refine W_p 2 rfl ?_
 obtain ⟨x3, hb3, h⟩ := Go.L.bind_some h
 refine S_callL rfl rfl hL2 (wire_ReadChunk_ok _ _ (gz_le hH hL2) (h0_0.mono (gz_left hH)) hb3) ?_
 rintro _ w4 ⟨u4_0, rfl, hR4_0⟩ hx4 hL4 hle4
 have hv4_0 := hR4_0.vecG hH hL2 hx4
 refine S_pu 6 rfl ?_
 refine S_storeBN 0 rfl rfl rfl zr23 hL4 rfl rfl (onc rfl (onc rfl on0)) ?_
 intro w5 hL5 hle5
 replace hv4_0 := hv4_0.mono (gz_mono hH hle5)
 refine S_seqnil ?_
 refine W_seq ?_
 refine W_seqr ?_
 refine S_v (r_loadBN 0 rfl underlying23 rfl zr23 hL5 rfl) rfl ?_
 refine S_v (r_build rfl (fun _ => bld23_z _)) rfl ?_
 refine S_v (r_neA rfl rfl eqg23 (eq23 _ _ _ _ )) rfl ?_
 refine S_seqnil ?_
 refine W_ifn rfl (fun hc6 => ?_) (fun hc6 => ?_)
 ·replace h := Go.L.ite_n hc6 h
  refine W_cut (σ := (List UInt8) × Int × Int × (List UInt8) × Int) (fun ⟨c14, c15, c16, c17, s5_19⟩ => [(4, .pointer (some ⟨b1, 0, none⟩)), (5, .int .i64 s5_19), (6, .pointer (some ⟨b2, 0, none⟩))]) (fun ⟨c14, c15, c16, c17, s5_19⟩ wr => Lcl w [.box b2 [.int .i64 x3.2.2.1, .int .i64 x3.2.2.2] 23, .box b1 [.string ⟨(c14).toArray⟩, .int .i64 c15, .int .i64 c16, .string ⟨(c17).toArray⟩, .slice none 0 0] 96] wr ∧ (shapes_readEntry_k1 x3) c14 c15 c16 c17 s5_19 = some r) ?_ ?_
  ·refine W_naiveI (fun z0 z => Le (gz H w z0 [.box b2 [.int .i64 x3.2.2.1, .int .i64 x3.2.2.2] 23, .box b1 [.string ⟨(([] : List UInt8)).toArray⟩, .int .i64 (0 : Int), .int .i64 (0 : Int), .string ⟨(([] : List UInt8)).toArray⟩, .slice none 0 0] 96]) (hp z) ∧ z.heap[b2]? = some (.cells [.int .i64 x3.2.2.1, .int .i64 x3.2.2.2].toArray 23 (0, 0))) mixed rfl (fun w22 hx22 => ?_)
   have hL23 := hL5.call hx22
   have hG24 := hL23.rG H
   refine NI_hoist 0 (np_cut (np_seq np_body)) ⟨hG24.trans (gz_le hH hL23), hL23.at (i := 0) rfl⟩ (by kernel_rfl) rfl (fun _ _ => r_build rfl (fun _ => bld96_z _)) rfl ?_
   refine NI_hoist 1 (np_cut (np_seq np_body)) ⟨hG24.trans (gz_le hH hL23), hL23.at (i := 0) rfl⟩ (by kernel_rfl) rfl (fun _ hI => r_loadHN rfl underlying23 rfl zr23 hI.2) rfl ?_
   refine NI1 (i := 2) (by kernel_rfl) rfl ?_
   refine S_storeBN 1 rfl rfl rfl zr96 hL23 rfl rfl (onc rfl (onc rfl (onc rfl (onc rfl (onc rfl on0))))) ?_
   intro w25 hL25 hle25
   replace hG24 := hG24.trans (gz_mono hH hle25)
   refine NI_nil ⟨hG24.trans (gz_le hH hL25), hL25.at (i := 0) rfl⟩ ?_
   refine NI_hoist 3 (np_cut (np_seq np_body)) ⟨hG24.trans (gz_le hH hL25), hL25.at (i := 0) rfl⟩ (by kernel_rfl) rfl (fun _ _ => RunsAt_pu rfl) rfl ?_
   refine NI1 (i := 4) (by kernel_rfl) rfl ?_
   refine S_storeBN 0 rfl rfl rfl zr23 hL25 rfl rfl (onc rfl (onc rfl on0)) ?_
   intro w26 hL26 hle26
   replace hG24 := hG24.trans (gz_mono hH hle26)
   refine NI_last (by kernel_rfl) ?_
   refine NI_end (by kernel_rfl) ?_
   refine At_cut (([] : List UInt8), (0 : Int), (0 : Int), ([] : List UInt8), (0 : Int)) (.cons rfl (.cons rfl (.cons rfl (Sub.nil _)))) ⟨hL26, h⟩
  ·rintro ⟨c14, c15, c16, c17, s5_19⟩ wr20 ⟨hL20, h⟩
   refine W_ret ?_
   refine At_seq_ret ?_
   obtain rfl := Option.some.inj h
   refine At_got3 rfl (.cell rfl underlying96 rfl zr96 (box_ptr (i := 1) hL20 rfl)) (.tmp rfl) (.cell rfl underlying23 rfl zr23 (box_ptr (i := 0) hL20 rfl)) ?_
   exact ⟨hL20.ext, _, rfl, (Vec.nil _ _)⟩
 ·replace h := Go.L.ite_p hc6 h
  refine W_skip ?_
  refine At_seq ?_
  refine W_p 1 rfl ?_
  refine S_v (r_str rfl underlying35 underlying5 underlying9 hv4_0 (gz_le hH hL5)) rfl ?_
  refine S_v (r_field rfl underlying96 rfl zr84 (by decide)) rfl ?_
  refine S_v (r_field rfl underlying84 rfl zr9 (by decide)) rfl ?_
  refine S_storeB1 1 rfl rfl rfl zr9 hL5 rfl rfl ?_
  intro w29 hL29 hle29
  replace hv4_0 := hv4_0.mono (gz_mono hH hle29)
  refine S_seqnil ?_
  refine W_seq ?_
  refine W_p 2 rfl ?_
  obtain ⟨x30, hb30, h⟩ := Go.L.bind_some h
  refine S_callL rfl rfl hL29 (wire_ReadNumber_ok _ _ (gz_le hH hL29) (h0_0.mono (gz_left hH)) hb30) ?_
  rintro _ w31 rfl hx31 hL31 hle31
  refine S_pu 4 rfl ?_
  refine S_v (r_field rfl underlying96 rfl zr84 (by decide)) rfl ?_
  refine S_v (r_field rfl underlying84 rfl zr3 (by decide)) rfl ?_
  refine S_storeB1 1 rfl rfl rfl zr3 hL31 rfl rfl ?_
  intro w32 hL32 hle32
  refine S_pu 1 rfl ?_
  refine S_storeBN 0 rfl rfl rfl zr23 hL32 rfl rfl (onc rfl (onc rfl on0)) ?_
  intro w33 hL33 hle33
  refine S_seqnil ?_
  refine W_seqr ?_
  refine S_v (r_loadBN 0 rfl underlying23 rfl zr23 hL33 rfl) rfl ?_
  refine S_v (r_build rfl (fun _ => bld23_z _)) rfl ?_
  refine S_v (r_neA rfl rfl eqg23 (eq23 _ _ _ _ )) rfl ?_
  refine S_seqnil ?_
  refine W_ifn rfl (fun hc34 => ?_) (fun hc34 => ?_)
  ·replace h := Go.L.ite_n hc34 h
   refine W_cut (σ := (List UInt8) × Int × Int × (List UInt8) × Int) (fun ⟨c42, c43, c44, c45, s5_47⟩ => [(4, .pointer (some ⟨b1, 0, none⟩)), (5, .int .i64 s5_47), (6, .pointer (some ⟨b2, 0, none⟩))]) (fun ⟨c42, c43, c44, c45, s5_47⟩ wr => Lcl w [.box b2 [.int .i64 x30.2.2.1, .int .i64 x30.2.2.2] 23, .box b1 [.string ⟨(c42).toArray⟩, .int .i64 c43, .int .i64 c44, .string ⟨(c45).toArray⟩, .slice none 0 0] 96] wr ∧ (shapes_readEntry_k2 x30) c42 c43 c44 c45 s5_47 = some r) ?_ ?_
   ·refine W_naiveI (fun z0 z => Le (gz H w z0 [.box b2 [.int .i64 x30.2.2.1, .int .i64 x30.2.2.2] 23, .box b1 [.string ⟨(x3.1).toArray⟩, .int .i64 x30.1, .int .i64 (0 : Int), .string ⟨(([] : List UInt8)).toArray⟩, .slice none 0 0] 96]) (hp z) ∧ z.heap[b2]? = some (.cells [.int .i64 x30.2.2.1, .int .i64 x30.2.2.2].toArray 23 (0, 0))) mixed rfl (fun w50 hx50 => ?_)
    have hL51 := hL33.call hx50
    have hG52 := hL51.rG H
    refine NI_hoist 0 (np_cut (np_seq np_body)) ⟨hG52.trans (gz_le hH hL51), hL51.at (i := 0) rfl⟩ (by kernel_rfl) rfl (fun _ _ => r_build rfl (fun _ => bld96_z _)) rfl ?_
    refine NI_hoist 1 (np_cut (np_seq np_body)) ⟨hG52.trans (gz_le hH hL51), hL51.at (i := 0) rfl⟩ (by kernel_rfl) rfl (fun _ hI => r_loadHN rfl underlying23 rfl zr23 hI.2) rfl ?_
    refine NI1 (i := 2) (by kernel_rfl) rfl ?_
    refine S_storeBN 1 rfl rfl rfl zr96 hL51 rfl rfl (onc rfl (onc rfl (onc rfl (onc rfl (onc rfl on0))))) ?_
    intro w53 hL53 hle53
    replace hG52 := hG52.trans (gz_mono hH hle53)
    refine NI_nil ⟨hG52.trans (gz_le hH hL53), hL53.at (i := 0) rfl⟩ ?_
    refine NI_hoist 3 (np_cut (np_seq np_body)) ⟨hG52.trans (gz_le hH hL53), hL53.at (i := 0) rfl⟩ (by kernel_rfl) rfl (fun _ _ => RunsAt_pu rfl) rfl ?_
    refine NI1 (i := 4) (by kernel_rfl) rfl ?_
    refine S_storeBN 0 rfl rfl rfl zr23 hL53 rfl rfl (onc rfl (onc rfl on0)) ?_
    intro w54 hL54 hle54
    replace hG52 := hG52.trans (gz_mono hH hle54)
    refine NI_last (by kernel_rfl) ?_
    refine NI_end (by kernel_rfl) ?_
    refine At_cut (([] : List UInt8), (0 : Int), (0 : Int), ([] : List UInt8), (0 : Int)) (.cons rfl (.cons rfl (.cons rfl (Sub.nil _)))) ⟨hL54, h⟩
   ·rintro ⟨c42, c43, c44, c45, s5_47⟩ wr48 ⟨hL48, h⟩
    refine W_ret ?_
    refine At_seq_ret ?_
    obtain rfl := Option.some.inj h
    refine At_got3 rfl (.cell rfl underlying96 rfl zr96 (box_ptr (i := 1) hL48 rfl)) (.tmp rfl) (.cell rfl underlying23 rfl zr23 (box_ptr (i := 0) hL48 rfl)) ?_
    exact ⟨hL48.ext, _, rfl, (Vec.nil _ _)⟩
  ·replace h := Go.L.ite_p hc34 h
   refine W_skip ?_
   refine At_seq ?_
   refine W_seq ?_
   refine W_p 2 rfl ?_
   obtain ⟨x57, hb57, h⟩ := Go.L.bind_some h
   refine S_callL rfl rfl hL33 (wire_ReadNumber_ok _ _ (gz_le hH hL33) (h0_0.mono (gz_left hH)) hb57) ?_
   rintro _ w58 rfl hx58 hL58 hle58
   refine S_pu 4 rfl ?_
   refine S_v (r_field rfl underlying96 rfl zr84 (by decide)) rfl ?_
   refine S_v (r_field rfl underlying84 rfl zr3 (by decide)) rfl ?_
   refine S_storeB1 1 rfl rfl rfl zr3 hL58 rfl rfl ?_
   intro w59 hL59 hle59
   refine S_pu 1 rfl ?_
   refine S_storeBN 0 rfl rfl rfl zr23 hL59 rfl rfl (onc rfl (onc rfl on0)) ?_
   intro w60 hL60 hle60
   refine S_seqnil ?_
   refine W_seqr ?_
   refine S_v (r_loadBN 0 rfl underlying23 rfl zr23 hL60 rfl) rfl ?_
   refine S_v (r_build rfl (fun _ => bld23_z _)) rfl ?_
   refine S_v (r_neA rfl rfl eqg23 (eq23 _ _ _ _ )) rfl ?_
   refine S_seqnil ?_
   refine W_ifn rfl (fun hc61 => ?_) (fun hc61 => ?_)
   ·replace h := Go.L.ite_n hc61 h
    refine W_cut (σ := (List UInt8) × Int × Int × (List UInt8) × Int) (fun ⟨c69, c70, c71, c72, s5_74⟩ => [(4, .pointer (some ⟨b1, 0, none⟩)), (5, .int .i64 s5_74), (6, .pointer (some ⟨b2, 0, none⟩))]) (fun ⟨c69, c70, c71, c72, s5_74⟩ wr => Lcl w [.box b2 [.int .i64 x57.2.2.1, .int .i64 x57.2.2.2] 23, .box b1 [.string ⟨(c69).toArray⟩, .int .i64 c70, .int .i64 c71, .string ⟨(c72).toArray⟩, .slice none 0 0] 96] wr ∧ (shapes_readEntry_k3 x57) c69 c70 c71 c72 s5_74 = some r) ?_ ?_
    ·refine W_naiveI (fun z0 z => Le (gz H w z0 [.box b2 [.int .i64 x57.2.2.1, .int .i64 x57.2.2.2] 23, .box b1 [.string ⟨(x3.1).toArray⟩, .int .i64 x30.1, .int .i64 x57.1, .string ⟨(([] : List UInt8)).toArray⟩, .slice none 0 0] 96]) (hp z) ∧ z.heap[b2]? = some (.cells [.int .i64 x57.2.2.1, .int .i64 x57.2.2.2].toArray 23 (0, 0))) mixed rfl (fun w77 hx77 => ?_)
     have hL78 := hL60.call hx77
     have hG79 := hL78.rG H
     refine NI_hoist 0 (np_cut (np_seq np_body)) ⟨hG79.trans (gz_le hH hL78), hL78.at (i := 0) rfl⟩ (by kernel_rfl) rfl (fun _ _ => r_build rfl (fun _ => bld96_z _)) rfl ?_
     refine NI_hoist 1 (np_cut (np_seq np_body)) ⟨hG79.trans (gz_le hH hL78), hL78.at (i := 0) rfl⟩ (by kernel_rfl) rfl (fun _ hI => r_loadHN rfl underlying23 rfl zr23 hI.2) rfl ?_
     refine NI1 (i := 2) (by kernel_rfl) rfl ?_
     refine S_storeBN 1 rfl rfl rfl zr96 hL78 rfl rfl (onc rfl (onc rfl (onc rfl (onc rfl (onc rfl on0))))) ?_
     intro w80 hL80 hle80
     replace hG79 := hG79.trans (gz_mono hH hle80)
     refine NI_nil ⟨hG79.trans (gz_le hH hL80), hL80.at (i := 0) rfl⟩ ?_
     refine NI_hoist 3 (np_cut (np_seq np_body)) ⟨hG79.trans (gz_le hH hL80), hL80.at (i := 0) rfl⟩ (by kernel_rfl) rfl (fun _ _ => RunsAt_pu rfl) rfl ?_
     refine NI1 (i := 4) (by kernel_rfl) rfl ?_
     refine S_storeBN 0 rfl rfl rfl zr23 hL80 rfl rfl (onc rfl (onc rfl on0)) ?_
     intro w81 hL81 hle81
     replace hG79 := hG79.trans (gz_mono hH hle81)
     refine NI_last (by kernel_rfl) ?_
     refine NI_end (by kernel_rfl) ?_
     refine At_cut (([] : List UInt8), (0 : Int), (0 : Int), ([] : List UInt8), (0 : Int)) (.cons rfl (.cons rfl (.cons rfl (Sub.nil _)))) ⟨hL81, h⟩
    ·rintro ⟨c69, c70, c71, c72, s5_74⟩ wr75 ⟨hL75, h⟩
     refine W_ret ?_
     refine At_seq_ret ?_
     obtain rfl := Option.some.inj h
     refine At_got3 rfl (.cell rfl underlying96 rfl zr96 (box_ptr (i := 1) hL75 rfl)) (.tmp rfl) (.cell rfl underlying23 rfl zr23 (box_ptr (i := 0) hL75 rfl)) ?_
     exact ⟨hL75.ext, _, rfl, (Vec.nil _ _)⟩
   ·replace h := Go.L.ite_p hc61 h
    refine W_skip ?_
    refine At_seq ?_
    refine W_p 2 rfl ?_
    obtain ⟨x84, hb84, h⟩ := Go.L.bind_some h
    refine S_callL rfl rfl hL60 (wire_ReadChunk_ok _ _ (gz_le hH hL60) (h0_0.mono (gz_left hH)) hb84) ?_
    rintro _ w85 ⟨u85_0, rfl, hR85_0⟩ hx85 hL85 hle85
    have hv85_0 := hR85_0.vecG hH hL60 hx85
    refine S_pu 6 rfl ?_
    refine S_storeBN 0 rfl rfl rfl zr23 hL85 rfl rfl (onc rfl (onc rfl on0)) ?_
    intro w86 hL86 hle86
    replace hv85_0 := hv85_0.mono (gz_mono hH hle86)
    refine S_seqnil ?_
    refine W_seq ?_
    refine W_seqr ?_
    refine S_v (r_loadBN 0 rfl underlying23 rfl zr23 hL86 rfl) rfl ?_
    refine S_v (r_build rfl (fun _ => bld23_z _)) rfl ?_
    refine S_v (r_neA rfl rfl eqg23 (eq23 _ _ _ _ )) rfl ?_
    refine S_seqnil ?_
    refine W_ifn rfl (fun hc87 => ?_) (fun hc87 => ?_)
    ·replace h := Go.L.ite_n hc87 h
     refine W_cut (σ := (List UInt8) × Int × Int × (List UInt8) × Int) (fun ⟨c95, c96, c97, c98, s5_100⟩ => [(4, .pointer (some ⟨b1, 0, none⟩)), (5, .int .i64 s5_100), (6, .pointer (some ⟨b2, 0, none⟩))]) (fun ⟨c95, c96, c97, c98, s5_100⟩ wr => Lcl w [.box b2 [.int .i64 x84.2.2.1, .int .i64 x84.2.2.2] 23, .box b1 [.string ⟨(c95).toArray⟩, .int .i64 c96, .int .i64 c97, .string ⟨(c98).toArray⟩, .slice none 0 0] 96] wr ∧ (shapes_readEntry_k4 x84) c95 c96 c97 c98 s5_100 = some r) ?_ ?_
     ·refine W_naiveI (fun z0 z => Le (gz H w z0 [.box b2 [.int .i64 x84.2.2.1, .int .i64 x84.2.2.2] 23, .box b1 [.string ⟨(x3.1).toArray⟩, .int .i64 x30.1, .int .i64 x57.1, .string ⟨(([] : List UInt8)).toArray⟩, .slice none 0 0] 96]) (hp z) ∧ z.heap[b2]? = some (.cells [.int .i64 x84.2.2.1, .int .i64 x84.2.2.2].toArray 23 (0, 0))) mixed rfl (fun w103 hx103 => ?_)
      have hL104 := hL86.call hx103
      have hG105 := hL104.rG H
      refine NI_hoist 0 (np_cut (np_seq np_body)) ⟨hG105.trans (gz_le hH hL104), hL104.at (i := 0) rfl⟩ (by kernel_rfl) rfl (fun _ _ => r_build rfl (fun _ => bld96_z _)) rfl ?_
      refine NI_hoist 1 (np_cut (np_seq np_body)) ⟨hG105.trans (gz_le hH hL104), hL104.at (i := 0) rfl⟩ (by kernel_rfl) rfl (fun _ hI => r_loadHN rfl underlying23 rfl zr23 hI.2) rfl ?_
      refine NI1 (i := 2) (by kernel_rfl) rfl ?_
      refine S_storeBN 1 rfl rfl rfl zr96 hL104 rfl rfl (onc rfl (onc rfl (onc rfl (onc rfl (onc rfl on0))))) ?_
      intro w106 hL106 hle106
      replace hG105 := hG105.trans (gz_mono hH hle106)
      refine NI_nil ⟨hG105.trans (gz_le hH hL106), hL106.at (i := 0) rfl⟩ ?_
      refine NI_hoist 3 (np_cut (np_seq np_body)) ⟨hG105.trans (gz_le hH hL106), hL106.at (i := 0) rfl⟩ (by kernel_rfl) rfl (fun _ _ => RunsAt_pu rfl) rfl ?_
      refine NI1 (i := 4) (by kernel_rfl) rfl ?_
      refine S_storeBN 0 rfl rfl rfl zr23 hL106 rfl rfl (onc rfl (onc rfl on0)) ?_
      intro w107 hL107 hle107
      replace hG105 := hG105.trans (gz_mono hH hle107)
      refine NI_last (by kernel_rfl) ?_
      refine NI_end (by kernel_rfl) ?_
      refine At_cut (([] : List UInt8), (0 : Int), (0 : Int), ([] : List UInt8), (0 : Int)) (.cons rfl (.cons rfl (.cons rfl (Sub.nil _)))) ⟨hL107, h⟩
     ·rintro ⟨c95, c96, c97, c98, s5_100⟩ wr101 ⟨hL101, h⟩
      refine W_ret ?_
      refine At_seq_ret ?_
      obtain rfl := Option.some.inj h
      refine At_got3 rfl (.cell rfl underlying96 rfl zr96 (box_ptr (i := 1) hL101 rfl)) (.tmp rfl) (.cell rfl underlying23 rfl zr23 (box_ptr (i := 0) hL101 rfl)) ?_
      exact ⟨hL101.ext, _, rfl, (Vec.nil _ _)⟩
    ·replace h := Go.L.ite_p hc87 h
     refine W_skip ?_
     refine At_seq ?_
     refine W_p 1 rfl ?_
     refine S_v (r_str rfl underlying35 underlying5 underlying9 hv85_0 (gz_le hH hL86)) rfl ?_
     refine S_v (r_field rfl underlying96 rfl zr84 (by decide)) rfl ?_
     refine S_v (r_field rfl underlying84 rfl zr9 (by decide)) rfl ?_
     refine S_storeB1 1 rfl rfl rfl zr9 hL86 rfl rfl ?_
     intro w110 hL110 hle110
     replace hv85_0 := hv85_0.mono (gz_mono hH hle110)
     refine S_seqnil ?_
     refine W_seq ?_
     refine W_p 2 rfl ?_
     obtain ⟨x111, hb111, h⟩ := Go.L.bind_some h
     refine S_callL rfl rfl hL110 (wreads_Number_ok _ _ (gz_le hH hL110) (h0_0.mono (gz_left hH)) hb111) ?_
     rintro _ w112 ⟨u112_0, rfl, hR112_0⟩ hx112 hL112 hle112
     have hv112_0 := hR112_0.vecG hH hL110 hx112
     refine S_pu 4 rfl ?_
     refine S_v (r_field rfl underlying96 rfl zr52 (by decide)) rfl ?_
     refine S_storeB1 1 rfl rfl hv112_0.one zr52 hL112 rfl rfl ?_
     intro w113 hL113 hle113
     replace hv112_0 := hv112_0.mono (gz_mono hH hle113)
     refine S_pu 1 rfl ?_
     refine S_storeBN 0 rfl rfl rfl zr23 hL113 rfl rfl (onc rfl (onc rfl on0)) ?_
     intro w114 hL114 hle114
     replace hv112_0 := hv112_0.mono (gz_mono hH hle114)
     refine S_seqnil ?_
     refine W_seqr ?_
     refine S_v (r_loadBN 0 rfl underlying23 rfl zr23 hL114 rfl) rfl ?_
     refine S_v (r_build rfl (fun _ => bld23_z _)) rfl ?_
     refine S_v (r_neA rfl rfl eqg23 (eq23 _ _ _ _ )) rfl ?_
     refine S_seqnil ?_
     refine W_ifn rfl (fun hc115 => ?_) (fun hc115 => ?_)
     ·replace h := Go.L.ite_n hc115 h
      refine W_cut (σ := (List UInt8) × Int × Int × (List UInt8) × Int) (fun ⟨c123, c124, c125, c126, s5_128⟩ => [(4, .pointer (some ⟨b1, 0, none⟩)), (5, .int .i64 s5_128), (6, .pointer (some ⟨b2, 0, none⟩))]) (fun ⟨c123, c124, c125, c126, s5_128⟩ wr => Lcl w [.box b2 [.int .i64 x111.2.2.1, .int .i64 x111.2.2.2] 23, .box b1 [.string ⟨(c123).toArray⟩, .int .i64 c124, .int .i64 c125, .string ⟨(c126).toArray⟩, .slice none 0 0] 96] wr ∧ (shapes_readEntry_k5 x111) c123 c124 c125 c126 s5_128 = some r) ?_ ?_
      ·refine W_naiveI (fun z0 z => Le (gz H w z0 [.box b2 [.int .i64 x111.2.2.1, .int .i64 x111.2.2.2] 23, .box b1 [.string ⟨(x3.1).toArray⟩, .int .i64 x30.1, .int .i64 x57.1, .string ⟨(x84.1).toArray⟩, u112_0] 96]) (hp z) ∧ z.heap[b2]? = some (.cells [.int .i64 x111.2.2.1, .int .i64 x111.2.2.2].toArray 23 (0, 0))) mixed rfl (fun w131 hx131 => ?_)
       have hL132 := hL114.call hx131
       have hle132 := fz_ext hL114 hx131
       replace hv112_0 := hv112_0.mono (gz_mono hH hle132)
       have hG133 := hL132.rG H
       refine NI_hoist 0 (np_cut (np_seq np_body)) ⟨hG133.trans (gz_le hH hL132), hL132.at (i := 0) rfl⟩ (by kernel_rfl) rfl (fun _ _ => r_build rfl (fun _ => bld96_z _)) rfl ?_
       refine NI_hoist 1 (np_cut (np_seq np_body)) ⟨hG133.trans (gz_le hH hL132), hL132.at (i := 0) rfl⟩ (by kernel_rfl) rfl (fun _ hI => r_loadHN rfl underlying23 rfl zr23 hI.2) rfl ?_
       refine NI1 (i := 2) (by kernel_rfl) rfl ?_
       refine S_storeBN 1 rfl rfl rfl zr96 hL132 rfl rfl (onc rfl (onc rfl (onc rfl (onc rfl (onc rfl on0))))) ?_
       intro w134 hL134 hle134
       replace hG133 := hG133.trans (gz_mono hH hle134)
       refine NI_nil ⟨hG133.trans (gz_le hH hL134), hL134.at (i := 0) rfl⟩ ?_
       refine NI_hoist 3 (np_cut (np_seq np_body)) ⟨hG133.trans (gz_le hH hL134), hL134.at (i := 0) rfl⟩ (by kernel_rfl) rfl (fun _ _ => RunsAt_pu rfl) rfl ?_
       refine NI1 (i := 4) (by kernel_rfl) rfl ?_
       refine S_storeBN 0 rfl rfl rfl zr23 hL134 rfl rfl (onc rfl (onc rfl on0)) ?_
       intro w135 hL135 hle135
       replace hG133 := hG133.trans (gz_mono hH hle135)
       refine NI_last (by kernel_rfl) ?_
       refine NI_end (by kernel_rfl) ?_
       refine At_cut (([] : List UInt8), (0 : Int), (0 : Int), ([] : List UInt8), (0 : Int)) (.cons rfl (.cons rfl (.cons rfl (Sub.nil _)))) ⟨hL135, h⟩
      ·rintro ⟨c123, c124, c125, c126, s5_128⟩ wr129 ⟨hL129, h⟩
       refine W_ret ?_
       refine At_seq_ret ?_
       obtain rfl := Option.some.inj h
       refine At_got3 rfl (.cell rfl underlying96 rfl zr96 (box_ptr (i := 1) hL129 rfl)) (.tmp rfl) (.cell rfl underlying23 rfl zr23 (box_ptr (i := 0) hL129 rfl)) ?_
       exact ⟨hL129.ext, _, rfl, (Vec.nil _ _)⟩
     ·replace h := Go.L.ite_p hc115 h
      refine W_skip ?_
      refine At_seq ?_
      refine W_seqr ?_
      refine S_v (r_loadBN 1 rfl underlying96 rfl zr96 hL114 rfl) rfl ?_
      refine S_pu 1 rfl ?_
      refine S_v (r_build rfl (fun _ => bld23_z _)) rfl ?_
      refine S_storeBN 1 rfl rfl rfl zr96 hL114 rfl rfl (onc rfl (onc rfl (onc rfl (onc rfl (onc hv112_0.one on0))))) ?_
      intro w138 hL138 hle138
      replace hv112_0 := hv112_0.mono (gz_mono hH hle138)
      refine S_pu 1 rfl ?_
      refine S_storeBN 0 rfl rfl rfl zr23 hL138 rfl rfl (onc rfl (onc rfl on0)) ?_
      intro w139 hL139 hle139
      replace hv112_0 := hv112_0.mono (gz_mono hH hle139)
      refine S_seqnil ?_
      refine W_ret ?_
      obtain rfl := Option.some.inj h
      refine At_got3 rfl (.cell rfl underlying96 rfl zr96 (box_ptr (i := 1) hL139 rfl)) (.tmp rfl) (.cell rfl underlying23 rfl zr23 (box_ptr (i := 0) hL139 rfl)) ?_
      exact ⟨hL139.ext, _, rfl, (hv112_0.mono (gz_res hH))⟩
noncomputable def wreads_entry_k1 (l69 : List (((List UInt8) × Int × Int × (List UInt8)) × (List Int))) (s12_70 : Int) : Option ((List (((List UInt8) × Int × Int × (List UInt8)) × (List Int))) × Int × (Int × Int)) :=
 some (l69, s12_70, ((0 : Int), (0 : Int)))
noncomputable def wreads_entry_bl2 (a0 : List UInt8) (x2 : Int × Int × (Int × Int)) : (List (((List UInt8) × Int × Int × (List UInt8)) × (List Int))) × Int × Int → Option (((List (((List UInt8) × Int × Int × (List UInt8)) × (List Int))) × Int × Int) ⊕ ((List (((List UInt8) × Int × Int × (List UInt8)) × (List Int))) × Int × (Int × Int))) := fun ⟨l95, s12_96, s41_97⟩ =>
 if s41_97 < x2.1 then Option.bind (shapes_readEntry a0 s12_96) (fun x102 => if x102.2.2.1 = (0 : Int) ∧ x102.2.2.2 = (0 : Int) then Go.L.chk (Go.E.Cap 72 (l95.length + ([((x102.1.1.1, x102.1.1.2.1, x102.1.1.2.2.1, x102.1.1.2.2.2), x102.1.2)]).length)) (Go.L.chk (Go.L.I64 (s41_97 + (1 : Int))) (some (Sum.inl ((l95 ++ [((x102.1.1.1, x102.1.1.2.1, x102.1.1.2.2.1, x102.1.1.2.2.2), x102.1.2)]), x102.2.1, (s41_97 + (1 : Int)))))) else Option.map Sum.inr (some ([], (0 : Int), (x102.2.2.1, x102.2.2.2)))) else Option.map Sum.inr (wreads_entry_k1 l95 s12_96)
noncomputable def wreads_entry_l2 (a0 : List UInt8) (x2 : Int × Int × (Int × Int)) (s : (List (((List UInt8) × Int × Int × (List UInt8)) × (List Int))) × Int × Int) : Option ((List (((List UInt8) × Int × Int × (List UInt8)) × (List Int))) × Int × (Int × Int)) := Go.L.run (wreads_entry_bl2 a0 x2) s
noncomputable def wreads_entry (a0 : List UInt8) (a1 : Int) (a2 : Int) : Option ((List (((List UInt8) × Int × Int × (List UInt8)) × (List Int))) × Int × (Int × Int)) :=
 Option.bind (wire_ReadNumber a0 a1) (fun x2 => if x2.2.2.1 = (0 : Int) ∧ x2.2.2.2 = (0 : Int) then (if (x2.1 < (0 : Int)) ∨ (a2 < x2.1) then Option.bind (wire_fault (4 : Int) a1) (fun x16 => some ([], (0 : Int), (x16.1, x16.2))) else (wreads_entry_l2 a0 x2) (([] : List (((List UInt8) × Int × Int × (List UInt8)) × (List Int))), x2.2.1, (0 : Int))) else some ([], (0 : Int), (x2.2.2.1, x2.2.2.2)))
theorem wreads_entry_ok (w : World) (H : PH) (hH : Le H (hp w)) {a0 : List UInt8} {a1 : Int} {a2 : Int} {v0_0 : Value} (h0_0 : Vec .byte H v0_0 (a0)) {r : (List (((List UInt8) × Int × Int × (List UInt8)) × (List Int))) × Int × (Int × Int)} (h : wreads_entry a0 a1 a2 = some r) :
  Ok Tryz.prog 69 [v0_0, .int .i64 a1, .int .i64 a2, .func (.func 70) #[] #[]] w (fun v w' => Ext w w' ∧ ∃ u0, v = .tuple #[u0, .int .i64 r.2.1, .agg #[.int .i64 r.2.2.1, .int .i64 r.2.2.2]] ∧ OwnH 96 (.pair (.pair .st (.pair (.int .i64) (.pair (.int .i64) .st))) (.vec (.int .i64))) H w w' u0 (r.1)) := by
 refine Ok_enter (n := 64) [(0, v0_0), (1, .int .i64 a1), (2, .int .i64 a2), (3, .func (.func 70) #[] #[])] func69 rfl rfl rfl rfl rfl ?_
 have hL := Lcl.start w
 refine W_p 2 rfl ?_
 refine S_alloc zr23 rfl rfl hL ?_
 intro w1 b1 hL1 hle1 _
 refine S_seqnil ?_
 refine W_p 2 rfl ?_
 obtain ⟨x2, hb2, h⟩ := Go.L.bind_some h
 refine S_callL rfl rfl hL1 (wire_ReadNumber_ok _ _ (gz_le hH hL1) (h0_0.mono (gz_left hH)) hb2) ?_
 rintro _ w3 rfl hx3 hL3 hle3
 refine S_pu 4 rfl ?_
 refine S_alloc zr23 rfl rfl hL3 ?_
 intro w4 b4 hL4 hle4 _
 refine S_pu 2 rfl ?_
 refine S_storeBN 0 rfl rfl rfl zr23 hL4 rfl rfl (onc rfl (onc rfl on0)) ?_
 intro w5 hL5 hle5
 refine S_seqnil ?_
 refine W_seq ?_
 refine W_block ?_
 refine W_seqr ?_
 refine S_v (r_loadBN 0 rfl underlying23 rfl zr23 hL5 rfl) rfl ?_
 refine S_v (r_build rfl (fun _ => bld23_z _)) rfl ?_
 refine S_v (r_neA rfl rfl eqg23 (eq23 _ _ _ _ )) rfl ?_
 refine S_pz 1 rfl ?_
 refine W_ifn rfl (fun hc6 => ?_) (fun hc6 => ?_)
 ·replace h := Go.L.ite_n hc6 h
  refine W_seqd (.q 0 (.q 1 (.q 2 (.tail 3)))) mixed (by kernel_rfl) (fun w8 hx8 => ?_)
  have hL9 := hL5.call hx8
  refine D_v (r_loadBN 0 rfl underlying23 rfl zr23 hL9 rfl) rfl rfl ?_
  refine D_pu 2 rfl ?_
  refine D_tail (fun w10 hx10 => ?_)
  have hL11 := hL9.call hx10
  refine S_storeBN 1 rfl rfl rfl zr23 hL11 rfl rfl (onc rfl (onc rfl on0)) ?_
  intro w12 hL12 hle12
  refine S_seqnil ?_
  refine W_ret ?_
  refine At_block_ret ?_
  refine At_seq_ret ?_
  obtain rfl := Option.some.inj h
  refine At_got3 rfl (.tmp rfl) (.tmp rfl) (.cell rfl underlying23 rfl zr23 (box_ptr (i := 1) hL12 rfl)) ?_
  exact ⟨hL12.ext, _, rfl, OwnH.nil⟩
 ·replace h := Go.L.ite_p hc6 h
  refine W_p 3 rfl ?_
  refine S_or 3 2 rfl rfl rfl rfl rfl rfl ?_
  refine S_pz 1 rfl ?_
  refine W_if rfl (fun hc14 => ?_) (fun hc14 => ?_)
  ·replace h := Go.L.ite_p hc14 h
   refine W_p 1 rfl ?_
   obtain ⟨x16, hb16, h⟩ := Go.L.bind_some h
   refine S_callL rfl rfl hL5 (wire_fault_ok _ _ (gz_le hH hL5) hb16) ?_
   rintro _ w17 rfl hx17 hL17 hle17
   refine S_pu 2 rfl ?_
   refine S_storeBN 1 rfl rfl rfl zr23 hL17 rfl rfl (onc rfl (onc rfl on0)) ?_
   intro w18 hL18 hle18
   refine S_seqnil ?_
   refine W_ret ?_
   refine At_block_ret ?_
   refine At_seq_ret ?_
   obtain rfl := Option.some.inj h
   refine At_got3 rfl (.tmp rfl) (.tmp rfl) (.cell rfl underlying23 rfl zr23 (box_ptr (i := 1) hL18 rfl)) ?_
   exact ⟨hL18.ext, _, rfl, OwnH.nil⟩
  ·replace h := Go.L.ite_n hc14 h
   refine W_skip ?_
   refine At_block ?_
   refine At_seq ?_
   refine W_p 1 rfl ?_
   obtain ⟨hL20, hle20, he20⟩ := row_nilE (.pair (.pair .st (.pair (.int .i64) (.pair (.int .i64) .st))) (.vec (.int .i64))) H 96 hL5
   refine S_seqnil ?_
   refine W_cut (σ := (List (((List UInt8) × Int × Int × (List UInt8)) × (List Int))) × Int × Value × (List Value)) (fun ⟨l69, s12_70, vl69, xsl69⟩ => [(10, .pointer (some ⟨b1, 0, none⟩)), (12, .int .i64 s12_70), (14, vl69)]) (fun ⟨l69, s12_70, vl69, xsl69⟩ wr => InO w [.row (vl69) 96 5 (l69).length (xsl69), .box b4 [.int .i64 x2.2.2.1, .int .i64 x2.2.2.2] 23, .box b1 [.int .i64 (0 : Int), .int .i64 (0 : Int)] 23] wr fun Oz => Elems (.pair (.pair .st (.pair (.int .i64) (.pair (.int .i64) .st))) (.vec (.int .i64))) (gz H w wr Oz) (l69) (xsl69) ∧ wreads_entry_k1 l69 s12_70 = some r) ?_ ?_
   ·refine W_pz 2 rfl ?_
    refine W_block ?_
    obtain ⟨n98, h⟩ := Go.L.run_some h
    refine W_loop (σ := (List (((List UInt8) × Int × Int × (List UInt8)) × (List Int))) × Int × Int × Value × (List Value) × Nat) (fun ⟨l95, s12_96, s41_97, vl95, xsl95, n⟩ => [(0, v0_0), (3, .func (.func 70) #[] #[]), (10, .pointer (some ⟨b1, 0, none⟩)), (12, .int .i64 s12_96), (14, vl95), (40, .int .i64 x2.1), (41, .int .i64 s41_97)]) (fun ⟨l95, s12_96, s41_97, vl95, xsl95, n⟩ wr => InO w [.row (vl95) 96 5 (l95).length (xsl95), .box b4 [.int .i64 x2.2.2.1, .int .i64 x2.2.2.2] 23, .box b1 [.int .i64 (0 : Int), .int .i64 (0 : Int)] 23] wr fun Oz => Elems (.pair (.pair .st (.pair (.int .i64) (.pair (.int .i64) .st))) (.vec (.int .i64))) (gz H w wr Oz) (l95) (xsl95) ∧ Go.L.itr (wreads_entry_bl2 a0 x2) n (l95, s12_96, s41_97) = some r) (fun ⟨l95, s12_96, s41_97, vl95, xsl95, n⟩ => n) (([] : List (((List UInt8) × Int × Int × (List UInt8)) × (List Int))), x2.2.1, (0 : Int), .slice none 0 0, [], n98) (.cons rfl (.cons rfl (.cons rfl (.cons rfl (.cons rfl (.cons rfl (.cons rfl (Sub.nil _)))))))) ⟨hL20, he20, h⟩ ?_
    rintro ⟨l95, s12_96, s41_97, vl95, xsl95, nn98⟩ wr98 ⟨hL98, hel95, h⟩
    obtain ⟨n98, e98, rfl, h, hm98⟩ := Go.L.itr_some h
    refine W_pz 1 rfl ?_
    refine W_seq ?_
    refine W_if rfl (fun hc100 => ?_) (fun hc100 => ?_)
    ·replace h := Go.L.ite_p hc100 h
     refine W_skip ?_
     refine At_seq ?_
     refine W_seq ?_
     refine W_block ?_
     refine W_p 3 rfl ?_
     obtain ⟨x102, hb102, h⟩ := Go.L.bind_some h
     refine S_callwL rfl rfl rfl hL98 (shapes_readEntry_ok _ _ (gz_le hH hL98) (h0_0.mono (gz_left hH)) hb102) ?_
     rintro _ w103 ⟨u103_0, rfl, hR103_0⟩ hx103 hL103 hle103
     have hv103_0 := hR103_0.mono (gz_nw hH hL98 hx103)
     replace hel95 := hel95.mono (gz_mono hH hle103)
     refine S_pu 4 rfl ?_
     refine S_alloc zr96 rfl rfl hL103 ?_
     intro w104 b104 hL104 hle104 _
     replace hel95 := hel95.mono (gz_mono hH hle104)
     replace hv103_0 := hv103_0.mono (gz_mono hH hle104)
     refine S_alloc zr23 rfl rfl hL104 ?_
     intro w105 b105 hL105 hle105 _
     replace hel95 := hel95.mono (gz_mono hH hle105)
     replace hv103_0 := hv103_0.mono (gz_mono hH hle105)
     refine S_storeBN 1 rfl rfl rfl zr96 hL105 rfl rfl (onc rfl (onc rfl (onc rfl (onc rfl (onc hv103_0.one on0))))) ?_
     intro w106 hL106 hle106
     replace hel95 := hel95.mono (gz_mono hH hle106)
     replace hv103_0 := hv103_0.mono (gz_mono hH hle106)
     refine S_pu 1 rfl ?_
     refine S_storeBN 0 rfl rfl rfl zr23 hL106 rfl rfl (onc rfl (onc rfl on0)) ?_
     intro w107 hL107 hle107
     replace hel95 := hel95.mono (gz_mono hH hle107)
     replace hv103_0 := hv103_0.mono (gz_mono hH hle107)
     refine S_seqnil ?_
     refine W_seq ?_
     refine W_seqr ?_
     refine S_v (r_loadBN 0 rfl underlying23 rfl zr23 hL107 rfl) rfl ?_
     refine S_v (r_build rfl (fun _ => bld23_z _)) rfl ?_
     refine S_v (r_neA rfl rfl eqg23 (eq23 _ _ _ _ )) rfl ?_
     refine S_seqnil ?_
     refine W_ifn rfl (fun hc108 => ?_) (fun hc108 => ?_)
     ·replace h := Go.L.ite_n hc108 h
      refine W_seqd (.q 0 (.q 1 (.q 2 (.tail 3)))) mixed (by kernel_rfl) (fun w110 hx110 => ?_)
      have hL111 := hL107.call hx110
      have hle111 := fz_ext hL107 hx110
      replace hel95 := hel95.mono (gz_mono hH hle111)
      replace hv103_0 := hv103_0.mono (gz_mono hH hle111)
      refine D_v (r_loadBN 0 rfl underlying23 rfl zr23 hL111 rfl) rfl rfl ?_
      refine D_pu 2 rfl ?_
      refine D_tail (fun w112 hx112 => ?_)
      have hL113 := hL111.call hx112
      have hle113 := fz_ext hL111 hx112
      replace hel95 := hel95.mono (gz_mono hH hle113)
      replace hv103_0 := hv103_0.mono (gz_mono hH hle113)
      refine S_storeBN 4 rfl rfl rfl zr23 hL113 rfl rfl (onc rfl (onc rfl on0)) ?_
      intro w114 hL114 hle114
      replace hel95 := hel95.mono (gz_mono hH hle114)
      replace hv103_0 := hv103_0.mono (gz_mono hH hle114)
      refine S_seqnil ?_
      refine W_ret ?_
      refine At_seq_ret ?_
      refine At_block_ret ?_
      refine At_seq_ret ?_
      refine At_loop_ret ?_
      replace h := Go.L.Nxt.out h hm98
      refine At_block_ret ?_
      refine At_cut_ret ?_
      obtain rfl := Option.some.inj h
      refine At_got3 rfl (.tmp rfl) (.tmp rfl) (.cell rfl underlying23 rfl zr23 (box_ptr (i := 4) hL114 rfl)) ?_
      exact ⟨hL114.ext, _, rfl, OwnH.nil⟩
     ·replace h := Go.L.ite_p hc108 h
      refine W_skip ?_
      refine At_seq ?_
      refine W_region ?_
      refine S_pu 1 rfl ?_
      refine S_v (r_loadBN 1 rfl underlying96 rfl zr96 hL107 rfl) rfl ?_
      refine S_litE (r := (.pair (.pair .st (.pair (.int .i64) (.pair (.int .i64) .st))) (.vec (.int .i64)))) (l := [((x102.1.1.1, x102.1.1.2.1, x102.1.1.2.2.1, x102.1.1.2.2.2), x102.1.2)]) rfl (fun _ => bsl45_1 _ _ _ _ _ _) rfl (show 1 ≤ 9223372036854775807 by decide) hH hL107 (.c5 ⟨_, _, rfl, ⟨_, _, rfl, rfl, ⟨_, _, rfl, rfl, ⟨_, _, rfl, rfl, rfl⟩⟩⟩, ⟨_, rfl, hv103_0⟩⟩ .nil) ?_
      intro v116 w116 hx116 hL116 hle116 hv116
      replace hel95 := hel95.mono (gz_mono hH hle116)
      replace hv103_0 := hv103_0.mono (gz_mono hH hle116)
      obtain ⟨hk118, h⟩ := Go.L.chk_some h
      refine S_appE (r := (.pair (.pair .st (.pair (.int .i64) (.pair (.int .i64) .st))) (.vec (.int .i64)))) (l := l95) (m := [((x102.1.1.1, x102.1.1.2.1, x102.1.1.2.2.1, x102.1.1.2.2.2), x102.1.2)]) 2 rfl rfl underlying45 zr96 rfl (by decide) rfl hH hL116 rfl hel95 hv116 hk118 ?_
      intro v117 w117 xs117 hL117 hle117 he117
      replace hv103_0 := hv103_0.mono (gz_mono hH hle117)
      replace hv116 := hv116.mono (gz_mono hH hle117)
      refine S_pu 3 rfl ?_
      refine S_nil ?_
      refine At_block ?_
      refine At_seq ?_
      refine W_region ?_
      obtain ⟨hk119, h⟩ := Go.L.chk_some h
      refine S_v (r_ar64 rfl rfl rfl hk119) rfl ?_
      refine S_pu 1 rfl ?_
      refine S_nil ?_
      have hL120 := hL117.dropAt (i := 0) rfl
      replace hv103_0 := hv103_0.mono (gz_mono hH (fz_dropAt (i := 0) rfl))
      replace he117 := he117.mono (gz_mono hH (fz_dropAt (i := 0) rfl))
      have hL121 := hL120.dropAt (i := 0) rfl
      replace hv103_0 := hv103_0.mono (gz_mono hH (fz_dropAt (i := 0) rfl))
      replace he117 := he117.mono (gz_mono hH (fz_dropAt (i := 0) rfl))
      have h := Go.L.Nxt.again h hm98
      refine At_round ((l95 ++ [((x102.1.1.1, x102.1.1.2.1, x102.1.1.2.2.1, x102.1.1.2.2.2), x102.1.2)]), x102.2.1, (s41_97 + (1 : Int)), v117, xs117, n98) (.cons rfl (.cons rfl (.cons rfl (.cons rfl (.cons rfl (.cons rfl (.cons rfl (Sub.nil _)))))))) ⟨hL121, he117, h⟩ (Nat.lt_succ_self _)
    ·replace h := Go.L.ite_n hc100 h
     refine W_exit ?_
     refine At_seq_exit ?_
     refine At_loop_exit ?_
     replace h := Go.L.Nxt.out h hm98
     refine At_exit ?_
     refine At_cut (l95, s12_96, vl95, xsl95) (.cons rfl (.cons rfl (.cons rfl (Sub.nil _)))) ⟨hL98, hel95, h⟩
   ·rintro ⟨l69, s12_70, vl69, xsl69⟩ wr71 ⟨hL71, hel69, h⟩
    refine W_p 2 rfl ?_
    refine S_v (r_build rfl (fun _ => bld23_z _)) rfl ?_
    refine S_pu 2 rfl ?_
    refine S_storeBN 2 rfl rfl rfl zr23 hL71 rfl rfl (onc rfl (onc rfl on0)) ?_
    intro w124 hL124 hle124
    replace hel69 := hel69.mono (gz_mono hH hle124)
    refine S_seqnil ?_
    refine W_ret ?_
    obtain rfl := Option.some.inj h
    refine At_got3 rfl (.tmp rfl) (.tmp rfl) (.cell rfl underlying23 rfl zr23 (box_ptr (i := 2) hL124 rfl)) ?_
    exact ⟨hL124.ext, _, rfl, (hL124.ownH hH (i := 0) rfl hel69)⟩
end Go.Proofs.YtmfiaecglndldaaGreatDoor
end
section
namespace Go.Proofs.YtmfiaecglndldaaGreatDoor
open Go Go.E Go.RowKit
set_option maxHeartbeats 1000000
set_option maxRecDepth 10000
open _root_.Go.Proofs.Tryz
noncomputable def shapes_Index_Find_1 (_a0 : ((List UInt8) × Int × Int × (List UInt8)) × (List Int)) : Option (Bool) :=
 some (true)
theorem shapes_Index_Find_1_ok (w : World) (H : PH) (_hH : Le H (hp w)) {a0 : ((List UInt8) × Int × Int × (List UInt8)) × (List Int)} {v0_0 : Value} (_h0_0 : Vec (.int .i64) H v0_0 (a0.2)) {r : Bool} (h : shapes_Index_Find_1 a0 = some r) :
  Ok Tryz.prog 61 [.agg #[.string ⟨(a0.1.1).toArray⟩, .int .i64 a0.1.2.1, .int .i64 a0.1.2.2.1, .string ⟨(a0.1.2.2.2).toArray⟩, v0_0]] w (fun v w' => Ext w w' ∧ v = .bool r) := by
 refine Ok_enter (n := 3) [(0, .agg #[.string ⟨(a0.1.1).toArray⟩, .int .i64 a0.1.2.1, .int .i64 a0.1.2.2.1, .string ⟨(a0.1.2.2.2).toArray⟩, v0_0])] func61 rfl rfl rfl rfl rfl ?_
 have hL := Lcl.start w
 refine W_seqr ?_
 refine S_box (t := 96) rfl rfl rfl hL ?_
 intro w1 b1 hL1 hle1 _
 refine S_pz 1 rfl ?_
 refine W_pz 1 rfl ?_
 refine W_ret ?_
 obtain rfl := Option.some.inj h
 refine At_body rfl rfl ?_
 exact ⟨hL1.ext, rfl⟩
noncomputable def shapes_Index_collect_k1 (l54 : List Int) : Option ((List Int)) :=
 Go.L.chk (l54.length < 4611686018427387904) (Go.L.chk ((srtI l54).length ≤ 9223372036854775807) (some ((Lib.compact (srtI l54)))))
noncomputable def shapes_Index_collect_bl2 (a0 : Int × (List (((List UInt8) × Int × Int × (List UInt8)) × (List Int)))) (a1 : List UInt8) : (List Int) × Int → Option (((List Int) × Int) ⊕ ((List Int))) := fun ⟨l81, s13_82⟩ =>
 if s13_82 < (a0.2.length : Int) then Go.L.chk (0 ≤ s13_82 ∧ s13_82 < (a0.2.length : Int)) (Option.bind (shapes_Index_Find_1 ((((a0.2.getD s13_82.toNat default).1).1, ((a0.2.getD s13_82.toNat default).1).2.1, ((a0.2.getD s13_82.toNat default).1).2.2.1, ((a0.2.getD s13_82.toNat default).1).2.2.2), (a0.2.getD s13_82.toNat default).2)) (fun x92 => if x92 then Option.bind (shapes_matches a1 (((a0.2.getD s13_82.toNat default).1).1)) (fun x96 => if x96 then Go.L.chk (Go.E.Cap 8 (l81.length + ((a0.2.getD s13_82.toNat default).2).length)) (Go.L.chk (Go.L.I64 (s13_82 + (1 : Int))) (some (Sum.inl ((l81 ++ (a0.2.getD s13_82.toNat default).2), (s13_82 + (1 : Int)))))) else Go.L.chk (Go.L.I64 (s13_82 + (1 : Int))) (some (Sum.inl (l81, (s13_82 + (1 : Int)))))) else Go.L.chk (Go.L.I64 (s13_82 + (1 : Int))) (some (Sum.inl (l81, (s13_82 + (1 : Int))))))) else Option.map Sum.inr (shapes_Index_collect_k1 l81)
noncomputable def shapes_Index_collect_l2 (a0 : Int × (List (((List UInt8) × Int × Int × (List UInt8)) × (List Int)))) (a1 : List UInt8) (s : (List Int) × Int) : Option ((List Int)) := Go.L.run (shapes_Index_collect_bl2 a0 a1) s
noncomputable def shapes_Index_collect (a0 : Int × (List (((List UInt8) × Int × Int × (List UInt8)) × (List Int)))) (a1 : List UInt8) : Option ((List Int)) :=
 (shapes_Index_collect_l2 a0 a1) (([] : List Int), (0 : Int))
theorem shapes_Index_collect_fr {w0 w : World} {H : PH} (hH : Le H (hp w0)) {O : List Res} {a0 : Int × (List (((List UInt8) × Int × Int × (List UInt8)) × (List Int)))} {a1 : List UInt8} {va0_1 : Value} (hL : Lcl w0 (HAppend.hAppend ([] : List Res) O) w) (ha0_1 : Vec (.pair (.pair .st (.pair (.int .i64) (.pair (.int .i64) .st))) (.vec (.int .i64))) (gz H w0 w (HAppend.hAppend ([] : List Res) O)) va0_1 (a0.2)) {r : (List Int)} (h : shapes_Index_collect a0 a1 = some r) :
  Ok Tryz.prog 60 [.agg #[.int .i64 a0.1, va0_1], .string ⟨(a1).toArray⟩, .func (.func 61) #[] #[]] w (fun v w' => ∃ (u0 : Value) (y0 : List Value), v = u0 ∧ Lcl w0 (HAppend.hAppend ([.row u0 3 1 (r).length y0] : List Res) O) w' ∧ Le (fz w (HAppend.hAppend ([] : List Res) O)) (fz w' (HAppend.hAppend ([.row u0 3 1 (r).length y0] : List Res) O)) ∧ Elems (.int .i64) (gz H w0 w' (HAppend.hAppend ([.row u0 3 1 (r).length y0] : List Res) O)) (r) y0) := by
 refine Ok_enter (n := 36) [(0, .agg #[.int .i64 a0.1, va0_1]), (1, .string ⟨(a1).toArray⟩), (2, .func (.func 61) #[] #[])] func60 rfl rfl rfl rfl rfl ?_
 have hT := Le.refl (fz w (HAppend.hAppend ([] : List Res) O))
 refine W_seqr ?_
 refine S_box (t := 47) rfl rfl rfl hL ?_
 intro w1 b1 hL1 hle1 _
 replace ha0_1 := ha0_1.mono (gz_mono hH hle1)
 replace hT := hT.trans hle1
 refine S_pz 1 rfl ?_
 refine W_p 1 rfl ?_
 obtain ⟨hL2, hle2, he2⟩ := row_nilE (.int .i64) H 3 hL1
 replace ha0_1 := ha0_1.mono (gz_mono hH hle2)
 replace hT := hT.trans hle2
 refine S_seqnil ?_
 refine W_cut (σ := (List Int) × Value × (List Value)) (fun ⟨l54, vl54, xsl54⟩ => [(7, vl54)]) (fun ⟨l54, vl54, xsl54⟩ wr => InO w0 (HAppend.hAppend ([.row (vl54) 3 1 (l54).length (xsl54), .box b1 [.int .i64 a0.1, va0_1] 47] : List Res) O) wr fun Oz => Elems (.int .i64) (gz H w0 wr Oz) (l54) (xsl54) ∧ Vec (.pair (.pair .st (.pair (.int .i64) (.pair (.int .i64) .st))) (.vec (.int .i64))) (gz H w0 wr Oz) (va0_1) (a0.2) ∧ Le (fz w (HAppend.hAppend ([] : List Res) O)) (fz wr Oz) ∧ shapes_Index_collect_k1 l54 = some r) ?_ ?_
 ·refine W_seqr ?_
  refine S_v (r_field rfl underlying47 rfl zr45 (by decide)) rfl ?_
  refine S_v (r_loadB1 1 rfl underlying45 rfl hL2 rfl rfl) rfl ?_
  refine S_v (r_len rfl underlying45 ha0_1) rfl ?_
  refine S_pz 1 rfl ?_
  refine W_block ?_
  obtain ⟨n83, h⟩ := Go.L.run_some h
  refine W_loop (σ := (List Int) × Int × Value × (List Value) × Nat) (fun ⟨l81, s13_82, vl81, xsl81, n⟩ => [(1, .string ⟨(a1).toArray⟩), (2, .func (.func 61) #[] #[]), (7, vl81), (11, va0_1), (12, .int .i64 (a0.2.length : Int)), (13, .int .i64 s13_82)]) (fun ⟨l81, s13_82, vl81, xsl81, n⟩ wr => InO w0 (HAppend.hAppend ([.row (vl81) 3 1 (l81).length (xsl81), .box b1 [.int .i64 a0.1, va0_1] 47] : List Res) O) wr fun Oz => Vec (.pair (.pair .st (.pair (.int .i64) (.pair (.int .i64) .st))) (.vec (.int .i64))) (gz H w0 wr Oz) (va0_1) (a0.2) ∧ Elems (.int .i64) (gz H w0 wr Oz) (l81) (xsl81) ∧ Le (fz w (HAppend.hAppend ([] : List Res) O)) (fz wr Oz) ∧ Go.L.itr (shapes_Index_collect_bl2 a0 a1) n (l81, s13_82) = some r) (fun ⟨l81, s13_82, vl81, xsl81, n⟩ => n) (([] : List Int), (0 : Int), .slice none 0 0, [], n83) (.cons rfl (.cons rfl (.cons rfl (.cons rfl (.cons rfl (.cons rfl (Sub.nil _))))))) ⟨hL2, ha0_1, he2, hT, h⟩ ?_
  rintro ⟨l81, s13_82, vl81, xsl81, nn83⟩ wr83 ⟨hL83, hf83_0, hel81, hT, h⟩
  obtain ⟨n83, e83, rfl, h, hm83⟩ := Go.L.itr_some h
  refine W_pz 1 rfl ?_
  refine W_seq ?_
  refine W_if rfl (fun hc85 => ?_) (fun hc85 => ?_)
  ·replace h := Go.L.ite_p hc85 h
   refine W_skip ?_
   refine At_seq ?_
   refine W_seq ?_
   refine W_block ?_
   refine W_seqr ?_
   obtain ⟨hk88, h⟩ := Go.L.chk_some h
   refine S_index rfl rfl underlying45 zr96 hf83_0 s13_82.toNat (Int.toNat_of_nonneg hk88.1).symm (idx_lt hk88) rfl ?_
   rintro p87 _ ⟨_, _, rfl, ⟨_, _, rfl, rfl, ⟨_, _, rfl, rfl, ⟨_, _, rfl, rfl, rfl⟩⟩⟩, ⟨e87v4, rfl, e87h4⟩⟩ hp87
   refine S_v (r_loadN rfl underlying96 rfl zr96 hp87 (gz_le hH hL83)) rfl ?_
   refine S_alloc zr96 rfl rfl hL83 ?_
   intro w89 b89 hL89 hle89 _
   replace hf83_0 := hf83_0.mono (gz_mono hH hle89)
   replace hel81 := hel81.mono (gz_mono hH hle89)
   replace hp87 := hp87.mono (gz_mono hH hle89)
   replace e87h4 := e87h4.mono (gz_mono hH hle89)
   replace hT := hT.trans hle89
   refine S_storeBN 0 rfl rfl rfl zr96 hL89 rfl rfl (onc rfl (onc rfl (onc rfl (onc rfl (onc e87h4.one on0))))) ?_
   intro w90 hL90 hle90
   replace hf83_0 := hf83_0.mono (gz_mono hH hle90)
   replace hel81 := hel81.mono (gz_mono hH hle90)
   replace hp87 := hp87.mono (gz_mono hH hle90)
   replace e87h4 := e87h4.mono (gz_mono hH hle90)
   replace hT := hT.trans hle90
   refine S_seqnil ?_
   have hG91 := hL90.rG H
   refine W_p 1 rfl ?_
   refine S_v (r_loadBN 0 rfl underlying96 rfl zr96 hL90 rfl) rfl ?_
   obtain ⟨x92, hb92, h⟩ := Go.L.bind_some h
   refine S_callwL rfl rfl rfl hL90 (shapes_Index_Find_1_ok _ _ (gz_le hH hL90) (e87h4.mono hG91) hb92) ?_
   rintro _ w93 rfl hx93 hL93 hle93
   replace hG91 := hG91.trans (gz_mono hH hle93)
   replace hT := hT.trans hle93
   refine S_pu 1 rfl ?_
   refine S_split (s := 20) rfl (fun hg94 => ?_) (fun hg94 => ?_)
   ·replace h := Go.L.ite_t hg94 h
    refine S_guarded rfl rfl hg94 ?_
    refine S_v (RunsAt_pu rfl) rfl ?_
    refine S_guarded rfl rfl hg94 ?_
    refine S_v (r_field rfl underlying96 rfl zr84 (by decide)) rfl ?_
    refine S_guarded rfl rfl hg94 ?_
    refine S_v (r_field rfl underlying84 rfl zr9 (by decide)) rfl ?_
    refine S_guarded rfl rfl hg94 ?_
    refine S_v (r_loadB1 0 rfl underlying9 rfl hL93 rfl rfl) rfl ?_
    refine S_guarded rfl rfl hg94 ?_
    obtain ⟨x96, hb96, h⟩ := Go.L.bind_some h
    refine S_callL rfl rfl hL93 (shapes_matches_ok _ _ (gz_le hH hL93) hb96) ?_
    rintro _ w97 rfl hx97 hL97 hle97
    replace hG91 := hG91.trans (gz_mono hH hle97)
    replace hT := hT.trans hle97
    refine S_v (r_pickT rfl hg94 rfl) rfl ?_
    refine S_seqnil ?_
    refine W_cond rfl (fun hc98 => ?_) (fun hc98 => ?_)
    ·replace h := Go.L.ite_t hc98 h
     refine W_region ?_
     refine S_pu 1 rfl ?_
     refine S_v (r_field rfl underlying96 rfl zr52 (by decide)) rfl ?_
     refine S_v (r_loadB1 0 rfl underlying52 rfl hL97 rfl rfl) rfl ?_
     obtain ⟨hk101, h⟩ := Go.L.chk_some h
     refine S_appE (r := (.int .i64)) (l := l81) (m := (a0.2.getD s13_82.toNat default).2) 1 rfl rfl underlying52 zr3 rfl (by decide) rfl hH hL97 rfl (hel81.mono hG91) (e87h4.mono hG91) hk101 ?_
     intro v100 w100 xs100 hL100 hle100 he100
     replace hG91 := hG91.trans (gz_mono hH hle100)
     replace hT := hT.trans hle100
     refine S_pu 1 rfl ?_
     refine S_nil ?_
     refine At_block ?_
     refine At_seq ?_
     refine W_region ?_
     obtain ⟨hk102, h⟩ := Go.L.chk_some h
     refine S_v (r_ar64 rfl rfl rfl hk102) rfl ?_
     refine S_pu 1 rfl ?_
     refine S_nil ?_
     have hL103 := hL100.dropAt (i := 0) rfl
     replace he100 := he100.mono (gz_mono hH (fz_dropAt (i := 0) rfl))
     replace hG91 := hG91.trans (gz_mono hH (fz_dropAt (i := 0) rfl))
     replace hT := hT.trans (fz_dropAt (i := 0) rfl)
     have h := Go.L.Nxt.again h hm83
     refine At_round ((l81 ++ (a0.2.getD s13_82.toNat default).2), (s13_82 + (1 : Int)), v100, xs100, n83) (.cons rfl (.cons rfl (.cons rfl (.cons rfl (.cons rfl (.cons rfl (Sub.nil _))))))) ⟨hL103, (hf83_0.mono hG91), he100, hT, h⟩ (Nat.lt_succ_self _)
    ·replace h := Go.L.ite_f hc98 h
     refine W_skip ?_
     refine At_block ?_
     refine At_seq ?_
     refine W_region ?_
     obtain ⟨hk105, h⟩ := Go.L.chk_some h
     refine S_v (r_ar64 rfl rfl rfl hk105) rfl ?_
     refine S_pu 1 rfl ?_
     refine S_nil ?_
     have hL106 := hL97.dropAt (i := 0) rfl
     replace hG91 := hG91.trans (gz_mono hH (fz_dropAt (i := 0) rfl))
     replace hT := hT.trans (fz_dropAt (i := 0) rfl)
     have h := Go.L.Nxt.again h hm83
     refine At_round (l81, (s13_82 + (1 : Int)), vl81, xsl81, n83) (.cons rfl (.cons rfl (.cons rfl (.cons rfl (.cons rfl (.cons rfl (Sub.nil _))))))) ⟨hL106, (hf83_0.mono hG91), (hel81.mono hG91), hT, h⟩ (Nat.lt_succ_self _)
   ·replace h := Go.L.ite_f hg94 h
    iterate 5 refine S_unwanted rfl rfl hg94 rfl ?_
    refine S_v (r_pickF rfl hg94 rfl) rfl ?_
    refine S_seqnil ?_
    refine W_false rfl ?_
    refine W_skip ?_
    refine At_block ?_
    refine At_seq ?_
    refine W_region ?_
    obtain ⟨hk108, h⟩ := Go.L.chk_some h
    refine S_v (r_ar64 rfl rfl rfl hk108) rfl ?_
    refine S_pu 1 rfl ?_
    refine S_nil ?_
    have hL109 := hL93.dropAt (i := 0) rfl
    replace hG91 := hG91.trans (gz_mono hH (fz_dropAt (i := 0) rfl))
    replace hT := hT.trans (fz_dropAt (i := 0) rfl)
    have h := Go.L.Nxt.again h hm83
    refine At_round (l81, (s13_82 + (1 : Int)), vl81, xsl81, n83) (.cons rfl (.cons rfl (.cons rfl (.cons rfl (.cons rfl (.cons rfl (Sub.nil _))))))) ⟨hL109, (hf83_0.mono hG91), (hel81.mono hG91), hT, h⟩ (Nat.lt_succ_self _)
  ·replace h := Go.L.ite_n hc85 h
   refine W_exit ?_
   refine At_seq_exit ?_
   refine At_loop_exit ?_
   replace h := Go.L.Nxt.out h hm83
   refine At_exit ?_
   refine At_cut (l81, vl81, xsl81) (.cons rfl (Sub.nil _)) ⟨hL83, hel81, hf83_0, hT, h⟩
 ·rintro ⟨l54, vl54, xsl54⟩ wr55 ⟨hL55, hel54, hf55_1, hT, h⟩
  refine W_p 1 rfl ?_
  obtain ⟨hk113, h⟩ := Go.L.chk_some h
  refine S_sortI (i := 0) Tryz.laySI rfl ⟨Tryz.f99, _, func99, rfl, rfl⟩ rfl rfl hH hL55 rfl hel54 hk113 ?_
  intro w112 xs112 hL112 hle112 he112
  replace hf55_1 := hf55_1.mono (gz_mono hH hle112)
  replace hT := hT.trans hle112
  refine S_seqnil ?_
  refine W_p 1 rfl ?_
  obtain ⟨hk115, h⟩ := Go.L.chk_some h
  refine S_compI (i := 0) Tryz.layCI rfl ⟨Tryz.f100, _, func100, rfl, rfl⟩ rfl rfl hH hL112 rfl he112 hk115 ?_
  intro v114 w114 xs114 hL114 hle114 he114
  replace hf55_1 := hf55_1.mono (gz_mono hH hle114)
  replace hT := hT.trans hle114
  refine S_pz 1 rfl ?_
  refine W_ret ?_
  obtain rfl := Option.some.inj h
  refine At_body rfl rfl ?_
  have hL116 := hL114.dropAt (i := 1) rfl
  replace hf55_1 := hf55_1.mono (gz_mono hH (fz_dropAt (i := 1) rfl))
  replace he114 := he114.mono (gz_mono hH (fz_dropAt (i := 1) rfl))
  replace hT := hT.trans (fz_dropAt (i := 1) rfl)
  exact ⟨v114, xs114, rfl, hL116, hT, he114⟩
noncomputable def shapes_Index_Find (a0 : Int × (List (((List UInt8) × Int × Int × (List UInt8)) × (List Int)))) (a1 : List UInt8) : Option ((List Int) × (Int × Int)) :=
 Option.bind (shapes_Check a1) (fun x3 => if x3.1 = (0 : Int) ∧ x3.2 = (0 : Int) then Option.bind (shapes_Index_collect (a0.1, a0.2) a1) (fun x15 => some (x15, ((0 : Int), (0 : Int)))) else some ([], (x3.1, x3.2)))
theorem shapes_Index_Find_ok (w : World) (H : PH) (hH : Le H (hp w)) {a0 : Int × (List (((List UInt8) × Int × Int × (List UInt8)) × (List Int)))} {a1 : List UInt8} {v0_0 : Value} (h0_0 : Vec (.pair (.pair .st (.pair (.int .i64) (.pair (.int .i64) .st))) (.vec (.int .i64))) H v0_0 (a0.2)) {r : (List Int) × (Int × Int)} (h : shapes_Index_Find a0 a1 = some r) :
  Ok Tryz.prog 28 [.agg #[.int .i64 a0.1, v0_0], .string ⟨(a1).toArray⟩] w (fun v w' => Ext w w' ∧ ∃ u0, v = .tuple #[u0, .agg #[.int .i64 r.2.1, .int .i64 r.2.2]] ∧ OwnH 3 (.int .i64) H w w' u0 (r.1)) := by
 refine Ok_enter (n := 17) [(0, .agg #[.int .i64 a0.1, v0_0]), (1, .string ⟨(a1).toArray⟩)] func28 rfl rfl rfl rfl rfl ?_
 have hL := Lcl.start w
 refine W_seqr ?_
 refine S_box (t := 47) rfl rfl rfl hL ?_
 intro w1 b1 hL1 hle1 _
 refine S_pu 1 rfl ?_
 refine S_alloc zr23 rfl rfl hL1 ?_
 intro w2 b2 hL2 hle2 _
 refine S_seqnil ?_
 refine W_seq ?_
 refine W_p 1 rfl ?_
 obtain ⟨x3, hb3, h⟩ := Go.L.bind_some h
 refine S_callL rfl rfl hL2 (shapes_Check_ok _ _ (gz_le hH hL2) hb3) ?_
 rintro _ w4 rfl hx4 hL4 hle4
 refine S_alloc zr23 rfl rfl hL4 ?_
 intro w5 b5 hL5 hle5 _
 refine S_storeBN 0 rfl rfl rfl zr23 hL5 rfl rfl (onc rfl (onc rfl on0)) ?_
 intro w6 hL6 hle6
 refine S_seqnil ?_
 refine W_seqr ?_
 refine S_v (r_loadBN 0 rfl underlying23 rfl zr23 hL6 rfl) rfl ?_
 refine S_v (r_build rfl (fun _ => bld23_z _)) rfl ?_
 refine S_v (r_neA rfl rfl eqg23 (eq23 _ _ _ _ )) rfl ?_
 refine S_seqnil ?_
 refine W_ifn rfl (fun hc7 => ?_) (fun hc7 => ?_)
 ·replace h := Go.L.ite_n hc7 h
  refine W_seqd (.q 0 (.q 1 (.tail 2))) mixed (by kernel_rfl) (fun w9 hx9 => ?_)
  have hL10 := hL6.call hx9
  refine D_v (r_loadBN 0 rfl underlying23 rfl zr23 hL10 rfl) rfl rfl ?_
  refine D_pu 1 rfl ?_
  refine D_tail (fun w11 hx11 => ?_)
  have hL12 := hL10.call hx11
  refine S_storeBN 1 rfl rfl rfl zr23 hL12 rfl rfl (onc rfl (onc rfl on0)) ?_
  intro w13 hL13 hle13
  refine S_seqnil ?_
  refine W_ret ?_
  refine At_seq_ret ?_
  obtain rfl := Option.some.inj h
  refine At_got2 rfl (.tmp rfl) (.cell rfl underlying23 rfl zr23 (box_ptr (i := 1) hL13 rfl)) ?_
  exact ⟨hL13.ext, _, rfl, OwnH.nil⟩
 ·replace h := Go.L.ite_p hc7 h
  refine W_skip ?_
  refine At_seq ?_
  refine W_seqr ?_
  refine S_v (r_loadBN 2 rfl underlying47 rfl zr47 hL6 rfl) rfl ?_
  refine S_pu 1 rfl ?_
  obtain ⟨x15, hb15, h⟩ := Go.L.bind_some h
  refine S_call rfl rfl (shapes_Index_collect_fr (a0 := (a0.1, a0.2)) (a1 := a1) (O := [.box b5 [.int .i64 x3.1, .int .i64 x3.2] 23, .box b2 [.int .i64 (0 : Int), .int .i64 (0 : Int)] 23, .box b1 [.int .i64 a0.1, v0_0] 47]) hH hL6 (h0_0.mono (gz_left hH)) hb15) ?_
  rintro u16_0 w16 ⟨_, y16_0, rfl, hL16, hle16, hf16_0⟩
  refine S_v (r_build rfl (fun _ => bld23_z _)) rfl ?_
  refine S_pu 1 rfl ?_
  refine S_storeBN 2 rfl rfl rfl zr23 hL16 rfl rfl (onc rfl (onc rfl on0)) ?_
  intro w17 hL17 hle17
  replace hf16_0 := hf16_0.mono (gz_mono hH hle17)
  refine S_seqnil ?_
  refine W_ret ?_
  obtain rfl := Option.some.inj h
  refine At_got2 rfl (.tmp rfl) (.cell rfl underlying23 rfl zr23 (box_ptr (i := 2) hL17 rfl)) ?_
  exact ⟨hL17.ext, _, rfl, (hL17.ownH hH (i := 0) rfl hf16_0)⟩
noncomputable def shapes_Index_Number_1 (a0 : ((List UInt8) × Int × Int × (List UInt8)) × (List Int)) (a1 : Int) (a2 : Int) : Option (Bool × Int × Int) :=
 if a0.1.2.1 = (1 : Int) then if a1 ≤ a0.1.2.2.1 then some (decide (a0.1.2.2.1 ≤ a2), a1, a2) else some (false, a1, a2) else some (false, a1, a2)
theorem shapes_Index_Number_1_fr {w0 w : World} {H : PH} (hH : Le H (hp w0)) {O : List Res} {a0 : ((List UInt8) × Int × Int × (List UInt8)) × (List Int)} {a1 : Int} {a2 : Int} {va0_4 : Value} {ba1 : Nat} {ba2 : Nat} (hL : Lcl w0 (HAppend.hAppend ([.box ba1 [.int .i64 a1] 3, .box ba2 [.int .i64 a2] 3] : List Res) O) w) (ha0_4 : Vec (.int .i64) (gz H w0 w (HAppend.hAppend ([.box ba1 [.int .i64 a1] 3, .box ba2 [.int .i64 a2] 3] : List Res) O)) va0_4 (a0.2)) {r : Bool × Int × Int} (h : shapes_Index_Number_1 a0 a1 a2 = some r) :
  Ok Tryz.prog 62 [.agg #[.string ⟨(a0.1.1).toArray⟩, .int .i64 a0.1.2.1, .int .i64 a0.1.2.2.1, .string ⟨(a0.1.2.2.2).toArray⟩, va0_4], .pointer (some ⟨ba1, 0, none⟩), .pointer (some ⟨ba2, 0, none⟩)] w (fun v w' => v = .bool r.1 ∧ Lcl w0 (HAppend.hAppend ([.box ba1 [.int .i64 r.2.1] 3, .box ba2 [.int .i64 r.2.2] 3] : List Res) O) w' ∧ Le (fz w (HAppend.hAppend ([.box ba1 [.int .i64 a1] 3, .box ba2 [.int .i64 a2] 3] : List Res) O)) (fz w' (HAppend.hAppend ([.box ba1 [.int .i64 r.2.1] 3, .box ba2 [.int .i64 r.2.2] 3] : List Res) O))) := by
 refine Ok_enter (n := 23) [(0, .agg #[.string ⟨(a0.1.1).toArray⟩, .int .i64 a0.1.2.1, .int .i64 a0.1.2.2.1, .string ⟨(a0.1.2.2.2).toArray⟩, va0_4]), (1, .pointer (some ⟨ba1, 0, none⟩)), (2, .pointer (some ⟨ba2, 0, none⟩))] func62 rfl rfl rfl rfl rfl ?_
 have hT := Le.refl (fz w (HAppend.hAppend ([.box ba1 [.int .i64 a1] 3, .box ba2 [.int .i64 a2] 3] : List Res) O))
 refine W_seqr ?_
 refine S_box (t := 96) rfl rfl rfl hL ?_
 intro w1 b1 hL1 hle1 _
 replace ha0_4 := ha0_4.mono (gz_mono hH hle1)
 replace hT := hT.trans hle1
 refine S_pz 1 rfl ?_
 refine W_seqr ?_
 refine S_v (r_field rfl underlying96 rfl zr84 (by decide)) rfl ?_
 refine S_v (r_field rfl underlying84 rfl zr3 (by decide)) rfl ?_
 refine S_v (r_loadB1 0 rfl underlying3 rfl hL1 rfl rfl) rfl ?_
 refine S_pu 2 rfl ?_
 refine S_split (s := 9) rfl (fun hg2 => ?_) (fun hg2 => ?_)
 ·replace h := Go.L.ite_p (of_decide_eq_true hg2) h
  refine S_guarded rfl rfl hg2 ?_
  refine S_v (r_field rfl underlying96 rfl zr84 (by decide)) rfl ?_
  refine S_guarded rfl rfl hg2 ?_
  refine S_v (r_field rfl underlying84 rfl zr3 (by decide)) rfl ?_
  refine S_guarded rfl rfl hg2 ?_
  refine S_v (r_loadB1 0 rfl underlying3 rfl hL1 rfl rfl) rfl ?_
  refine S_guarded rfl rfl hg2 ?_
  refine S_v (r_loadB1 1 rfl underlying3 rfl hL1 rfl rfl) rfl ?_
  refine S_guarded rfl rfl hg2 ?_
  refine S_v (RunsAt_pu rfl) rfl ?_
  refine S_v (r_pickT rfl hg2 rfl) rfl ?_
  refine S_pu 1 rfl ?_
  refine S_split (s := 16) rfl (fun hg4 => ?_) (fun hg4 => ?_)
  ·replace h := Go.L.ite_p (of_decide_eq_true hg4) h
   refine S_guarded rfl rfl hg4 ?_
   refine S_v (r_field rfl underlying96 rfl zr84 (by decide)) rfl ?_
   refine S_guarded rfl rfl hg4 ?_
   refine S_v (r_field rfl underlying84 rfl zr3 (by decide)) rfl ?_
   refine S_guarded rfl rfl hg4 ?_
   refine S_v (r_loadB1 0 rfl underlying3 rfl hL1 rfl rfl) rfl ?_
   refine S_guarded rfl rfl hg4 ?_
   refine S_v (r_loadB1 2 rfl underlying3 rfl hL1 rfl rfl) rfl ?_
   refine S_guarded rfl rfl hg4 ?_
   refine S_v (RunsAt_pu rfl) rfl ?_
   refine S_v (r_pickT rfl hg4 rfl) rfl ?_
   refine S_pz 1 rfl ?_
   refine W_ret ?_
   obtain rfl := Option.some.inj h
   refine At_body rfl rfl ?_
   have hL6 := hL1.dropAt (i := 0) rfl
   replace ha0_4 := ha0_4.mono (gz_mono hH (fz_dropAt (i := 0) rfl))
   replace hT := hT.trans (fz_dropAt (i := 0) rfl)
   exact ⟨rfl, hL6, hT⟩
  ·replace h := Go.L.ite_n (of_decide_eq_false hg4) h
   iterate 5 refine S_unwanted rfl rfl hg4 rfl ?_
   refine S_v (r_pickF rfl hg4 rfl) rfl ?_
   refine S_pz 1 rfl ?_
   refine W_ret ?_
   obtain rfl := Option.some.inj h
   refine At_body rfl rfl ?_
   have hL8 := hL1.dropAt (i := 0) rfl
   replace ha0_4 := ha0_4.mono (gz_mono hH (fz_dropAt (i := 0) rfl))
   replace hT := hT.trans (fz_dropAt (i := 0) rfl)
   exact ⟨rfl, hL8, hT⟩
 ·replace h := Go.L.ite_n (of_decide_eq_false hg2) h
  iterate 5 refine S_unwanted rfl rfl hg2 rfl ?_
  refine S_v (r_pickF rfl hg2 rfl) rfl ?_
  refine S_pu 1 rfl ?_
  iterate 5 refine S_unwanted rfl rfl rfl rfl ?_
  refine S_v (r_pickF rfl rfl rfl) rfl ?_
  refine S_pz 1 rfl ?_
  refine W_ret ?_
  obtain rfl := Option.some.inj h
  refine At_body rfl rfl ?_
  have hL10 := hL1.dropAt (i := 0) rfl
  replace ha0_4 := ha0_4.mono (gz_mono hH (fz_dropAt (i := 0) rfl))
  replace hT := hT.trans (fz_dropAt (i := 0) rfl)
  exact ⟨rfl, hL10, hT⟩
noncomputable def shapes_Index_collect_s2_k1 (l58 : List Int) (c59 : Int) (c60 : Int) : Option ((List Int) × Int × Int) :=
 Go.L.chk (l58.length < 4611686018427387904) (Go.L.chk ((srtI l58).length ≤ 9223372036854775807) (some ((Lib.compact (srtI l58)), c59, c60)))
noncomputable def shapes_Index_collect_s2_bl2 (a0 : Int × (List (((List UInt8) × Int × Int × (List UInt8)) × (List Int)))) (a1 : List UInt8) : (List Int) × Int × Int × Int → Option (((List Int) × Int × Int × Int) ⊕ ((List Int) × Int × Int)) := fun ⟨l88, c89, c90, s13_91⟩ =>
 if s13_91 < (a0.2.length : Int) then Go.L.chk (0 ≤ s13_91 ∧ s13_91 < (a0.2.length : Int)) (Option.bind (shapes_Index_Number_1 ((((a0.2.getD s13_91.toNat default).1).1, ((a0.2.getD s13_91.toNat default).1).2.1, ((a0.2.getD s13_91.toNat default).1).2.2.1, ((a0.2.getD s13_91.toNat default).1).2.2.2), (a0.2.getD s13_91.toNat default).2) c89 c90) (fun x102 => if x102.1 then Option.bind (shapes_matches a1 (((a0.2.getD s13_91.toNat default).1).1)) (fun x106 => if x106 then Go.L.chk (Go.E.Cap 8 (l88.length + ((a0.2.getD s13_91.toNat default).2).length)) (Go.L.chk (Go.L.I64 (s13_91 + (1 : Int))) (some (Sum.inl ((l88 ++ (a0.2.getD s13_91.toNat default).2), x102.2.1, x102.2.2, (s13_91 + (1 : Int)))))) else Go.L.chk (Go.L.I64 (s13_91 + (1 : Int))) (some (Sum.inl (l88, x102.2.1, x102.2.2, (s13_91 + (1 : Int)))))) else Go.L.chk (Go.L.I64 (s13_91 + (1 : Int))) (some (Sum.inl (l88, x102.2.1, x102.2.2, (s13_91 + (1 : Int))))))) else Option.map Sum.inr (shapes_Index_collect_s2_k1 l88 c89 c90)
noncomputable def shapes_Index_collect_s2_l2 (a0 : Int × (List (((List UInt8) × Int × Int × (List UInt8)) × (List Int)))) (a1 : List UInt8) (s : (List Int) × Int × Int × Int) : Option ((List Int) × Int × Int) := Go.L.run (shapes_Index_collect_s2_bl2 a0 a1) s
noncomputable def shapes_Index_collect_s2 (a0 : Int × (List (((List UInt8) × Int × Int × (List UInt8)) × (List Int)))) (a1 : List UInt8) (a2_c0 : Int) (a2_c1 : Int) : Option ((List Int) × Int × Int) :=
 (shapes_Index_collect_s2_l2 a0 a1) (([] : List Int), a2_c0, a2_c1, (0 : Int))
theorem shapes_Index_collect_s2_fr {w0 w : World} {H : PH} (hH : Le H (hp w0)) {O : List Res} {a0 : Int × (List (((List UInt8) × Int × Int × (List UInt8)) × (List Int)))} {a1 : List UInt8} {a2_c0 : Int} {a2_c1 : Int} {va0_1 : Value} {ba2_c0 : Nat} {ba2_c1 : Nat} (hL : Lcl w0 (HAppend.hAppend ([.box ba2_c0 [.int .i64 a2_c0] 3, .box ba2_c1 [.int .i64 a2_c1] 3] : List Res) O) w) (ha0_1 : Vec (.pair (.pair .st (.pair (.int .i64) (.pair (.int .i64) .st))) (.vec (.int .i64))) (gz H w0 w (HAppend.hAppend ([.box ba2_c0 [.int .i64 a2_c0] 3, .box ba2_c1 [.int .i64 a2_c1] 3] : List Res) O)) va0_1 (a0.2)) {r : (List Int) × Int × Int} (h : shapes_Index_collect_s2 a0 a1 a2_c0 a2_c1 = some r) :
  Ok Tryz.prog 60 [.agg #[.int .i64 a0.1, va0_1], .string ⟨(a1).toArray⟩, .func (.func 62) #[] #[.pointer (some ⟨ba2_c0, 0, none⟩), .pointer (some ⟨ba2_c1, 0, none⟩)]] w (fun v w' => ∃ (u0 : Value) (y0 : List Value), v = u0 ∧ Lcl w0 (HAppend.hAppend ([.row u0 3 1 (r.1).length y0, .box ba2_c0 [.int .i64 r.2.1] 3, .box ba2_c1 [.int .i64 r.2.2] 3] : List Res) O) w' ∧ Le (fz w (HAppend.hAppend ([.box ba2_c0 [.int .i64 a2_c0] 3, .box ba2_c1 [.int .i64 a2_c1] 3] : List Res) O)) (fz w' (HAppend.hAppend ([.row u0 3 1 (r.1).length y0, .box ba2_c0 [.int .i64 r.2.1] 3, .box ba2_c1 [.int .i64 r.2.2] 3] : List Res) O)) ∧ Elems (.int .i64) (gz H w0 w' (HAppend.hAppend ([.row u0 3 1 (r.1).length y0, .box ba2_c0 [.int .i64 r.2.1] 3, .box ba2_c1 [.int .i64 r.2.2] 3] : List Res) O)) (r.1) y0) := by
 refine Ok_enter (n := 36) [(0, .agg #[.int .i64 a0.1, va0_1]), (1, .string ⟨(a1).toArray⟩), (2, .func (.func 62) #[] #[.pointer (some ⟨ba2_c0, 0, none⟩), .pointer (some ⟨ba2_c1, 0, none⟩)])] func60 rfl rfl rfl rfl rfl ?_
 have hT := Le.refl (fz w (HAppend.hAppend ([.box ba2_c0 [.int .i64 a2_c0] 3, .box ba2_c1 [.int .i64 a2_c1] 3] : List Res) O))
 refine W_seqr ?_
 refine S_box (t := 47) rfl rfl rfl hL ?_
 intro w1 b1 hL1 hle1 _
 replace ha0_1 := ha0_1.mono (gz_mono hH hle1)
 replace hT := hT.trans hle1
 refine S_pz 1 rfl ?_
 refine W_p 1 rfl ?_
 obtain ⟨hL2, hle2, he2⟩ := row_nilE (.int .i64) H 3 hL1
 replace ha0_1 := ha0_1.mono (gz_mono hH hle2)
 replace hT := hT.trans hle2
 refine S_seqnil ?_
 refine W_cut (σ := (List Int) × Int × Int × Value × (List Value)) (fun ⟨l58, c59, c60, vl58, xsl58⟩ => [(7, vl58)]) (fun ⟨l58, c59, c60, vl58, xsl58⟩ wr => InO w0 (HAppend.hAppend ([.row (vl58) 3 1 (l58).length (xsl58), .box b1 [.int .i64 a0.1, va0_1] 47, .box ba2_c0 [.int .i64 c59] 3, .box ba2_c1 [.int .i64 c60] 3] : List Res) O) wr fun Oz => Elems (.int .i64) (gz H w0 wr Oz) (l58) (xsl58) ∧ Vec (.pair (.pair .st (.pair (.int .i64) (.pair (.int .i64) .st))) (.vec (.int .i64))) (gz H w0 wr Oz) (va0_1) (a0.2) ∧ Le (fz w (HAppend.hAppend ([.box ba2_c0 [.int .i64 a2_c0] 3, .box ba2_c1 [.int .i64 a2_c1] 3] : List Res) O)) (fz wr Oz) ∧ shapes_Index_collect_s2_k1 l58 c59 c60 = some r) ?_ ?_
 ·refine W_seqr ?_
  refine S_v (r_field rfl underlying47 rfl zr45 (by decide)) rfl ?_
  refine S_v (r_loadB1 1 rfl underlying45 rfl hL2 rfl rfl) rfl ?_
  refine S_v (r_len rfl underlying45 ha0_1) rfl ?_
  refine S_pz 1 rfl ?_
  refine W_block ?_
  obtain ⟨n92, h⟩ := Go.L.run_some h
  refine W_loop (σ := (List Int) × Int × Int × Int × Value × (List Value) × Nat) (fun ⟨l88, c89, c90, s13_91, vl88, xsl88, n⟩ => [(1, .string ⟨(a1).toArray⟩), (2, .func (.func 62) #[] #[.pointer (some ⟨ba2_c0, 0, none⟩), .pointer (some ⟨ba2_c1, 0, none⟩)]), (7, vl88), (11, va0_1), (12, .int .i64 (a0.2.length : Int)), (13, .int .i64 s13_91)]) (fun ⟨l88, c89, c90, s13_91, vl88, xsl88, n⟩ wr => InO w0 (HAppend.hAppend ([.row (vl88) 3 1 (l88).length (xsl88), .box b1 [.int .i64 a0.1, va0_1] 47, .box ba2_c0 [.int .i64 c89] 3, .box ba2_c1 [.int .i64 c90] 3] : List Res) O) wr fun Oz => Vec (.pair (.pair .st (.pair (.int .i64) (.pair (.int .i64) .st))) (.vec (.int .i64))) (gz H w0 wr Oz) (va0_1) (a0.2) ∧ Elems (.int .i64) (gz H w0 wr Oz) (l88) (xsl88) ∧ Le (fz w (HAppend.hAppend ([.box ba2_c0 [.int .i64 a2_c0] 3, .box ba2_c1 [.int .i64 a2_c1] 3] : List Res) O)) (fz wr Oz) ∧ Go.L.itr (shapes_Index_collect_s2_bl2 a0 a1) n (l88, c89, c90, s13_91) = some r) (fun ⟨l88, c89, c90, s13_91, vl88, xsl88, n⟩ => n) (([] : List Int), a2_c0, a2_c1, (0 : Int), .slice none 0 0, [], n92) (.cons rfl (.cons rfl (.cons rfl (.cons rfl (.cons rfl (.cons rfl (Sub.nil _))))))) ⟨hL2, ha0_1, he2, hT, h⟩ ?_
  rintro ⟨l88, c89, c90, s13_91, vl88, xsl88, nn92⟩ wr92 ⟨hL92, hf92_0, hel88, hT, h⟩
  obtain ⟨n92, e92, rfl, h, hm92⟩ := Go.L.itr_some h
  refine W_pz 1 rfl ?_
  refine W_seq ?_
  refine W_if rfl (fun hc94 => ?_) (fun hc94 => ?_)
  ·replace h := Go.L.ite_p hc94 h
   refine W_skip ?_
   refine At_seq ?_
   refine W_seq ?_
   refine W_block ?_
   refine W_seqr ?_
   obtain ⟨hk97, h⟩ := Go.L.chk_some h
   refine S_index rfl rfl underlying45 zr96 hf92_0 s13_91.toNat (Int.toNat_of_nonneg hk97.1).symm (idx_lt hk97) rfl ?_
   rintro p96 _ ⟨_, _, rfl, ⟨_, _, rfl, rfl, ⟨_, _, rfl, rfl, ⟨_, _, rfl, rfl, rfl⟩⟩⟩, ⟨e96v4, rfl, e96h4⟩⟩ hp96
   refine S_v (r_loadN rfl underlying96 rfl zr96 hp96 (gz_le hH hL92)) rfl ?_
   refine S_alloc zr96 rfl rfl hL92 ?_
   intro w98 b98 hL98 hle98 _
   replace hf92_0 := hf92_0.mono (gz_mono hH hle98)
   replace hel88 := hel88.mono (gz_mono hH hle98)
   replace hp96 := hp96.mono (gz_mono hH hle98)
   replace e96h4 := e96h4.mono (gz_mono hH hle98)
   replace hT := hT.trans hle98
   refine S_storeBN 0 rfl rfl rfl zr96 hL98 rfl rfl (onc rfl (onc rfl (onc rfl (onc rfl (onc e96h4.one on0))))) ?_
   intro w99 hL99 hle99
   replace hf92_0 := hf92_0.mono (gz_mono hH hle99)
   replace hel88 := hel88.mono (gz_mono hH hle99)
   replace hp96 := hp96.mono (gz_mono hH hle99)
   replace e96h4 := e96h4.mono (gz_mono hH hle99)
   replace hT := hT.trans hle99
   refine S_seqnil ?_
   have hG100 := hL99.rG H
   refine W_p 1 rfl ?_
   refine S_v (r_loadBN 0 rfl underlying96 rfl zr96 hL99 rfl) rfl ?_
   have hL101 : Lcl w0 (HAppend.hAppend ([.box ba2_c0 [.int .i64 c89] 3, .box ba2_c1 [.int .i64 c90] 3, .box b98 [.string ⟨(((a0.2.getD s13_91.toNat default).1).1).toArray⟩, .int .i64 (((a0.2.getD s13_91.toNat default).1).2.1), .int .i64 (((a0.2.getD s13_91.toNat default).1).2.2.1), .string ⟨(((a0.2.getD s13_91.toNat default).1).2.2.2).toArray⟩, e96v4] 96, .row (vl88) 3 1 (l88).length (xsl88), .box b1 [.int .i64 a0.1, va0_1] 47] : List Res) O) w99 := hL99.picks [4, 4] rfl
   have hle101 := fz_picks [4, 4] hL99 hL101 rfl
   replace hG100 := hG100.trans (gz_mono hH hle101)
   replace hT := hT.trans hle101
   obtain ⟨x102, hb102, h⟩ := Go.L.bind_some h
   refine S_callv rfl rfl rfl (shapes_Index_Number_1_fr (a0 := ((((a0.2.getD s13_91.toNat default).1).1, ((a0.2.getD s13_91.toNat default).1).2.1, ((a0.2.getD s13_91.toNat default).1).2.2.1, ((a0.2.getD s13_91.toNat default).1).2.2.2), (a0.2.getD s13_91.toNat default).2)) (a1 := c89) (a2 := c90) (O := (HAppend.hAppend ([.box b98 [.string ⟨(((a0.2.getD s13_91.toNat default).1).1).toArray⟩, .int .i64 (((a0.2.getD s13_91.toNat default).1).2.1), .int .i64 (((a0.2.getD s13_91.toNat default).1).2.2.1), .string ⟨(((a0.2.getD s13_91.toNat default).1).2.2.2).toArray⟩, e96v4] 96, .row (vl88) 3 1 (l88).length (xsl88), .box b1 [.int .i64 a0.1, va0_1] 47] : List Res) O)) hH hL101 (e96h4.mono hG100) hb102) ?_
   rintro _ w103 ⟨rfl, hL103, hle103⟩
   replace hG100 := hG100.trans (gz_mono hH hle103)
   replace hT := hT.trans hle103
   refine S_pu 1 rfl ?_
   refine S_split (s := 20) rfl (fun hg104 => ?_) (fun hg104 => ?_)
   ·replace h := Go.L.ite_t hg104 h
    refine S_guarded rfl rfl hg104 ?_
    refine S_v (RunsAt_pu rfl) rfl ?_
    refine S_guarded rfl rfl hg104 ?_
    refine S_v (r_field rfl underlying96 rfl zr84 (by decide)) rfl ?_
    refine S_guarded rfl rfl hg104 ?_
    refine S_v (r_field rfl underlying84 rfl zr9 (by decide)) rfl ?_
    refine S_guarded rfl rfl hg104 ?_
    refine S_v (r_loadB1 2 rfl underlying9 rfl hL103 rfl rfl) rfl ?_
    refine S_guarded rfl rfl hg104 ?_
    obtain ⟨x106, hb106, h⟩ := Go.L.bind_some h
    refine S_callL rfl rfl hL103 (shapes_matches_ok _ _ (gz_le hH hL103) hb106) ?_
    rintro _ w107 rfl hx107 hL107 hle107
    replace hG100 := hG100.trans (gz_mono hH hle107)
    replace hT := hT.trans hle107
    refine S_v (r_pickT rfl hg104 rfl) rfl ?_
    refine S_seqnil ?_
    refine W_cond rfl (fun hc108 => ?_) (fun hc108 => ?_)
    ·replace h := Go.L.ite_t hc108 h
     refine W_region ?_
     refine S_pu 1 rfl ?_
     refine S_v (r_field rfl underlying96 rfl zr52 (by decide)) rfl ?_
     refine S_v (r_loadB1 2 rfl underlying52 rfl hL107 rfl rfl) rfl ?_
     obtain ⟨hk111, h⟩ := Go.L.chk_some h
     refine S_appE (r := (.int .i64)) (l := l88) (m := (a0.2.getD s13_91.toNat default).2) 3 rfl rfl underlying52 zr3 rfl (by decide) rfl hH hL107 rfl (hel88.mono hG100) (e96h4.mono hG100) hk111 ?_
     intro v110 w110 xs110 hL110 hle110 he110
     replace hG100 := hG100.trans (gz_mono hH hle110)
     replace hT := hT.trans hle110
     refine S_pu 1 rfl ?_
     refine S_nil ?_
     refine At_block ?_
     refine At_seq ?_
     refine W_region ?_
     obtain ⟨hk112, h⟩ := Go.L.chk_some h
     refine S_v (r_ar64 rfl rfl rfl hk112) rfl ?_
     refine S_pu 1 rfl ?_
     refine S_nil ?_
     have hL113 := hL110.dropAt (i := 2) rfl
     replace he110 := he110.mono (gz_mono hH (fz_dropAt (i := 2) rfl))
     replace hG100 := hG100.trans (gz_mono hH (fz_dropAt (i := 2) rfl))
     replace hT := hT.trans (fz_dropAt (i := 2) rfl)
     have hL114 : Lcl w0 (HAppend.hAppend ([.row (v110) 3 1 ((l88 ++ (a0.2.getD s13_91.toNat default).2)).length (xs110), .box b1 [.int .i64 a0.1, va0_1] 47, .box ba2_c0 [.int .i64 x102.2.1] 3, .box ba2_c1 [.int .i64 x102.2.2] 3] : List Res) O) w110 := hL113.picks [3, 3] rfl
     have hle114 := fz_picks [3, 3] hL113 hL114 rfl
     replace he110 := he110.mono (gz_mono hH hle114)
     replace hG100 := hG100.trans (gz_mono hH hle114)
     replace hT := hT.trans hle114
     have h := Go.L.Nxt.again h hm92
     refine At_round ((l88 ++ (a0.2.getD s13_91.toNat default).2), x102.2.1, x102.2.2, (s13_91 + (1 : Int)), v110, xs110, n92) (.cons rfl (.cons rfl (.cons rfl (.cons rfl (.cons rfl (.cons rfl (Sub.nil _))))))) ⟨hL114, (hf92_0.mono hG100), he110, hT, h⟩ (Nat.lt_succ_self _)
    ·replace h := Go.L.ite_f hc108 h
     refine W_skip ?_
     refine At_block ?_
     refine At_seq ?_
     refine W_region ?_
     obtain ⟨hk116, h⟩ := Go.L.chk_some h
     refine S_v (r_ar64 rfl rfl rfl hk116) rfl ?_
     refine S_pu 1 rfl ?_
     refine S_nil ?_
     have hL117 := hL107.dropAt (i := 2) rfl
     replace hG100 := hG100.trans (gz_mono hH (fz_dropAt (i := 2) rfl))
     replace hT := hT.trans (fz_dropAt (i := 2) rfl)
     have hL118 : Lcl w0 (HAppend.hAppend ([.row (vl88) 3 1 (l88).length (xsl88), .box b1 [.int .i64 a0.1, va0_1] 47, .box ba2_c0 [.int .i64 x102.2.1] 3, .box ba2_c1 [.int .i64 x102.2.2] 3] : List Res) O) w107 := hL117.picks [3, 3] rfl
     have hle118 := fz_picks [3, 3] hL117 hL118 rfl
     replace hG100 := hG100.trans (gz_mono hH hle118)
     replace hT := hT.trans hle118
     have h := Go.L.Nxt.again h hm92
     refine At_round (l88, x102.2.1, x102.2.2, (s13_91 + (1 : Int)), vl88, xsl88, n92) (.cons rfl (.cons rfl (.cons rfl (.cons rfl (.cons rfl (.cons rfl (Sub.nil _))))))) ⟨hL118, (hf92_0.mono hG100), (hel88.mono hG100), hT, h⟩ (Nat.lt_succ_self _)
   ·replace h := Go.L.ite_f hg104 h
    iterate 5 refine S_unwanted rfl rfl hg104 rfl ?_
    refine S_v (r_pickF rfl hg104 rfl) rfl ?_
    refine S_seqnil ?_
    refine W_false rfl ?_
    refine W_skip ?_
    refine At_block ?_
    refine At_seq ?_
    refine W_region ?_
    obtain ⟨hk120, h⟩ := Go.L.chk_some h
    refine S_v (r_ar64 rfl rfl rfl hk120) rfl ?_
    refine S_pu 1 rfl ?_
    refine S_nil ?_
    have hL121 := hL103.dropAt (i := 2) rfl
    replace hG100 := hG100.trans (gz_mono hH (fz_dropAt (i := 2) rfl))
    replace hT := hT.trans (fz_dropAt (i := 2) rfl)
    have hL122 : Lcl w0 (HAppend.hAppend ([.row (vl88) 3 1 (l88).length (xsl88), .box b1 [.int .i64 a0.1, va0_1] 47, .box ba2_c0 [.int .i64 x102.2.1] 3, .box ba2_c1 [.int .i64 x102.2.2] 3] : List Res) O) w103 := hL121.picks [3, 3] rfl
    have hle122 := fz_picks [3, 3] hL121 hL122 rfl
    replace hG100 := hG100.trans (gz_mono hH hle122)
    replace hT := hT.trans hle122
    have h := Go.L.Nxt.again h hm92
    refine At_round (l88, x102.2.1, x102.2.2, (s13_91 + (1 : Int)), vl88, xsl88, n92) (.cons rfl (.cons rfl (.cons rfl (.cons rfl (.cons rfl (.cons rfl (Sub.nil _))))))) ⟨hL122, (hf92_0.mono hG100), (hel88.mono hG100), hT, h⟩ (Nat.lt_succ_self _)
  ·replace h := Go.L.ite_n hc94 h
   refine W_exit ?_
   refine At_seq_exit ?_
   refine At_loop_exit ?_
   replace h := Go.L.Nxt.out h hm92
   refine At_exit ?_
   refine At_cut (l88, c89, c90, vl88, xsl88) (.cons rfl (Sub.nil _)) ⟨hL92, hel88, hf92_0, hT, h⟩
 ·rintro ⟨l58, c59, c60, vl58, xsl58⟩ wr61 ⟨hL61, hel58, hf61_1, hT, h⟩
  refine W_p 1 rfl ?_
  obtain ⟨hk126, h⟩ := Go.L.chk_some h
  refine S_sortI (i := 0) Tryz.laySI rfl ⟨Tryz.f99, _, func99, rfl, rfl⟩ rfl rfl hH hL61 rfl hel58 hk126 ?_
  intro w125 xs125 hL125 hle125 he125
  replace hf61_1 := hf61_1.mono (gz_mono hH hle125)
  replace hT := hT.trans hle125
  refine S_seqnil ?_
  refine W_p 1 rfl ?_
  obtain ⟨hk128, h⟩ := Go.L.chk_some h
  refine S_compI (i := 0) Tryz.layCI rfl ⟨Tryz.f100, _, func100, rfl, rfl⟩ rfl rfl hH hL125 rfl he125 hk128 ?_
  intro v127 w127 xs127 hL127 hle127 he127
  replace hf61_1 := hf61_1.mono (gz_mono hH hle127)
  replace hT := hT.trans hle127
  refine S_pz 1 rfl ?_
  refine W_ret ?_
  obtain rfl := Option.some.inj h
  refine At_body rfl rfl ?_
  have hL129 := hL127.dropAt (i := 1) rfl
  replace hf61_1 := hf61_1.mono (gz_mono hH (fz_dropAt (i := 1) rfl))
  replace he127 := he127.mono (gz_mono hH (fz_dropAt (i := 1) rfl))
  replace hT := hT.trans (fz_dropAt (i := 1) rfl)
  exact ⟨v127, xs127, rfl, hL129, hT, he127⟩
noncomputable def shapes_Index_Number (a0 : Int × (List (((List UInt8) × Int × Int × (List UInt8)) × (List Int)))) (a1 : List UInt8) (a2 : Int) (a3 : Int) : Option ((List Int) × (Int × Int)) :=
 Option.bind (shapes_Check a1) (fun x5 => if x5.1 = (0 : Int) ∧ x5.2 = (0 : Int) then (if a3 < a2 then Option.bind (shapes_fault (4 : Int) (-3 : Int)) (fun x19 => some ([], (x19.1, x19.2))) else Option.bind (shapes_Index_collect_s2 (a0.1, a0.2) a1 a2 a3) (fun x24 => some (x24.1, ((0 : Int), (0 : Int))))) else some ([], (x5.1, x5.2)))
theorem shapes_Index_Number_ok (w : World) (H : PH) (hH : Le H (hp w)) {a0 : Int × (List (((List UInt8) × Int × Int × (List UInt8)) × (List Int)))} {a1 : List UInt8} {a2 : Int} {a3 : Int} {v0_0 : Value} (h0_0 : Vec (.pair (.pair .st (.pair (.int .i64) (.pair (.int .i64) .st))) (.vec (.int .i64))) H v0_0 (a0.2)) {r : (List Int) × (Int × Int)} (h : shapes_Index_Number a0 a1 a2 a3 = some r) :
  Ok Tryz.prog 29 [.agg #[.int .i64 a0.1, v0_0], .string ⟨(a1).toArray⟩, .int .i64 a2, .int .i64 a3] w (fun v w' => Ext w w' ∧ ∃ u0, v = .tuple #[u0, .agg #[.int .i64 r.2.1, .int .i64 r.2.2]] ∧ OwnH 3 (.int .i64) H w w' u0 (r.1)) := by
 refine Ok_enter (n := 26) [(0, .agg #[.int .i64 a0.1, v0_0]), (1, .string ⟨(a1).toArray⟩), (2, .int .i64 a2), (3, .int .i64 a3)] func29 rfl rfl rfl rfl rfl ?_
 have hL := Lcl.start w
 refine W_seqr ?_
 refine S_box (t := 47) rfl rfl rfl hL ?_
 intro w1 b1 hL1 hle1 _
 refine S_box1 (t := 3) rfl rfl rfl hL1 ?_
 intro w2 b2 hL2 hle2 _
 refine S_box1 (t := 3) rfl rfl rfl hL2 ?_
 intro w3 b3 hL3 hle3 _
 refine S_pu 1 rfl ?_
 refine S_alloc zr23 rfl rfl hL3 ?_
 intro w4 b4 hL4 hle4 _
 refine S_seqnil ?_
 refine W_seq ?_
 refine W_p 1 rfl ?_
 obtain ⟨x5, hb5, h⟩ := Go.L.bind_some h
 refine S_callL rfl rfl hL4 (shapes_Check_ok _ _ (gz_le hH hL4) hb5) ?_
 rintro _ w6 rfl hx6 hL6 hle6
 refine S_alloc zr23 rfl rfl hL6 ?_
 intro w7 b7 hL7 hle7 _
 refine S_storeBN 0 rfl rfl rfl zr23 hL7 rfl rfl (onc rfl (onc rfl on0)) ?_
 intro w8 hL8 hle8
 refine S_seqnil ?_
 refine W_seqr ?_
 refine S_v (r_loadBN 0 rfl underlying23 rfl zr23 hL8 rfl) rfl ?_
 refine S_v (r_build rfl (fun _ => bld23_z _)) rfl ?_
 refine S_v (r_neA rfl rfl eqg23 (eq23 _ _ _ _ )) rfl ?_
 refine S_seqnil ?_
 refine W_ifn rfl (fun hc9 => ?_) (fun hc9 => ?_)
 ·replace h := Go.L.ite_n hc9 h
  refine W_seqd (.q 0 (.q 1 (.tail 2))) mixed (by kernel_rfl) (fun w11 hx11 => ?_)
  have hL12 := hL8.call hx11
  refine D_v (r_loadBN 0 rfl underlying23 rfl zr23 hL12 rfl) rfl rfl ?_
  refine D_pu 1 rfl ?_
  refine D_tail (fun w13 hx13 => ?_)
  have hL14 := hL12.call hx13
  refine S_storeBN 1 rfl rfl rfl zr23 hL14 rfl rfl (onc rfl (onc rfl on0)) ?_
  intro w15 hL15 hle15
  refine S_seqnil ?_
  refine W_ret ?_
  refine At_seq_ret ?_
  obtain rfl := Option.some.inj h
  refine At_got2 rfl (.tmp rfl) (.cell rfl underlying23 rfl zr23 (box_ptr (i := 1) hL15 rfl)) ?_
  exact ⟨hL15.ext, _, rfl, OwnH.nil⟩
 ·replace h := Go.L.ite_p hc9 h
  refine W_skip ?_
  refine At_seq ?_
  refine W_seq ?_
  refine W_seqr ?_
  refine S_v (r_loadB1 3 rfl underlying3 rfl hL8 rfl rfl) rfl ?_
  refine S_v (r_loadB1 2 rfl underlying3 rfl hL8 rfl rfl) rfl ?_
  refine S_pz 1 rfl ?_
  refine W_if rfl (fun hc17 => ?_) (fun hc17 => ?_)
  ·replace h := Go.L.ite_p hc17 h
   refine W_seqr ?_
   obtain ⟨x19, hb19, h⟩ := Go.L.bind_some h
   refine S_callL rfl rfl hL8 (shapes_fault_ok _ _ (gz_le hH hL8) hb19) ?_
   rintro _ w20 rfl hx20 hL20 hle20
   refine S_pu 1 rfl ?_
   refine S_storeBN 1 rfl rfl rfl zr23 hL20 rfl rfl (onc rfl (onc rfl on0)) ?_
   intro w21 hL21 hle21
   refine S_seqnil ?_
   refine W_ret ?_
   refine At_seq_ret ?_
   obtain rfl := Option.some.inj h
   refine At_got2 rfl (.tmp rfl) (.cell rfl underlying23 rfl zr23 (box_ptr (i := 1) hL21 rfl)) ?_
   exact ⟨hL21.ext, _, rfl, OwnH.nil⟩
  ·replace h := Go.L.ite_n hc17 h
   refine W_skip ?_
   refine At_seq ?_
   refine W_seqr ?_
   refine S_v (r_loadBN 4 rfl underlying47 rfl zr47 hL8 rfl) rfl ?_
   refine S_pu 2 rfl ?_
   have hL23 : Lcl w [.box b2 [.int .i64 a2] 3, .box b3 [.int .i64 a3] 3, .box b7 [.int .i64 x5.1, .int .i64 x5.2] 23, .box b4 [.int .i64 (0 : Int), .int .i64 (0 : Int)] 23, .box b1 [.int .i64 a0.1, v0_0] 47] w8 := hL8.picks [2, 3] rfl
   have hle23 := fz_picks [2, 3] hL8 hL23 rfl
   obtain ⟨x24, hb24, h⟩ := Go.L.bind_some h
   refine S_call rfl rfl (shapes_Index_collect_s2_fr (a0 := (a0.1, a0.2)) (a1 := a1) (a2_c0 := a2) (a2_c1 := a3) (O := [.box b7 [.int .i64 x5.1, .int .i64 x5.2] 23, .box b4 [.int .i64 (0 : Int), .int .i64 (0 : Int)] 23, .box b1 [.int .i64 a0.1, v0_0] 47]) hH hL23 (h0_0.mono (gz_left hH)) hb24) ?_
   rintro u25_0 w25 ⟨_, y25_0, rfl, hL25, hle25, hf25_0⟩
   refine S_v (r_build rfl (fun _ => bld23_z _)) rfl ?_
   refine S_pu 1 rfl ?_
   refine S_storeBN 4 rfl rfl rfl zr23 hL25 rfl rfl (onc rfl (onc rfl on0)) ?_
   intro w26 hL26 hle26
   replace hf25_0 := hf25_0.mono (gz_mono hH hle26)
   refine S_seqnil ?_
   refine W_ret ?_
   obtain rfl := Option.some.inj h
   refine At_got2 rfl (.tmp rfl) (.cell rfl underlying23 rfl zr23 (box_ptr (i := 4) hL26 rfl)) ?_
   exact ⟨hL26.ext, _, rfl, (hL26.ownH hH (i := 0) rfl hf25_0)⟩
noncomputable def shapes_Index_Text_1 (a0 : ((List UInt8) × Int × Int × (List UInt8)) × (List Int)) (a1 : List UInt8) : Option (Bool × (List UInt8)) :=
 if a0.1.2.1 = (2 : Int) then some (decide (a0.1.2.2.2 = a1), a1) else some (false, a1)
theorem shapes_Index_Text_1_fr {w0 w : World} {H : PH} (hH : Le H (hp w0)) {O : List Res} {a0 : ((List UInt8) × Int × Int × (List UInt8)) × (List Int)} {a1 : List UInt8} {va0_4 : Value} {ba1 : Nat} {va1_0 : Value} (hL : Lcl w0 (HAppend.hAppend ([.box ba1 [va1_0] 35] : List Res) O) w) (ha0_4 : Vec (.int .i64) (gz H w0 w (HAppend.hAppend ([.box ba1 [va1_0] 35] : List Res) O)) va0_4 (a0.2)) (ha1_0 : Vec .byte (gz H w0 w (HAppend.hAppend ([.box ba1 [va1_0] 35] : List Res) O)) va1_0 (a1)) {r : Bool × (List UInt8)} (h : shapes_Index_Text_1 a0 a1 = some r) :
  Ok Tryz.prog 63 [.agg #[.string ⟨(a0.1.1).toArray⟩, .int .i64 a0.1.2.1, .int .i64 a0.1.2.2.1, .string ⟨(a0.1.2.2.2).toArray⟩, va0_4], .pointer (some ⟨ba1, 0, none⟩)] w (fun v w' => ∃ (u1 : Value), v = .bool r.1 ∧ Lcl w0 (HAppend.hAppend ([.box ba1 [u1] 35] : List Res) O) w' ∧ Le (fz w (HAppend.hAppend ([.box ba1 [va1_0] 35] : List Res) O)) (fz w' (HAppend.hAppend ([.box ba1 [u1] 35] : List Res) O)) ∧ Vec .byte (gz H w0 w' (HAppend.hAppend ([.box ba1 [u1] 35] : List Res) O)) u1 (r.2)) := by
 refine Ok_enter (n := 16) [(0, .agg #[.string ⟨(a0.1.1).toArray⟩, .int .i64 a0.1.2.1, .int .i64 a0.1.2.2.1, .string ⟨(a0.1.2.2.2).toArray⟩, va0_4]), (1, .pointer (some ⟨ba1, 0, none⟩))] func63 rfl rfl rfl rfl rfl ?_
 have hT := Le.refl (fz w (HAppend.hAppend ([.box ba1 [va1_0] 35] : List Res) O))
 refine W_seqr ?_
 refine S_box (t := 96) rfl rfl rfl hL ?_
 intro w1 b1 hL1 hle1 _
 replace ha0_4 := ha0_4.mono (gz_mono hH hle1)
 replace ha1_0 := ha1_0.mono (gz_mono hH hle1)
 replace hT := hT.trans hle1
 refine S_pz 1 rfl ?_
 refine W_seqr ?_
 refine S_v (r_field rfl underlying96 rfl zr84 (by decide)) rfl ?_
 refine S_v (r_field rfl underlying84 rfl zr3 (by decide)) rfl ?_
 refine S_v (r_loadB1 0 rfl underlying3 rfl hL1 rfl rfl) rfl ?_
 refine S_pu 2 rfl ?_
 refine S_split (s := 8) rfl (fun hg2 => ?_) (fun hg2 => ?_)
 ·replace h := Go.L.ite_p (of_decide_eq_true hg2) h
  refine S_guarded rfl rfl hg2 ?_
  refine S_v (r_field rfl underlying96 rfl zr84 (by decide)) rfl ?_
  refine S_guarded rfl rfl hg2 ?_
  refine S_v (r_field rfl underlying84 rfl zr9 (by decide)) rfl ?_
  refine S_guarded rfl rfl hg2 ?_
  refine S_v (r_loadB1 0 rfl underlying9 rfl hL1 rfl rfl) rfl ?_
  refine S_guarded rfl rfl hg2 ?_
  refine S_v (r_loadB1 1 rfl underlying35 rfl hL1 rfl rfl) rfl ?_
  refine S_guarded rfl rfl hg2 ?_
  refine S_v (r_str rfl underlying35 underlying5 underlying9 ha1_0 (gz_le hH hL1)) rfl ?_
  refine S_guarded rfl rfl hg2 ?_
  refine S_v (r_seq rfl rfl) rfl ?_
  refine S_v (r_pickT rfl hg2 rfl) rfl ?_
  refine S_pz 1 rfl ?_
  refine W_ret ?_
  obtain rfl := Option.some.inj h
  refine At_body rfl rfl ?_
  have hL4 := hL1.dropAt (i := 0) rfl
  replace ha0_4 := ha0_4.mono (gz_mono hH (fz_dropAt (i := 0) rfl))
  replace ha1_0 := ha1_0.mono (gz_mono hH (fz_dropAt (i := 0) rfl))
  replace hT := hT.trans (fz_dropAt (i := 0) rfl)
  exact ⟨va1_0, rfl, hL4, hT, ha1_0⟩
 ·replace h := Go.L.ite_n (of_decide_eq_false hg2) h
  iterate 6 refine S_unwanted rfl rfl hg2 rfl ?_
  refine S_v (r_pickF rfl hg2 rfl) rfl ?_
  refine S_pz 1 rfl ?_
  refine W_ret ?_
  obtain rfl := Option.some.inj h
  refine At_body rfl rfl ?_
  have hL6 := hL1.dropAt (i := 0) rfl
  replace ha0_4 := ha0_4.mono (gz_mono hH (fz_dropAt (i := 0) rfl))
  replace ha1_0 := ha1_0.mono (gz_mono hH (fz_dropAt (i := 0) rfl))
  replace hT := hT.trans (fz_dropAt (i := 0) rfl)
  exact ⟨va1_0, rfl, hL6, hT, ha1_0⟩
noncomputable def shapes_Index_collect_s3_k1 (l59 : List Int) (c60 : List UInt8) : Option ((List Int) × (List UInt8)) :=
 Go.L.chk (l59.length < 4611686018427387904) (Go.L.chk ((srtI l59).length ≤ 9223372036854775807) (some ((Lib.compact (srtI l59)), c60)))
noncomputable def shapes_Index_collect_s3_bl2 (a0 : Int × (List (((List UInt8) × Int × Int × (List UInt8)) × (List Int)))) (a1 : List UInt8) : (List Int) × (List UInt8) × Int → Option (((List Int) × (List UInt8) × Int) ⊕ ((List Int) × (List UInt8))) := fun ⟨l89, c90, s13_91⟩ =>
 if s13_91 < (a0.2.length : Int) then Go.L.chk (0 ≤ s13_91 ∧ s13_91 < (a0.2.length : Int)) (Option.bind (shapes_Index_Text_1 ((((a0.2.getD s13_91.toNat default).1).1, ((a0.2.getD s13_91.toNat default).1).2.1, ((a0.2.getD s13_91.toNat default).1).2.2.1, ((a0.2.getD s13_91.toNat default).1).2.2.2), (a0.2.getD s13_91.toNat default).2) c90) (fun x102 => if x102.1 then Option.bind (shapes_matches a1 (((a0.2.getD s13_91.toNat default).1).1)) (fun x106 => if x106 then Go.L.chk (Go.E.Cap 8 (l89.length + ((a0.2.getD s13_91.toNat default).2).length)) (Go.L.chk (Go.L.I64 (s13_91 + (1 : Int))) (some (Sum.inl ((l89 ++ (a0.2.getD s13_91.toNat default).2), x102.2, (s13_91 + (1 : Int)))))) else Go.L.chk (Go.L.I64 (s13_91 + (1 : Int))) (some (Sum.inl (l89, x102.2, (s13_91 + (1 : Int)))))) else Go.L.chk (Go.L.I64 (s13_91 + (1 : Int))) (some (Sum.inl (l89, x102.2, (s13_91 + (1 : Int))))))) else Option.map Sum.inr (shapes_Index_collect_s3_k1 l89 c90)
noncomputable def shapes_Index_collect_s3_l2 (a0 : Int × (List (((List UInt8) × Int × Int × (List UInt8)) × (List Int)))) (a1 : List UInt8) (s : (List Int) × (List UInt8) × Int) : Option ((List Int) × (List UInt8)) := Go.L.run (shapes_Index_collect_s3_bl2 a0 a1) s
noncomputable def shapes_Index_collect_s3 (a0 : Int × (List (((List UInt8) × Int × Int × (List UInt8)) × (List Int)))) (a1 : List UInt8) (a2_c0 : List UInt8) : Option ((List Int) × (List UInt8)) :=
 (shapes_Index_collect_s3_l2 a0 a1) (([] : List Int), a2_c0, (0 : Int))
theorem shapes_Index_collect_s3_fr {w0 w : World} {H : PH} (hH : Le H (hp w0)) {O : List Res} {a0 : Int × (List (((List UInt8) × Int × Int × (List UInt8)) × (List Int)))} {a1 : List UInt8} {a2_c0 : List UInt8} {va0_1 : Value} {ba2_c0 : Nat} {va2_c0_0 : Value} (hL : Lcl w0 (HAppend.hAppend ([.box ba2_c0 [va2_c0_0] 35] : List Res) O) w) (ha0_1 : Vec (.pair (.pair .st (.pair (.int .i64) (.pair (.int .i64) .st))) (.vec (.int .i64))) (gz H w0 w (HAppend.hAppend ([.box ba2_c0 [va2_c0_0] 35] : List Res) O)) va0_1 (a0.2)) (ha2_c0_0 : Vec .byte (gz H w0 w (HAppend.hAppend ([.box ba2_c0 [va2_c0_0] 35] : List Res) O)) va2_c0_0 (a2_c0)) {r : (List Int) × (List UInt8)} (h : shapes_Index_collect_s3 a0 a1 a2_c0 = some r) :
  Ok Tryz.prog 60 [.agg #[.int .i64 a0.1, va0_1], .string ⟨(a1).toArray⟩, .func (.func 63) #[] #[.pointer (some ⟨ba2_c0, 0, none⟩)]] w (fun v w' => ∃ (u0 : Value) (y0 : List Value) (u1 : Value), v = u0 ∧ Lcl w0 (HAppend.hAppend ([.row u0 3 1 (r.1).length y0, .box ba2_c0 [u1] 35] : List Res) O) w' ∧ Le (fz w (HAppend.hAppend ([.box ba2_c0 [va2_c0_0] 35] : List Res) O)) (fz w' (HAppend.hAppend ([.row u0 3 1 (r.1).length y0, .box ba2_c0 [u1] 35] : List Res) O)) ∧ Elems (.int .i64) (gz H w0 w' (HAppend.hAppend ([.row u0 3 1 (r.1).length y0, .box ba2_c0 [u1] 35] : List Res) O)) (r.1) y0 ∧ Vec .byte (gz H w0 w' (HAppend.hAppend ([.row u0 3 1 (r.1).length y0, .box ba2_c0 [u1] 35] : List Res) O)) u1 (r.2)) := by
 refine Ok_enter (n := 36) [(0, .agg #[.int .i64 a0.1, va0_1]), (1, .string ⟨(a1).toArray⟩), (2, .func (.func 63) #[] #[.pointer (some ⟨ba2_c0, 0, none⟩)])] func60 rfl rfl rfl rfl rfl ?_
 have hT := Le.refl (fz w (HAppend.hAppend ([.box ba2_c0 [va2_c0_0] 35] : List Res) O))
 refine W_seqr ?_
 refine S_box (t := 47) rfl rfl rfl hL ?_
 intro w1 b1 hL1 hle1 _
 replace ha0_1 := ha0_1.mono (gz_mono hH hle1)
 replace ha2_c0_0 := ha2_c0_0.mono (gz_mono hH hle1)
 replace hT := hT.trans hle1
 refine S_pz 1 rfl ?_
 refine W_p 1 rfl ?_
 obtain ⟨hL2, hle2, he2⟩ := row_nilE (.int .i64) H 3 hL1
 replace ha0_1 := ha0_1.mono (gz_mono hH hle2)
 replace ha2_c0_0 := ha2_c0_0.mono (gz_mono hH hle2)
 replace hT := hT.trans hle2
 refine S_seqnil ?_
 refine W_cut (σ := (List Int) × (List UInt8) × Value × (List Value) × Value) (fun ⟨l59, c60, vl59, xsl59, vc60⟩ => [(7, vl59)]) (fun ⟨l59, c60, vl59, xsl59, vc60⟩ wr => InO w0 (HAppend.hAppend ([.row (vl59) 3 1 (l59).length (xsl59), .box b1 [.int .i64 a0.1, va0_1] 47, .box ba2_c0 [vc60] 35] : List Res) O) wr fun Oz => Elems (.int .i64) (gz H w0 wr Oz) (l59) (xsl59) ∧ Vec (.pair (.pair .st (.pair (.int .i64) (.pair (.int .i64) .st))) (.vec (.int .i64))) (gz H w0 wr Oz) (va0_1) (a0.2) ∧ Vec .byte (gz H w0 wr Oz) (vc60) (c60) ∧ Le (fz w (HAppend.hAppend ([.box ba2_c0 [va2_c0_0] 35] : List Res) O)) (fz wr Oz) ∧ shapes_Index_collect_s3_k1 l59 c60 = some r) ?_ ?_
 ·have hG63 := hL2.rG H
  refine W_seqr ?_
  refine S_v (r_field rfl underlying47 rfl zr45 (by decide)) rfl ?_
  refine S_v (r_loadB1 1 rfl underlying45 rfl hL2 rfl rfl) rfl ?_
  refine S_v (r_len rfl underlying45 (ha0_1.mono hG63)) rfl ?_
  refine S_pz 1 rfl ?_
  refine W_block ?_
  obtain ⟨n92, h⟩ := Go.L.run_some h
  refine W_loop (σ := (List Int) × (List UInt8) × Int × Value × (List Value) × Value × Nat) (fun ⟨l89, c90, s13_91, vl89, xsl89, vc90, n⟩ => [(1, .string ⟨(a1).toArray⟩), (2, .func (.func 63) #[] #[.pointer (some ⟨ba2_c0, 0, none⟩)]), (7, vl89), (11, va0_1), (12, .int .i64 (a0.2.length : Int)), (13, .int .i64 s13_91)]) (fun ⟨l89, c90, s13_91, vl89, xsl89, vc90, n⟩ wr => InO w0 (HAppend.hAppend ([.row (vl89) 3 1 (l89).length (xsl89), .box b1 [.int .i64 a0.1, va0_1] 47, .box ba2_c0 [vc90] 35] : List Res) O) wr fun Oz => Vec (.pair (.pair .st (.pair (.int .i64) (.pair (.int .i64) .st))) (.vec (.int .i64))) (gz H w0 wr Oz) (va0_1) (a0.2) ∧ Elems (.int .i64) (gz H w0 wr Oz) (l89) (xsl89) ∧ Vec .byte (gz H w0 wr Oz) (vc90) (c90) ∧ Le (fz w (HAppend.hAppend ([.box ba2_c0 [va2_c0_0] 35] : List Res) O)) (fz wr Oz) ∧ Go.L.itr (shapes_Index_collect_s3_bl2 a0 a1) n (l89, c90, s13_91) = some r) (fun ⟨l89, c90, s13_91, vl89, xsl89, vc90, n⟩ => n) (([] : List Int), a2_c0, (0 : Int), .slice none 0 0, [], va2_c0_0, n92) (.cons rfl (.cons rfl (.cons rfl (.cons rfl (.cons rfl (.cons rfl (Sub.nil _))))))) ⟨hL2, (ha0_1.mono hG63), (he2.mono hG63), (ha2_c0_0.mono hG63), hT, h⟩ ?_
  rintro ⟨l89, c90, s13_91, vl89, xsl89, vc90, nn92⟩ wr92 ⟨hL92, hf92_0, hel89, hfc90, hT, h⟩
  obtain ⟨n92, e92, rfl, h, hm92⟩ := Go.L.itr_some h
  have hG94 := hL92.rG H
  refine W_pz 1 rfl ?_
  refine W_seq ?_
  refine W_if rfl (fun hc95 => ?_) (fun hc95 => ?_)
  ·replace h := Go.L.ite_p hc95 h
   refine W_skip ?_
   refine At_seq ?_
   refine W_seq ?_
   refine W_block ?_
   refine W_seqr ?_
   obtain ⟨hk98, h⟩ := Go.L.chk_some h
   refine S_index rfl rfl underlying45 zr96 (hf92_0.mono hG94) s13_91.toNat (Int.toNat_of_nonneg hk98.1).symm (idx_lt hk98) rfl ?_
   rintro p97 _ ⟨_, _, rfl, ⟨_, _, rfl, rfl, ⟨_, _, rfl, rfl, ⟨_, _, rfl, rfl, rfl⟩⟩⟩, ⟨e97v4, rfl, e97h4⟩⟩ hp97
   refine S_v (r_loadN rfl underlying96 rfl zr96 hp97 (gz_le hH hL92)) rfl ?_
   refine S_alloc zr96 rfl rfl hL92 ?_
   intro w99 b99 hL99 hle99 _
   replace hp97 := hp97.mono (gz_mono hH hle99)
   replace e97h4 := e97h4.mono (gz_mono hH hle99)
   replace hG94 := hG94.trans (gz_mono hH hle99)
   replace hT := hT.trans hle99
   refine S_storeBN 0 rfl rfl rfl zr96 hL99 rfl rfl (onc rfl (onc rfl (onc rfl (onc rfl (onc e97h4.one on0))))) ?_
   intro w100 hL100 hle100
   replace hp97 := hp97.mono (gz_mono hH hle100)
   replace e97h4 := e97h4.mono (gz_mono hH hle100)
   replace hG94 := hG94.trans (gz_mono hH hle100)
   replace hT := hT.trans hle100
   refine S_seqnil ?_
   refine W_p 1 rfl ?_
   refine S_v (r_loadBN 0 rfl underlying96 rfl zr96 hL100 rfl) rfl ?_
   have hL101 : Lcl w0 (HAppend.hAppend ([.box ba2_c0 [vc90] 35, .box b99 [.string ⟨(((a0.2.getD s13_91.toNat default).1).1).toArray⟩, .int .i64 (((a0.2.getD s13_91.toNat default).1).2.1), .int .i64 (((a0.2.getD s13_91.toNat default).1).2.2.1), .string ⟨(((a0.2.getD s13_91.toNat default).1).2.2.2).toArray⟩, e97v4] 96, .row (vl89) 3 1 (l89).length (xsl89), .box b1 [.int .i64 a0.1, va0_1] 47] : List Res) O) w100 := hL100.picks [3] rfl
   have hle101 := fz_picks [3] hL100 hL101 rfl
   replace e97h4 := e97h4.mono (gz_mono hH hle101)
   replace hG94 := hG94.trans (gz_mono hH hle101)
   replace hT := hT.trans hle101
   obtain ⟨x102, hb102, h⟩ := Go.L.bind_some h
   refine S_callv rfl rfl rfl (shapes_Index_Text_1_fr (a0 := ((((a0.2.getD s13_91.toNat default).1).1, ((a0.2.getD s13_91.toNat default).1).2.1, ((a0.2.getD s13_91.toNat default).1).2.2.1, ((a0.2.getD s13_91.toNat default).1).2.2.2), (a0.2.getD s13_91.toNat default).2)) (a1 := c90) (O := (HAppend.hAppend ([.box b99 [.string ⟨(((a0.2.getD s13_91.toNat default).1).1).toArray⟩, .int .i64 (((a0.2.getD s13_91.toNat default).1).2.1), .int .i64 (((a0.2.getD s13_91.toNat default).1).2.2.1), .string ⟨(((a0.2.getD s13_91.toNat default).1).2.2.2).toArray⟩, e97v4] 96, .row (vl89) 3 1 (l89).length (xsl89), .box b1 [.int .i64 a0.1, va0_1] 47] : List Res) O)) hH hL101 e97h4 (hfc90.mono hG94) hb102) ?_
   rintro _ w103 ⟨u103_1, rfl, hL103, hle103, hf103_1⟩
   replace e97h4 := e97h4.mono (gz_mono hH hle103)
   replace hG94 := hG94.trans (gz_mono hH hle103)
   replace hT := hT.trans hle103
   refine S_pu 1 rfl ?_
   refine S_split (s := 20) rfl (fun hg104 => ?_) (fun hg104 => ?_)
   ·replace h := Go.L.ite_t hg104 h
    refine S_guarded rfl rfl hg104 ?_
    refine S_v (RunsAt_pu rfl) rfl ?_
    refine S_guarded rfl rfl hg104 ?_
    refine S_v (r_field rfl underlying96 rfl zr84 (by decide)) rfl ?_
    refine S_guarded rfl rfl hg104 ?_
    refine S_v (r_field rfl underlying84 rfl zr9 (by decide)) rfl ?_
    refine S_guarded rfl rfl hg104 ?_
    refine S_v (r_loadB1 1 rfl underlying9 rfl hL103 rfl rfl) rfl ?_
    refine S_guarded rfl rfl hg104 ?_
    obtain ⟨x106, hb106, h⟩ := Go.L.bind_some h
    refine S_callL rfl rfl hL103 (shapes_matches_ok _ _ (gz_le hH hL103) hb106) ?_
    rintro _ w107 rfl hx107 hL107 hle107
    replace e97h4 := e97h4.mono (gz_mono hH hle107)
    replace hf103_1 := hf103_1.mono (gz_mono hH hle107)
    replace hG94 := hG94.trans (gz_mono hH hle107)
    replace hT := hT.trans hle107
    refine S_v (r_pickT rfl hg104 rfl) rfl ?_
    refine S_seqnil ?_
    refine W_cond rfl (fun hc108 => ?_) (fun hc108 => ?_)
    ·replace h := Go.L.ite_t hc108 h
     refine W_region ?_
     refine S_pu 1 rfl ?_
     refine S_v (r_field rfl underlying96 rfl zr52 (by decide)) rfl ?_
     refine S_v (r_loadB1 1 rfl underlying52 rfl hL107 rfl rfl) rfl ?_
     obtain ⟨hk111, h⟩ := Go.L.chk_some h
     refine S_appE (r := (.int .i64)) (l := l89) (m := (a0.2.getD s13_91.toNat default).2) 2 rfl rfl underlying52 zr3 rfl (by decide) rfl hH hL107 rfl (hel89.mono hG94) e97h4 hk111 ?_
     intro v110 w110 xs110 hL110 hle110 he110
     replace e97h4 := e97h4.mono (gz_mono hH hle110)
     replace hf103_1 := hf103_1.mono (gz_mono hH hle110)
     replace hG94 := hG94.trans (gz_mono hH hle110)
     replace hT := hT.trans hle110
     refine S_pu 1 rfl ?_
     refine S_nil ?_
     refine At_block ?_
     refine At_seq ?_
     have hG112 := hL110.rG H
     refine W_region ?_
     obtain ⟨hk113, h⟩ := Go.L.chk_some h
     refine S_v (r_ar64 rfl rfl rfl hk113) rfl ?_
     refine S_pu 1 rfl ?_
     refine S_nil ?_
     have hL114 := hL110.dropAt (i := 1) rfl
     replace hG112 := hG112.trans (gz_mono hH (fz_dropAt (i := 1) rfl))
     replace hT := hT.trans (fz_dropAt (i := 1) rfl)
     have hL115 : Lcl w0 (HAppend.hAppend ([.row (v110) 3 1 ((l89 ++ (a0.2.getD s13_91.toNat default).2)).length (xs110), .box b1 [.int .i64 a0.1, va0_1] 47, .box ba2_c0 [u103_1] 35] : List Res) O) w110 := hL114.picks [2, 2] rfl
     have hle115 := fz_picks [2, 2] hL114 hL115 rfl
     replace hG112 := hG112.trans (gz_mono hH hle115)
     replace hT := hT.trans hle115
     have h := Go.L.Nxt.again h hm92
     refine At_round ((l89 ++ (a0.2.getD s13_91.toNat default).2), x102.2, (s13_91 + (1 : Int)), v110, xs110, u103_1, n92) (.cons rfl (.cons rfl (.cons rfl (.cons rfl (.cons rfl (.cons rfl (Sub.nil _))))))) ⟨hL115, ((hf92_0.mono hG94).mono hG112), (he110.mono hG112), (hf103_1.mono hG112), hT, h⟩ (Nat.lt_succ_self _)
    ·replace h := Go.L.ite_f hc108 h
     refine W_skip ?_
     refine At_block ?_
     refine At_seq ?_
     refine W_region ?_
     obtain ⟨hk117, h⟩ := Go.L.chk_some h
     refine S_v (r_ar64 rfl rfl rfl hk117) rfl ?_
     refine S_pu 1 rfl ?_
     refine S_nil ?_
     have hL118 := hL107.dropAt (i := 1) rfl
     replace e97h4 := e97h4.mono (gz_mono hH (fz_dropAt (i := 1) rfl))
     replace hf103_1 := hf103_1.mono (gz_mono hH (fz_dropAt (i := 1) rfl))
     replace hG94 := hG94.trans (gz_mono hH (fz_dropAt (i := 1) rfl))
     replace hT := hT.trans (fz_dropAt (i := 1) rfl)
     have hL119 : Lcl w0 (HAppend.hAppend ([.row (vl89) 3 1 (l89).length (xsl89), .box b1 [.int .i64 a0.1, va0_1] 47, .box ba2_c0 [u103_1] 35] : List Res) O) w107 := hL118.picks [2, 2] rfl
     have hle119 := fz_picks [2, 2] hL118 hL119 rfl
     replace e97h4 := e97h4.mono (gz_mono hH hle119)
     replace hf103_1 := hf103_1.mono (gz_mono hH hle119)
     replace hG94 := hG94.trans (gz_mono hH hle119)
     replace hT := hT.trans hle119
     have h := Go.L.Nxt.again h hm92
     refine At_round (l89, x102.2, (s13_91 + (1 : Int)), vl89, xsl89, u103_1, n92) (.cons rfl (.cons rfl (.cons rfl (.cons rfl (.cons rfl (.cons rfl (Sub.nil _))))))) ⟨hL119, (hf92_0.mono hG94), (hel89.mono hG94), hf103_1, hT, h⟩ (Nat.lt_succ_self _)
   ·replace h := Go.L.ite_f hg104 h
    iterate 5 refine S_unwanted rfl rfl hg104 rfl ?_
    refine S_v (r_pickF rfl hg104 rfl) rfl ?_
    refine S_seqnil ?_
    refine W_false rfl ?_
    refine W_skip ?_
    refine At_block ?_
    refine At_seq ?_
    refine W_region ?_
    obtain ⟨hk121, h⟩ := Go.L.chk_some h
    refine S_v (r_ar64 rfl rfl rfl hk121) rfl ?_
    refine S_pu 1 rfl ?_
    refine S_nil ?_
    have hL122 := hL103.dropAt (i := 1) rfl
    replace e97h4 := e97h4.mono (gz_mono hH (fz_dropAt (i := 1) rfl))
    replace hf103_1 := hf103_1.mono (gz_mono hH (fz_dropAt (i := 1) rfl))
    replace hG94 := hG94.trans (gz_mono hH (fz_dropAt (i := 1) rfl))
    replace hT := hT.trans (fz_dropAt (i := 1) rfl)
    have hL123 : Lcl w0 (HAppend.hAppend ([.row (vl89) 3 1 (l89).length (xsl89), .box b1 [.int .i64 a0.1, va0_1] 47, .box ba2_c0 [u103_1] 35] : List Res) O) w103 := hL122.picks [2, 2] rfl
    have hle123 := fz_picks [2, 2] hL122 hL123 rfl
    replace e97h4 := e97h4.mono (gz_mono hH hle123)
    replace hf103_1 := hf103_1.mono (gz_mono hH hle123)
    replace hG94 := hG94.trans (gz_mono hH hle123)
    replace hT := hT.trans hle123
    have h := Go.L.Nxt.again h hm92
    refine At_round (l89, x102.2, (s13_91 + (1 : Int)), vl89, xsl89, u103_1, n92) (.cons rfl (.cons rfl (.cons rfl (.cons rfl (.cons rfl (.cons rfl (Sub.nil _))))))) ⟨hL123, (hf92_0.mono hG94), (hel89.mono hG94), hf103_1, hT, h⟩ (Nat.lt_succ_self _)
  ·replace h := Go.L.ite_n hc95 h
   refine W_exit ?_
   refine At_seq_exit ?_
   refine At_loop_exit ?_
   replace h := Go.L.Nxt.out h hm92
   refine At_exit ?_
   refine At_cut (l89, c90, vl89, xsl89, vc90) (.cons rfl (Sub.nil _)) ⟨hL92, (hel89.mono hG94), (hf92_0.mono hG94), (hfc90.mono hG94), hT, h⟩
 ·rintro ⟨l59, c60, vl59, xsl59, vc60⟩ wr61 ⟨hL61, hel59, hf61_1, hfc60, hT, h⟩
  have hG126 := hL61.rG H
  refine W_p 1 rfl ?_
  obtain ⟨hk128, h⟩ := Go.L.chk_some h
  refine S_sortI (i := 0) Tryz.laySI rfl ⟨Tryz.f99, _, func99, rfl, rfl⟩ rfl rfl hH hL61 rfl (hel59.mono hG126) hk128 ?_
  intro w127 xs127 hL127 hle127 he127
  replace hG126 := hG126.trans (gz_mono hH hle127)
  replace hT := hT.trans hle127
  refine S_seqnil ?_
  refine W_p 1 rfl ?_
  obtain ⟨hk130, h⟩ := Go.L.chk_some h
  refine S_compI (i := 0) Tryz.layCI rfl ⟨Tryz.f100, _, func100, rfl, rfl⟩ rfl rfl hH hL127 rfl he127 hk130 ?_
  intro v129 w129 xs129 hL129 hle129 he129
  replace hG126 := hG126.trans (gz_mono hH hle129)
  replace hT := hT.trans hle129
  refine S_pz 1 rfl ?_
  refine W_ret ?_
  obtain rfl := Option.some.inj h
  refine At_body rfl rfl ?_
  have hL131 := hL129.dropAt (i := 1) rfl
  replace he129 := he129.mono (gz_mono hH (fz_dropAt (i := 1) rfl))
  replace hG126 := hG126.trans (gz_mono hH (fz_dropAt (i := 1) rfl))
  replace hT := hT.trans (fz_dropAt (i := 1) rfl)
  exact ⟨v129, xs129, vc60, rfl, hL131, hT, he129, (hfc60.mono hG126)⟩
noncomputable def shapes_Index_Text (a0 : Int × (List (((List UInt8) × Int × Int × (List UInt8)) × (List Int)))) (a1 : List UInt8) (a2 : List UInt8) : Option ((List Int) × (Int × Int)) :=
 Option.bind (shapes_Check a1) (fun x4 => if x4.1 = (0 : Int) ∧ x4.2 = (0 : Int) then (if (4000 : Int) < (a2.length : Int) then Option.bind (shapes_fault (3 : Int) (-2 : Int)) (fun x18 => some ([], (x18.1, x18.2))) else Option.bind (shapes_Index_collect_s3 (a0.1, a0.2) a1 a2) (fun x23 => some (x23.1, ((0 : Int), (0 : Int))))) else some ([], (x4.1, x4.2)))
theorem shapes_Index_Text_ok (w : World) (H : PH) (hH : Le H (hp w)) {a0 : Int × (List (((List UInt8) × Int × Int × (List UInt8)) × (List Int)))} {a1 : List UInt8} {a2 : List UInt8} {v0_0 : Value} {v2_0 : Value} (h0_0 : Vec (.pair (.pair .st (.pair (.int .i64) (.pair (.int .i64) .st))) (.vec (.int .i64))) H v0_0 (a0.2)) (h2_0 : Vec .byte H v2_0 (a2)) {r : (List Int) × (Int × Int)} (h : shapes_Index_Text a0 a1 a2 = some r) :
  Ok Tryz.prog 30 [.agg #[.int .i64 a0.1, v0_0], .string ⟨(a1).toArray⟩, v2_0] w (fun v w' => Ext w w' ∧ ∃ u0, v = .tuple #[u0, .agg #[.int .i64 r.2.1, .int .i64 r.2.2]] ∧ OwnH 3 (.int .i64) H w w' u0 (r.1)) := by
 refine Ok_enter (n := 24) [(0, .agg #[.int .i64 a0.1, v0_0]), (1, .string ⟨(a1).toArray⟩), (2, v2_0)] func30 rfl rfl rfl rfl rfl ?_
 have hL := Lcl.start w
 refine W_seqr ?_
 refine S_box (t := 47) rfl rfl rfl hL ?_
 intro w1 b1 hL1 hle1 _
 refine S_box1 (t := 35) rfl h2_0.one rfl hL1 ?_
 intro w2 b2 hL2 hle2 _
 refine S_pu 1 rfl ?_
 refine S_alloc zr23 rfl rfl hL2 ?_
 intro w3 b3 hL3 hle3 _
 refine S_seqnil ?_
 refine W_seq ?_
 refine W_p 1 rfl ?_
 obtain ⟨x4, hb4, h⟩ := Go.L.bind_some h
 refine S_callL rfl rfl hL3 (shapes_Check_ok _ _ (gz_le hH hL3) hb4) ?_
 rintro _ w5 rfl hx5 hL5 hle5
 refine S_alloc zr23 rfl rfl hL5 ?_
 intro w6 b6 hL6 hle6 _
 refine S_storeBN 0 rfl rfl rfl zr23 hL6 rfl rfl (onc rfl (onc rfl on0)) ?_
 intro w7 hL7 hle7
 refine S_seqnil ?_
 refine W_seqr ?_
 refine S_v (r_loadBN 0 rfl underlying23 rfl zr23 hL7 rfl) rfl ?_
 refine S_v (r_build rfl (fun _ => bld23_z _)) rfl ?_
 refine S_v (r_neA rfl rfl eqg23 (eq23 _ _ _ _ )) rfl ?_
 refine S_seqnil ?_
 refine W_ifn rfl (fun hc8 => ?_) (fun hc8 => ?_)
 ·replace h := Go.L.ite_n hc8 h
  refine W_seqd (.q 0 (.q 1 (.tail 2))) mixed (by kernel_rfl) (fun w10 hx10 => ?_)
  have hL11 := hL7.call hx10
  refine D_v (r_loadBN 0 rfl underlying23 rfl zr23 hL11 rfl) rfl rfl ?_
  refine D_pu 1 rfl ?_
  refine D_tail (fun w12 hx12 => ?_)
  have hL13 := hL11.call hx12
  refine S_storeBN 1 rfl rfl rfl zr23 hL13 rfl rfl (onc rfl (onc rfl on0)) ?_
  intro w14 hL14 hle14
  refine S_seqnil ?_
  refine W_ret ?_
  refine At_seq_ret ?_
  obtain rfl := Option.some.inj h
  refine At_got2 rfl (.tmp rfl) (.cell rfl underlying23 rfl zr23 (box_ptr (i := 1) hL14 rfl)) ?_
  exact ⟨hL14.ext, _, rfl, OwnH.nil⟩
 ·replace h := Go.L.ite_p hc8 h
  refine W_skip ?_
  refine At_seq ?_
  refine W_seq ?_
  refine W_seqr ?_
  refine S_v (r_loadB1 2 rfl underlying35 rfl hL7 rfl rfl) rfl ?_
  refine S_v (r_len rfl underlying35 h2_0) rfl ?_
  refine S_pz 1 rfl ?_
  refine W_if rfl (fun hc16 => ?_) (fun hc16 => ?_)
  ·replace h := Go.L.ite_p hc16 h
   refine W_seqr ?_
   obtain ⟨x18, hb18, h⟩ := Go.L.bind_some h
   refine S_callL rfl rfl hL7 (shapes_fault_ok _ _ (gz_le hH hL7) hb18) ?_
   rintro _ w19 rfl hx19 hL19 hle19
   refine S_pu 1 rfl ?_
   refine S_storeBN 1 rfl rfl rfl zr23 hL19 rfl rfl (onc rfl (onc rfl on0)) ?_
   intro w20 hL20 hle20
   refine S_seqnil ?_
   refine W_ret ?_
   refine At_seq_ret ?_
   obtain rfl := Option.some.inj h
   refine At_got2 rfl (.tmp rfl) (.cell rfl underlying23 rfl zr23 (box_ptr (i := 1) hL20 rfl)) ?_
   exact ⟨hL20.ext, _, rfl, OwnH.nil⟩
  ·replace h := Go.L.ite_n hc16 h
   refine W_skip ?_
   refine At_seq ?_
   refine W_seqr ?_
   refine S_v (r_loadBN 3 rfl underlying47 rfl zr47 hL7 rfl) rfl ?_
   refine S_pu 2 rfl ?_
   have hL22 : Lcl w [.box b2 [v2_0] 35, .box b6 [.int .i64 x4.1, .int .i64 x4.2] 23, .box b3 [.int .i64 (0 : Int), .int .i64 (0 : Int)] 23, .box b1 [.int .i64 a0.1, v0_0] 47] w7 := hL7.picks [2] rfl
   have hle22 := fz_picks [2] hL7 hL22 rfl
   obtain ⟨x23, hb23, h⟩ := Go.L.bind_some h
   refine S_call rfl rfl (shapes_Index_collect_s3_fr (a0 := (a0.1, a0.2)) (a1 := a1) (a2_c0 := a2) (O := [.box b6 [.int .i64 x4.1, .int .i64 x4.2] 23, .box b3 [.int .i64 (0 : Int), .int .i64 (0 : Int)] 23, .box b1 [.int .i64 a0.1, v0_0] 47]) hH hL22 (h0_0.mono (gz_left hH)) (h2_0.mono (gz_left hH)) hb23) ?_
   rintro u24_0 w24 ⟨_, y24_0, u24_1, rfl, hL24, hle24, hf24_0, hf24_1⟩
   refine S_v (r_build rfl (fun _ => bld23_z _)) rfl ?_
   refine S_pu 1 rfl ?_
   refine S_storeBN 3 rfl rfl rfl zr23 hL24 rfl rfl (onc rfl (onc rfl on0)) ?_
   intro w25 hL25 hle25
   replace hf24_0 := hf24_0.mono (gz_mono hH hle25)
   replace hf24_1 := hf24_1.mono (gz_mono hH hle25)
   refine S_seqnil ?_
   refine W_ret ?_
   obtain rfl := Option.some.inj h
   refine At_got2 rfl (.tmp rfl) (.cell rfl underlying23 rfl zr23 (box_ptr (i := 3) hL25 rfl)) ?_
   exact ⟨hL25.ext, _, rfl, (hL25.ownH hH (i := 0) rfl hf24_0)⟩
end Go.Proofs.YtmfiaecglndldaaGreatDoor
end
