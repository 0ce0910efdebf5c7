/- Texts of a claim, merged. -/
import Derived.Test.YtmfiaecglndldaaGreatDoorKg6
import Derived.KernelRfl
import Derived.ProofKit
import Derived.OpenShut
import Derived.Carry
import Derived.Deep.Slices
import Derived.Test.YtmfiaecglndldaaGreatDoorRows
import Derived.Lib.LaidU8T
import Derived.LaidMore
import Derived.MakeChecks
import Derived.LaidHandle
set_option linter.unusedVariables false
set_option linter.unusedSimpArgs false
section
namespace Go.Proofs.YtmfiaecglndldaaGreatDoor
open Go Go.E Go.RowKit
set_option maxHeartbeats 1000000
set_option maxRecDepth 10000
open _root_.Go.Proofs.Tryz
noncomputable def ref4_Leaves_body_k4 (a0 : Go.L.Pv) (l84 : List ((List UInt8) × Int × Int × (List UInt8))) (s6_85 : Int) (self : Go.L.Pv → (List UInt8) → Option ((List ((List UInt8) × Int × Int × (List UInt8))))) (s7_111 : List UInt8) : Option (((List ((List UInt8) × Int × Int × (List UInt8))) × Int) ⊕ ((List ((List UInt8) × Int × Int × (List UInt8))))) :=
 Go.L.chk (0 ≤ s6_85 ∧ s6_85 < (a0.f.2.2.2.2.length : Int)) (Option.bind (self (a0.f.2.2.2.2.getD s6_85.toNat default) s7_111) (fun x122 => Go.L.chk (Go.E.Cap 48 (l84.length + x122.length)) (Go.L.chk (Go.L.I64 (s6_85 + (1 : Int))) (some (Sum.inl ((l84 ++ x122), (s6_85 + (1 : Int))))))))
noncomputable def ref4_Leaves_body_k3 (a0 : Go.L.Pv) (a1 : List UInt8) (l84 : List ((List UInt8) × Int × Int × (List UInt8))) (s6_85 : Int) (self : Go.L.Pv → (List UInt8) → Option ((List ((List UInt8) × Int × Int × (List UInt8))))) (s7_96 : List UInt8) : Option (((List ((List UInt8) × Int × Int × (List UInt8))) × Int) ⊕ ((List ((List UInt8) × Int × Int × (List UInt8))))) :=
 if a1 = ([] : List UInt8) then (ref4_Leaves_body_k4 a0 l84 s6_85 self) s7_96 else Go.L.chk (a1.length + ([47] : List UInt8).length ≤ 9223372036854775807) (Go.L.chk ((a1 ++ ([47] : List UInt8)).length + s7_96.length ≤ 9223372036854775807) ((ref4_Leaves_body_k4 a0 l84 s6_85 self) ((a1 ++ ([47] : List UInt8)) ++ s7_96)))
noncomputable def ref4_Leaves_body_k1 (l56 : List ((List UInt8) × Int × Int × (List UInt8))) : Option ((List ((List UInt8) × Int × Int × (List UInt8)))) :=
 some (l56)
noncomputable def ref4_Leaves_body_bl2 (a0 : Go.L.Pv) (a1 : List UInt8) (self : Go.L.Pv → (List UInt8) → Option ((List ((List UInt8) × Int × Int × (List UInt8))))) : (List ((List UInt8) × Int × Int × (List UInt8))) × Int → Option (((List ((List UInt8) × Int × Int × (List UInt8))) × Int) ⊕ ((List ((List UInt8) × Int × Int × (List UInt8))))) := fun ⟨l84, s6_85⟩ =>
 if s6_85 < (a0.f.2.2.2.2.length : Int) then (if a0.f.1 = (4 : Int) then Go.L.chk (0 ≤ s6_85 ∧ s6_85 < (a0.f.2.2.2.1.length : Int)) ((ref4_Leaves_body_k3 a0 a1 l84 s6_85 self) (a0.f.2.2.2.1.getD s6_85.toNat default)) else (ref4_Leaves_body_k3 a0 a1 l84 s6_85 self) ([35] : List UInt8)) else Option.map Sum.inr (ref4_Leaves_body_k1 l84)
noncomputable def ref4_Leaves_body_l2 (a0 : Go.L.Pv) (a1 : List UInt8) (self : Go.L.Pv → (List UInt8) → Option ((List ((List UInt8) × Int × Int × (List UInt8))))) (s : (List ((List UInt8) × Int × Int × (List UInt8))) × Int) : Option ((List ((List UInt8) × Int × Int × (List UInt8)))) := Go.L.run (ref4_Leaves_body_bl2 a0 a1 self) s
noncomputable def ref4_Leaves_body (self : Go.L.Pv → (List UInt8) → Option ((List ((List UInt8) × Int × Int × (List UInt8))))) (a0 : Go.L.Pv) (a1 : List UInt8) : Option ((List ((List UInt8) × Int × Int × (List UInt8)))) :=
 (ref4_Leaves_body_l2 a0 a1 self) ([(a1, a0.f.1, a0.f.2.1, a0.f.2.2.1)], (0 : Int))
noncomputable def ref4_Leaves_n : Nat → Go.L.Pv → (List UInt8) → Option ((List ((List UInt8) × Int × Int × (List UInt8))))
 | 0 => fun _ _ => none
 | n + 1 => ref4_Leaves_body (ref4_Leaves_n n)
noncomputable def ref4_Leaves : Go.L.Pv → (List UInt8) → Option ((List ((List UInt8) × Int × Int × (List UInt8)))) := ref4_Leaves_n 1000
theorem ref4_Leaves_body_ok (self : Go.L.Pv → (List UInt8) → Option ((List ((List UInt8) × Int × Int × (List UInt8))))) (hself : ∀ (w : World) (H : PH) (hH : Le H (hp w)) {a0 : Go.L.Pv} {a1 : List UInt8} {v0_0 : Value} {v0_1 : Value} {v0_2 : Value} (h0_0 : Vec .byte H v0_0 (a0.f.2.2.1)) (h0_1 : Vec .st H v0_1 (a0.f.2.2.2.1)) (h0_2 : Vec .tree H v0_2 (a0.f.2.2.2.2)) {r : (List ((List UInt8) × Int × Int × (List UInt8)))} (h : self a0 a1 = some r), Ok Tryz.prog 56 [.agg #[.int .i64 a0.f.1, .int .i64 a0.f.2.1, v0_0, v0_1, v0_2], .string ⟨(a1).toArray⟩] w (fun v w' => Ext w w' ∧ ∃ u0, v = u0 ∧ OwnH 73 (.pair .st (.pair (.int .i64) (.pair (.int .i64) .st))) H w w' u0 (r))) (w : World) (H : PH) (hH : Le H (hp w)) {a0 : Go.L.Pv} {a1 : List UInt8} {v0_0 : Value} {v0_1 : Value} {v0_2 : Value} (h0_0 : Vec .byte H v0_0 (a0.f.2.2.1)) (h0_1 : Vec .st H v0_1 (a0.f.2.2.2.1)) (h0_2 : Vec .tree H v0_2 (a0.f.2.2.2.2)) {r : (List ((List UInt8) × Int × Int × (List UInt8)))} (h : ref4_Leaves_body self a0 a1 = some r) :
  Ok Tryz.prog 56 [.agg #[.int .i64 a0.f.1, .int .i64 a0.f.2.1, v0_0, v0_1, v0_2], .string ⟨(a1).toArray⟩] w (fun v w' => Ext w w' ∧ ∃ u0, v = u0 ∧ OwnH 73 (.pair .st (.pair (.int .i64) (.pair (.int .i64) .st))) H w w' u0 (r)) := by
 refine Ok_enter (n := 49) [(0, .agg #[.int .i64 a0.f.1, .int .i64 a0.f.2.1, v0_0, v0_1, v0_2]), (1, .string ⟨(a1).toArray⟩)] func56 rfl rfl rfl rfl rfl ?_;have hL := Lcl.start w;refine W_seqr ?_;refine S_box (t := 38) rfl rfl rfl hL ?_;intro w1 b1 hL1 hle1 _;refine S_pz 1 rfl ?_;refine W_p 1 rfl ?_;refine S_v (r_field rfl underlying38 rfl zr3 (by decide)) rfl ?_;refine S_v (r_loadB1 0 rfl underlying3 rfl hL1 rfl rfl) rfl ?_;refine S_v (r_field rfl underlying38 rfl zr3 (by decide)) rfl ?_;refine S_v (r_loadB1 0 rfl underlying3 rfl hL1 rfl rfl) rfl ?_;refine S_v (r_field rfl underlying38 rfl zr35 (by decide)) rfl ?_;refine S_v (r_loadB1 0 rfl underlying35 rfl hL1 rfl rfl) rfl ?_;refine S_v (r_str rfl underlying35 underlying5 underlying9 h0_0 (hH.trans hL1.arg)) rfl ?_;refine S_v (r_build rfl (fun _ => bld73_0_1_2_3 _ rfl _ _ _ rfl _)) rfl ?_;refine S_litO (r := (.pair .st (.pair (.int .i64) (.pair (.int .i64) .st)))) (l := [(a1, a0.f.1, a0.f.2.1, a0.f.2.2.1)]) rfl (fun _ => bsl67_1 _ _ _ _ _) rfl (show 1 ≤ 9223372036854775807 by decide) hH hL1 (.c4 ⟨_, _, rfl, rfl, ⟨_, _, rfl, rfl, ⟨_, _, rfl, rfl, rfl⟩⟩⟩ .nil) ?_;intro v2 w2 xs2 hL2 hle2 he2;refine S_pz 1 rfl ?_
 refine W_cut (σ := (List ((List UInt8) × Int × Int × (List UInt8))) × Value × (List Value)) (fun ⟨l56, vl56, xsl56⟩ => [(5, vl56)]) (fun ⟨l56, vl56, xsl56⟩ wr => InO w [.row (vl56) 73 4 (l56).length (xsl56), .box b1 [.int .i64 a0.f.1, .int .i64 a0.f.2.1, v0_0, v0_1, v0_2] 38] wr fun Oz => Elems (.pair .st (.pair (.int .i64) (.pair (.int .i64) .st))) (gz H w wr Oz) (l56) (xsl56) ∧ ref4_Leaves_body_k1 l56 = some r) ?_ ?_
 ·refine W_pz 1 rfl ?_;refine W_block ?_;obtain ⟨n86, h⟩ := Go.L.run_some h;refine W_loop (σ := (List ((List UInt8) × Int × Int × (List UInt8))) × Int × Value × (List Value) × Nat) (fun ⟨l84, s6_85, vl84, xsl84, n⟩ => [(1, .string ⟨(a1).toArray⟩), (2, .pointer (some ⟨b1, 0, none⟩)), (5, vl84), (6, .int .i64 s6_85)]) (fun ⟨l84, s6_85, vl84, xsl84, n⟩ wr => InO w [.row (vl84) 73 4 (l84).length (xsl84), .box b1 [.int .i64 a0.f.1, .int .i64 a0.f.2.1, v0_0, v0_1, v0_2] 38] wr fun Oz => Elems (.pair .st (.pair (.int .i64) (.pair (.int .i64) .st))) (gz H w wr Oz) (l84) (xsl84) ∧ Go.L.itr (ref4_Leaves_body_bl2 a0 a1 self) n (l84, s6_85) = some r) (fun ⟨l84, s6_85, vl84, xsl84, n⟩ => n) ([(a1, a0.f.1, a0.f.2.1, a0.f.2.2.1)], (0 : Int), v2, xs2, n86) (.cons rfl (.cons rfl (.cons rfl (.cons rfl (Sub.nil _))))) ⟨hL2, he2, h⟩ ?_;rintro ⟨l84, s6_85, vl84, xsl84, nn86⟩ wr86 ⟨hL86, hel84, h⟩;obtain ⟨n86, e86, rfl, h, hm86⟩ := Go.L.itr_some h;refine W_seq ?_;refine W_p 1 rfl ?_;refine S_v (r_field rfl underlying38 rfl zr36 (by decide)) rfl ?_;refine S_v (r_loadB1 1 rfl underlying36 rfl hL86 rfl rfl) rfl ?_;refine S_v (r_len rfl underlying36 h0_2) rfl ?_;refine S_pz 1 rfl ?_;refine W_if rfl (fun hc88 => ?_) (fun hc88 => ?_)
  ·replace h := Go.L.ite_p hc88 h;refine W_skip ?_;refine At_seq ?_;refine W_seq ?_;refine W_block ?_;refine W_pz 1 rfl ?_;refine W_cut (σ := (List UInt8)) (fun s7_96 => [(1, .string ⟨(a1).toArray⟩), (2, .pointer (some ⟨b1, 0, none⟩)), (5, vl84), (6, .int .i64 s6_85), (7, .string ⟨(s7_96).toArray⟩)]) (fun s7_96 wr => InO w [.row (vl84) 73 4 (l84).length (xsl84), .box b1 [.int .i64 a0.f.1, .int .i64 a0.f.2.1, v0_0, v0_1, v0_2] 38] wr fun Oz => Elems (.pair .st (.pair (.int .i64) (.pair (.int .i64) .st))) (gz H w wr Oz) (l84) (xsl84) ∧ (ref4_Leaves_body_k3 a0 a1 l84 s6_85 self) s7_96 = some e86) ?_ ?_
   ·refine W_seqr ?_;refine S_v (r_field rfl underlying38 rfl zr3 (by decide)) rfl ?_;refine S_v (r_loadB1 1 rfl underlying3 rfl hL86 rfl rfl) rfl ?_;refine S_pz 1 rfl ?_;refine W_if rfl (fun hc99 => ?_) (fun hc99 => ?_)
    ·replace h := Go.L.ite_p hc99 h;refine W_region ?_;refine S_v (r_field rfl underlying38 rfl zr30 (by decide)) rfl ?_;refine S_v (r_loadB1 1 rfl underlying30 rfl hL86 rfl rfl) rfl ?_;refine S_pu 1 rfl ?_;obtain ⟨hk102, h⟩ := Go.L.chk_some h;refine S_index rfl rfl underlying30 zr9 h0_1 s6_85.toNat (Int.toNat_of_nonneg hk102.1).symm (idx_lt hk102) rfl ?_;rintro p101 _ rfl hp101;refine S_v (r_load1 rfl underlying9 rfl hp101 (hH.trans hL86.arg)) rfl ?_;refine S_pu 1 rfl ?_;refine S_nil ?_;refine At_cut (a0.f.2.2.2.1.getD s6_85.toNat default) (.cons rfl (.cons rfl (.cons rfl (.cons rfl (.cons rfl (Sub.nil _)))))) ⟨hL86, hel84, h⟩
    ·replace h := Go.L.ite_n hc99 h;refine W_skip ?_;refine At_cut ([35] : List UInt8) (.cons rfl (.cons rfl (.cons rfl (.cons rfl (.cons rfl (Sub.nil _)))))) ⟨hL86, hel84, h⟩
   ·rintro s7_96 wr97 ⟨hL97, hel84, h⟩;refine W_cut (σ := (List UInt8)) (fun s7_111 => [(1, .string ⟨(a1).toArray⟩), (2, .pointer (some ⟨b1, 0, none⟩)), (5, vl84), (6, .int .i64 s6_85), (7, .string ⟨(s7_111).toArray⟩)]) (fun s7_111 wr => InO w [.row (vl84) 73 4 (l84).length (xsl84), .box b1 [.int .i64 a0.f.1, .int .i64 a0.f.2.1, v0_0, v0_1, v0_2] 38] wr fun Oz => Elems (.pair .st (.pair (.int .i64) (.pair (.int .i64) .st))) (gz H w wr Oz) (l84) (xsl84) ∧ (ref4_Leaves_body_k4 a0 l84 s6_85 self) s7_111 = some e86) ?_ ?_
    ·refine W_p 1 rfl ?_;refine S_v (r_sne rfl rfl) rfl ?_;refine S_seqnil ?_;refine W_ifn rfl (fun hc114 => ?_) (fun hc114 => ?_)
     ·replace h := Go.L.ite_n hc114 h;refine W_region ?_;refine S_pu 1 rfl ?_;obtain ⟨hk116, h⟩ := Go.L.chk_some h;refine S_v (r_cat rfl rfl hk116) rfl ?_;refine S_pu 1 rfl ?_;obtain ⟨hk117, h⟩ := Go.L.chk_some h;refine S_v (r_cat rfl rfl hk117) rfl ?_;refine S_pu 1 rfl ?_;refine S_nil ?_;refine At_cut ((a1 ++ ([47] : List UInt8)) ++ s7_96) (.cons rfl (.cons rfl (.cons rfl (.cons rfl (.cons rfl (Sub.nil _)))))) ⟨hL97, hel84, h⟩
     ·replace h := Go.L.ite_p hc114 h;refine W_skip ?_;refine At_cut s7_96 (.cons rfl (.cons rfl (.cons rfl (.cons rfl (.cons rfl (Sub.nil _)))))) ⟨hL97, hel84, h⟩
    ·rintro s7_111 wr112 ⟨hL112, hel84, h⟩;refine W_region ?_;refine S_pu 1 rfl ?_;refine S_v (r_field rfl underlying38 rfl zr36 (by decide)) rfl ?_;refine S_v (r_loadB1 1 rfl underlying36 rfl hL112 rfl rfl) rfl ?_;refine S_pu 1 rfl ?_;obtain ⟨hk121, h⟩ := Go.L.chk_some h;refine S_index rfl rfl underlying36 zr38 h0_2 s6_85.toNat (Int.toNat_of_nonneg hk121.1).symm (idx_lt hk121) rfl ?_;rintro p120 _ e120t0 hp120;obtain ⟨_, _, rfl, rfl, ⟨_, _, rfl, rfl, ⟨_, _, rfl, ⟨e120v2, rfl, e120h2⟩, ⟨_, _, rfl, ⟨e120v3, rfl, e120h3⟩, ⟨e120v4, rfl, e120h4⟩⟩⟩⟩⟩ := Go.E.Rp.tree_open e120t0;refine S_v (r_loadN rfl underlying38 rfl zr38 hp120 (hH.trans hL112.arg)) rfl ?_;refine S_pu 1 rfl ?_;obtain ⟨x122, hb122, h⟩ := Go.L.bind_some h;refine S_callL rfl rfl hL112 (hself _ _ (gz_le hH hL112) (e120h2.mono (gz_left hH)) (e120h3.mono (gz_left hH)) (e120h4.mono (gz_left hH)) hb122) ?_;rintro u123_0 w123 ⟨_, rfl, hR123_0⟩ hx123 hL123 hle123;have hv123_0 := hR123_0.vecG hH hL112 hx123;replace hel84 := hel84.mono (gz_mono hH hle123);obtain ⟨hk125, h⟩ := Go.L.chk_some h;refine S_appE (r := (.pair .st (.pair (.int .i64) (.pair (.int .i64) .st)))) (l := l84) (m := x122) 0 rfl rfl underlying67 zr73 rfl (by decide) rfl hH hL123 rfl hel84 hv123_0 hk125 ?_;intro v124 w124 xs124 hL124 hle124 he124;replace hv123_0 := hv123_0.mono (gz_mono hH hle124);refine S_pu 1 rfl ?_;refine S_nil ?_;refine At_block ?_;refine At_seq ?_;refine W_region ?_;refine S_pu 1 rfl ?_;obtain ⟨hk126, h⟩ := Go.L.chk_some h
     refine S_v (r_ar64 rfl rfl rfl hk126) rfl ?_;refine S_pu 1 rfl ?_;refine S_nil ?_;have h := Go.L.Nxt.again h hm86;refine At_round ((l84 ++ x122), (s6_85 + (1 : Int)), v124, xs124, n86) (.cons rfl (.cons rfl (.cons rfl (.cons rfl (Sub.nil _))))) ⟨hL124, he124, h⟩ (Nat.lt_succ_self _)
  ·replace h := Go.L.ite_n hc88 h;refine W_exit ?_;refine At_seq_exit ?_;refine At_loop_exit ?_;replace h := Go.L.Nxt.out h hm86;refine At_exit ?_;refine At_cut (l84, vl84, xsl84) (.cons rfl (Sub.nil _)) ⟨hL86, hel84, h⟩
 ·rintro ⟨l56, vl56, xsl56⟩ wr57 ⟨hL57, hel56, h⟩;refine W_pz 2 rfl ?_;refine W_ret ?_;obtain rfl := Option.some.inj h;refine At_body rfl rfl ?_;exact ⟨hL57.ext, _, rfl, (hL57.ownH hH (i := 0) rfl hel56)⟩
theorem ref4_Leaves_n_ok (n : Nat) : ∀ (w : World) (H : PH) (hH : Le H (hp w)) {a0 : Go.L.Pv} {a1 : List UInt8} {v0_0 : Value} {v0_1 : Value} {v0_2 : Value} (h0_0 : Vec .byte H v0_0 (a0.f.2.2.1)) (h0_1 : Vec .st H v0_1 (a0.f.2.2.2.1)) (h0_2 : Vec .tree H v0_2 (a0.f.2.2.2.2)) {r : (List ((List UInt8) × Int × Int × (List UInt8)))} (h : ref4_Leaves_n n a0 a1 = some r), Ok Tryz.prog 56 [.agg #[.int .i64 a0.f.1, .int .i64 a0.f.2.1, v0_0, v0_1, v0_2], .string ⟨(a1).toArray⟩] w (fun v w' => Ext w w' ∧ ∃ u0, v = u0 ∧ OwnH 73 (.pair .st (.pair (.int .i64) (.pair (.int .i64) .st))) H w w' u0 (r)) := by
 induction n with
 | zero => intros; rename_i h; cases h
 | succ n ih => exact @ref4_Leaves_body_ok (ref4_Leaves_n n) ih
theorem ref4_Leaves_ok (w : World) (H : PH) (hH : Le H (hp w)) {a0 : Go.L.Pv} {a1 : List UInt8} {v0_0 : Value} {v0_1 : Value} {v0_2 : Value} (h0_0 : Vec .byte H v0_0 (a0.f.2.2.1)) (h0_1 : Vec .st H v0_1 (a0.f.2.2.2.1)) (h0_2 : Vec .tree H v0_2 (a0.f.2.2.2.2)) {r : (List ((List UInt8) × Int × Int × (List UInt8)))} (h : ref4_Leaves a0 a1 = some r) : Ok Tryz.prog 56 [.agg #[.int .i64 a0.f.1, .int .i64 a0.f.2.1, v0_0, v0_1, v0_2], .string ⟨(a1).toArray⟩] w (fun v w' => Ext w w' ∧ ∃ u0, v = u0 ∧ OwnH 73 (.pair .st (.pair (.int .i64) (.pair (.int .i64) .st))) H w w' u0 (r)) := ref4_Leaves_n_ok 1000 w H hH h0_0 h0_1 h0_2 h
noncomputable def ref4_Before (a0 : (List UInt8) × Int × Int × (List UInt8)) (a1 : (List UInt8) × Int × Int × (List UInt8)) : Option (Bool) :=
 if a0.1 = a1.1 then (if a0.2.1 = a1.2.1 then (if a0.2.2.1 = a1.2.2.1 then some (Op.bytesLess a0.2.2.2 a1.2.2.2) else some (decide (a0.2.2.1 < a1.2.2.1))) else some (decide (a0.2.1 < a1.2.1))) else some (Op.bytesLess a0.1 a1.1)
theorem ref4_Before_ok (w : World) (H : PH) (_hH : Le H (hp w)) {a0 : (List UInt8) × Int × Int × (List UInt8)} {a1 : (List UInt8) × Int × Int × (List UInt8)}   {r : Bool} (h : ref4_Before a0 a1 = some r) :
  Ok Tryz.prog 79 [.agg #[.string ⟨(a0.1).toArray⟩, .int .i64 a0.2.1, .int .i64 a0.2.2.1, .string ⟨(a0.2.2.2).toArray⟩], .agg #[.string ⟨(a1.1).toArray⟩, .int .i64 a1.2.1, .int .i64 a1.2.2.1, .string ⟨(a1.2.2.2).toArray⟩]] w (fun v w' => Ext w w' ∧ v = .bool r) := by
 refine Ok_enter (n := 40) [(0, .agg #[.string ⟨(a0.1).toArray⟩, .int .i64 a0.2.1, .int .i64 a0.2.2.1, .string ⟨(a0.2.2.2).toArray⟩]), (1, .agg #[.string ⟨(a1.1).toArray⟩, .int .i64 a1.2.1, .int .i64 a1.2.2.1, .string ⟨(a1.2.2.2).toArray⟩])] func79 rfl rfl rfl rfl rfl ?_;have hL := Lcl.start w;refine W_seqr ?_;refine S_box (t := 73) rfl rfl rfl hL ?_;intro w1 b1 hL1 hle1 _;refine S_box (t := 73) rfl rfl rfl hL1 ?_;intro w2 b2 hL2 hle2 _;refine S_pz 1 rfl ?_;refine W_seq ?_;refine W_seqr ?_;refine S_v (r_field rfl underlying73 rfl zr9 (by decide)) rfl ?_;refine S_v (r_loadB1 1 rfl underlying9 rfl hL2 rfl rfl) rfl ?_;refine S_v (r_field rfl underlying73 rfl zr9 (by decide)) rfl ?_;refine S_v (r_loadB1 0 rfl underlying9 rfl hL2 rfl rfl) rfl ?_;refine S_v (r_sne rfl rfl) rfl ?_;refine S_seqnil ?_;refine W_ifn rfl (fun hc3 => ?_) (fun hc3 => ?_)
 ·replace h := Go.L.ite_n hc3 h;refine W_seqr ?_;refine S_v (r_field rfl underlying73 rfl zr9 (by decide)) rfl ?_;refine S_v (r_loadB1 1 rfl underlying9 rfl hL2 rfl rfl) rfl ?_;refine S_v (r_field rfl underlying73 rfl zr9 (by decide)) rfl ?_;refine S_v (r_loadB1 0 rfl underlying9 rfl hL2 rfl rfl) rfl ?_;refine S_v (r_slt rfl rfl) rfl ?_;refine S_pz 1 rfl ?_;refine W_ret ?_;refine At_seq_ret ?_;obtain rfl := Option.some.inj h;refine At_body rfl rfl ?_;exact ⟨hL2.ext, rfl⟩
 ·replace h := Go.L.ite_p hc3 h;refine W_skip ?_;refine At_seq ?_;refine W_seq ?_;refine W_seqr ?_;refine S_v (r_field rfl underlying73 rfl zr3 (by decide)) rfl ?_;refine S_v (r_loadB1 1 rfl underlying3 rfl hL2 rfl rfl) rfl ?_;refine S_v (r_field rfl underlying73 rfl zr3 (by decide)) rfl ?_;refine S_v (r_loadB1 0 rfl underlying3 rfl hL2 rfl rfl) rfl ?_;refine S_pz 1 rfl ?_;refine W_ifn rfl (fun hc6 => ?_) (fun hc6 => ?_)
  ·replace h := Go.L.ite_n hc6 h;refine W_seqr ?_;refine S_v (r_field rfl underlying73 rfl zr3 (by decide)) rfl ?_;refine S_v (r_loadB1 1 rfl underlying3 rfl hL2 rfl rfl) rfl ?_;refine S_v (r_field rfl underlying73 rfl zr3 (by decide)) rfl ?_;refine S_v (r_loadB1 0 rfl underlying3 rfl hL2 rfl rfl) rfl ?_;refine S_pz 2 rfl ?_;refine W_ret ?_;refine At_seq_ret ?_;obtain rfl := Option.some.inj h;refine At_body rfl rfl ?_;exact ⟨hL2.ext, rfl⟩
  ·replace h := Go.L.ite_p hc6 h;refine W_skip ?_;refine At_seq ?_;refine W_seq ?_;refine W_seqr ?_;refine S_v (r_field rfl underlying73 rfl zr3 (by decide)) rfl ?_;refine S_v (r_loadB1 1 rfl underlying3 rfl hL2 rfl rfl) rfl ?_;refine S_v (r_field rfl underlying73 rfl zr3 (by decide)) rfl ?_;refine S_v (r_loadB1 0 rfl underlying3 rfl hL2 rfl rfl) rfl ?_;refine S_pz 1 rfl ?_;refine W_ifn rfl (fun hc9 => ?_) (fun hc9 => ?_)
   ·replace h := Go.L.ite_n hc9 h;refine W_seqr ?_;refine S_v (r_field rfl underlying73 rfl zr3 (by decide)) rfl ?_;refine S_v (r_loadB1 1 rfl underlying3 rfl hL2 rfl rfl) rfl ?_;refine S_v (r_field rfl underlying73 rfl zr3 (by decide)) rfl ?_;refine S_v (r_loadB1 0 rfl underlying3 rfl hL2 rfl rfl) rfl ?_;refine S_pz 2 rfl ?_;refine W_ret ?_;refine At_seq_ret ?_;obtain rfl := Option.some.inj h;refine At_body rfl rfl ?_;exact ⟨hL2.ext, rfl⟩
   ·replace h := Go.L.ite_p hc9 h;refine W_skip ?_;refine At_seq ?_;refine W_seqr ?_;refine S_v (r_field rfl underlying73 rfl zr9 (by decide)) rfl ?_;refine S_v (r_loadB1 1 rfl underlying9 rfl hL2 rfl rfl) rfl ?_;refine S_v (r_field rfl underlying73 rfl zr9 (by decide)) rfl ?_;refine S_v (r_loadB1 0 rfl underlying9 rfl hL2 rfl rfl) rfl ?_;refine S_v (r_slt rfl rfl) rfl ?_;refine S_pz 1 rfl ?_;refine W_ret ?_;obtain rfl := Option.some.inj h;refine At_body rfl rfl ?_;exact ⟨hL2.ext, rfl⟩
noncomputable def ref4_HasLeaf_k1 : Option (Bool) :=
 some (false)
noncomputable def ref4_HasLeaf_bl2 (a0 : List ((List UInt8) × Int × Int × (List UInt8))) (a1 : (List UInt8) × Int × Int × (List UInt8)) : Int → Option ((Int) ⊕ (Bool)) := fun s5_48 =>
 if s5_48 < (a0.length : Int) then Go.L.chk (0 ≤ s5_48 ∧ s5_48 < (a0.length : Int)) (if (a0.getD s5_48.toNat default).1 = a1.1 ∧ (a0.getD s5_48.toNat default).2.1 = a1.2.1 ∧ (a0.getD s5_48.toNat default).2.2.1 = a1.2.2.1 ∧ (a0.getD s5_48.toNat default).2.2.2 = a1.2.2.2 then Option.map Sum.inr (some (true)) else Go.L.chk (Go.L.I64 (s5_48 + (1 : Int))) (some (Sum.inl (s5_48 + (1 : Int))))) else Option.map Sum.inr (ref4_HasLeaf_k1)
noncomputable def ref4_HasLeaf_l2 (a0 : List ((List UInt8) × Int × Int × (List UInt8))) (a1 : (List UInt8) × Int × Int × (List UInt8)) (s : Int) : Option (Bool) := Go.L.run (ref4_HasLeaf_bl2 a0 a1) s
noncomputable def ref4_HasLeaf (a0 : List ((List UInt8) × Int × Int × (List UInt8))) (a1 : (List UInt8) × Int × Int × (List UInt8)) : Option (Bool) :=
 (ref4_HasLeaf_l2 a0 a1) (0 : Int)
theorem ref4_HasLeaf_ok (w : World) (H : PH) (hH : Le H (hp w)) {a0 : List ((List UInt8) × Int × Int × (List UInt8))} {a1 : (List UInt8) × Int × Int × (List UInt8)} {v0_0 : Value} (h0_0 : Vec (.pair .st (.pair (.int .i64) (.pair (.int .i64) .st))) H v0_0 (a0)) {r : Bool} (h : ref4_HasLeaf a0 a1 = some r) :
  Ok Tryz.prog 66 [v0_0, .agg #[.string ⟨(a1.1).toArray⟩, .int .i64 a1.2.1, .int .i64 a1.2.2.1, .string ⟨(a1.2.2.2).toArray⟩]] w (fun v w' => Ext w w' ∧ v = .bool r) := by
 refine Ok_enter (n := 18) [(0, v0_0), (1, .agg #[.string ⟨(a1.1).toArray⟩, .int .i64 a1.2.1, .int .i64 a1.2.2.1, .string ⟨(a1.2.2.2).toArray⟩])] func66 rfl rfl rfl rfl rfl ?_;have hL := Lcl.start w;refine W_seqr ?_;refine S_box (t := 73) rfl rfl rfl hL ?_;intro w1 b1 hL1 hle1 _;refine S_pz 1 rfl ?_;refine W_cut (σ := Unit) (fun (_ : Unit) => []) (fun (_ : Unit) wr => Lcl w [.box b1 [.string ⟨(a1.1).toArray⟩, .int .i64 a1.2.1, .int .i64 a1.2.2.1, .string ⟨(a1.2.2.2).toArray⟩] 73] wr ∧ ref4_HasLeaf_k1 = some r) ?_ ?_
 ·refine W_pz 1 rfl ?_;refine W_block ?_;obtain ⟨n49, h⟩ := Go.L.run_some h;refine W_loop (σ := Int × Nat) (fun ⟨s5_48, n⟩ => [(0, v0_0), (3, .pointer (some ⟨b1, 0, none⟩)), (5, .int .i64 s5_48)]) (fun ⟨s5_48, n⟩ wr => Lcl w [.box b1 [.string ⟨(a1.1).toArray⟩, .int .i64 a1.2.1, .int .i64 a1.2.2.1, .string ⟨(a1.2.2.2).toArray⟩] 73] wr ∧ Go.L.itr (ref4_HasLeaf_bl2 a0 a1) n s5_48 = some r) (fun ⟨s5_48, n⟩ => n) ((0 : Int), n49) (.cons rfl (.cons rfl (.cons rfl (Sub.nil _)))) ⟨hL1, h⟩ ?_;rintro ⟨s5_48, nn49⟩ wr49 ⟨hL49, h⟩;obtain ⟨n49, e49, rfl, h, hm49⟩ := Go.L.itr_some h;refine W_seq ?_;refine W_p 2 rfl ?_;refine S_v (r_len rfl underlying67 h0_0) rfl ?_;refine S_pz 1 rfl ?_;refine W_if rfl (fun hc51 => ?_) (fun hc51 => ?_)
  ·replace h := Go.L.ite_p hc51 h;refine W_skip ?_;refine At_seq ?_;refine W_seq ?_;refine W_block ?_;refine W_seqd (.q 0 (.q 1 (.q 2 (.q 3 (.q 4 (.q 5 (.tail 6))))))) mixed (by kernel_rfl) (fun w53 hx53 => ?_);have hL54 := hL49.call hx53;refine D_pu 2 rfl ?_;obtain ⟨hk56, h⟩ := Go.L.chk_some h;refine D_index rfl rfl rfl underlying67 zr73 h0_0 s5_48.toNat (Int.toNat_of_nonneg hk56.1).symm (idx_lt hk56) rfl ?_;rintro p55 _ ⟨_, _, rfl, rfl, ⟨_, _, rfl, rfl, ⟨_, _, rfl, rfl, rfl⟩⟩⟩ hp55;refine D_v (r_loadN rfl underlying73 rfl zr73 hp55 (hH.trans hL54.arg)) rfl rfl ?_;refine D_v (r_loadBN 0 rfl underlying73 rfl zr73 hL54 rfl) rfl rfl ?_;refine D_v (r_eqA rfl rfl eqg73 (eq73 _ _ _ _ _ _ _ _ )) rfl rfl ?_;refine D_tail (fun w57 hx57 => ?_);have hL58 := hL54.call hx57;refine S_seqnil ?_;refine W_if rfl (fun hc59 => ?_) (fun hc59 => ?_)
   ·replace h := Go.L.ite_p hc59 h;refine W_pz 1 rfl ?_;refine W_ret ?_;refine At_block_ret ?_;refine At_seq_ret ?_;refine At_loop_ret ?_;replace h := Go.L.Nxt.out h hm49;refine At_block_ret ?_;refine At_cut_ret ?_;obtain rfl := Option.some.inj h;refine At_body rfl rfl ?_;exact ⟨hL58.ext, rfl⟩
   ·replace h := Go.L.ite_n hc59 h;refine W_skip ?_;refine At_block ?_;refine At_seq ?_;refine W_region ?_;refine S_pu 1 rfl ?_;obtain ⟨hk62, h⟩ := Go.L.chk_some h;refine S_v (r_ar64 rfl rfl rfl hk62) rfl ?_;refine S_pu 1 rfl ?_;refine S_nil ?_;have h := Go.L.Nxt.again h hm49;refine At_round ((s5_48 + (1 : Int)), n49) (.cons rfl (.cons rfl (.cons rfl (Sub.nil _)))) ⟨hL58, h⟩ (Nat.lt_succ_self _)
  ·replace h := Go.L.ite_n hc51 h;refine W_exit ?_;refine At_seq_exit ?_;refine At_loop_exit ?_;replace h := Go.L.Nxt.out h hm49;refine At_exit ?_;refine At_cut () (Sub.nil _) ⟨hL49, h⟩
 ·rintro _ wr32 ⟨hL32, h⟩;refine W_pz 1 rfl ?_;refine W_ret ?_;obtain rfl := Option.some.inj h;refine At_body rfl rfl ?_;exact ⟨hL32.ext, rfl⟩
noncomputable def ref4_AllLeaves_k5 (s6_375 : Int) (l455 : List ((List UInt8) × Int × Int × (List UInt8))) : Option (((List ((List UInt8) × Int × Int × (List UInt8))) × Int) ⊕ (((List ((List UInt8) × Int × Int × (List UInt8))) × Int) ⊕ ((List ((List UInt8) × Int × Int × (List UInt8)))))) :=
 Go.L.chk (Go.L.I64 (s6_375 + (1 : Int))) (some (Sum.inl (l455, (s6_375 + (1 : Int)))))
noncomputable def ref4_AllLeaves_bl6 (s6_375 : Int) : (List ((List UInt8) × Int × Int × (List UInt8))) × Int → Option (((List ((List UInt8) × Int × Int × (List UInt8))) × Int) ⊕ (((List ((List UInt8) × Int × Int × (List UInt8))) × Int) ⊕ (((List ((List UInt8) × Int × Int × (List UInt8))) × Int) ⊕ ((List ((List UInt8) × Int × Int × (List UInt8))))))) := fun ⟨l531, s7_532⟩ =>
 if (0 : Int) < s7_532 then Go.L.chk (0 ≤ s7_532 ∧ s7_532 < (l531.length : Int)) (Go.L.chk (Go.L.I64 (s7_532 - (1 : Int))) (Go.L.chk (0 ≤ (s7_532 - (1 : Int)) ∧ (s7_532 - (1 : Int)) < (l531.length : Int)) (Option.bind (ref4_Before ((l531.getD s7_532.toNat default).1, (l531.getD s7_532.toNat default).2.1, (l531.getD s7_532.toNat default).2.2.1, (l531.getD s7_532.toNat default).2.2.2) ((l531.getD ((s7_532 - (1 : Int)).toNat) default).1, (l531.getD ((s7_532 - (1 : Int)).toNat) default).2.1, (l531.getD ((s7_532 - (1 : Int)).toNat) default).2.2.1, (l531.getD ((s7_532 - (1 : Int)).toNat) default).2.2.2)) (fun x544 => if x544 then Go.L.chk (Go.L.I64 (s7_532 - (1 : Int))) (Go.L.chk (Go.L.I64 (s7_532 - (1 : Int))) (Go.L.chk (0 ≤ (s7_532 - (1 : Int)) ∧ (s7_532 - (1 : Int)) < (l531.length : Int)) (Go.L.chk (0 ≤ s7_532 ∧ s7_532 < (l531.length : Int)) (Go.L.chk (0 ≤ s7_532 ∧ s7_532 < (l531.length : Int)) (Go.L.chk (0 ≤ (s7_532 - (1 : Int)) ∧ (s7_532 - (1 : Int)) < ((l531.set s7_532.toNat ((l531.getD ((s7_532 - (1 : Int)).toNat) default).1, (l531.getD ((s7_532 - (1 : Int)).toNat) default).2.1, (l531.getD ((s7_532 - (1 : Int)).toNat) default).2.2.1, (l531.getD ((s7_532 - (1 : Int)).toNat) default).2.2.2)).length : Int)) (Go.L.chk (Go.L.I64 (s7_532 - (1 : Int))) (some (Sum.inl (((l531.set s7_532.toNat ((l531.getD ((s7_532 - (1 : Int)).toNat) default).1, (l531.getD ((s7_532 - (1 : Int)).toNat) default).2.1, (l531.getD ((s7_532 - (1 : Int)).toNat) default).2.2.1, (l531.getD ((s7_532 - (1 : Int)).toNat) default).2.2.2)).set ((s7_532 - (1 : Int)).toNat) ((l531.getD s7_532.toNat default).1, (l531.getD s7_532.toNat default).2.1, (l531.getD s7_532.toNat default).2.2.1, (l531.getD s7_532.toNat default).2.2.2)), (s7_532 - (1 : Int))))))))))) else Option.map Sum.inr ((ref4_AllLeaves_k5 s6_375) l531))))) else Option.map Sum.inr ((ref4_AllLeaves_k5 s6_375) l531)
noncomputable def ref4_AllLeaves_l6 (s6_375 : Int) (s : (List ((List UInt8) × Int × Int × (List UInt8))) × Int) : Option (((List ((List UInt8) × Int × Int × (List UInt8))) × Int) ⊕ (((List ((List UInt8) × Int × Int × (List UInt8))) × Int) ⊕ ((List ((List UInt8) × Int × Int × (List UInt8)))))) := Go.L.run (ref4_AllLeaves_bl6 s6_375) s
noncomputable def ref4_AllLeaves_k3 (s4_194 : Int) (l286 : List ((List UInt8) × Int × Int × (List UInt8))) : Option (((List ((List UInt8) × Int × Int × (List UInt8))) × Int) ⊕ ((List ((List UInt8) × Int × Int × (List UInt8))))) :=
 Go.L.chk (Go.L.I64 (s4_194 + (1 : Int))) (some (Sum.inl (l286, (s4_194 + (1 : Int)))))
noncomputable def ref4_AllLeaves_bl4 (s4_194 : Int) (x291 : (List ((List UInt8) × Int × Int × (List UInt8)))) : (List ((List UInt8) × Int × Int × (List UInt8))) × Int → Option (((List ((List UInt8) × Int × Int × (List UInt8))) × Int) ⊕ (((List ((List UInt8) × Int × Int × (List UInt8))) × Int) ⊕ ((List ((List UInt8) × Int × Int × (List UInt8)))))) := fun ⟨l374, s6_375⟩ =>
 if s6_375 < (x291.length : Int) then Go.L.chk (0 ≤ s6_375 ∧ s6_375 < (x291.length : Int)) (Option.bind (ref4_HasLeaf l374 ((x291.getD s6_375.toNat default).1, (x291.getD s6_375.toNat default).2.1, (x291.getD s6_375.toNat default).2.2.1, (x291.getD s6_375.toNat default).2.2.2)) (fun x460 => if x460 then (ref4_AllLeaves_k5 s6_375) l374 else Go.L.chk (0 ≤ s6_375 ∧ s6_375 < (x291.length : Int)) (Go.L.chk (Go.E.Cap 48 (l374.length + ([((x291.getD s6_375.toNat default).1, (x291.getD s6_375.toNat default).2.1, (x291.getD s6_375.toNat default).2.2.1, (x291.getD s6_375.toNat default).2.2.2)]).length)) (Go.L.chk (Go.L.I64 (((l374 ++ [((x291.getD s6_375.toNat default).1, (x291.getD s6_375.toNat default).2.1, (x291.getD s6_375.toNat default).2.2.1, (x291.getD s6_375.toNat default).2.2.2)]).length : Int) - (1 : Int))) ((ref4_AllLeaves_l6 s6_375) ((l374 ++ [((x291.getD s6_375.toNat default).1, (x291.getD s6_375.toNat default).2.1, (x291.getD s6_375.toNat default).2.2.1, (x291.getD s6_375.toNat default).2.2.2)]), (((l374 ++ [((x291.getD s6_375.toNat default).1, (x291.getD s6_375.toNat default).2.1, (x291.getD s6_375.toNat default).2.2.1, (x291.getD s6_375.toNat default).2.2.2)]).length : Int) - (1 : Int)))))))) else Option.map Sum.inr ((ref4_AllLeaves_k3 s4_194) l374)
noncomputable def ref4_AllLeaves_l4 (s4_194 : Int) (x291 : (List ((List UInt8) × Int × Int × (List UInt8)))) (s : (List ((List UInt8) × Int × Int × (List UInt8))) × Int) : Option (((List ((List UInt8) × Int × Int × (List UInt8))) × Int) ⊕ ((List ((List UInt8) × Int × Int × (List UInt8))))) := Go.L.run (ref4_AllLeaves_bl4 s4_194 x291) s
noncomputable def ref4_AllLeaves_k1 (l97 : List ((List UInt8) × Int × Int × (List UInt8))) : Option ((List ((List UInt8) × Int × Int × (List UInt8)))) :=
 some (l97)
noncomputable def ref4_AllLeaves_bl2 (a0 : List Go.L.Pv) : (List ((List UInt8) × Int × Int × (List UInt8))) × Int → Option (((List ((List UInt8) × Int × Int × (List UInt8))) × Int) ⊕ ((List ((List UInt8) × Int × Int × (List UInt8))))) := fun ⟨l193, s4_194⟩ =>
 if s4_194 < (a0.length : Int) then Go.L.chk (0 ≤ s4_194 ∧ s4_194 < (a0.length : Int)) (Option.bind (ref4_Leaves (a0.getD s4_194.toNat default) ([] : List UInt8)) (fun x291 => (ref4_AllLeaves_l4 s4_194 x291) (l193, (0 : Int)))) else Option.map Sum.inr (ref4_AllLeaves_k1 l193)
noncomputable def ref4_AllLeaves_l2 (a0 : List Go.L.Pv) (s : (List ((List UInt8) × Int × Int × (List UInt8))) × Int) : Option ((List ((List UInt8) × Int × Int × (List UInt8)))) := Go.L.run (ref4_AllLeaves_bl2 a0) s
noncomputable def ref4_AllLeaves (a0 : List Go.L.Pv) : Option ((List ((List UInt8) × Int × Int × (List UInt8)))) :=
 (ref4_AllLeaves_l2 a0) (([] : List ((List UInt8) × Int × Int × (List UInt8))), (0 : Int))
theorem ref4_AllLeaves_ok (w : World) (H : PH) (hH : Le H (hp w)) {a0 : List Go.L.Pv} {v0_0 : Value} (h0_0 : Vec .tree H v0_0 (a0)) {r : (List ((List UInt8) × Int × Int × (List UInt8)))} (h : ref4_AllLeaves a0 = some r) :
  Ok Tryz.prog 64 [v0_0] w (fun v w' => Ext w w' ∧ ∃ u0, v = u0 ∧ OwnH 73 (.pair .st (.pair (.int .i64) (.pair (.int .i64) .st))) H w w' u0 (r)) := by
 refine Ok_enter (n := 74) [(0, v0_0)] func64 rfl rfl rfl rfl rfl ?_;have hL := Lcl.start w;refine W_pz 1 rfl ?_;refine W_p 1 rfl ?_;obtain ⟨hL1, hle1, he1⟩ := row_nilE (.pair .st (.pair (.int .i64) (.pair (.int .i64) .st))) H 73 hL;refine S_seqnil ?_;refine W_cut (σ := (List ((List UInt8) × Int × Int × (List UInt8))) × Value × (List Value)) (fun ⟨l97, vl97, xsl97⟩ => [(3, vl97)]) (fun ⟨l97, vl97, xsl97⟩ wr => InO w [.row (vl97) 73 4 (l97).length (xsl97)] wr fun Oz => Elems (.pair .st (.pair (.int .i64) (.pair (.int .i64) .st))) (gz H w wr Oz) (l97) (xsl97) ∧ ref4_AllLeaves_k1 l97 = some r) ?_ ?_
 ·refine W_pz 1 rfl ?_;refine W_block ?_;obtain ⟨n195, h⟩ := Go.L.run_some h;refine W_loop (σ := (List ((List UInt8) × Int × Int × (List UInt8))) × Int × Value × (List Value) × Nat) (fun ⟨l193, s4_194, vl193, xsl193, n⟩ => [(0, v0_0), (3, vl193), (4, .int .i64 s4_194)]) (fun ⟨l193, s4_194, vl193, xsl193, n⟩ wr => InO w [.row (vl193) 73 4 (l193).length (xsl193)] wr fun Oz => Elems (.pair .st (.pair (.int .i64) (.pair (.int .i64) .st))) (gz H w wr Oz) (l193) (xsl193) ∧ Go.L.itr (ref4_AllLeaves_bl2 a0) n (l193, s4_194) = some r) (fun ⟨l193, s4_194, vl193, xsl193, n⟩ => n) (([] : List ((List UInt8) × Int × Int × (List UInt8))), (0 : Int), .slice none 0 0, [], n195) (.cons rfl (.cons rfl (.cons rfl (Sub.nil _)))) ⟨hL1, he1, h⟩ ?_;rintro ⟨l193, s4_194, vl193, xsl193, nn195⟩ wr195 ⟨hL195, hel193, h⟩;obtain ⟨n195, e195, rfl, h, hm195⟩ := Go.L.itr_some h;refine W_seq ?_;refine W_p 2 rfl ?_;refine S_v (r_len rfl underlying36 h0_0) rfl ?_;refine S_pz 1 rfl ?_;refine W_if rfl (fun hc197 => ?_) (fun hc197 => ?_)
  ·replace h := Go.L.ite_p hc197 h;refine W_skip ?_;refine At_seq ?_;refine W_cut (σ := (List ((List UInt8) × Int × Int × (List UInt8))) × Value × (List Value)) (fun ⟨l286, vl286, xsl286⟩ => [(0, v0_0), (3, vl286), (4, .int .i64 s4_194)]) (fun ⟨l286, vl286, xsl286⟩ wr => InO w [.row (vl286) 73 4 (l286).length (xsl286)] wr fun Oz => Elems (.pair .st (.pair (.int .i64) (.pair (.int .i64) .st))) (gz H w wr Oz) (l286) (xsl286) ∧ (ref4_AllLeaves_k3 s4_194) l286 = some e195) ?_ ?_
   ·refine W_block ?_;refine W_p 2 rfl ?_;obtain ⟨hk290, h⟩ := Go.L.chk_some h;refine S_index rfl rfl underlying36 zr38 h0_0 s4_194.toNat (Int.toNat_of_nonneg hk290.1).symm (idx_lt hk290) rfl ?_;rintro p289 _ e289t0 hp289;obtain ⟨_, _, rfl, rfl, ⟨_, _, rfl, rfl, ⟨_, _, rfl, ⟨e289v2, rfl, e289h2⟩, ⟨_, _, rfl, ⟨e289v3, rfl, e289h3⟩, ⟨e289v4, rfl, e289h4⟩⟩⟩⟩⟩ := Go.E.Rp.tree_open e289t0;refine S_v (r_loadN rfl underlying38 rfl zr38 hp289 (hH.trans hL195.arg)) rfl ?_;obtain ⟨x291, hb291, h⟩ := Go.L.bind_some h;refine S_callL rfl rfl hL195 (ref4_Leaves_ok (a0 := (a0.getD s4_194.toNat default)) _ _ (gz_le hH hL195) (e289h2.mono (gz_left hH)) (e289h3.mono (gz_left hH)) (e289h4.mono (gz_left hH)) hb291) ?_;rintro u292_0 w292 ⟨_, rfl, hR292_0⟩ hx292 hL292 hle292;have hv292_0 := hR292_0.vecG hH hL195 hx292;replace hel193 := hel193.mono (gz_mono hH hle292);refine S_pz 1 rfl ?_;refine W_pz 1 rfl ?_;refine W_block ?_;obtain ⟨n376, h⟩ := Go.L.run_some h
    refine W_loop (σ := (List ((List UInt8) × Int × Int × (List UInt8))) × Int × Value × (List Value) × Nat) (fun ⟨l374, s6_375, vl374, xsl374, n⟩ => [(0, v0_0), (3, vl374), (4, .int .i64 s4_194), (5, u292_0), (6, .int .i64 s6_375)]) (fun ⟨l374, s6_375, vl374, xsl374, n⟩ wr => InO w [.row (vl374) 73 4 (l374).length (xsl374)] wr fun Oz => Vec (.pair .st (.pair (.int .i64) (.pair (.int .i64) .st))) (gz H w wr Oz) (u292_0) (x291) ∧ Elems (.pair .st (.pair (.int .i64) (.pair (.int .i64) .st))) (gz H w wr Oz) (l374) (xsl374) ∧ Go.L.itr (ref4_AllLeaves_bl4 s4_194 x291) n (l374, s6_375) = some e195) (fun ⟨l374, s6_375, vl374, xsl374, n⟩ => n) (l193, (0 : Int), vl193, xsl193, n376) (.cons rfl (.cons rfl (.cons rfl (.cons rfl (.cons rfl (Sub.nil _)))))) ⟨hL292, hv292_0, hel193, h⟩ ?_;rintro ⟨l374, s6_375, vl374, xsl374, nn376⟩ wr376 ⟨hL376, hf376_0, hel374, h⟩;obtain ⟨n376, e376, rfl, h, hm376⟩ := Go.L.itr_some h;refine W_seq ?_;refine W_p 2 rfl ?_;refine S_v (r_len rfl underlying67 hf376_0) rfl ?_;refine S_pz 1 rfl ?_;refine W_if rfl (fun hc378 => ?_) (fun hc378 => ?_)
    ·replace h := Go.L.ite_p hc378 h;refine W_skip ?_;refine At_seq ?_;refine W_cut (σ := (List ((List UInt8) × Int × Int × (List UInt8))) × Value × (List Value)) (fun ⟨l455, vl455, xsl455⟩ => [(0, v0_0), (3, vl455), (4, .int .i64 s4_194), (5, u292_0), (6, .int .i64 s6_375)]) (fun ⟨l455, vl455, xsl455⟩ wr => InO w [.row (vl455) 73 4 (l455).length (xsl455)] wr fun Oz => Vec (.pair .st (.pair (.int .i64) (.pair (.int .i64) .st))) (gz H w wr Oz) (u292_0) (x291) ∧ Elems (.pair .st (.pair (.int .i64) (.pair (.int .i64) .st))) (gz H w wr Oz) (l455) (xsl455) ∧ (ref4_AllLeaves_k5 s6_375) l455 = some e376) ?_ ?_
     ·refine W_block ?_;refine W_seq ?_;refine W_p 3 rfl ?_;obtain ⟨hk459, h⟩ := Go.L.chk_some h;refine S_index rfl rfl underlying67 zr73 hf376_0 s6_375.toNat (Int.toNat_of_nonneg hk459.1).symm (idx_lt hk459) rfl ?_;rintro p458 _ ⟨_, _, rfl, rfl, ⟨_, _, rfl, rfl, ⟨_, _, rfl, rfl, rfl⟩⟩⟩ hp458;refine S_v (r_loadN rfl underlying73 rfl zr73 hp458 (gz_le hH hL376)) rfl ?_;obtain ⟨x460, hb460, h⟩ := Go.L.bind_some h;refine S_callL rfl rfl hL376 (ref4_HasLeaf_ok (a1 := ((x291.getD s6_375.toNat default).1, (x291.getD s6_375.toNat default).2.1, (x291.getD s6_375.toNat default).2.2.1, (x291.getD s6_375.toNat default).2.2.2)) _ _ (Le.refl _) (hL376.vecN hH (i := 0) rfl hel374) hb460) ?_;rintro _ w461 rfl hx461 hL461 hle461;replace hf376_0 := hf376_0.mono (gz_mono hH hle461);replace hel374 := hel374.mono (gz_mono hH hle461);replace hp458 := hp458.mono (gz_mono hH hle461);refine S_seqnil ?_;refine W_cond rfl (fun hc462 => ?_) (fun hc462 => ?_)
      ·replace h := Go.L.ite_t hc462 h;refine W_exit ?_;refine At_seq_exit ?_;refine At_exit ?_;refine At_cut (l374, vl374, xsl374) (.cons rfl (.cons rfl (.cons rfl (.cons rfl (.cons rfl (Sub.nil _)))))) ⟨hL461, hf376_0, hel374, h⟩
      ·replace h := Go.L.ite_f hc462 h;refine W_skip ?_;refine At_seq ?_;refine W_p 3 rfl ?_;obtain ⟨hk466, h⟩ := Go.L.chk_some h;refine S_index rfl rfl underlying67 zr73 hf376_0 s6_375.toNat (Int.toNat_of_nonneg hk466.1).symm (idx_lt hk466) rfl ?_;rintro p465 _ ⟨_, _, rfl, rfl, ⟨_, _, rfl, rfl, ⟨_, _, rfl, rfl, rfl⟩⟩⟩ hp465;refine S_v (r_loadN rfl underlying73 rfl zr73 hp465 (gz_le hH hL461)) rfl ?_;refine S_litE (r := (.pair .st (.pair (.int .i64) (.pair (.int .i64) .st)))) (l := [((x291.getD s6_375.toNat default).1, (x291.getD s6_375.toNat default).2.1, (x291.getD s6_375.toNat default).2.2.1, (x291.getD s6_375.toNat default).2.2.2)]) rfl (fun _ => bsl67_1 _ _ _ _ _) rfl (show 1 ≤ 9223372036854775807 by decide) hH hL461 (.c4 ⟨_, _, rfl, rfl, ⟨_, _, rfl, rfl, ⟨_, _, rfl, rfl, rfl⟩⟩⟩ .nil) ?_;intro v467 w467 hx467 hL467 hle467 hv467;replace hf376_0 := hf376_0.mono (gz_mono hH hle467);replace hel374 := hel374.mono (gz_mono hH hle467);replace hp465 := hp465.mono (gz_mono hH hle467);obtain ⟨hk469, h⟩ := Go.L.chk_some h;refine S_appE (r := (.pair .st (.pair (.int .i64) (.pair (.int .i64) .st)))) (l := l374) (m := [((x291.getD s6_375.toNat default).1, (x291.getD s6_375.toNat default).2.1, (x291.getD s6_375.toNat default).2.2.1, (x291.getD s6_375.toNat default).2.2.2)]) 0 rfl rfl underlying67 zr73 rfl (by decide) rfl hH hL467 rfl hel374 hv467 hk469 ?_;intro v468 w468 xs468 hL468 hle468 he468;replace hf376_0 := hf376_0.mono (gz_mono hH hle468)
       replace hp465 := hp465.mono (gz_mono hH hle468);replace hv467 := hv467.mono (gz_mono hH hle468);refine S_pz 1 rfl ?_;refine W_p 1 rfl ?_;refine S_v (r_lenR (i := 0) rfl underlying67 hL468 rfl) rfl ?_;obtain ⟨hk470, h⟩ := Go.L.chk_some h;refine S_v (r_ar64 rfl rfl rfl hk470) rfl ?_;refine S_pz 1 rfl ?_;refine W_block ?_;obtain ⟨n533, h⟩ := Go.L.run_some h;refine W_loop (σ := (List ((List UInt8) × Int × Int × (List UInt8))) × Int × (List Value) × Nat) (fun ⟨l531, s7_532, xsl531, n⟩ => [(0, v0_0), (3, v468), (4, .int .i64 s4_194), (5, u292_0), (6, .int .i64 s6_375), (7, .int .i64 s7_532)]) (fun ⟨l531, s7_532, xsl531, n⟩ wr => InO w [.row (v468) 73 4 (l531).length (xsl531)] wr fun Oz => Vec (.pair .st (.pair (.int .i64) (.pair (.int .i64) .st))) (gz H w wr Oz) (u292_0) (x291) ∧ Elems (.pair .st (.pair (.int .i64) (.pair (.int .i64) .st))) (gz H w wr Oz) (l531) (xsl531) ∧ Go.L.itr (ref4_AllLeaves_bl6 s6_375) n (l531, s7_532) = some e376) (fun ⟨l531, s7_532, xsl531, n⟩ => n) ((l374 ++ [((x291.getD s6_375.toNat default).1, (x291.getD s6_375.toNat default).2.1, (x291.getD s6_375.toNat default).2.2.1, (x291.getD s6_375.toNat default).2.2.2)]), (((l374 ++ [((x291.getD s6_375.toNat default).1, (x291.getD s6_375.toNat default).2.1, (x291.getD s6_375.toNat default).2.2.1, (x291.getD s6_375.toNat default).2.2.2)]).length : Int) - (1 : Int)), xs468, n533) (.cons rfl (.cons rfl (.cons rfl (.cons rfl (.cons rfl (.cons rfl (Sub.nil _))))))) ⟨hL468, hf376_0, he468, h⟩ ?_
       rintro ⟨l531, s7_532, xsl531, nn533⟩ wr533 ⟨hL533, hf533_0, hel531, h⟩;obtain ⟨n533, e533, rfl, h, hm533⟩ := Go.L.itr_some h;refine W_seq ?_;refine W_seqd (.q 0 (.q 1 (.q 2 (.q 3 (.q 4 (.q 5 (.q 6 (.q 7 (.q 8 (.q 9 (.q 10 (.q 11 (.q 12 (.q 13 (.tail 14))))))))))))))) mixed (by kernel_rfl) (fun w535 hx535 => ?_);have hL536 := hL533.call hx535;have hle536 := fz_ext hL533 hx535;replace hf533_0 := hf533_0.mono (gz_mono hH hle536);replace hel531 := hel531.mono (gz_mono hH hle536);refine D_pu 3 rfl ?_;refine D_split (s := 43) rfl (fun hg537 => ?_) (fun hg537 => ?_)
       ·replace h := Go.L.ite_p (of_decide_eq_true hg537) h
        iterate 2 refine D_vg (RunsAt_pu rfl) rfl rfl rfl rfl hg537 rfl ?_
        obtain ⟨hk540, h⟩ := Go.L.chk_some h;refine D_indexg rfl rfl rfl rfl hg537 rfl rfl underlying67 zr73 (hL536.vecN hH (i := 0) rfl hel531) s7_532.toNat (Int.toNat_of_nonneg hk540.1).symm (idx_lt hk540) rfl ?_;rintro p539 _ ⟨_, _, rfl, rfl, ⟨_, _, rfl, rfl, ⟨_, _, rfl, rfl, rfl⟩⟩⟩ hp539;refine D_vg (r_loadN rfl underlying73 rfl zr73 hp539 (Le.refl _)) rfl rfl rfl rfl hg537 rfl ?_
        iterate 2 refine D_vg (RunsAt_pu rfl) rfl rfl rfl rfl hg537 rfl ?_
        obtain ⟨hk541, h⟩ := Go.L.chk_some h;refine D_vg (r_ar64 rfl rfl rfl hk541) rfl rfl rfl rfl hg537 rfl ?_;obtain ⟨hk543, h⟩ := Go.L.chk_some h;refine D_indexg rfl rfl rfl rfl hg537 rfl rfl underlying67 zr73 (hL536.vecN hH (i := 0) rfl hel531) ((s7_532 - (1 : Int)).toNat) (Int.toNat_of_nonneg hk543.1).symm (idx_lt hk543) rfl ?_;rintro p542 _ ⟨_, _, rfl, rfl, ⟨_, _, rfl, rfl, ⟨_, _, rfl, rfl, rfl⟩⟩⟩ hp542;refine D_vg (r_loadN rfl underlying73 rfl zr73 hp542 (Le.refl _)) rfl rfl rfl rfl hg537 rfl ?_;obtain ⟨x544, hb544, h⟩ := Go.L.bind_some h;have hok545 := (fun (w545 : World) (hx545 : Ext w535 w545) => ref4_Before_ok w545 _ (Le.refl _) hb544);refine D_callg rfl rfl rfl rfl hg537 rfl rfl hok545 ?_;refine D_v (r_pickT rfl hg537 rfl) rfl rfl ?_;refine D_tail (fun w546 hx546 => ?_);have hL547 := hL536.call hx546;have hle547 := fz_ext hL536 hx546;replace hf533_0 := hf533_0.mono (gz_mono hH hle547);replace hel531 := hel531.mono (gz_mono hH hle547);refine S_seqnil ?_;refine W_cond rfl (fun hc548 => ?_) (fun hc548 => ?_)
        ·replace h := Go.L.ite_t hc548 h;refine W_skip ?_;refine At_seq ?_;refine W_seq ?_;refine W_block ?_;refine W_naiveI (fun z0 z => Le (gz H w z0 [.row (v468) 73 4 (l531).length (xsl531)]) (hp z)) mixed rfl (fun w550 hx550 => ?_);have hL551 := hL547.call hx550;have hle551 := fz_ext hL547 hx550;replace hf533_0 := hf533_0.mono (gz_mono hH hle551);replace hel531 := hel531.mono (gz_mono hH hle551);have hG552 := hL551.rG H;refine NI_hoist 0 (np_block (np_seq (np_loop (np_block (np_block (np_cut (np_loop (np_block (np_block (np_cut (np_loop (np_block (np_cut np_body))))))))))))) (hG552.trans (gz_le hH hL551)) (by kernel_rfl) rfl (fun _ _ => RunsAt_pu rfl) rfl ?_;refine NI_hoist 1 (np_block (np_seq (np_loop (np_block (np_block (np_cut (np_loop (np_block (np_block (np_cut (np_loop (np_block (np_cut np_body))))))))))))) (hG552.trans (gz_le hH hL551)) (by kernel_rfl) rfl (fun _ _ => RunsAt_pu rfl) rfl ?_;refine NI_hoist 2 (np_block (np_seq (np_loop (np_block (np_block (np_cut (np_loop (np_block (np_block (np_cut (np_loop (np_block (np_cut np_body))))))))))))) (hG552.trans (gz_le hH hL551)) (by kernel_rfl) rfl (fun _ _ => RunsAt_pu rfl) rfl ?_;refine NI_hoist 3 (np_block (np_seq (np_loop (np_block (np_block (np_cut (np_loop (np_block (np_block (np_cut (np_loop (np_block (np_cut np_body))))))))))))) (hG552.trans (gz_le hH hL551)) (by kernel_rfl) rfl (fun _ _ => RunsAt_pu rfl) rfl ?_;obtain ⟨hk553, h⟩ := Go.L.chk_some h
         refine NI_hoist 4 (np_block (np_seq (np_loop (np_block (np_block (np_cut (np_loop (np_block (np_block (np_cut (np_loop (np_block (np_cut np_body))))))))))))) (hG552.trans (gz_le hH hL551)) (by kernel_rfl) rfl (fun _ _ => r_ar64 rfl rfl rfl hk553) rfl ?_;refine NI_hoist 5 (np_block (np_seq (np_loop (np_block (np_block (np_cut (np_loop (np_block (np_block (np_cut (np_loop (np_block (np_cut np_body))))))))))))) (hG552.trans (gz_le hH hL551)) (by kernel_rfl) rfl (fun _ _ => RunsAt_pu rfl) rfl ?_;refine NI_hoist 6 (np_block (np_seq (np_loop (np_block (np_block (np_cut (np_loop (np_block (np_block (np_cut (np_loop (np_block (np_cut np_body))))))))))))) (hG552.trans (gz_le hH hL551)) (by kernel_rfl) rfl (fun _ _ => RunsAt_pu rfl) rfl ?_;obtain ⟨hk554, h⟩ := Go.L.chk_some h;refine NI_hoist 7 (np_block (np_seq (np_loop (np_block (np_block (np_cut (np_loop (np_block (np_block (np_cut (np_loop (np_block (np_cut np_body))))))))))))) (hG552.trans (gz_le hH hL551)) (by kernel_rfl) rfl (fun _ _ => r_ar64 rfl rfl rfl hk554) rfl ?_;refine NI_hoist 10 (np_block (np_seq (np_loop (np_block (np_block (np_cut (np_loop (np_block (np_block (np_cut (np_loop (np_block (np_cut np_body))))))))))))) (hG552.trans (gz_le hH hL551)) (by kernel_rfl) rfl (fun _ _ => RunsAt_pu rfl) rfl ?_
         refine NI_hoist 11 (np_block (np_seq (np_loop (np_block (np_block (np_cut (np_loop (np_block (np_block (np_cut (np_loop (np_block (np_cut np_body))))))))))))) (hG552.trans (gz_le hH hL551)) (by kernel_rfl) rfl (fun _ _ => RunsAt_pu rfl) rfl ?_;refine NI2 (i := 8) (j := 12) (by kernel_rfl) rfl rfl ?_ ?_
         ·obtain ⟨hk556, h⟩ := Go.L.chk_some h;refine S_index rfl rfl underlying67 zr73 (hL551.vecN hH (i := 0) rfl (hel531.mono hG552)) ((s7_532 - (1 : Int)).toNat) (Int.toNat_of_nonneg hk556.1).symm (idx_lt hk556) rfl ?_;rintro p555 _ ⟨_, _, rfl, rfl, ⟨_, _, rfl, rfl, ⟨_, _, rfl, rfl, rfl⟩⟩⟩ hp555;refine NI_nil (hG552.trans (gz_le hH hL551)) ?_;refine NI2 (i := 9) (j := 12) (by kernel_rfl) rfl rfl ?_ ?_
          ·refine S_v (r_loadN rfl underlying73 rfl zr73 hp555 (Le.refl _)) rfl ?_;refine NI_nil (hG552.trans (gz_le hH hL551)) ?_;refine NI1 (i := 12) (by kernel_rfl) rfl ?_;obtain ⟨hk558, h⟩ := Go.L.chk_some h;refine S_index rfl rfl underlying67 zr73 (hL551.vecN hH (i := 0) rfl (hel531.mono hG552)) s7_532.toNat (Int.toNat_of_nonneg hk558.1).symm (idx_lt hk558) rfl ?_;rintro p557 _ ⟨_, _, rfl, rfl, ⟨_, _, rfl, rfl, ⟨_, _, rfl, rfl, rfl⟩⟩⟩ hp557;refine NI_nil (hG552.trans (gz_le hH hL551)) ?_;refine NI1 (i := 13) (by kernel_rfl) rfl ?_;refine S_v (r_loadN rfl underlying73 rfl zr73 hp557 (Le.refl _)) rfl ?_;refine NI_nil (hG552.trans (gz_le hH hL551)) ?_;refine NI1 (i := 14) (by kernel_rfl) rfl ?_;obtain ⟨hk560, h⟩ := Go.L.chk_some h;refine S_indexR 0 rfl rfl underlying67 zr73 hL551 rfl s7_532.toNat (Int.toNat_of_nonneg hk560.1).symm (idx_lt hk560) rfl ?_;intro p559 hp559;refine NI_nil (hG552.trans (gz_le hH hL551)) ?_;refine NI1 (i := 15) (by kernel_rfl) rfl ?_;refine S_storeEN (z := ((l531.getD ((s7_532 - (1 : Int)).toNat) default).1, (l531.getD ((s7_532 - (1 : Int)).toNat) default).2.1, (l531.getD ((s7_532 - (1 : Int)).toNat) default).2.2.1, (l531.getD ((s7_532 - (1 : Int)).toNat) default).2.2.2)) (j := s7_532.toNat) 0 rfl rfl rfl (onc rfl (onc rfl (onc rfl (onc rfl on0)))) zr73 rfl hH hL551 rfl (hel531.mono hG552) hp559 rfl (idx_lt hk560) ⟨_, _, rfl, rfl, ⟨_, _, rfl, rfl, ⟨_, _, rfl, rfl, rfl⟩⟩⟩ ?_;intro w561 xs561 hL561 hle561 he561
           replace hG552 := hG552.trans (gz_mono hH hle561);refine NI_nil (hG552.trans (gz_le hH hL561)) ?_;refine NI1 (i := 16) (by kernel_rfl) rfl ?_;obtain ⟨hk563, h⟩ := Go.L.chk_some h;refine S_indexR 0 rfl rfl underlying67 zr73 hL561 rfl ((s7_532 - (1 : Int)).toNat) (Int.toNat_of_nonneg hk563.1).symm (idx_lt hk563) rfl ?_;intro p562 hp562;refine NI_nil (hG552.trans (gz_le hH hL561)) ?_;refine NI1 (i := 17) (by kernel_rfl) rfl ?_;refine S_storeEN (z := ((l531.getD s7_532.toNat default).1, (l531.getD s7_532.toNat default).2.1, (l531.getD s7_532.toNat default).2.2.1, (l531.getD s7_532.toNat default).2.2.2)) (j := (s7_532 - (1 : Int)).toNat) 0 rfl rfl rfl (onc rfl (onc rfl (onc rfl (onc rfl on0)))) zr73 rfl hH hL561 rfl he561 hp562 rfl (idx_lt hk563) ⟨_, _, rfl, rfl, ⟨_, _, rfl, rfl, ⟨_, _, rfl, rfl, rfl⟩⟩⟩ ?_;intro w564 xs564 hL564 hle564 he564;replace hG552 := hG552.trans (gz_mono hH hle564);refine NI_last (by kernel_rfl) ?_;refine NI_end (by kernel_rfl) ?_;refine At_block ?_;refine At_seq ?_;refine W_region ?_;refine S_pu 1 rfl ?_;obtain ⟨hk565, h⟩ := Go.L.chk_some h;refine S_v (r_ar64 rfl rfl rfl hk565) rfl ?_;refine S_pu 1 rfl ?_;refine S_nil ?_;have h := Go.L.Nxt.again h hm533
           refine At_round (((l531.set s7_532.toNat ((l531.getD ((s7_532 - (1 : Int)).toNat) default).1, (l531.getD ((s7_532 - (1 : Int)).toNat) default).2.1, (l531.getD ((s7_532 - (1 : Int)).toNat) default).2.2.1, (l531.getD ((s7_532 - (1 : Int)).toNat) default).2.2.2)).set ((s7_532 - (1 : Int)).toNat) ((l531.getD s7_532.toNat default).1, (l531.getD s7_532.toNat default).2.1, (l531.getD s7_532.toNat default).2.2.1, (l531.getD s7_532.toNat default).2.2.2)), (s7_532 - (1 : Int)), xs564, n533) (.cons rfl (.cons rfl (.cons rfl (.cons rfl (.cons rfl (.cons rfl (Sub.nil _))))))) ⟨hL564, (hf533_0.mono hG552), he564, h⟩ (Nat.lt_succ_self _)
          ·obtain ⟨hk558, h⟩ := Go.L.chk_some h;obtain ⟨hk560, h⟩ := Go.L.chk_some h;obtain ⟨hk563, h⟩ := Go.L.chk_some h;obtain ⟨hk565, h⟩ := Go.L.chk_some h;refine S_index rfl rfl underlying67 zr73 (hL551.vecN hH (i := 0) rfl (hel531.mono hG552)) s7_532.toNat (Int.toNat_of_nonneg hk558.1).symm (idx_lt hk558) rfl ?_;rintro p566 _ ⟨_, _, rfl, rfl, ⟨_, _, rfl, rfl, ⟨_, _, rfl, rfl, rfl⟩⟩⟩ hp566;refine NI_nil (hG552.trans (gz_le hH hL551)) ?_;refine NI2 (i := 9) (j := 13) (by kernel_rfl) rfl rfl ?_ ?_
           ·refine S_v (r_loadN rfl underlying73 rfl zr73 hp555 (Le.refl _)) rfl ?_;refine NI_nil (hG552.trans (gz_le hH hL551)) ?_;refine NI1 (i := 13) (by kernel_rfl) rfl ?_;refine S_v (r_loadN rfl underlying73 rfl zr73 hp566 (Le.refl _)) rfl ?_;refine NI_nil (hG552.trans (gz_le hH hL551)) ?_;refine NI1 (i := 14) (by kernel_rfl) rfl ?_;refine S_indexR 0 rfl rfl underlying67 zr73 hL551 rfl s7_532.toNat (Int.toNat_of_nonneg hk560.1).symm (idx_lt hk560) rfl ?_;intro p567 hp567;refine NI_nil (hG552.trans (gz_le hH hL551)) ?_;refine NI1 (i := 15) (by kernel_rfl) rfl ?_;refine S_storeEN (z := ((l531.getD ((s7_532 - (1 : Int)).toNat) default).1, (l531.getD ((s7_532 - (1 : Int)).toNat) default).2.1, (l531.getD ((s7_532 - (1 : Int)).toNat) default).2.2.1, (l531.getD ((s7_532 - (1 : Int)).toNat) default).2.2.2)) (j := s7_532.toNat) 0 rfl rfl rfl (onc rfl (onc rfl (onc rfl (onc rfl on0)))) zr73 rfl hH hL551 rfl (hel531.mono hG552) hp567 rfl (idx_lt hk560) ⟨_, _, rfl, rfl, ⟨_, _, rfl, rfl, ⟨_, _, rfl, rfl, rfl⟩⟩⟩ ?_;intro w568 xs568 hL568 hle568 he568;replace hG552 := hG552.trans (gz_mono hH hle568);refine NI_nil (hG552.trans (gz_le hH hL568)) ?_;refine NI1 (i := 16) (by kernel_rfl) rfl ?_;refine S_indexR 0 rfl rfl underlying67 zr73 hL568 rfl ((s7_532 - (1 : Int)).toNat) (Int.toNat_of_nonneg hk563.1).symm (idx_lt hk563) rfl ?_;intro p569 hp569;refine NI_nil (hG552.trans (gz_le hH hL568)) ?_;refine NI1 (i := 17) (by kernel_rfl) rfl ?_
            refine S_storeEN (z := ((l531.getD s7_532.toNat default).1, (l531.getD s7_532.toNat default).2.1, (l531.getD s7_532.toNat default).2.2.1, (l531.getD s7_532.toNat default).2.2.2)) (j := (s7_532 - (1 : Int)).toNat) 0 rfl rfl rfl (onc rfl (onc rfl (onc rfl (onc rfl on0)))) zr73 rfl hH hL568 rfl he568 hp569 rfl (idx_lt hk563) ⟨_, _, rfl, rfl, ⟨_, _, rfl, rfl, ⟨_, _, rfl, rfl, rfl⟩⟩⟩ ?_;intro w570 xs570 hL570 hle570 he570;replace hG552 := hG552.trans (gz_mono hH hle570);refine NI_last (by kernel_rfl) ?_;refine NI_end (by kernel_rfl) ?_;refine At_block ?_;refine At_seq ?_;refine W_region ?_;refine S_pu 1 rfl ?_;refine S_v (r_ar64 rfl rfl rfl hk565) rfl ?_;refine S_pu 1 rfl ?_;refine S_nil ?_;have h := Go.L.Nxt.again h hm533;refine At_round (((l531.set s7_532.toNat ((l531.getD ((s7_532 - (1 : Int)).toNat) default).1, (l531.getD ((s7_532 - (1 : Int)).toNat) default).2.1, (l531.getD ((s7_532 - (1 : Int)).toNat) default).2.2.1, (l531.getD ((s7_532 - (1 : Int)).toNat) default).2.2.2)).set ((s7_532 - (1 : Int)).toNat) ((l531.getD s7_532.toNat default).1, (l531.getD s7_532.toNat default).2.1, (l531.getD s7_532.toNat default).2.2.1, (l531.getD s7_532.toNat default).2.2.2)), (s7_532 - (1 : Int)), xs570, n533) (.cons rfl (.cons rfl (.cons rfl (.cons rfl (.cons rfl (.cons rfl (Sub.nil _))))))) ⟨hL570, (hf533_0.mono hG552), he570, h⟩ (Nat.lt_succ_self _)
           ·refine S_v (r_loadN rfl underlying73 rfl zr73 hp566 (Le.refl _)) rfl ?_;refine NI_nil (hG552.trans (gz_le hH hL551)) ?_;refine NI1 (i := 9) (by kernel_rfl) rfl ?_;refine S_v (r_loadN rfl underlying73 rfl zr73 hp555 (Le.refl _)) rfl ?_;refine NI_nil (hG552.trans (gz_le hH hL551)) ?_;refine NI1 (i := 14) (by kernel_rfl) rfl ?_;refine S_indexR 0 rfl rfl underlying67 zr73 hL551 rfl s7_532.toNat (Int.toNat_of_nonneg hk560.1).symm (idx_lt hk560) rfl ?_;intro p571 hp571;refine NI_nil (hG552.trans (gz_le hH hL551)) ?_;refine NI1 (i := 15) (by kernel_rfl) rfl ?_;refine S_storeEN (z := ((l531.getD ((s7_532 - (1 : Int)).toNat) default).1, (l531.getD ((s7_532 - (1 : Int)).toNat) default).2.1, (l531.getD ((s7_532 - (1 : Int)).toNat) default).2.2.1, (l531.getD ((s7_532 - (1 : Int)).toNat) default).2.2.2)) (j := s7_532.toNat) 0 rfl rfl rfl (onc rfl (onc rfl (onc rfl (onc rfl on0)))) zr73 rfl hH hL551 rfl (hel531.mono hG552) hp571 rfl (idx_lt hk560) ⟨_, _, rfl, rfl, ⟨_, _, rfl, rfl, ⟨_, _, rfl, rfl, rfl⟩⟩⟩ ?_;intro w572 xs572 hL572 hle572 he572;replace hG552 := hG552.trans (gz_mono hH hle572);refine NI_nil (hG552.trans (gz_le hH hL572)) ?_;refine NI1 (i := 16) (by kernel_rfl) rfl ?_;refine S_indexR 0 rfl rfl underlying67 zr73 hL572 rfl ((s7_532 - (1 : Int)).toNat) (Int.toNat_of_nonneg hk563.1).symm (idx_lt hk563) rfl ?_;intro p573 hp573;refine NI_nil (hG552.trans (gz_le hH hL572)) ?_;refine NI1 (i := 17) (by kernel_rfl) rfl ?_
            refine S_storeEN (z := ((l531.getD s7_532.toNat default).1, (l531.getD s7_532.toNat default).2.1, (l531.getD s7_532.toNat default).2.2.1, (l531.getD s7_532.toNat default).2.2.2)) (j := (s7_532 - (1 : Int)).toNat) 0 rfl rfl rfl (onc rfl (onc rfl (onc rfl (onc rfl on0)))) zr73 rfl hH hL572 rfl he572 hp573 rfl (idx_lt hk563) ⟨_, _, rfl, rfl, ⟨_, _, rfl, rfl, ⟨_, _, rfl, rfl, rfl⟩⟩⟩ ?_;intro w574 xs574 hL574 hle574 he574;replace hG552 := hG552.trans (gz_mono hH hle574);refine NI_last (by kernel_rfl) ?_;refine NI_end (by kernel_rfl) ?_;refine At_block ?_;refine At_seq ?_;refine W_region ?_;refine S_pu 1 rfl ?_;refine S_v (r_ar64 rfl rfl rfl hk565) rfl ?_;refine S_pu 1 rfl ?_;refine S_nil ?_;have h := Go.L.Nxt.again h hm533;refine At_round (((l531.set s7_532.toNat ((l531.getD ((s7_532 - (1 : Int)).toNat) default).1, (l531.getD ((s7_532 - (1 : Int)).toNat) default).2.1, (l531.getD ((s7_532 - (1 : Int)).toNat) default).2.2.1, (l531.getD ((s7_532 - (1 : Int)).toNat) default).2.2.2)).set ((s7_532 - (1 : Int)).toNat) ((l531.getD s7_532.toNat default).1, (l531.getD s7_532.toNat default).2.1, (l531.getD s7_532.toNat default).2.2.1, (l531.getD s7_532.toNat default).2.2.2)), (s7_532 - (1 : Int)), xs574, n533) (.cons rfl (.cons rfl (.cons rfl (.cons rfl (.cons rfl (.cons rfl (Sub.nil _))))))) ⟨hL574, (hf533_0.mono hG552), he574, h⟩ (Nat.lt_succ_self _)
         ·obtain ⟨hk556, h⟩ := Go.L.chk_some h;obtain ⟨hk558, h⟩ := Go.L.chk_some h;obtain ⟨hk560, h⟩ := Go.L.chk_some h;obtain ⟨hk563, h⟩ := Go.L.chk_some h;obtain ⟨hk565, h⟩ := Go.L.chk_some h;refine S_index rfl rfl underlying67 zr73 (hL551.vecN hH (i := 0) rfl (hel531.mono hG552)) s7_532.toNat (Int.toNat_of_nonneg hk558.1).symm (idx_lt hk558) rfl ?_;rintro p575 _ ⟨_, _, rfl, rfl, ⟨_, _, rfl, rfl, ⟨_, _, rfl, rfl, rfl⟩⟩⟩ hp575;refine NI_nil (hG552.trans (gz_le hH hL551)) ?_;refine NI2 (i := 8) (j := 13) (by kernel_rfl) rfl rfl ?_ ?_
          ·refine S_index rfl rfl underlying67 zr73 (hL551.vecN hH (i := 0) rfl (hel531.mono hG552)) ((s7_532 - (1 : Int)).toNat) (Int.toNat_of_nonneg hk556.1).symm (idx_lt hk556) rfl ?_;rintro p576 _ ⟨_, _, rfl, rfl, ⟨_, _, rfl, rfl, ⟨_, _, rfl, rfl, rfl⟩⟩⟩ hp576;refine NI_nil (hG552.trans (gz_le hH hL551)) ?_;refine NI2 (i := 9) (j := 13) (by kernel_rfl) rfl rfl ?_ ?_
           ·refine S_v (r_loadN rfl underlying73 rfl zr73 hp576 (Le.refl _)) rfl ?_;refine NI_nil (hG552.trans (gz_le hH hL551)) ?_;refine NI1 (i := 13) (by kernel_rfl) rfl ?_;refine S_v (r_loadN rfl underlying73 rfl zr73 hp575 (Le.refl _)) rfl ?_;refine NI_nil (hG552.trans (gz_le hH hL551)) ?_;refine NI1 (i := 14) (by kernel_rfl) rfl ?_;refine S_indexR 0 rfl rfl underlying67 zr73 hL551 rfl s7_532.toNat (Int.toNat_of_nonneg hk560.1).symm (idx_lt hk560) rfl ?_;intro p577 hp577;refine NI_nil (hG552.trans (gz_le hH hL551)) ?_;refine NI1 (i := 15) (by kernel_rfl) rfl ?_;refine S_storeEN (z := ((l531.getD ((s7_532 - (1 : Int)).toNat) default).1, (l531.getD ((s7_532 - (1 : Int)).toNat) default).2.1, (l531.getD ((s7_532 - (1 : Int)).toNat) default).2.2.1, (l531.getD ((s7_532 - (1 : Int)).toNat) default).2.2.2)) (j := s7_532.toNat) 0 rfl rfl rfl (onc rfl (onc rfl (onc rfl (onc rfl on0)))) zr73 rfl hH hL551 rfl (hel531.mono hG552) hp577 rfl (idx_lt hk560) ⟨_, _, rfl, rfl, ⟨_, _, rfl, rfl, ⟨_, _, rfl, rfl, rfl⟩⟩⟩ ?_;intro w578 xs578 hL578 hle578 he578;replace hG552 := hG552.trans (gz_mono hH hle578);refine NI_nil (hG552.trans (gz_le hH hL578)) ?_;refine NI1 (i := 16) (by kernel_rfl) rfl ?_;refine S_indexR 0 rfl rfl underlying67 zr73 hL578 rfl ((s7_532 - (1 : Int)).toNat) (Int.toNat_of_nonneg hk563.1).symm (idx_lt hk563) rfl ?_;intro p579 hp579;refine NI_nil (hG552.trans (gz_le hH hL578)) ?_;refine NI1 (i := 17) (by kernel_rfl) rfl ?_
            refine S_storeEN (z := ((l531.getD s7_532.toNat default).1, (l531.getD s7_532.toNat default).2.1, (l531.getD s7_532.toNat default).2.2.1, (l531.getD s7_532.toNat default).2.2.2)) (j := (s7_532 - (1 : Int)).toNat) 0 rfl rfl rfl (onc rfl (onc rfl (onc rfl (onc rfl on0)))) zr73 rfl hH hL578 rfl he578 hp579 rfl (idx_lt hk563) ⟨_, _, rfl, rfl, ⟨_, _, rfl, rfl, ⟨_, _, rfl, rfl, rfl⟩⟩⟩ ?_;intro w580 xs580 hL580 hle580 he580;replace hG552 := hG552.trans (gz_mono hH hle580);refine NI_last (by kernel_rfl) ?_;refine NI_end (by kernel_rfl) ?_;refine At_block ?_;refine At_seq ?_;refine W_region ?_;refine S_pu 1 rfl ?_;refine S_v (r_ar64 rfl rfl rfl hk565) rfl ?_;refine S_pu 1 rfl ?_;refine S_nil ?_;have h := Go.L.Nxt.again h hm533;refine At_round (((l531.set s7_532.toNat ((l531.getD ((s7_532 - (1 : Int)).toNat) default).1, (l531.getD ((s7_532 - (1 : Int)).toNat) default).2.1, (l531.getD ((s7_532 - (1 : Int)).toNat) default).2.2.1, (l531.getD ((s7_532 - (1 : Int)).toNat) default).2.2.2)).set ((s7_532 - (1 : Int)).toNat) ((l531.getD s7_532.toNat default).1, (l531.getD s7_532.toNat default).2.1, (l531.getD s7_532.toNat default).2.2.1, (l531.getD s7_532.toNat default).2.2.2)), (s7_532 - (1 : Int)), xs580, n533) (.cons rfl (.cons rfl (.cons rfl (.cons rfl (.cons rfl (.cons rfl (Sub.nil _))))))) ⟨hL580, (hf533_0.mono hG552), he580, h⟩ (Nat.lt_succ_self _)
           ·refine S_v (r_loadN rfl underlying73 rfl zr73 hp575 (Le.refl _)) rfl ?_;refine NI_nil (hG552.trans (gz_le hH hL551)) ?_;refine NI1 (i := 9) (by kernel_rfl) rfl ?_;refine S_v (r_loadN rfl underlying73 rfl zr73 hp576 (Le.refl _)) rfl ?_;refine NI_nil (hG552.trans (gz_le hH hL551)) ?_;refine NI1 (i := 14) (by kernel_rfl) rfl ?_;refine S_indexR 0 rfl rfl underlying67 zr73 hL551 rfl s7_532.toNat (Int.toNat_of_nonneg hk560.1).symm (idx_lt hk560) rfl ?_;intro p581 hp581;refine NI_nil (hG552.trans (gz_le hH hL551)) ?_;refine NI1 (i := 15) (by kernel_rfl) rfl ?_;refine S_storeEN (z := ((l531.getD ((s7_532 - (1 : Int)).toNat) default).1, (l531.getD ((s7_532 - (1 : Int)).toNat) default).2.1, (l531.getD ((s7_532 - (1 : Int)).toNat) default).2.2.1, (l531.getD ((s7_532 - (1 : Int)).toNat) default).2.2.2)) (j := s7_532.toNat) 0 rfl rfl rfl (onc rfl (onc rfl (onc rfl (onc rfl on0)))) zr73 rfl hH hL551 rfl (hel531.mono hG552) hp581 rfl (idx_lt hk560) ⟨_, _, rfl, rfl, ⟨_, _, rfl, rfl, ⟨_, _, rfl, rfl, rfl⟩⟩⟩ ?_;intro w582 xs582 hL582 hle582 he582;replace hG552 := hG552.trans (gz_mono hH hle582);refine NI_nil (hG552.trans (gz_le hH hL582)) ?_;refine NI1 (i := 16) (by kernel_rfl) rfl ?_;refine S_indexR 0 rfl rfl underlying67 zr73 hL582 rfl ((s7_532 - (1 : Int)).toNat) (Int.toNat_of_nonneg hk563.1).symm (idx_lt hk563) rfl ?_;intro p583 hp583;refine NI_nil (hG552.trans (gz_le hH hL582)) ?_;refine NI1 (i := 17) (by kernel_rfl) rfl ?_
            refine S_storeEN (z := ((l531.getD s7_532.toNat default).1, (l531.getD s7_532.toNat default).2.1, (l531.getD s7_532.toNat default).2.2.1, (l531.getD s7_532.toNat default).2.2.2)) (j := (s7_532 - (1 : Int)).toNat) 0 rfl rfl rfl (onc rfl (onc rfl (onc rfl (onc rfl on0)))) zr73 rfl hH hL582 rfl he582 hp583 rfl (idx_lt hk563) ⟨_, _, rfl, rfl, ⟨_, _, rfl, rfl, ⟨_, _, rfl, rfl, rfl⟩⟩⟩ ?_;intro w584 xs584 hL584 hle584 he584;replace hG552 := hG552.trans (gz_mono hH hle584);refine NI_last (by kernel_rfl) ?_;refine NI_end (by kernel_rfl) ?_;refine At_block ?_;refine At_seq ?_;refine W_region ?_;refine S_pu 1 rfl ?_;refine S_v (r_ar64 rfl rfl rfl hk565) rfl ?_;refine S_pu 1 rfl ?_;refine S_nil ?_;have h := Go.L.Nxt.again h hm533;refine At_round (((l531.set s7_532.toNat ((l531.getD ((s7_532 - (1 : Int)).toNat) default).1, (l531.getD ((s7_532 - (1 : Int)).toNat) default).2.1, (l531.getD ((s7_532 - (1 : Int)).toNat) default).2.2.1, (l531.getD ((s7_532 - (1 : Int)).toNat) default).2.2.2)).set ((s7_532 - (1 : Int)).toNat) ((l531.getD s7_532.toNat default).1, (l531.getD s7_532.toNat default).2.1, (l531.getD s7_532.toNat default).2.2.1, (l531.getD s7_532.toNat default).2.2.2)), (s7_532 - (1 : Int)), xs584, n533) (.cons rfl (.cons rfl (.cons rfl (.cons rfl (.cons rfl (.cons rfl (Sub.nil _))))))) ⟨hL584, (hf533_0.mono hG552), he584, h⟩ (Nat.lt_succ_self _)
          ·refine S_v (r_loadN rfl underlying73 rfl zr73 hp575 (Le.refl _)) rfl ?_;refine NI_nil (hG552.trans (gz_le hH hL551)) ?_;refine NI1 (i := 8) (by kernel_rfl) rfl ?_;refine S_index rfl rfl underlying67 zr73 (hL551.vecN hH (i := 0) rfl (hel531.mono hG552)) ((s7_532 - (1 : Int)).toNat) (Int.toNat_of_nonneg hk556.1).symm (idx_lt hk556) rfl ?_;rintro p585 _ ⟨_, _, rfl, rfl, ⟨_, _, rfl, rfl, ⟨_, _, rfl, rfl, rfl⟩⟩⟩ hp585;refine NI_nil (hG552.trans (gz_le hH hL551)) ?_;refine NI1 (i := 9) (by kernel_rfl) rfl ?_;refine S_v (r_loadN rfl underlying73 rfl zr73 hp585 (Le.refl _)) rfl ?_;refine NI_nil (hG552.trans (gz_le hH hL551)) ?_;refine NI1 (i := 14) (by kernel_rfl) rfl ?_;refine S_indexR 0 rfl rfl underlying67 zr73 hL551 rfl s7_532.toNat (Int.toNat_of_nonneg hk560.1).symm (idx_lt hk560) rfl ?_;intro p586 hp586;refine NI_nil (hG552.trans (gz_le hH hL551)) ?_;refine NI1 (i := 15) (by kernel_rfl) rfl ?_;refine S_storeEN (z := ((l531.getD ((s7_532 - (1 : Int)).toNat) default).1, (l531.getD ((s7_532 - (1 : Int)).toNat) default).2.1, (l531.getD ((s7_532 - (1 : Int)).toNat) default).2.2.1, (l531.getD ((s7_532 - (1 : Int)).toNat) default).2.2.2)) (j := s7_532.toNat) 0 rfl rfl rfl (onc rfl (onc rfl (onc rfl (onc rfl on0)))) zr73 rfl hH hL551 rfl (hel531.mono hG552) hp586 rfl (idx_lt hk560) ⟨_, _, rfl, rfl, ⟨_, _, rfl, rfl, ⟨_, _, rfl, rfl, rfl⟩⟩⟩ ?_;intro w587 xs587 hL587 hle587 he587;replace hG552 := hG552.trans (gz_mono hH hle587);refine NI_nil (hG552.trans (gz_le hH hL587)) ?_
           refine NI1 (i := 16) (by kernel_rfl) rfl ?_;refine S_indexR 0 rfl rfl underlying67 zr73 hL587 rfl ((s7_532 - (1 : Int)).toNat) (Int.toNat_of_nonneg hk563.1).symm (idx_lt hk563) rfl ?_;intro p588 hp588;refine NI_nil (hG552.trans (gz_le hH hL587)) ?_;refine NI1 (i := 17) (by kernel_rfl) rfl ?_;refine S_storeEN (z := ((l531.getD s7_532.toNat default).1, (l531.getD s7_532.toNat default).2.1, (l531.getD s7_532.toNat default).2.2.1, (l531.getD s7_532.toNat default).2.2.2)) (j := (s7_532 - (1 : Int)).toNat) 0 rfl rfl rfl (onc rfl (onc rfl (onc rfl (onc rfl on0)))) zr73 rfl hH hL587 rfl he587 hp588 rfl (idx_lt hk563) ⟨_, _, rfl, rfl, ⟨_, _, rfl, rfl, ⟨_, _, rfl, rfl, rfl⟩⟩⟩ ?_;intro w589 xs589 hL589 hle589 he589;replace hG552 := hG552.trans (gz_mono hH hle589);refine NI_last (by kernel_rfl) ?_;refine NI_end (by kernel_rfl) ?_;refine At_block ?_;refine At_seq ?_;refine W_region ?_;refine S_pu 1 rfl ?_;refine S_v (r_ar64 rfl rfl rfl hk565) rfl ?_;refine S_pu 1 rfl ?_;refine S_nil ?_;have h := Go.L.Nxt.again h hm533
           refine At_round (((l531.set s7_532.toNat ((l531.getD ((s7_532 - (1 : Int)).toNat) default).1, (l531.getD ((s7_532 - (1 : Int)).toNat) default).2.1, (l531.getD ((s7_532 - (1 : Int)).toNat) default).2.2.1, (l531.getD ((s7_532 - (1 : Int)).toNat) default).2.2.2)).set ((s7_532 - (1 : Int)).toNat) ((l531.getD s7_532.toNat default).1, (l531.getD s7_532.toNat default).2.1, (l531.getD s7_532.toNat default).2.2.1, (l531.getD s7_532.toNat default).2.2.2)), (s7_532 - (1 : Int)), xs589, n533) (.cons rfl (.cons rfl (.cons rfl (.cons rfl (.cons rfl (.cons rfl (Sub.nil _))))))) ⟨hL589, (hf533_0.mono hG552), he589, h⟩ (Nat.lt_succ_self _)
        ·replace h := Go.L.ite_f hc548 h;refine W_exit ?_;refine At_seq_exit ?_;refine At_loop_exit ?_;replace h := Go.L.Nxt.out h hm533;refine At_exit ?_;refine At_block ?_;refine At_cut (l531, v468, xsl531) (.cons rfl (.cons rfl (.cons rfl (.cons rfl (.cons rfl (Sub.nil _)))))) ⟨hL547, hf533_0, hel531, h⟩
       ·replace h := Go.L.ite_n (of_decide_eq_false hg537) h
        iterate 10 refine D_no rfl rfl rfl rfl hg537 rfl ?_
        refine D_v (r_pickF rfl hg537 rfl) rfl rfl ?_;refine D_tail (fun w592 hx592 => ?_);have hL593 := hL536.call hx592;have hle593 := fz_ext hL536 hx592;replace hf533_0 := hf533_0.mono (gz_mono hH hle593);replace hel531 := hel531.mono (gz_mono hH hle593);refine S_seqnil ?_;refine W_false rfl ?_;refine W_exit ?_;refine At_seq_exit ?_;refine At_loop_exit ?_;replace h := Go.L.Nxt.out h hm533;refine At_exit ?_;refine At_block ?_;refine At_cut (l531, v468, xsl531) (.cons rfl (.cons rfl (.cons rfl (.cons rfl (.cons rfl (Sub.nil _)))))) ⟨hL593, hf533_0, hel531, h⟩
     ·rintro ⟨l455, vl455, xsl455⟩ wr456 ⟨hL456, hf456_0, hel455, h⟩;refine W_region ?_;refine S_pu 1 rfl ?_;obtain ⟨hk595, h⟩ := Go.L.chk_some h;refine S_v (r_ar64 rfl rfl rfl hk595) rfl ?_;refine S_pu 1 rfl ?_;refine S_nil ?_;have h := Go.L.Nxt.again h hm376;refine At_round (l455, (s6_375 + (1 : Int)), vl455, xsl455, n376) (.cons rfl (.cons rfl (.cons rfl (.cons rfl (.cons rfl (Sub.nil _)))))) ⟨hL456, hf456_0, hel455, h⟩ (Nat.lt_succ_self _)
    ·replace h := Go.L.ite_n hc378 h;refine W_exit ?_;refine At_seq_exit ?_;refine At_loop_exit ?_;replace h := Go.L.Nxt.out h hm376;refine At_exit ?_;refine At_block ?_;refine At_cut (l374, vl374, xsl374) (.cons rfl (.cons rfl (.cons rfl (Sub.nil _)))) ⟨hL376, hel374, h⟩
   ·rintro ⟨l286, vl286, xsl286⟩ wr287 ⟨hL287, hel286, h⟩;refine W_region ?_;refine S_pu 1 rfl ?_;obtain ⟨hk598, h⟩ := Go.L.chk_some h;refine S_v (r_ar64 rfl rfl rfl hk598) rfl ?_;refine S_pu 1 rfl ?_;refine S_nil ?_;have h := Go.L.Nxt.again h hm195;refine At_round (l286, (s4_194 + (1 : Int)), vl286, xsl286, n195) (.cons rfl (.cons rfl (.cons rfl (Sub.nil _)))) ⟨hL287, hel286, h⟩ (Nat.lt_succ_self _)
  ·replace h := Go.L.ite_n hc197 h;refine W_exit ?_;refine At_seq_exit ?_;refine At_loop_exit ?_;replace h := Go.L.Nxt.out h hm195;refine At_exit ?_;refine At_cut (l193, vl193, xsl193) (.cons rfl (Sub.nil _)) ⟨hL195, hel193, h⟩
 ·rintro ⟨l97, vl97, xsl97⟩ wr98 ⟨hL98, hel97, h⟩;refine W_pz 2 rfl ?_;refine W_ret ?_;obtain rfl := Option.some.inj h;refine At_body rfl rfl ?_;exact ⟨hL98.ext, _, rfl, (hL98.ownH hH (i := 0) rfl hel97)⟩
noncomputable def ref4_varint_k2 (l26 : List UInt8) (s3_27 : Int) : Option ((List UInt8)) :=
 Go.L.chk (Go.E.Cap 1 (l26.length + ([(Go.L.u8 s3_27)]).length)) (some ((l26 ++ [(Go.L.u8 s3_27)])))
noncomputable def ref4_varint_bl3 : (List UInt8) × Int → Option (((List UInt8) × Int) ⊕ ((List UInt8))) := fun ⟨l39, s3_40⟩ =>
 if (128 : Int) ≤ s3_40 then Go.L.chk (0 ≤ s3_40 ∧ s3_40 < 2 ^ 64 ∧ 0 < (128 : Int)) (Go.L.chk (Go.E.Cap 1 (l39.length + ([((Go.L.u8 (s3_40 % (128 : Int))) + (128 : UInt8))]).length)) (Go.L.chk (0 ≤ s3_40 ∧ s3_40 < 2 ^ 64 ∧ 0 < (128 : Int)) (some (Sum.inl ((l39 ++ [((Go.L.u8 (s3_40 % (128 : Int))) + (128 : UInt8))]), (s3_40 / (128 : Int))))))) else Option.map Sum.inr (ref4_varint_k2 l39 s3_40)
noncomputable def ref4_varint_l3 (s : (List UInt8) × Int) : Option ((List UInt8)) := Go.L.run (ref4_varint_bl3) s
noncomputable def ref4_varint_k1 (s3_6 : Int) : Option ((List UInt8)) :=
 ref4_varint_l3 (([] : List UInt8), s3_6)
noncomputable def ref4_varint (a0 : Int) : Option ((List UInt8)) :=
 if a0 < (0 : Int) then Go.L.chk (0 ≤ (IntKind.u64.wrap ((IntKind.u64.wrap a0) * (2 : Int))) ∧ (IntKind.u64.wrap ((IntKind.u64.wrap a0) * (2 : Int))) < 2 ^ 64) (ref4_varint_k1 ((18446744073709551615 ^^^ (IntKind.u64.wrap ((IntKind.u64.wrap a0) * (2 : Int))).toNat : Nat) : Int)) else ref4_varint_k1 (IntKind.u64.wrap ((IntKind.u64.wrap a0) * (2 : Int)))
theorem ref4_varint_ok (w : World) (H : PH) (hH : Le H (hp w)) {a0 : Int}   {r : (List UInt8)} (h : ref4_varint a0 = some r) :
  Ok Tryz.prog 65 [.int .i64 a0] w (fun v w' => Ext w w' ∧ ∃ u0, v = u0 ∧ OwnH 5 .byte H w w' u0 (r)) := by
 refine Ok_enter (n := 28) [(0, .int .i64 a0)] func65 rfl rfl rfl rfl rfl ?_;have hL := Lcl.start w;refine W_pz 1 rfl ?_;refine W_p 1 rfl ?_;refine S_v (r_conv underlying3 underlying136 rfl rfl) rfl ?_;refine S_v (r_ar rfl rfl rfl rfl) rfl ?_;refine S_pz 1 rfl ?_;refine W_cut (σ := Int) (fun s3_6 => [(3, .int .u64 s3_6)]) (fun s3_6 wr => Lcl w [] wr ∧ ref4_varint_k1 s3_6 = some r) ?_ ?_
 ·refine W_pz 2 rfl ?_;refine W_if rfl (fun hc9 => ?_) (fun hc9 => ?_)
  ·replace h := Go.L.ite_p hc9 h;refine W_region ?_;refine S_pu 1 rfl ?_;obtain ⟨hk11, h⟩ := Go.L.chk_some h;refine S_v (r_cplU rfl hk11) rfl ?_;refine S_pu 1 rfl ?_;refine S_nil ?_;refine At_cut ((18446744073709551615 ^^^ (IntKind.u64.wrap ((IntKind.u64.wrap a0) * (2 : Int))).toNat : Nat) : Int) (.cons rfl (Sub.nil _)) ⟨hL, h⟩
  ·replace h := Go.L.ite_n hc9 h;refine W_skip ?_;refine At_cut (IntKind.u64.wrap ((IntKind.u64.wrap a0) * (2 : Int))) (.cons rfl (Sub.nil _)) ⟨hL, h⟩
 ·rintro s3_6 wr7 ⟨hL7, h⟩;refine W_p 1 rfl ?_;obtain ⟨hL14, hle14, he14⟩ := row_nilE .byte H 5 hL7;refine S_seqnil ?_;refine W_cut (σ := (List UInt8) × Int × Value × (List Value)) (fun ⟨l26, s3_27, vl26, xsl26⟩ => [(3, .int .u64 s3_27), (4, vl26)]) (fun ⟨l26, s3_27, vl26, xsl26⟩ wr => InO w [.row (vl26) 5 1 (l26).length (xsl26)] wr fun Oz => Elems .byte (gz H w wr Oz) (l26) (xsl26) ∧ ref4_varint_k2 l26 s3_27 = some r) ?_ ?_
  ·refine W_block ?_;obtain ⟨n41, h⟩ := Go.L.run_some h;refine W_loop (σ := (List UInt8) × Int × Value × (List Value) × Nat) (fun ⟨l39, s3_40, vl39, xsl39, n⟩ => [(3, .int .u64 s3_40), (4, vl39)]) (fun ⟨l39, s3_40, vl39, xsl39, n⟩ wr => InO w [.row (vl39) 5 1 (l39).length (xsl39)] wr fun Oz => Elems .byte (gz H w wr Oz) (l39) (xsl39) ∧ Go.L.itr ref4_varint_bl3 n (l39, s3_40) = some r) (fun ⟨l39, s3_40, vl39, xsl39, n⟩ => n) (([] : List UInt8), s3_6, .slice none 0 0, [], n41) (.cons rfl (.cons rfl (Sub.nil _))) ⟨hL14, he14, h⟩ ?_;rintro ⟨l39, s3_40, vl39, xsl39, nn41⟩ wr41 ⟨hL41, hel39, h⟩;obtain ⟨n41, e41, rfl, h, hm41⟩ := Go.L.itr_some h;refine W_seq ?_;refine W_pz 2 rfl ?_;refine W_if rfl (fun hc43 => ?_) (fun hc43 => ?_)
   ·replace h := Go.L.ite_p hc43 h;refine W_skip ?_;refine At_seq ?_;refine W_block ?_;refine W_p 2 rfl ?_;obtain ⟨hk45, h⟩ := Go.L.chk_some h;refine S_v (r_rem rfl rfl ⟨hk45.1, hk45.2.2⟩) rfl ?_;refine S_v (r_conv underlying136 underlying5 rfl (conv_64_u8 _)) rfl ?_;refine S_v (r_ar8 (b := 128) rfl rfl rfl) rfl ?_;refine S_litE (r := .byte) (l := [((Go.L.u8 (s3_40 % (128 : Int))) + (128 : UInt8))]) rfl (fun _ => bsl35_1 _ _) rfl (show 1 ≤ 9223372036854775807 by decide) hH hL41 (.c1 rfl .nil) ?_;intro v46 w46 hx46 hL46 hle46 hv46;replace hel39 := hel39.mono (gz_mono hH hle46);obtain ⟨hk48, h⟩ := Go.L.chk_some h;refine S_appE (r := .byte) (l := l39) (m := [((Go.L.u8 (s3_40 % (128 : Int))) + (128 : UInt8))]) 0 rfl rfl underlying35 zr5 rfl (by decide) rfl hH hL46 rfl hel39 hv46 hk48 ?_;intro v47 w47 xs47 hL47 hle47 he47;replace hv46 := hv46.mono (gz_mono hH hle47);refine S_pz 1 rfl ?_;refine W_region ?_;refine S_pu 1 rfl ?_;obtain ⟨hk49, h⟩ := Go.L.chk_some h;refine S_v (r_quoU rfl rfl hk49) rfl ?_;refine S_pu 1 rfl ?_;refine S_nil ?_;refine At_block ?_;have h := Go.L.Nxt.again h hm41;refine At_round ((l39 ++ [((Go.L.u8 (s3_40 % (128 : Int))) + (128 : UInt8))]), (s3_40 / (128 : Int)), v47, xs47, n41) (.cons rfl (.cons rfl (Sub.nil _))) ⟨hL47, he47, h⟩ (Nat.lt_succ_self _)
   ·replace h := Go.L.ite_n hc43 h;refine W_exit ?_;refine At_seq_exit ?_;refine At_loop_exit ?_;replace h := Go.L.Nxt.out h hm41;refine At_exit ?_;refine At_cut (l39, s3_40, vl39, xsl39) (.cons rfl (.cons rfl (Sub.nil _))) ⟨hL41, hel39, h⟩
  ·rintro ⟨l26, s3_27, vl26, xsl26⟩ wr28 ⟨hL28, hel26, h⟩;refine W_p 2 rfl ?_;refine S_v (r_conv underlying136 underlying5 rfl (conv_64_u8 _)) rfl ?_;refine S_litE (r := .byte) (l := [(Go.L.u8 s3_27)]) rfl (fun _ => bsl35_1 _ _) rfl (show 1 ≤ 9223372036854775807 by decide) hH hL28 (.c1 rfl .nil) ?_;intro v52 w52 hx52 hL52 hle52 hv52;replace hel26 := hel26.mono (gz_mono hH hle52);obtain ⟨hk54, h⟩ := Go.L.chk_some h;refine S_appE (r := .byte) (l := l26) (m := [(Go.L.u8 s3_27)]) 0 rfl rfl underlying35 zr5 rfl (by decide) rfl hH hL52 rfl hel26 hv52 hk54 ?_;intro v53 w53 xs53 hL53 hle53 he53;replace hv52 := hv52.mono (gz_mono hH hle53);refine S_pz 1 rfl ?_;refine W_ret ?_;obtain rfl := Option.some.inj h;refine At_body rfl rfl ?_;exact ⟨hL53.ext, _, rfl, (hL53.ownH hH (i := 0) rfl he53)⟩
noncomputable def ref4_chunk (a0 : List UInt8) : Option ((List UInt8)) :=
 Option.bind (ref4_varint (a0.length : Int)) (fun x1 => Go.L.chk (a0.length ≤ 9223372036854775807) (Go.L.chk (Go.E.Cap 1 (x1.length + a0.length)) (some ((x1 ++ a0)))))
theorem ref4_chunk_ok (w : World) (H : PH) (hH : Le H (hp w)) {a0 : List UInt8}   {r : (List UInt8)} (h : ref4_chunk a0 = some r) :
  Ok Tryz.prog 101 [.string ⟨(a0).toArray⟩] w (fun v w' => Ext w w' ∧ ∃ u0, v = u0 ∧ OwnH 5 .byte H w w' u0 (r)) := by
 refine Ok_enter (n := 9) [(0, .string ⟨(a0).toArray⟩)] func101 rfl rfl rfl rfl rfl ?_;have hL := Lcl.start w;refine W_pz 1 rfl ?_;refine W_p 1 rfl ?_;refine S_v (r_lenS rfl underlying9) rfl ?_;obtain ⟨x1, hb1, h⟩ := Go.L.bind_some h;refine S_callL rfl rfl hL (ref4_varint_ok _ _ (gz_le hH hL) hb1) ?_;rintro u2_0 w2 ⟨_, rfl, hR2_0⟩ hx2 hL2 hle2;obtain ⟨xs2, hL2, hle2, he2⟩ := hR2_0.take hH hL hx2;refine S_pu 1 rfl ?_;obtain ⟨hk4, h⟩ := Go.L.chk_some h;refine S_s2b (H := H) rfl underlying9 underlying35 underlying5 rfl hL2 hk4 ?_;intro v3 w3 hx3 hL3 hle3 hv3;replace he2 := he2.mono (gz_mono hH hle3);obtain ⟨hk6, h⟩ := Go.L.chk_some h;refine S_appE (r := .byte) (l := x1) (m := a0) 0 rfl rfl underlying35 zr5 rfl (by decide) rfl hH hL3 rfl he2 hv3 hk6 ?_;intro v5 w5 xs5 hL5 hle5 he5;replace hv3 := hv3.mono (gz_mono hH hle5);refine S_pz 1 rfl ?_;refine W_ret ?_;obtain rfl := Option.some.inj h;refine At_body rfl rfl ?_;exact ⟨hL5.ext, _, rfl, (hL5.ownH hH (i := 0) rfl he5)⟩
noncomputable def ref4_leafForm_k1 (l45 : List UInt8) : Option ((List UInt8)) :=
 some (l45)
noncomputable def ref4_leafForm_bl2 (a1 : List Int) : (List UInt8) × Int → Option (((List UInt8) × Int) ⊕ ((List UInt8))) := fun ⟨l59, s6_60⟩ =>
 if s6_60 < (a1.length : Int) then Go.L.chk (0 ≤ s6_60 ∧ s6_60 < (a1.length : Int)) (Option.bind (ref4_varint (a1.getD s6_60.toNat default)) (fun x67 => Go.L.chk (Go.E.Cap 1 (l59.length + x67.length)) (Go.L.chk (Go.L.I64 (s6_60 + (1 : Int))) (some (Sum.inl ((l59 ++ x67), (s6_60 + (1 : Int)))))))) else Option.map Sum.inr (ref4_leafForm_k1 l59)
noncomputable def ref4_leafForm_l2 (a1 : List Int) (s : (List UInt8) × Int) : Option ((List UInt8)) := Go.L.run (ref4_leafForm_bl2 a1) s
noncomputable def ref4_leafForm (a0 : (List UInt8) × Int × Int × (List UInt8)) (a1 : List Int) : Option ((List UInt8)) :=
 Option.bind (ref4_chunk a0.1) (fun x2 => Option.bind (ref4_varint a0.2.1) (fun x4 => Go.L.chk (Go.E.Cap 1 (x2.length + x4.length)) (Option.bind (ref4_varint a0.2.2.1) (fun x8 => Go.L.chk (Go.E.Cap 1 ((x2 ++ x4).length + x8.length)) (Option.bind (ref4_chunk a0.2.2.2) (fun x12 => Go.L.chk (Go.E.Cap 1 (((x2 ++ x4) ++ x8).length + x12.length)) (Option.bind (ref4_varint (a1.length : Int)) (fun x16 => Go.L.chk (Go.E.Cap 1 ((((x2 ++ x4) ++ x8) ++ x12).length + x16.length)) ((ref4_leafForm_l2 a1) (((((x2 ++ x4) ++ x8) ++ x12) ++ x16), (0 : Int)))))))))))
theorem ref4_leafForm_ok (w : World) (H : PH) (hH : Le H (hp w)) {a0 : (List UInt8) × Int × Int × (List UInt8)} {a1 : List Int} {v1_0 : Value} (h1_0 : Vec (.int .i64) H v1_0 (a1)) {r : (List UInt8)} (h : ref4_leafForm a0 a1 = some r) :
  Ok Tryz.prog 67 [.agg #[.string ⟨(a0.1).toArray⟩, .int .i64 a0.2.1, .int .i64 a0.2.2.1, .string ⟨(a0.2.2.2).toArray⟩], v1_0] w (fun v w' => Ext w w' ∧ ∃ u0, v = u0 ∧ OwnH 5 .byte H w w' u0 (r)) := by
 refine Ok_enter (n := 44) [(0, .agg #[.string ⟨(a0.1).toArray⟩, .int .i64 a0.2.1, .int .i64 a0.2.2.1, .string ⟨(a0.2.2.2).toArray⟩]), (1, v1_0)] func67 rfl rfl rfl rfl rfl ?_;have hL := Lcl.start w;refine W_seqr ?_;refine S_box (t := 73) rfl rfl rfl hL ?_;intro w1 b1 hL1 hle1 _;refine S_pz 1 rfl ?_;refine W_seqr ?_;refine S_v (r_field rfl underlying73 rfl zr9 (by decide)) rfl ?_;refine S_v (r_loadB1 0 rfl underlying9 rfl hL1 rfl rfl) rfl ?_;obtain ⟨x2, hb2, h⟩ := Go.L.bind_some h;refine S_callL rfl rfl hL1 (ref4_chunk_ok _ _ (gz_le hH hL1) hb2) ?_;rintro u3_0 w3 ⟨_, rfl, hR3_0⟩ hx3 hL3 hle3;obtain ⟨xs3, hL3, hle3, he3⟩ := hR3_0.take hH hL1 hx3;refine S_pz 1 rfl ?_;refine W_p 1 rfl ?_;refine S_v (r_field rfl underlying73 rfl zr3 (by decide)) rfl ?_;refine S_v (r_loadB1 1 rfl underlying3 rfl hL3 rfl rfl) rfl ?_;obtain ⟨x4, hb4, h⟩ := Go.L.bind_some h;refine S_callL rfl rfl hL3 (ref4_varint_ok _ _ (gz_le hH hL3) hb4) ?_;rintro u5_0 w5 ⟨_, rfl, hR5_0⟩ hx5 hL5 hle5;have hv5_0 := hR5_0.vecG hH hL3 hx5;replace he3 := he3.mono (gz_mono hH hle5);obtain ⟨hk7, h⟩ := Go.L.chk_some h;refine S_appE (r := .byte) (l := x2) (m := x4) 0 rfl rfl underlying35 zr5 rfl (by decide) rfl hH hL5 rfl he3 hv5_0 hk7 ?_;intro v6 w6 xs6 hL6 hle6 he6;replace hv5_0 := hv5_0.mono (gz_mono hH hle6);refine S_pz 1 rfl ?_;refine W_p 1 rfl ?_;refine S_v (r_field rfl underlying73 rfl zr3 (by decide)) rfl ?_;refine S_v (r_loadB1 1 rfl underlying3 rfl hL6 rfl rfl) rfl ?_;obtain ⟨x8, hb8, h⟩ := Go.L.bind_some h
 refine S_callL rfl rfl hL6 (ref4_varint_ok _ _ (gz_le hH hL6) hb8) ?_;rintro u9_0 w9 ⟨_, rfl, hR9_0⟩ hx9 hL9 hle9;have hv9_0 := hR9_0.vecG hH hL6 hx9;replace he6 := he6.mono (gz_mono hH hle9);obtain ⟨hk11, h⟩ := Go.L.chk_some h;refine S_appE (r := .byte) (l := (x2 ++ x4)) (m := x8) 0 rfl rfl underlying35 zr5 rfl (by decide) rfl hH hL9 rfl he6 hv9_0 hk11 ?_;intro v10 w10 xs10 hL10 hle10 he10;replace hv9_0 := hv9_0.mono (gz_mono hH hle10);refine S_pz 1 rfl ?_;refine W_p 1 rfl ?_;refine S_v (r_field rfl underlying73 rfl zr9 (by decide)) rfl ?_;refine S_v (r_loadB1 1 rfl underlying9 rfl hL10 rfl rfl) rfl ?_;obtain ⟨x12, hb12, h⟩ := Go.L.bind_some h;refine S_callL rfl rfl hL10 (ref4_chunk_ok _ _ (gz_le hH hL10) hb12) ?_;rintro u13_0 w13 ⟨_, rfl, hR13_0⟩ hx13 hL13 hle13;have hv13_0 := hR13_0.vecG hH hL10 hx13;replace he10 := he10.mono (gz_mono hH hle13);obtain ⟨hk15, h⟩ := Go.L.chk_some h;refine S_appE (r := .byte) (l := ((x2 ++ x4) ++ x8)) (m := x12) 0 rfl rfl underlying35 zr5 rfl (by decide) rfl hH hL13 rfl he10 hv13_0 hk15 ?_;intro v14 w14 xs14 hL14 hle14 he14;replace hv13_0 := hv13_0.mono (gz_mono hH hle14);refine S_pz 1 rfl ?_;refine W_p 2 rfl ?_;refine S_v (r_len rfl underlying52 h1_0) rfl ?_;obtain ⟨x16, hb16, h⟩ := Go.L.bind_some h;refine S_callL rfl rfl hL14 (ref4_varint_ok _ _ (gz_le hH hL14) hb16) ?_;rintro u17_0 w17 ⟨_, rfl, hR17_0⟩ hx17 hL17 hle17;have hv17_0 := hR17_0.vecG hH hL14 hx17;replace he14 := he14.mono (gz_mono hH hle17);obtain ⟨hk19, h⟩ := Go.L.chk_some h
 refine S_appE (r := .byte) (l := (((x2 ++ x4) ++ x8) ++ x12)) (m := x16) 0 rfl rfl underlying35 zr5 rfl (by decide) rfl hH hL17 rfl he14 hv17_0 hk19 ?_;intro v18 w18 xs18 hL18 hle18 he18;replace hv17_0 := hv17_0.mono (gz_mono hH hle18);refine S_pz 1 rfl ?_;refine W_cut (σ := (List UInt8) × Value × (List Value)) (fun ⟨l45, vl45, xsl45⟩ => [(5, vl45)]) (fun ⟨l45, vl45, xsl45⟩ wr => InO w [.row (vl45) 5 1 (l45).length (xsl45), .box b1 [.string ⟨(a0.1).toArray⟩, .int .i64 a0.2.1, .int .i64 a0.2.2.1, .string ⟨(a0.2.2.2).toArray⟩] 73] wr fun Oz => Elems .byte (gz H w wr Oz) (l45) (xsl45) ∧ ref4_leafForm_k1 l45 = some r) ?_ ?_
 ·refine W_pz 1 rfl ?_;refine W_block ?_;obtain ⟨n61, h⟩ := Go.L.run_some h;refine W_loop (σ := (List UInt8) × Int × Value × (List Value) × Nat) (fun ⟨l59, s6_60, vl59, xsl59, n⟩ => [(1, v1_0), (5, vl59), (6, .int .i64 s6_60)]) (fun ⟨l59, s6_60, vl59, xsl59, n⟩ wr => InO w [.row (vl59) 5 1 (l59).length (xsl59), .box b1 [.string ⟨(a0.1).toArray⟩, .int .i64 a0.2.1, .int .i64 a0.2.2.1, .string ⟨(a0.2.2.2).toArray⟩] 73] wr fun Oz => Elems .byte (gz H w wr Oz) (l59) (xsl59) ∧ Go.L.itr (ref4_leafForm_bl2 a1) n (l59, s6_60) = some r) (fun ⟨l59, s6_60, vl59, xsl59, n⟩ => n) (((((x2 ++ x4) ++ x8) ++ x12) ++ x16), (0 : Int), v18, xs18, n61) (.cons rfl (.cons rfl (.cons rfl (Sub.nil _)))) ⟨hL18, he18, h⟩ ?_;rintro ⟨l59, s6_60, vl59, xsl59, nn61⟩ wr61 ⟨hL61, hel59, h⟩;obtain ⟨n61, e61, rfl, h, hm61⟩ := Go.L.itr_some h;refine W_seq ?_;refine W_p 2 rfl ?_;refine S_v (r_len rfl underlying52 h1_0) rfl ?_;refine S_pz 1 rfl ?_;refine W_if rfl (fun hc63 => ?_) (fun hc63 => ?_)
  ·replace h := Go.L.ite_p hc63 h;refine W_skip ?_;refine At_seq ?_;refine W_seq ?_;refine W_block ?_;refine W_region ?_;refine S_pu 3 rfl ?_;obtain ⟨hk66, h⟩ := Go.L.chk_some h;refine S_index rfl rfl underlying52 zr3 h1_0 s6_60.toNat (Int.toNat_of_nonneg hk66.1).symm (idx_lt hk66) rfl ?_;rintro p65 _ rfl hp65;refine S_v (r_load1 rfl underlying3 rfl hp65 (hH.trans hL61.arg)) rfl ?_;obtain ⟨x67, hb67, h⟩ := Go.L.bind_some h;refine S_callL rfl rfl hL61 (ref4_varint_ok _ _ (gz_le hH hL61) hb67) ?_;rintro u68_0 w68 ⟨_, rfl, hR68_0⟩ hx68 hL68 hle68;have hv68_0 := hR68_0.vecG hH hL61 hx68;replace hel59 := hel59.mono (gz_mono hH hle68);obtain ⟨hk70, h⟩ := Go.L.chk_some h;refine S_appE (r := .byte) (l := l59) (m := x67) 0 rfl rfl underlying35 zr5 rfl (by decide) rfl hH hL68 rfl hel59 hv68_0 hk70 ?_;intro v69 w69 xs69 hL69 hle69 he69;replace hv68_0 := hv68_0.mono (gz_mono hH hle69);refine S_pu 1 rfl ?_;refine S_nil ?_;refine At_block ?_;refine At_seq ?_;refine W_region ?_;refine S_pu 1 rfl ?_;obtain ⟨hk71, h⟩ := Go.L.chk_some h;refine S_v (r_ar64 rfl rfl rfl hk71) rfl ?_;refine S_pu 1 rfl ?_;refine S_nil ?_;have h := Go.L.Nxt.again h hm61;refine At_round ((l59 ++ x67), (s6_60 + (1 : Int)), v69, xs69, n61) (.cons rfl (.cons rfl (.cons rfl (Sub.nil _)))) ⟨hL69, he69, h⟩ (Nat.lt_succ_self _)
  ·replace h := Go.L.ite_n hc63 h;refine W_exit ?_;refine At_seq_exit ?_;refine At_loop_exit ?_;replace h := Go.L.Nxt.out h hm61;refine At_exit ?_;refine At_cut (l59, vl59, xsl59) (.cons rfl (Sub.nil _)) ⟨hL61, hel59, h⟩
 ·rintro ⟨l45, vl45, xsl45⟩ wr46 ⟨hL46, hel45, h⟩;refine W_pz 2 rfl ?_;refine W_ret ?_;obtain rfl := Option.some.inj h;refine At_body rfl rfl ?_;exact ⟨hL46.ext, _, rfl, (hL46.ownH hH (i := 0) rfl hel45)⟩
noncomputable def ref4_ShapesForm_k3 (s5_107 : Int) (l152 : List UInt8) : Option (((List UInt8) × Int) ⊕ ((List UInt8))) :=
 Go.L.chk (Go.L.I64 (s5_107 + (1 : Int))) (some (Sum.inl (l152, (s5_107 + (1 : Int)))))
noncomputable def ref4_ShapesForm_k4 (l106 : List UInt8) (s5_107 : Int) (x1 : (List ((List UInt8) × Int × Int × (List UInt8)))) (l186 : List Int) : Option (((List UInt8) × Int) ⊕ ((List UInt8))) :=
 Go.L.chk (0 ≤ s5_107 ∧ s5_107 < (x1.length : Int)) (Option.bind (ref4_leafForm ((x1.getD s5_107.toNat default).1, (x1.getD s5_107.toNat default).2.1, (x1.getD s5_107.toNat default).2.2.1, (x1.getD s5_107.toNat default).2.2.2) l186) (fun x250 => Go.L.chk (Go.E.Cap 1 (l106.length + x250.length)) ((ref4_ShapesForm_k3 s5_107) (l106 ++ x250))))
noncomputable def ref4_ShapesForm_bl5 (a0 : List Go.L.Pv) (l106 : List UInt8) (s5_107 : Int) (x1 : (List ((List UInt8) × Int × Int × (List UInt8)))) : (List Int) × Int → Option (((List Int) × Int) ⊕ (((List UInt8) × Int) ⊕ ((List UInt8)))) := fun ⟨l216, s7_217⟩ =>
 if s7_217 < (a0.length : Int) then Go.L.chk (0 ≤ s7_217 ∧ s7_217 < (a0.length : Int)) (Go.L.chk (0 ≤ s5_107 ∧ s5_107 < (x1.length : Int)) (Option.bind (ref4_Leaves (a0.getD s7_217.toNat default) ([] : List UInt8)) (fun x229 => Option.bind (ref4_HasLeaf x229 ((x1.getD s5_107.toNat default).1, (x1.getD s5_107.toNat default).2.1, (x1.getD s5_107.toNat default).2.2.1, (x1.getD s5_107.toNat default).2.2.2)) (fun x233 => if x233 then Go.L.chk (Go.E.Cap 8 (l216.length + ([s7_217]).length)) (Go.L.chk (Go.L.I64 (s7_217 + (1 : Int))) (some (Sum.inl ((l216 ++ [s7_217]), (s7_217 + (1 : Int)))))) else Go.L.chk (Go.L.I64 (s7_217 + (1 : Int))) (some (Sum.inl (l216, (s7_217 + (1 : Int))))))))) else Option.map Sum.inr ((ref4_ShapesForm_k4 l106 s5_107 x1) l216)
noncomputable def ref4_ShapesForm_l5 (a0 : List Go.L.Pv) (l106 : List UInt8) (s5_107 : Int) (x1 : (List ((List UInt8) × Int × Int × (List UInt8)))) (s : (List Int) × Int) : Option (((List UInt8) × Int) ⊕ ((List UInt8))) := Go.L.run (ref4_ShapesForm_bl5 a0 l106 s5_107 x1) s
noncomputable def ref4_ShapesForm_k1 (l57 : List UInt8) : Option ((List UInt8)) :=
 some (l57)
noncomputable def ref4_ShapesForm_bl2 (a0 : List Go.L.Pv) (x1 : (List ((List UInt8) × Int × Int × (List UInt8)))) : (List UInt8) × Int → Option (((List UInt8) × Int) ⊕ ((List UInt8))) := fun ⟨l106, s5_107⟩ =>
 if s5_107 < (x1.length : Int) then (ref4_ShapesForm_l5 a0 l106 s5_107 x1) (([] : List Int), (0 : Int)) else Option.map Sum.inr (ref4_ShapesForm_k1 l106)
noncomputable def ref4_ShapesForm_l2 (a0 : List Go.L.Pv) (x1 : (List ((List UInt8) × Int × Int × (List UInt8)))) (s : (List UInt8) × Int) : Option ((List UInt8)) := Go.L.run (ref4_ShapesForm_bl2 a0 x1) s
noncomputable def ref4_ShapesForm (a0 : List Go.L.Pv) : Option ((List UInt8)) :=
 Option.bind (ref4_AllLeaves a0) (fun x1 => Option.bind (ref4_varint (a0.length : Int)) (fun x3 => Option.bind (ref4_varint (x1.length : Int)) (fun x5 => Go.L.chk (Go.E.Cap 1 (x3.length + x5.length)) ((ref4_ShapesForm_l2 a0 x1) ((x3 ++ x5), (0 : Int))))))
theorem ref4_ShapesForm_ok (w : World) (H : PH) (hH : Le H (hp w)) {a0 : List Go.L.Pv} {v0_0 : Value} (h0_0 : Vec .tree H v0_0 (a0)) {r : (List UInt8)} (h : ref4_ShapesForm a0 = some r) :
  Ok Tryz.prog 35 [v0_0] w (fun v w' => Ext w w' ∧ ∃ u0, v = u0 ∧ OwnH 5 .byte H w w' u0 (r)) := by
 refine Ok_enter (n := 52) [(0, v0_0)] func35 rfl rfl rfl rfl rfl ?_;have hL := Lcl.start w;refine W_pz 1 rfl ?_;refine W_p 1 rfl ?_;obtain ⟨x1, hb1, h⟩ := Go.L.bind_some h;refine S_callL rfl rfl hL (ref4_AllLeaves_ok _ _ (gz_le hH hL) (h0_0.mono (gz_left hH)) hb1) ?_;rintro u2_0 w2 ⟨_, rfl, hR2_0⟩ hx2 hL2 hle2;have hv2_0 := hR2_0.vecG hH hL hx2;refine S_pz 1 rfl ?_;refine W_p 1 rfl ?_;refine S_v (r_len rfl underlying36 h0_0) rfl ?_;obtain ⟨x3, hb3, h⟩ := Go.L.bind_some h;refine S_callL rfl rfl hL2 (ref4_varint_ok _ _ (gz_le hH hL2) hb3) ?_;rintro u4_0 w4 ⟨_, rfl, hR4_0⟩ hx4 hL4 hle4;obtain ⟨xs4, hL4, hle4, he4⟩ := hR4_0.take hH hL2 hx4;replace hv2_0 := hv2_0.mono (gz_mono hH hle4);refine S_pu 1 rfl ?_;refine S_v (r_len rfl underlying67 hv2_0) rfl ?_;obtain ⟨x5, hb5, h⟩ := Go.L.bind_some h;refine S_callL rfl rfl hL4 (ref4_varint_ok _ _ (gz_le hH hL4) hb5) ?_;rintro u6_0 w6 ⟨_, rfl, hR6_0⟩ hx6 hL6 hle6;have hv6_0 := hR6_0.vecG hH hL4 hx6;replace hv2_0 := hv2_0.mono (gz_mono hH hle6);replace he4 := he4.mono (gz_mono hH hle6);obtain ⟨hk8, h⟩ := Go.L.chk_some h;refine S_appE (r := .byte) (l := x3) (m := x5) 0 rfl rfl underlying35 zr5 rfl (by decide) rfl hH hL6 rfl he4 hv6_0 hk8 ?_;intro v7 w7 xs7 hL7 hle7 he7;replace hv2_0 := hv2_0.mono (gz_mono hH hle7);replace hv6_0 := hv6_0.mono (gz_mono hH hle7);refine S_pz 1 rfl ?_
 refine W_cut (σ := (List UInt8) × Value × (List Value)) (fun ⟨l57, vl57, xsl57⟩ => [(4, vl57)]) (fun ⟨l57, vl57, xsl57⟩ wr => InO w [.row (vl57) 5 1 (l57).length (xsl57)] wr fun Oz => Elems .byte (gz H w wr Oz) (l57) (xsl57) ∧ ref4_ShapesForm_k1 l57 = some r) ?_ ?_
 ·refine W_pz 1 rfl ?_;refine W_block ?_;obtain ⟨n108, h⟩ := Go.L.run_some h;refine W_loop (σ := (List UInt8) × Int × Value × (List Value) × Nat) (fun ⟨l106, s5_107, vl106, xsl106, n⟩ => [(0, v0_0), (3, u2_0), (4, vl106), (5, .int .i64 s5_107)]) (fun ⟨l106, s5_107, vl106, xsl106, n⟩ wr => InO w [.row (vl106) 5 1 (l106).length (xsl106)] wr fun Oz => Vec (.pair .st (.pair (.int .i64) (.pair (.int .i64) .st))) (gz H w wr Oz) (u2_0) (x1) ∧ Elems .byte (gz H w wr Oz) (l106) (xsl106) ∧ Go.L.itr (ref4_ShapesForm_bl2 a0 x1) n (l106, s5_107) = some r) (fun ⟨l106, s5_107, vl106, xsl106, n⟩ => n) ((x3 ++ x5), (0 : Int), v7, xs7, n108) (.cons rfl (.cons rfl (.cons rfl (.cons rfl (Sub.nil _))))) ⟨hL7, hv2_0, he7, h⟩ ?_;rintro ⟨l106, s5_107, vl106, xsl106, nn108⟩ wr108 ⟨hL108, hf108_0, hel106, h⟩;obtain ⟨n108, e108, rfl, h, hm108⟩ := Go.L.itr_some h;refine W_seq ?_;refine W_p 2 rfl ?_;refine S_v (r_len rfl underlying67 hf108_0) rfl ?_;refine S_pz 1 rfl ?_;refine W_if rfl (fun hc110 => ?_) (fun hc110 => ?_)
  ·replace h := Go.L.ite_p hc110 h;refine W_skip ?_;refine At_seq ?_;refine W_cut (σ := (List UInt8) × Value × (List Value)) (fun ⟨l152, vl152, xsl152⟩ => [(0, v0_0), (3, u2_0), (4, vl152), (5, .int .i64 s5_107)]) (fun ⟨l152, vl152, xsl152⟩ wr => InO w [.row (vl152) 5 1 (l152).length (xsl152)] wr fun Oz => Vec (.pair .st (.pair (.int .i64) (.pair (.int .i64) .st))) (gz H w wr Oz) (u2_0) (x1) ∧ Elems .byte (gz H w wr Oz) (l152) (xsl152) ∧ (ref4_ShapesForm_k3 s5_107) l152 = some e108) ?_ ?_
   ·refine W_block ?_;refine W_p 1 rfl ?_;obtain ⟨hL155, hle155, he155⟩ := row_nilE (.int .i64) H 3 hL108;replace hf108_0 := hf108_0.mono (gz_mono hH hle155);replace hel106 := hel106.mono (gz_mono hH hle155);refine S_seqnil ?_;refine W_cut (σ := (List Int) × Value × (List Value)) (fun ⟨l186, vl186, xsl186⟩ => [(0, v0_0), (3, u2_0), (4, vl106), (5, .int .i64 s5_107), (6, vl186)]) (fun ⟨l186, vl186, xsl186⟩ wr => InO w [.row (vl186) 3 1 (l186).length (xsl186), .row (vl106) 5 1 (l106).length (xsl106)] wr fun Oz => Vec (.pair .st (.pair (.int .i64) (.pair (.int .i64) .st))) (gz H w wr Oz) (u2_0) (x1) ∧ Elems (.int .i64) (gz H w wr Oz) (l186) (xsl186) ∧ Elems .byte (gz H w wr Oz) (l106) (xsl106) ∧ (ref4_ShapesForm_k4 l106 s5_107 x1) l186 = some e108) ?_ ?_
    ·have hG189 := hL155.rG H;refine W_pz 1 rfl ?_;refine W_block ?_;obtain ⟨n218, h⟩ := Go.L.run_some h;refine W_loop (σ := (List Int) × Int × Value × (List Value) × Nat) (fun ⟨l216, s7_217, vl216, xsl216, n⟩ => [(0, v0_0), (3, u2_0), (4, vl106), (5, .int .i64 s5_107), (6, vl216), (7, .int .i64 s7_217)]) (fun ⟨l216, s7_217, vl216, xsl216, n⟩ wr => InO w [.row (vl216) 3 1 (l216).length (xsl216), .row (vl106) 5 1 (l106).length (xsl106)] wr fun Oz => Vec (.pair .st (.pair (.int .i64) (.pair (.int .i64) .st))) (gz H w wr Oz) (u2_0) (x1) ∧ Elems (.int .i64) (gz H w wr Oz) (l216) (xsl216) ∧ Elems .byte (gz H w wr Oz) (l106) (xsl106) ∧ Go.L.itr (ref4_ShapesForm_bl5 a0 l106 s5_107 x1) n (l216, s7_217) = some e108) (fun ⟨l216, s7_217, vl216, xsl216, n⟩ => n) (([] : List Int), (0 : Int), .slice none 0 0, [], n218) (.cons rfl (.cons rfl (.cons rfl (.cons rfl (.cons rfl (.cons rfl (Sub.nil _))))))) ⟨hL155, (hf108_0.mono hG189), (he155.mono hG189), (hel106.mono hG189), h⟩ ?_;rintro ⟨l216, s7_217, vl216, xsl216, nn218⟩ wr218 ⟨hL218, hf218_0, hel216, he218_r4, h⟩;obtain ⟨n218, e218, rfl, h, hm218⟩ := Go.L.itr_some h;refine W_seq ?_;have hG220 := hL218.rG H;refine W_p 2 rfl ?_;refine S_v (r_len rfl underlying36 h0_0) rfl ?_;refine S_pz 1 rfl ?_;refine W_if rfl (fun hc221 => ?_) (fun hc221 => ?_)
     ·replace h := Go.L.ite_p hc221 h;refine W_skip ?_;refine At_seq ?_;refine W_seq ?_;refine W_block ?_;refine W_seqd (.q 0 (.q 1 (.q 2 (.q 3 (.q 5 (.q 6 (.q 7 (.q 8 (.h 4 (.q 9 (.tail 10))))))))))) mixed (by kernel_rfl) (fun w223 hx223 => ?_);have hL224 := hL218.call hx223;have hle224 := fz_ext hL218 hx223;replace hG220 := hG220.trans (gz_mono hH hle224);refine D_pu 2 rfl ?_;obtain ⟨hk226, h⟩ := Go.L.chk_some h;refine D_index rfl rfl rfl underlying36 zr38 h0_0 s7_217.toNat (Int.toNat_of_nonneg hk226.1).symm (idx_lt hk226) rfl ?_;rintro p225 _ e225t0 hp225;obtain ⟨_, _, rfl, rfl, ⟨_, _, rfl, rfl, ⟨_, _, rfl, ⟨e225v2, rfl, e225h2⟩, ⟨_, _, rfl, ⟨e225v3, rfl, e225h3⟩, ⟨e225v4, rfl, e225h4⟩⟩⟩⟩⟩ := Go.E.Rp.tree_open e225t0;refine D_v (r_loadN rfl underlying38 rfl zr38 hp225 (hH.trans hL224.arg)) rfl rfl ?_;refine D_pu 2 rfl ?_;obtain ⟨hk228, h⟩ := Go.L.chk_some h;refine D_index rfl rfl rfl underlying67 zr73 (hf218_0.mono hG220) s5_107.toNat (Int.toNat_of_nonneg hk228.1).symm (idx_lt hk228) rfl ?_;rintro p227 _ ⟨_, _, rfl, rfl, ⟨_, _, rfl, rfl, ⟨_, _, rfl, rfl, rfl⟩⟩⟩ hp227;refine D_v (r_loadN rfl underlying73 rfl zr73 hp227 (gz_le hH hL224)) rfl rfl ?_;obtain ⟨x229, hb229, h⟩ := Go.L.bind_some h;refine D_hcall rfl rfl rfl (fun w231 hx231 => ref4_Leaves_ok _ _ (gz_le hH (hL224.call hx231)) (e225h2.mono (gz_left hH)) (e225h3.mono (gz_left hH)) (e225h4.mono (gz_left hH)) hb229) ?_;rintro w231 u230_0 w230 hx231 hx230 ⟨_, rfl, hR230_0⟩;have hL232 := hL224.call hx231
      have hle232 := fz_ext hL224 hx231;replace hp227 := hp227.mono (gz_mono hH hle232);replace hG220 := hG220.trans (gz_mono hH hle232);have hL230 := hL232.call hx230;have hle230 := fz_ext hL232 hx230;have hv230_0 := hR230_0.vecG hH hL232 hx230;replace hp227 := hp227.mono (gz_mono hH hle230);replace hG220 := hG220.trans (gz_mono hH hle230);obtain ⟨x233, hb233, h⟩ := Go.L.bind_some h;have hok234 := (fun (w234 : World) (hx234 : Ext w230 w234) => ref4_HasLeaf_ok w234 _ (Le.refl _) ((hv230_0.mono (gz_le hH hL230)).mono hx234.le) hb233);refine D_call rfl rfl rfl hok234 ?_;refine D_tail (fun w235 hx235 => ?_);have hL236 := hL230.call hx235;have hle236 := fz_ext hL230 hx235;replace hp227 := hp227.mono (gz_mono hH hle236);replace hv230_0 := hv230_0.mono (gz_mono hH hle236);replace hG220 := hG220.trans (gz_mono hH hle236);refine S_seqnil ?_;refine W_cond rfl (fun hc237 => ?_) (fun hc237 => ?_)
      ·replace h := Go.L.ite_t hc237 h;refine W_region ?_;refine S_pu 2 rfl ?_;refine S_litE (r := (.int .i64)) (l := [s7_217]) rfl (fun _ => bsl52_1 _ _) rfl (show 1 ≤ 9223372036854775807 by decide) hH hL236 (.c1 rfl .nil) ?_;intro v239 w239 hx239 hL239 hle239 hv239;replace hG220 := hG220.trans (gz_mono hH hle239);obtain ⟨hk241, h⟩ := Go.L.chk_some h;refine S_appE (r := (.int .i64)) (l := l216) (m := [s7_217]) 0 rfl rfl underlying52 zr3 rfl (by decide) rfl hH hL239 rfl (hel216.mono hG220) hv239 hk241 ?_;intro v240 w240 xs240 hL240 hle240 he240;replace hv239 := hv239.mono (gz_mono hH hle240);replace hG220 := hG220.trans (gz_mono hH hle240);refine S_pu 1 rfl ?_;refine S_nil ?_;refine At_block ?_;refine At_seq ?_;refine W_region ?_;refine S_pu 1 rfl ?_;obtain ⟨hk242, h⟩ := Go.L.chk_some h;refine S_v (r_ar64 rfl rfl rfl hk242) rfl ?_;refine S_pu 1 rfl ?_;refine S_nil ?_;have h := Go.L.Nxt.again h hm218;refine At_round ((l216 ++ [s7_217]), (s7_217 + (1 : Int)), v240, xs240, n218) (.cons rfl (.cons rfl (.cons rfl (.cons rfl (.cons rfl (.cons rfl (Sub.nil _))))))) ⟨hL240, (hf218_0.mono hG220), he240, (he218_r4.mono hG220), h⟩ (Nat.lt_succ_self _)
      ·replace h := Go.L.ite_f hc237 h;refine W_skip ?_;refine At_block ?_;refine At_seq ?_;refine W_region ?_;refine S_pu 1 rfl ?_;obtain ⟨hk244, h⟩ := Go.L.chk_some h;refine S_v (r_ar64 rfl rfl rfl hk244) rfl ?_;refine S_pu 1 rfl ?_;refine S_nil ?_;have h := Go.L.Nxt.again h hm218;refine At_round (l216, (s7_217 + (1 : Int)), vl216, xsl216, n218) (.cons rfl (.cons rfl (.cons rfl (.cons rfl (.cons rfl (.cons rfl (Sub.nil _))))))) ⟨hL236, (hf218_0.mono hG220), (hel216.mono hG220), (he218_r4.mono hG220), h⟩ (Nat.lt_succ_self _)
     ·replace h := Go.L.ite_n hc221 h;refine W_exit ?_;refine At_seq_exit ?_;refine At_loop_exit ?_;replace h := Go.L.Nxt.out h hm218;refine At_exit ?_;refine At_cut (l216, vl216, xsl216) (.cons rfl (.cons rfl (.cons rfl (.cons rfl (.cons rfl (Sub.nil _)))))) ⟨hL218, (hf218_0.mono hG220), (hel216.mono hG220), (he218_r4.mono hG220), h⟩
    ·rintro ⟨l186, vl186, xsl186⟩ wr187 ⟨hL187, hf187_0, hel186, hel106, h⟩;have hG247 := hL187.rG H;refine W_region ?_;refine S_pu 3 rfl ?_;obtain ⟨hk249, h⟩ := Go.L.chk_some h;refine S_index rfl rfl underlying67 zr73 (hf187_0.mono hG247) s5_107.toNat (Int.toNat_of_nonneg hk249.1).symm (idx_lt hk249) rfl ?_;rintro p248 _ ⟨_, _, rfl, rfl, ⟨_, _, rfl, rfl, ⟨_, _, rfl, rfl, rfl⟩⟩⟩ hp248;refine S_v (r_loadN rfl underlying73 rfl zr73 hp248 (gz_le hH hL187)) rfl ?_;refine S_pu 1 rfl ?_;obtain ⟨x250, hb250, h⟩ := Go.L.bind_some h;refine S_callL rfl rfl hL187 (ref4_leafForm_ok (a0 := ((x1.getD s5_107.toNat default).1, (x1.getD s5_107.toNat default).2.1, (x1.getD s5_107.toNat default).2.2.1, (x1.getD s5_107.toNat default).2.2.2)) _ _ (Le.refl _) (hL187.vecN hH (i := 0) rfl (hel186.mono hG247)) hb250) ?_;rintro u251_0 w251 ⟨_, rfl, hR251_0⟩ hx251 hL251 hle251;have hv251_0 := (hR251_0.ofPlain plain_byte).vecG hH hL187 hx251;replace hp248 := hp248.mono (gz_mono hH hle251);replace hG247 := hG247.trans (gz_mono hH hle251);obtain ⟨hk253, h⟩ := Go.L.chk_some h;refine S_appE (r := .byte) (l := l106) (m := x250) 1 rfl rfl underlying35 zr5 rfl (by decide) rfl hH hL251 rfl (hel106.mono hG247) hv251_0 hk253 ?_;intro v252 w252 xs252 hL252 hle252 he252;replace hp248 := hp248.mono (gz_mono hH hle252);replace hv251_0 := hv251_0.mono (gz_mono hH hle252);replace hG247 := hG247.trans (gz_mono hH hle252);refine S_pu 1 rfl ?_;refine S_nil ?_;refine At_block ?_;have hL254 := hL252.dropAt (i := 0) rfl
     replace hp248 := hp248.mono (gz_mono hH (fz_dropAt (i := 0) rfl));replace hv251_0 := hv251_0.mono (gz_mono hH (fz_dropAt (i := 0) rfl));replace he252 := he252.mono (gz_mono hH (fz_dropAt (i := 0) rfl));replace hG247 := hG247.trans (gz_mono hH (fz_dropAt (i := 0) rfl));refine At_cut ((l106 ++ x250), v252, xs252) (.cons rfl (.cons rfl (.cons rfl (.cons rfl (Sub.nil _))))) ⟨hL254, (hf187_0.mono hG247), he252, h⟩
   ·rintro ⟨l152, vl152, xsl152⟩ wr153 ⟨hL153, hf153_0, hel152, h⟩;refine W_region ?_;refine S_pu 1 rfl ?_;obtain ⟨hk256, h⟩ := Go.L.chk_some h;refine S_v (r_ar64 rfl rfl rfl hk256) rfl ?_;refine S_pu 1 rfl ?_;refine S_nil ?_;have h := Go.L.Nxt.again h hm108;refine At_round (l152, (s5_107 + (1 : Int)), vl152, xsl152, n108) (.cons rfl (.cons rfl (.cons rfl (.cons rfl (Sub.nil _))))) ⟨hL153, hf153_0, hel152, h⟩ (Nat.lt_succ_self _)
  ·replace h := Go.L.ite_n hc110 h;refine W_exit ?_;refine At_seq_exit ?_;refine At_loop_exit ?_;replace h := Go.L.Nxt.out h hm108;refine At_exit ?_;refine At_cut (l106, vl106, xsl106) (.cons rfl (Sub.nil _)) ⟨hL108, hel106, h⟩
 ·rintro ⟨l57, vl57, xsl57⟩ wr58 ⟨hL58, hel57, h⟩;refine W_pz 2 rfl ?_;refine W_ret ?_;obtain rfl := Option.some.inj h;refine At_body rfl rfl ?_;exact ⟨hL58.ext, _, rfl, (hL58.ownH hH (i := 0) rfl hel57)⟩
end Go.Proofs.YtmfiaecglndldaaGreatDoor
end
section
namespace Go.Proofs.YtmfiaecglndldaaGreatDoor
open Go Go.L
theorem rl_loop {v : Pv} {p : List (List UInt8)} {self : Pv → List UInt8 → Option (List Lf)} {d : Nat} (hv : NodeOk v) (hpo : POk p) (hp : p.length ≤ 20)
    (hs : ∀ i, i < v.f.2.2.2.2.length → self (v.f.2.2.2.2.getD i default) (jn (p ++ [cst v i])) = some (lvs d (v.f.2.2.2.2.getD i default) (p ++ [cst v i]))) :
    ∀ (k i : Nat) (L : List Lf), i + k = v.f.2.2.2.2.length → (L ++ (List.range' i k).flatMap fun i => lvs d (v.f.2.2.2.2.getD i default) (p ++ [cst v i])).length ≤ 1000000 →
      Go.L.run (ref4_Leaves_body_bl2 v (jn p) self) (L, (i : Int)) = some (L ++ (List.range' i k).flatMap fun i => lvs d (v.f.2.2.2.2.getD i default) (p ++ [cst v i]))
  | 0, i, L, hi, _ => by
    refine run_inr (m := some (L ++ (List.range' i 0).flatMap fun i => lvs d (v.f.2.2.2.2.getD i default) (p ++ [cst v i]))) ?_;unfold ref4_Leaves_body_bl2 ref4_Leaves_body_k1;dsimp only;rw [if_neg (by omega)];simp
  | k + 1, i, L, hi, hL => by
    have hil : i < v.f.2.2.2.2.length := by omega
    have hmany := hv.many;have hpl := hpo.jn_len;have hcl := stp_len (cst_ok hv hil);rw [List.range'_succ, List.flatMap_cons, ← List.append_assoc] at hL ⊢
    have hk4 : ref4_Leaves_body_k4 v L (i : Int) self (jn (p ++ [cst v i])) = some (.inl (L ++ lvs d (v.f.2.2.2.2.getD i default) (p ++ [cst v i]), ((i + 1 : Nat) : Int))) := by
      unfold ref4_Leaves_body_k4;rw [chk_pos (by omega), Int.toNat_natCast, hs i hil, Option.bind_some, chk_pos (by unfold Go.E.Cap; simp only [List.length_append] at hL; omega), chk_pos (by unfold I64; omega)]
      rfl
    have hk3 : ∀ x, x = cst v i → ref4_Leaves_body_k3 v (jn p) L (i : Int) self x = some (.inl (L ++ lvs d (v.f.2.2.2.2.getD i default) (p ++ [cst v i]), ((i + 1 : Nat) : Int))) := by
      rintro x rfl;rw [jn_snoc] at hk4;unfold ref4_Leaves_body_k3
      by_cases h0 : p = []
      · rw [if_pos (hpo.nil.2 h0)];rw [if_pos h0] at hk4;exact hk4
      · rw [if_neg (fun h => h0 (hpo.nil.1 h)), chk_pos (by simp; omega), chk_pos (by simp; omega)];rw [if_neg h0] at hk4;rw [show (jn p ++ [47]) ++ cst v i = jn p ++ 47 :: cst v i by simp];exact hk4
    have hb : ref4_Leaves_body_bl2 v (jn p) self (L, (i : Int)) = some (.inl (L ++ lvs d (v.f.2.2.2.2.getD i default) (p ++ [cst v i]), ((i + 1 : Nat) : Int))) := by
      unfold ref4_Leaves_body_bl2;dsimp only;rw [if_pos (by omega)]
      by_cases h4 : v.f.1 = 4
      · have := hv.same h4;rw [if_pos h4, chk_pos (by omega), Int.toNat_natCast];exact hk3 _ (by unfold cst; rw [if_pos h4])
      · rw [if_neg h4];exact hk3 _ (by unfold cst; rw [if_neg h4])
    rw [run_inl hb];exact rl_loop hv hpo hp hs k (i + 1) _ (by omega) hL
theorem rl_n : ∀ (d n : Nat) (v : Pv) (p : List (List UInt8)), d ≤ n → Vd d v → POk p → p.length + d ≤ 20 → nodes d v ≤ 1000000 → ref4_Leaves_n n v (jn p) = some (lvs d v p)
  | 0, _, _, _, _, h, _, _, _ => h.elim
  | d + 1, 0, _, _, h, _, _, _, _ => absurd h (by omega)
  | d + 1, n + 1, v, p, hn, hv, hp, hl, hnd => by
    have hlen := lvs_len (d + 1) v p;obtain ⟨hok, hvp⟩ := hv
    show ref4_Leaves_body (ref4_Leaves_n n) v (jn p) = _
    unfold ref4_Leaves_body ref4_Leaves_body_l2
    have := rl_loop (d := d) (self := ref4_Leaves_n n) hok hp (by omega) (fun i hi => rl_n d n _ _ (by omega) (hvp _ (getD_mem hi)) (hp.snoc (cst_ok hok hi)) (by simp; omega) (by
      unfold nodes at hnd;have := nodes_mem (d := d) (getD_mem hi);omega)) v.f.2.2.2.2.length 0 [(jn p, v.f.1, v.f.2.1, v.f.2.2.1)] (by omega) (by
      unfold lvs at hlen;simp only [List.singleton_append];rw [hlen]; exact hnd)
    exact this
theorem ref_leaves {v : Pv} (hv : Vd 10 v) (hn : nodes 10 v ≤ 1000000) : ref4_Leaves v [] = some (lvs 10 v []) := by
  unfold ref4_Leaves;exact rl_n 10 1000 v [] (by omega) hv (fun x hx => by cases hx) (by simp) hn
/-! ### Insertion -/
theorem swap_mid {α : Type} [Inhabited α] {A B : List α} {y x : α} : (((A ++ y :: x :: B).set (A.length + 1) y).set A.length x) = A ++ x :: y :: B := by
  rw [List.set_append_right _ _ (by omega), show A.length + 1 - A.length = 1 by omega, List.set_append_right _ _ (Nat.le_refl _), Nat.sub_self]
  rfl
theorem mem_mid {α : Type} {A B : List α} {x z : α} : z ∈ A ++ x :: B ↔ z = x ∨ z ∈ A ++ B := by
  simp only [List.mem_append, List.mem_cons]
  constructor
  · rintro (h | h | h)
    · exact .inr (.inl h)
    · exact .inl h
    · exact .inr (.inr h)
  · rintro (h | h | h)
    · exact .inr (.inl h)
    · exact .inl h
    · exact .inr (.inr h)
end Go.Proofs.YtmfiaecglndldaaGreatDoor
end
section
namespace Go.Proofs.YtmfiaecglndldaaGreatDoor
open Go Go.L
theorem rvint_run : ∀ (n u : Nat) (L : List UInt8), u < 128 ^ n → u < 2 ^ 64 → L.length + n ≤ 1000 → n ≤ 10 → 1 ≤ n → Go.L.run ref4_varint_bl3 (L, (u : Int)) = some (L ++ vintN n u)
  | 0, _, _, _, _, _, _, h => absurd h (by omega)
  | n + 1, u, L, hu, hu2, hL, hn, _ => by
    unfold vintN
    by_cases h : 128 ≤ u
    · have h1 : 1 ≤ n := by
        rcases Nat.eq_zero_or_pos n with h0 | h0
        · subst h0; simp at hu; omega
        · exact h0
      have e : ref4_varint_bl3 (L, (u : Int)) = some (.inl (L ++ [UInt8.ofNat (u % 128 + 128)], ((u / 128 : Nat) : Int))) := by
        unfold ref4_varint_bl3;dsimp only;rw [if_pos (by omega), chk_pos (by omega), chk_pos (by unfold Go.E.Cap; simp; omega), chk_pos (by omega), add128]
        rfl
      rw [run_inl e, rvint_run n (u / 128) _ (Nat.div_lt_of_lt_mul (by rw [Nat.pow_succ, Nat.mul_comm] at hu; exact hu)) (by omega) (by simp; omega) (by omega) h1, if_pos h];simp
    · rw [if_neg h];refine run_inr (m := some (L ++ [UInt8.ofNat u])) ?_;unfold ref4_varint_bl3 ref4_varint_k2;dsimp only;rw [if_neg (by omega), chk_pos (by unfold Go.E.Cap; simp; omega), u8_small]
theorem varint_eq {a : Int} (h : I64 a) : ref4_varint a = some (vint (zz a)) := by
  have hz := zz_lt h;unfold I64 at h;unfold ref4_varint ref4_varint_k1;simp only [wrap_u];have hr : ref4_varint_l3 ([], ((zz a : Nat) : Int)) = some (vint (zz a)) := rvint_run 10 (zz a) [] (Nat.lt_trans hz (by decide)) (by omega) (by decide) (by decide) (by decide)
  by_cases h0 : a < 0
  · rw [if_pos h0, chk_pos (by omega)];rw [← hr]
    congr 2
    unfold zz;rw [if_neg (by omega), Nat.xor_comm, xor_all (by omega)];omega
  · rw [if_neg h0, ← hr]
    congr 2
    unfold zz;rw [if_pos (by omega)];omega
end Go.Proofs.YtmfiaecglndldaaGreatDoor
end
section
namespace Go.L
/-- Pairs of a leaf and an item, added one after the other. -/
def adds (P : List (Lf × Int)) (M : List (Lf × List Int)) : List (Lf × List Int) := P.foldl (fun M p => addI p.1 p.2 M) M
theorem adds_append (P Q : List (Lf × Int)) (M : List (Lf × List Int)) : adds (P ++ Q) M = adds Q (adds P M) := List.foldl_append
theorem addI_mem (k k' : Lf) (i z : Int) (M : List (Lf × List Int)) : z ∈ mget [] k' (addI k i M) ↔ z ∈ mget [] k' M ∨ (k' = k ∧ z = i) := by
  unfold addI;rw [mget_mput]
  by_cases h : k' = k
  · subst h; simp
  · simp [h]
theorem addI_keys (k k' : Lf) (i : Int) (M : List (Lf × List Int)) : k' ∈ (addI k i M).map Prod.fst ↔ k' = k ∨ k' ∈ M.map Prod.fst := by
  unfold addI
  by_cases h : k ∈ M.map Prod.fst
  · rw [mput_mem _ h];exact ⟨.inr, fun hh => by rcases hh with rfl | hh; exact h; exact hh⟩
  · rw [mput_new _ h];simp only [List.map_append, List.map_cons, List.map_nil, List.mem_append, List.mem_singleton];exact ⟨fun hh => hh.symm, fun hh => hh.symm⟩
theorem addI_nodup (k : Lf) (i : Int) {M : List (Lf × List Int)} (h : (M.map Prod.fst).Nodup) : ((addI k i M).map Prod.fst).Nodup := by
  unfold addI
  by_cases hk : k ∈ M.map Prod.fst
  · rw [mput_mem _ hk]; exact h
  · rw [mput_new _ hk, List.map_append]
    exact List.nodup_append.2 ⟨h, List.pairwise_singleton _ _, fun a ha b hb e => by
      simp only [List.map_cons, List.map_nil, List.mem_singleton] at hb;subst hb; subst e; exact hk ha⟩
theorem adds_mem (k : Lf) (z : Int) : ∀ (P : List (Lf × Int)) (M : List (Lf × List Int)), z ∈ mget [] k (adds P M) ↔ z ∈ mget [] k M ∨ (k, z) ∈ P
  | [], M => by simp [adds]
  | p :: P, M => by
    show z ∈ mget [] k (adds P (addI p.1 p.2 M)) ↔ _
    rw [adds_mem k z P, addI_mem, List.mem_cons, or_assoc];have : (k = p.1 ∧ z = p.2) ↔ (k, z) = p := ⟨fun h => Prod.ext h.1 h.2, fun h => by rw [← h]; exact ⟨rfl, rfl⟩⟩;rw [this]
theorem adds_keys (k : Lf) : ∀ (P : List (Lf × Int)) (M : List (Lf × List Int)), k ∈ (adds P M).map Prod.fst ↔ k ∈ M.map Prod.fst ∨ ∃ z, (k, z) ∈ P
  | [], M => by simp [adds]
  | p :: P, M => by
    show k ∈ (adds P (addI p.1 p.2 M)).map Prod.fst ↔ _
    rw [adds_keys k P, addI_keys]
    constructor
    · rintro ((rfl | h) | ⟨z, h⟩)
      · exact .inr ⟨p.2, .head _⟩
      · exact .inl h
      · exact .inr ⟨z, .tail _ h⟩
    · rintro (h | ⟨z, h⟩)
      · exact .inl (.inr h)
      · rcases List.mem_cons.1 h with rfl | h
        · exact .inl (.inl rfl)
        · exact .inr ⟨z, h⟩
theorem adds_nodup : ∀ (P : List (Lf × Int)) {M : List (Lf × List Int)}, (M.map Prod.fst).Nodup → ((adds P M).map Prod.fst).Nodup
  | [], _, h => h
  | p :: P, _, h => adds_nodup P (addI_nodup p.1 p.2 h)
theorem addI_len (k : Lf) (i : Int) (M : List (Lf × List Int)) (k' : Lf) : (mget [] k' (addI k i M)).length ≤ (mget [] k' M).length + 1 := by
  unfold addI;rw [mget_mput]
  split
  · rename_i h; subst h; simp
  · omega
theorem addI_count (k : Lf) (i : Int) (M : List (Lf × List Int)) : (addI k i M).length ≤ M.length + 1 := by
  unfold addI
  by_cases h : k ∈ M.map Prod.fst
  · have := congrArg List.length (mput_mem (mget [] k M ++ [i]) h);rw [List.length_map, List.length_map] at this;omega
  · rw [mput_new _ h]; simp
theorem adds_len (k : Lf) : ∀ (P : List (Lf × Int)) (M : List (Lf × List Int)), (mget [] k (adds P M)).length ≤ (mget [] k M).length + P.length
  | [], M => by simp [adds]
  | p :: P, M => by
    have h1 := adds_len k P (addI p.1 p.2 M);have h2 := addI_len p.1 p.2 M k
    show (mget [] k (adds P (addI p.1 p.2 M))).length ≤ _
    rw [List.length_cons]; omega
theorem adds_count : ∀ (P : List (Lf × Int)) (M : List (Lf × List Int)), (adds P M).length ≤ M.length + P.length
  | [], M => by simp [adds]
  | p :: P, M => by
    have h1 := adds_count P (addI p.1 p.2 M);have h2 := addI_count p.1 p.2 M
    show (adds P (addI p.1 p.2 M)).length ≤ _
    rw [List.length_cons]; omega
end Go.L
namespace Go.Proofs.YtmfiaecglndldaaGreatDoor
open Go Go.L
theorem kIdx_mem {P : List (Lf × Int)} {e : En} : e ∈ kIdx (adds P []) ↔ (∃ z, (e.1, z) ∈ P) ∧ e.2 = setI (mget [] e.1 (adds P [])) := by
  unfold kIdx;rw [List.mem_map]
  constructor
  · rintro ⟨k, hk, rfl⟩;have := (adds_keys k P []).1 ((srtL_perm' _).mem_iff.1 hk);simp only [List.map_nil, List.not_mem_nil, false_or] at this;exact ⟨this, rfl⟩
  · rintro ⟨h1, h2⟩;exact ⟨e.1, (srtL_perm' _).mem_iff.2 ((adds_keys e.1 P []).2 (.inr h1)), Prod.ext rfl h2.symm⟩
/-! ### Build -/
/-- The pairs of values. -/
def prB : Int → List Pv → List (Lf × Int)
  | _, [] => []
  | i, v :: l => ((lvs 10 v []).map fun x => (x, i)) ++ prB (i + 1) l
theorem prB_append : ∀ (i : Int) (a b : List Pv), prB i (a ++ b) = prB i a ++ prB (i + a.length) b
  | i, [], b => by simp [prB]
  | i, v :: a, b => by
    simp only [List.cons_append, prB, List.append_assoc];rw [prB_append (i + 1) a b];simp only [List.length_cons];rw [show i + 1 + (a.length : Int) = i + ((a.length + 1 : Nat) : Int) by omega]
theorem prB_mem : ∀ {i : Int} {a : List Pv} {p : Lf × Int}, p ∈ prB i a ↔ ∃ j : Nat, j < a.length ∧ p.2 = i + j ∧ p.1 ∈ lvs 10 (a.getD j default) []
  | _, [], p => by simp [prB]
  | i, v :: a, p => by
    simp only [prB, List.mem_append, List.mem_map];rw [prB_mem]
    constructor
    · rintro (⟨x, hx, rfl⟩ | ⟨j, h1, h2, h3⟩)
      · exact ⟨0, by simp, by simp, hx⟩
      · exact ⟨j + 1, by simp; omega, by omega, h3⟩
    · rintro ⟨j, h1, h2, h3⟩
      cases j with
      | zero => exact .inl ⟨p.1, h3, Prod.ext rfl (by simpa using h2.symm)⟩
      | succ j => exact .inr ⟨j, by simpa using h1, by omega, h3⟩
theorem prB_len : ∀ (i : Int) {a : List Pv}, (∀ v ∈ a, nodes 10 v ≤ 600) → (prB i a).length ≤ 600 * a.length
  | _, [], _ => by simp [prB]
  | i, v :: a, h => by
    simp only [prB, List.length_append, List.length_map, List.length_cons];have h1 := prB_len (i + 1) fun v hv => h v (.tail _ hv);have h2 := h v (.head _);rw [lvs_len];omega
theorem fold_build (i : Int) : ∀ (l : List Lf) (M : List (Lf × List Int)) (N : Nat), Bd N M → N + l.length ≤ 1000000000 → foldO (buildStep i) M l = some (adds (l.map fun x => (x, i)) M)
  | [], _, _, _, _ => rfl
  | x :: l, M, N, hM, hN => by
    rw [List.length_cons] at hN;unfold foldO;have hx := hM x
    have e : buildStep i M x = some (addI x i M) := by
      unfold buildStep;rw [chk_pos (by unfold Go.E.Cap; omega)]
      rfl
    rw [e, Option.bind_some, fold_build i l (addI x i M) (N + 1) (fun k => by have := addI_len x i M k; have := hM k; omega) (by omega)]
    rfl
/-- All values are valid. -/
def AllV (a : List Pv) : Prop := ∀ v ∈ a, value_Validate v = some (0, 0) ∧ Vd 10 v ∧ nodes 10 v ≤ 600
theorem bd_adds (P : List (Lf × Int)) : Bd P.length (adds P []) := fun k => by have := adds_len k P []; simpa [mget] using this
/-- What Build answers: a fault of a value, or build's answer. -/
theorem build_run {B : Nat} (hB : B ≤ 100000000000) {a : List Pv} (hl : a.length ≤ 64) (hs : ∀ v ∈ a, Sm B 10 v) : ∀ (k i : Nat), i + k = a.length → AllV (a.take i) →
    (∃ j f, j < a.length ∧ value_Validate (a.getD j default) = some f ∧ f.1 ≠ 0 ∧ AllV (a.take j) ∧ Go.L.run (shapes_Build_bl2 a) (adds (prB 0 (a.take i)) [], (i : Int)) = some ((0, []), (f.1, (j : Int)))) ∨
    (AllV a ∧ Go.L.run (shapes_Build_bl2 a) (adds (prB 0 (a.take i)) [], (i : Int)) = shapes_build (a.length : Int) (adds (prB 0 a) []))
  | 0, i, hi, hv => by
    right
    rw [List.take_of_length_le (by omega)] at hv ⊢;refine ⟨hv, ?_⟩
    have e : shapes_Build_bl2 a (adds (prB 0 a) [], (i : Int)) = (shapes_build (a.length : Int) (adds (prB 0 a) [])).map Sum.inr := by
      unfold shapes_Build_bl2 shapes_Build_k1;dsimp only;rw [if_neg (by omega)]
      cases shapes_build (a.length : Int) (adds (prB 0 a) []) <;> rfl
    exact run_inr e
  | k + 1, i, hi, hv => by
    have hil : i < a.length := by omega
    obtain ⟨f, h1, h2⟩ := validate_ex hB (hs _ (getD_mem hil))
    have htk : a.take (i + 1) = a.take i ++ [a.getD i default] := by
      rw [List.take_add_one, List.getElem?_eq_getElem hil]; simp [List.getD_eq_getElem?_getD, List.getElem?_eq_getElem hil]
    rcases h2 with ⟨rfl, h3, h4⟩ | hf
    · have hlen := prB_len 0 fun v hvm => (hv v hvm).2.2;rw [List.length_take] at hlen
      have hadd : prB 0 (a.take (i + 1)) = prB 0 (a.take i) ++ (lvs 10 (a.getD i default) []).map fun x => (x, (i : Int)) := by
        rw [htk, prB_append];simp only [prB, List.append_nil, List.length_take];rw [show (0 : Int) + ((min i a.length : Nat) : Int) = (i : Int) by omega]
      have hb : shapes_Build_bl2 a (adds (prB 0 (a.take i)) [], (i : Int)) = some (.inl (adds (prB 0 (a.take (i + 1))) [], ((i + 1 : Nat) : Int))) := by
        unfold shapes_Build_bl2;dsimp only;rw [if_pos (by omega), chk_pos (by omega), Int.toNat_natCast, h1, Option.bind_some, if_pos ⟨rfl, rfl⟩, leaves_eq h3, fold_build (i : Int) _ _ _ (bd_adds _) (by rw [lvs_len]; omega), Option.bind_some, chk_pos (by unfold I64; omega), hadd, adds_append]
        rfl
      rw [run_inl hb];refine build_run hB hl hs k (i + 1) (by omega) ?_;rw [htk];intro v hvm
      rcases List.mem_append.1 hvm with h | h
      · exact hv v h
      · rw [List.mem_singleton] at h; subst h; exact ⟨h1, h3, h4⟩
    · left
      refine ⟨i, f, hil, h1, hf, hv, run_inr (m := some ((0, []), (f.1, (i : Int)))) ?_⟩;unfold shapes_Build_bl2 shapes_fault;dsimp only;rw [if_pos (by omega), chk_pos (by omega), Int.toNat_natCast, h1, Option.bind_some, if_neg (fun h => hf h.1)]
      rfl
theorem lvs_mem : ∀ (d : Nat) (v : Pv) (p : List (List UInt8)) {x : Lf}, Vd d v → POk p → x ∈ lvs d v p → ∃ (q : List (List UInt8)) (u : Pv), x = (jn q, u.f.1, u.f.2.1, u.f.2.2.1) ∧ POk q ∧ q.length + 1 ≤ p.length + d ∧ NodeOk u ∧ ∀ B, Sm B d v → I64 u.f.1 ∧ I64 u.f.2.1 ∧ u.f.2.2.1.length ≤ B
  | 0, _, _, _, h, _, _ => h.elim
  | d + 1, v, p, x, hv, hp, hx => by
    obtain ⟨hok, hvp⟩ := hv;unfold lvs at hx
    rcases List.mem_cons.1 hx with rfl | hx
    · exact ⟨p, v, rfl, hp, by omega, hok, fun B hB => ⟨hB.2.2.2.2.1, hB.2.2.2.2.2.1, hB.1⟩⟩
    · obtain ⟨i, hi, hxi⟩ := List.mem_flatMap.1 hx
      have hil : i < v.f.2.2.2.2.length := by
        have := List.mem_range'_1.1 hi; omega
      obtain ⟨q, u, h1, h2, h3, h4, h5⟩ := lvs_mem d _ _ (hvp _ (getD_mem hil)) (hp.snoc (cst_ok hok hil)) hxi;refine ⟨q, u, h1, h2, by simp at h3; omega, h4, fun B hB => h5 B (hB.2.2.2.2.2.2 _ (getD_mem hil))⟩
theorem leaf_ok {v : Pv} {x : Lf} (hv : Vd 10 v) (hs : Sm 1048576 10 v) (hx : x ∈ lvs 10 v []) : (x.1.length ≤ 330 ∧ ¬ 0 ≤ wr false 0 (sl x.1)) ∧ (1 ≤ x.2.1 ∧ x.2.1 ≤ 4) ∧ (x.2.2.1 = 0 ∨ x.2.1 = 1) ∧ (x.2.2.2 = [] ∨ x.2.1 = 2) ∧ I64 x.2.2.1 ∧ x.2.2.2.length ≤ 1048576 := by
  obtain ⟨q, u, rfl, h2, h3, h4, h5⟩ := lvs_mem 10 v [] hv (fun y hy => by cases hy) hx;obtain ⟨g1, g2, g3⟩ := h5 _ hs;have hj := h2.jn_len;simp only [List.length_nil] at h3;refine ⟨⟨by show (jn q).length ≤ 330; omega, ?_⟩, ?_, ?_, ?_, g2, g3⟩
  · show ¬ 0 ≤ wr false 0 (sl (jn q))
    rw [sl_jn (fun y hy => (stp_ne (h2 y hy)).1) (fun y hy => (stp_ne (h2 y hy)).2.1), wr_ok (fun y hy => by rw [h2 y hy]; rfl)]
    decide
  · show 1 ≤ u.f.1 ∧ u.f.1 ≤ 4
    rcases h4.kind with h | h | h | h <;> omega
  · show u.f.2.1 = 0 ∨ u.f.1 = 1
    exact h4.num.symm
  · show u.f.2.2.1 = [] ∨ u.f.1 = 2
    exact h4.bytes.symm
theorem ms_adds {P : List (Lf × Int)} (hP : P.length ≤ 1000000) (h : ∀ p ∈ P, p.1.1.length ≤ 2000000 ∧ I64 p.1.2.1 ∧ I64 p.1.2.2.1 ∧ p.1.2.2.2.length ≤ 2000000 ∧ I64 p.2) : MS (adds P []) := by
  refine ⟨by have := adds_count P []; simp at this; omega, fun k hk => ?_⟩
  rcases (adds_keys k P []).1 hk with h0 | ⟨z, hz⟩
  · cases h0
  · obtain ⟨h1, h2, h3, h4, _⟩ := h _ hz;refine ⟨h1, h2, h3, h4, by have := bd_adds P k; omega, fun y hy => ?_⟩
    rcases (adds_mem k y P []).1 hy with h0 | hy
    · simp [mget] at h0
    · exact (h _ hy).2.2.2.2
theorem srtL_strict {l : List Lf} (h : l.Nodup) : (srtL l).Pairwise (fun a b => lfCmp a b < 0) := by
  have hsorted : (srtL l).Pairwise fun x y => (!(Go.Proofs.ltOf lfCmp) y x) = true := by
    rw [← isL_eq];have hlt : ∀ a b, (!(Go.Proofs.ltOf lfCmp) b a) = true ↔ ¬ lfCmp b a < 0 := fun a b => by simp [Go.Proofs.ltOf]
    refine isB_sorted (fun a b c h1 h2 => ?_) (fun a b => ?_) l
    · rw [hlt] at *;intro h3;have s1 := ordLf.swap a b
      rcases Int.lt_trichotomy (lfCmp a b) 0 with h4 | h4 | h4
      · exact h2 (ordLf.trans c a b h3 h4)
      · rw [ordLf.zero a b h4] at h3; exact h2 h3
      · omega
    · rw [hlt, hlt];have s1 := ordLf.swap a b;omega
  have hn : (srtL l).Nodup := (srtL_perm' l).nodup_iff.2 h;refine (List.pairwise_and_iff.2 ⟨hsorted, hn⟩).imp fun {a b} hab => ?_;obtain ⟨h1, h2⟩ := hab;have h1' : ¬ lfCmp b a < 0 := by simpa [Go.Proofs.ltOf] using h1
  have s1 := ordLf.swap a b;have : lfCmp a b ≠ 0 := fun e => h2 (ordLf.zero a b e);omega
/-- The index of valid values is good. -/
theorem gi_build {a : List Pv} (hl : a.length ≤ 64) (hv : AllV a) (hs : ∀ v ∈ a, Sm 1048576 10 v) : GI (a.length : Int) (kIdx (adds (prB 0 a) [])) ∧ MS (adds (prB 0 a) []) := by
  have hlen := prB_len 0 fun v hvm => (hv v hvm).2.2
  have hp : ∀ p ∈ prB 0 a, ((p.1.1.length ≤ 330 ∧ ¬ 0 ≤ wr false 0 (sl p.1.1)) ∧ (1 ≤ p.1.2.1 ∧ p.1.2.1 ≤ 4) ∧ (p.1.2.2.1 = 0 ∨ p.1.2.1 = 1) ∧ (p.1.2.2.2 = [] ∨ p.1.2.1 = 2) ∧ I64 p.1.2.2.1 ∧ p.1.2.2.2.length ≤ 1048576) ∧ 0 ≤ p.2 ∧ p.2 < a.length := fun p hpm => by
    obtain ⟨j, h1, h2, h3⟩ := prB_mem.1 hpm;exact ⟨leaf_ok (hv _ (getD_mem h1)).2.1 (hs _ (getD_mem h1)) h3, by omega, by omega⟩
  have hMS : MS (adds (prB 0 a) []) := ms_adds (by omega) fun p hpm => by
    obtain ⟨⟨h1, h2, h3, h4, h5, h6⟩, h7, h8⟩ := hp p hpm;exact ⟨by omega, by unfold I64; omega, h5, by omega, by unfold I64; omega⟩
  refine ⟨⟨by omega, by omega, fun e he => ?_, kIdx_S hMS, by rw [kIdx_len]; exact hMS.1, ?_⟩, hMS⟩
  · obtain ⟨⟨z, hz⟩, h2⟩ := kIdx_mem.1 he;obtain ⟨⟨g1, g2, g3, g4, g5, g6⟩, g7, g8⟩ := hp _ hz
    have hm : ∀ y, y ∈ e.2 ↔ (e.1, y) ∈ prB 0 a := fun y => by
      rw [h2, (setI_spec _).2, adds_mem];simp [mget]
    refine ⟨g1, g2, g3, g4, fun h0 => ?_, fun y hy => ?_, ?_⟩
    · have := (hm z).2 hz;rw [h0] at this
      cases this
    · exact (hp _ ((hm y).1 hy)).2
    · rw [h2];exact (setI_spec _).1.imp fun {a b} h => by omega
  · unfold kIdx;rw [List.pairwise_map];exact srtL_strict (adds_nodup _ (by simp))
/-- What Build answers. -/
theorem build_ex {a : List Pv} (hs : ∀ v ∈ a, Sm 1048576 10 v) : ∃ r, shapes_Build a = some r ∧ ((64 < a.length ∧ r = ((0, []), (2, -1))) ∨
    (a.length ≤ 64 ∧ ∃ j f, j < a.length ∧ value_Validate (a.getD j default) = some f ∧ f.1 ≠ 0 ∧ AllV (a.take j) ∧ r = ((0, []), (f.1, (j : Int)))) ∨
    (a.length ≤ 64 ∧ AllV a ∧ r = bres (a.length : Int) (adds (prB 0 a) []))) := by
  unfold shapes_Build shapes_fault
  by_cases h : 64 < a.length
  · rw [if_pos (by omega)];exact ⟨_, rfl, .inl ⟨h, rfl⟩⟩
  · rw [if_neg (by omega)];unfold shapes_Build_l2
    rcases build_run (B := 1048576) (by omega) (by omega) hs a.length 0 (by omega) (fun v hv => by simp at hv) with ⟨j, f, h1, h2, h3, h4, h5⟩ | ⟨h1, h2⟩
    · exact ⟨_, h5, .inr (.inl ⟨by omega, j, f, h1, h2, h3, h4, rfl⟩)⟩
    · refine ⟨bres (a.length : Int) (adds (prB 0 a) []), ?_, .inr (.inr ⟨by omega, h1, rfl⟩)⟩;have := h2.trans (build_eq (by unfold I64; omega) (gi_build (by omega) h1 hs).2);exact this
end Go.Proofs.YtmfiaecglndldaaGreatDoor
end
section
namespace Go.L
theorem less_cmp : ∀ x y : List UInt8, Op.bytesLess x y = decide (Lib.compareBytes x y < 0)
  | [], [] => by simp [Op.bytesLess, Lib.compareBytes]
  | _ :: _, [] => by simp [Op.bytesLess, Lib.compareBytes]
  | [], _ :: _ => by simp [Op.bytesLess, Lib.compareBytes]
  | a :: x, b :: y => by
    rw [Op.bytesLess, less_cmp x y, Lib.compareBytes]
    by_cases h1 : a < b
    · simp [h1]
    · by_cases h2 : b < a
      · have h3 : a ≠ b := fun e => by subst e; exact absurd h2 (UInt8.lt_irrefl a)
        simp [h1, h2, h3]
      · have h3 : a = b := UInt8.le_antisymm (UInt8.not_lt.1 h2) (UInt8.not_lt.1 h1);subst h3;simp
end Go.L
namespace Go.Proofs.YtmfiaecglndldaaGreatDoor
open Go Go.L
theorem cmpN_zero (x y : Int) : cmpN x y = 0 ↔ x = y := by unfold cmpN; split; omega; split <;> omega
theorem cmpN_neg (x y : Int) : cmpN x y < 0 ↔ x < y := by unfold cmpN; split; omega; split <;> omega
theorem before_eq (a b : Lf) : ref4_Before a b = some (decide (lfCmp a b < 0)) := by
  unfold ref4_Before lfCmp lexC
  by_cases h1 : a.1 = b.1
  · rw [if_pos h1, if_pos (show Lib.compareBytes a.1 b.1 = 0 by rw [h1]; exact cmp_self _)]
    by_cases h2 : a.2.1 = b.2.1
    · rw [if_pos h2, if_pos ((cmpN_zero _ _).2 h2)]
      by_cases h3 : a.2.2.1 = b.2.2.1
      · rw [if_pos h3, if_pos ((cmpN_zero _ _).2 h3), less_cmp]
      · rw [if_neg h3, if_neg (fun h => h3 ((cmpN_zero _ _).1 h)), decide_eq_decide.2 (cmpN_neg _ _)]
    · rw [if_neg h2, if_neg (fun h => h2 ((cmpN_zero _ _).1 h)), decide_eq_decide.2 (cmpN_neg _ _)]
  · rw [if_neg h1, if_neg (fun h => h1 (cmp_zero _ _ h)), less_cmp]
theorem hasLeaf_eq {l : List Lf} (hl : l.length ≤ 1000000000) (a : Lf) : ref4_HasLeaf l a = some (decide (a ∈ l)) := by
  have key : ∀ (d i : Nat), i + d = l.length → Go.L.run (ref4_HasLeaf_bl2 l a) (i : Int) = some (decide (a ∈ l.drop i)) := by
    intro d
    induction d with
    | zero =>
      intro i hi;rw [List.drop_eq_nil_of_le (by omega)];refine run_inr (m := some _) ?_;unfold ref4_HasLeaf_bl2 ref4_HasLeaf_k1;rw [if_neg (by omega)];simp
    | succ d ih =>
      intro i hi;have hil : i < l.length := by omega
      rw [drop_cons hil]
      have hq : ((l.getD i default).1 = a.1 ∧ (l.getD i default).2.1 = a.2.1 ∧ (l.getD i default).2.2.1 = a.2.2.1 ∧ (l.getD i default).2.2.2 = a.2.2.2) ↔ l.getD i default = a :=
        ⟨fun ⟨h1, h2, h3, h4⟩ => Prod.ext h1 (Prod.ext h2 (Prod.ext h3 h4)), fun h => by rw [h]; exact ⟨rfl, rfl, rfl, rfl⟩⟩
      have hb : ref4_HasLeaf_bl2 l a (i : Int) = if l.getD i default = a then some (.inr true) else some (.inl ((i + 1 : Nat) : Int)) := by
        unfold ref4_HasLeaf_bl2;rw [if_pos (by omega), chk_pos (by omega), Int.toNat_natCast, chk_pos (by unfold I64; omega)]
        by_cases h : l.getD i default = a
        · rw [if_pos (hq.2 h), if_pos h]; rfl
        · rw [if_neg (fun e => h (hq.1 e)), if_neg h]; rfl
      by_cases h : l.getD i default = a
      · rw [if_pos h] at hb;rw [run_inr (m := some true) hb, h];simp
      · rw [if_neg h] at hb;rw [run_inl hb, ih (i + 1) (by omega)]
        congr 1
        rw [decide_eq_decide, List.mem_cons];exact ⟨.inr, fun hh => hh.resolve_left (fun e => h e.symm)⟩
  have := key l.length 0 (by omega)
  rwa [List.drop_zero] at this
theorem cmp_cases (a b : Lf) (h : a ≠ b) : lfCmp a b < 0 ∨ lfCmp b a < 0 := by
  have s1 := ordLf.swap a b;have : lfCmp a b ≠ 0 := fun e => h (ordLf.zero a b e);omega
/-- Where the new leaf goes. -/
theorem lins_run (s6 : Int) (hs6 : I64 (s6 + 1)) : ∀ (A B : List Lf) (x : Lf), A.length + B.length ≤ 1000000000 → (A ++ B).Pairwise (fun a b => lfCmp a b < 0) → x ∉ A ++ B → (∀ b ∈ B, lfCmp x b < 0) →
    ∃ r, Go.L.run (ref4_AllLeaves_bl6 s6) (A ++ x :: B, (A.length : Int)) = some (Sum.inl (r, s6 + 1)) ∧ r.Pairwise (fun a b => lfCmp a b < 0) ∧ (∀ y, y ∈ r ↔ y = x ∨ y ∈ A ++ B) ∧ r.length = A.length + B.length + 1 := by
  intro A
  induction h : A.length generalizing A with
  | zero =>
    intro B x hl hp hx hb;have : A = [] := List.eq_nil_of_length_eq_zero h;subst this;refine ⟨x :: B, run_inr (m := some (Sum.inl (x :: B, s6 + 1))) ?_, ?_, ?_, ?_⟩
    · unfold ref4_AllLeaves_bl6 ref4_AllLeaves_k5;dsimp only;rw [if_neg (by omega), chk_pos hs6]
      rfl
    · exact List.pairwise_cons.2 ⟨hb, hp⟩
    · intro y; simp
    · simp
  | succ n ih =>
    intro B x hl hp hx hb
    obtain ⟨A', y, rfl⟩ : ∃ A' y, A = A' ++ [y] := by
      rcases List.eq_nil_or_concat A with h0 | ⟨A', y, h0⟩
      · subst h0; simp at h
      · exact ⟨A', y, by simpa using h0⟩
    have hA' : A'.length = n := by simpa using h
    have hg1 : ((A' ++ [y]) ++ x :: B).getD (n + 1) default = x := by
      rw [List.getD_eq_getElem?_getD, List.getElem?_append_right (by simp; omega)];simp [hA']
    have hg0 : ((A' ++ [y]) ++ x :: B).getD n default = y := by
      rw [List.getD_eq_getElem?_getD, List.append_assoc, List.getElem?_append_right (by omega), hA', Nat.sub_self]
      rfl
    have hlen : ((A' ++ [y]) ++ x :: B).length = n + 1 + B.length + 1 := by simp; omega
    have hyx : y ≠ x := fun e => hx (by rw [← e]; simp);have hbf : ref4_Before (x.1, x.2.1, x.2.2.1, x.2.2.2) (y.1, y.2.1, y.2.2.1, y.2.2.2) = some (decide (lfCmp x y < 0)) := before_eq x y
    by_cases hlt : lfCmp x y < 0
    · have hstep : ref4_AllLeaves_bl6 s6 ((A' ++ [y]) ++ x :: B, ((n + 1 : Nat) : Int)) = some (.inl (A' ++ x :: y :: B, (n : Int))) := by
        unfold ref4_AllLeaves_bl6;dsimp only;rw [if_pos (by omega), chk_pos (by omega), chk_pos (by unfold I64; omega), chk_pos (by omega), Int.toNat_natCast, show (((n + 1 : Nat) : Int) - 1).toNat = n by omega, hg1, hg0, hbf, Option.bind_some, if_pos (by simpa using hlt), chk_pos (by unfold I64; omega), chk_pos (by unfold I64; omega), chk_pos (by omega), chk_pos (by omega), chk_pos (by omega), chk_pos (by rw [List.length_set]; omega), chk_pos (by unfold I64; omega)];have := swap_mid (A := A') (B := B) (y := y) (x := x);rw [hA'] at this
        show some (Sum.inl ((((A' ++ [y]) ++ x :: B).set (n + 1) y).set n x, ((n + 1 : Nat) : Int) - 1)) = _
        rw [show (A' ++ [y]) ++ x :: B = A' ++ y :: x :: B by simp, this, show ((n + 1 : Nat) : Int) - 1 = (n : Int) by omega]
      rw [run_inl hstep];have hAB : (A' ++ [y]) ++ B = A' ++ (y :: B) := by simp
      rw [hAB] at hp hx ⊢
      obtain ⟨r, h1, h2, h3, h4⟩ := ih A' hA' (y :: B) x (by simp only [List.length_cons]; omega) hp hx (fun b hbm => by
        rcases List.mem_cons.1 hbm with rfl | hbm
        · exact hlt
        · exact hb b hbm)
      exact ⟨r, h1, h2, h3, by rw [h4]; simp; omega⟩
    · have hle : lfCmp y x < 0 := (cmp_cases y x hyx).resolve_right hlt;refine ⟨(A' ++ [y]) ++ x :: B, run_inr (m := some (Sum.inl ((A' ++ [y]) ++ x :: B, s6 + 1))) ?_, ?_, ?_, ?_⟩
      · unfold ref4_AllLeaves_bl6 ref4_AllLeaves_k5;dsimp only;rw [if_pos (by omega), chk_pos (by omega), chk_pos (by unfold I64; omega), chk_pos (by omega), Int.toNat_natCast, show (((n + 1 : Nat) : Int) - 1).toNat = n by omega, hg1, hg0, hbf, Option.bind_some, if_neg (by simpa using hlt), chk_pos hs6]
        try rfl
      · obtain ⟨p1, p2, p3⟩ := List.pairwise_append.1 hp;refine List.pairwise_append.2 ⟨p1, List.pairwise_cons.2 ⟨hb, p2⟩, fun a ha b hbm => ?_⟩
        rcases List.mem_cons.1 hbm with rfl | hbm
        · rcases List.mem_append.1 ha with ha' | ha'
          · exact ordLf.trans _ _ _ ((List.pairwise_append.1 p1).2.2 a ha' y (by simp)) hle
          · rw [List.mem_singleton] at ha'; subst ha'; exact hle
        · exact p3 a ha b hbm
      · exact fun z => mem_mid
      · rw [hlen]
/-- The leaves of one value join. -/
theorem all4_run (s4 : Int) (hs4 : I64 (s4 + 1)) {l : List Lf} (hl : l.length ≤ 1000000) : ∀ (d i : Nat) (L : List Lf), i + d = l.length → L.length + d ≤ 100000000 → L.Pairwise (fun a b => lfCmp a b < 0) →
    ∃ r, Go.L.run (ref4_AllLeaves_bl4 s4 l) (L, (i : Int)) = some (Sum.inl (r, s4 + 1)) ∧ r.Pairwise (fun a b => lfCmp a b < 0) ∧ (∀ y, y ∈ r ↔ y ∈ L ∨ y ∈ l.drop i) ∧ r.length ≤ L.length + d := by
  intro d
  induction d with
  | zero =>
    intro i L hi hL hp;refine ⟨L, run_inr (m := some (Sum.inl (L, s4 + 1))) ?_, hp, fun y => by rw [List.drop_eq_nil_of_le (by omega)]; simp, by omega⟩;unfold ref4_AllLeaves_bl4 ref4_AllLeaves_k3;dsimp only;rw [if_neg (by omega), chk_pos hs4]
    try rfl
  | succ d ih =>
    intro i L hi hL hp;have hil : i < l.length := by omega
    have he : ∀ x : Lf, (x.1, x.2.1, x.2.2.1, x.2.2.2) = x := fun _ => rfl
    obtain ⟨r, h1, h2, h3, h4⟩ : ∃ r, ref4_AllLeaves_bl4 s4 l (L, (i : Int)) = some (.inl (r, ((i + 1 : Nat) : Int))) ∧ r.Pairwise (fun a b => lfCmp a b < 0) ∧ (∀ y, y ∈ r ↔ y ∈ L ∨ y = l.getD i default) ∧ r.length ≤ L.length + 1 := by
      have hh : ref4_HasLeaf L ((l.getD i default).1, (l.getD i default).2.1, (l.getD i default).2.2.1, (l.getD i default).2.2.2) = some (decide (l.getD i default ∈ L)) := hasLeaf_eq (by omega) _
      by_cases hx : l.getD i default ∈ L
      · refine ⟨L, ?_, hp, fun y => ⟨.inl, fun h => by rcases h with h | rfl; exact h; exact hx⟩, by omega⟩;unfold ref4_AllLeaves_bl4 ref4_AllLeaves_k5;dsimp only;rw [if_pos (by omega), chk_pos (by omega), Int.toNat_natCast, hh, Option.bind_some, if_pos (by simpa using hx), chk_pos (by unfold I64; omega)]
        try rfl
      · obtain ⟨r, h1, h2, h3, h4⟩ := lins_run (i : Int) (by unfold I64; omega) L [] (l.getD i default) (by simp; omega) (by simpa using hp) (by simpa using hx) (fun b hb => by cases hb);refine ⟨r, ?_, h2, fun y => by rw [h3, List.append_nil]; exact ⟨fun h => h.symm, fun h => h.symm⟩, by simp at h4; omega⟩;unfold ref4_AllLeaves_bl4 ref4_AllLeaves_l6;dsimp only;rw [if_pos (by omega), chk_pos (by omega), Int.toNat_natCast, hh, Option.bind_some, if_neg (by simpa using hx), chk_pos (by omega), chk_pos (by unfold Go.E.Cap; simp; omega), chk_pos (by unfold I64; simp; omega)];refine Eq.trans ?_ h1;have : (((L ++ [l.getD i default]).length : Int) - 1) = (L.length : Int) := by simp
        rw [← this]
        try rfl
    obtain ⟨q, k1, k2, k3, k4⟩ := ih (i + 1) r (by omega) (by omega) h2;refine ⟨q, by rw [run_inl h1, k1], k2, fun y => ?_, by omega⟩;rw [k3, h3, drop_cons hil, List.mem_cons, or_assoc]
/-- All leaves, in order, each once. -/
theorem all_leaves {a : List Pv} (hl : a.length ≤ 64) (hv : AllV a) : ref4_AllLeaves a = some (srtL ((adds (prB 0 a) []).map Prod.fst)) := by
  have key : ∀ (d i : Nat) (L : List Lf), i + d = a.length → L.length ≤ 600 * i → L.Pairwise (fun a b => lfCmp a b < 0) → (∀ y, y ∈ L ↔ ∃ z, (y, z) ∈ prB 0 (a.take i)) →
      ∃ r, Go.L.run (ref4_AllLeaves_bl2 a) (L, (i : Int)) = some r ∧ r.Pairwise (fun a b => lfCmp a b < 0) ∧ ∀ y, y ∈ r ↔ ∃ z, (y, z) ∈ prB 0 a := by
    intro d
    induction d with
    | zero =>
      intro i L hi hL hp hm;refine ⟨L, run_inr (m := some L) ?_, hp, fun y => by rw [hm, List.take_of_length_le (by omega)]⟩;unfold ref4_AllLeaves_bl2 ref4_AllLeaves_k1;dsimp only;rw [if_neg (by omega)]
      try rfl
    | succ d ih =>
      intro i L hi hL hp hm;have hil : i < a.length := by omega
      obtain ⟨v1, v2, v3⟩ := hv _ (getD_mem hil);have hlen : (lvs 10 (a.getD i default) []).length ≤ 600 := by rw [lvs_len]; exact v3
      obtain ⟨r, h1, h2, h3, h4⟩ := all4_run (i : Int) (by unfold I64; omega) (l := lvs 10 (a.getD i default) []) (by omega) (lvs 10 (a.getD i default) []).length 0 L (by omega) (by omega) hp
      have hb : ref4_AllLeaves_bl2 a (L, (i : Int)) = some (.inl (r, ((i + 1 : Nat) : Int))) := by
        unfold ref4_AllLeaves_bl2 ref4_AllLeaves_l4;dsimp only;rw [if_pos (by omega), chk_pos (by omega), Int.toNat_natCast, ref_leaves v2 (by omega), Option.bind_some];exact h1
      have htk : a.take (i + 1) = a.take i ++ [a.getD i default] := by
        rw [List.take_add_one, List.getElem?_eq_getElem hil]; simp [List.getD_eq_getElem?_getD, List.getElem?_eq_getElem hil]
      obtain ⟨q, k1, k2, k3⟩ := ih (i + 1) r (by omega) (by omega) h2 (fun y => by
        rw [h3, hm, htk, prB_append, List.drop_zero];simp only [List.mem_append, prB, List.append_nil, List.mem_map]
        constructor
        · rintro (⟨z, hz⟩ | h)
          · exact ⟨z, .inl hz⟩
          · exact ⟨_, .inr ⟨y, h, rfl⟩⟩
        · rintro ⟨z, h | ⟨x, hx, e⟩⟩
          · exact .inl ⟨z, h⟩
          · refine .inr ?_;have : x = y := congrArg Prod.fst e;subst this;exact hx)
      exact ⟨q, by rw [run_inl hb, k1], k2, k3⟩
  obtain ⟨r, h1, h2, h3⟩ := key a.length 0 [] (by omega) (by simp) .nil (fun y => by simp [prB]);unfold ref4_AllLeaves ref4_AllLeaves_l2;have h1' : Go.L.run (ref4_AllLeaves_bl2 a) ([], (0 : Int)) = some r := h1;rw [h1']
  congr 1
  have hperm : r.Perm ((adds (prB 0 a) []).map Prod.fst) := (List.perm_ext_iff_of_nodup (h2.imp fun {a b} h e => by subst e; exact cmp_irr h) (adds_nodup _ (by simp))).2 fun k => by
    rw [h3, adds_keys]; simp
  have e : srtL r = srtL ((adds (prB 0 a) []).map Prod.fst) := srt_perm ordLf hperm;rw [← e];exact (srtL_self h2).symm
end Go.Proofs.YtmfiaecglndldaaGreatDoor
end
section
namespace Go.Proofs.YtmfiaecglndldaaGreatDoor
open Go Go.E Go.RowKit
set_option maxHeartbeats 1000000
set_option maxRecDepth 10000
open _root_.Go.Proofs.Tryz
noncomputable def law4_valuesFault_k1 : Option ((Int × Int)) :=
 some (((0 : Int), (0 : Int)))
noncomputable def law4_valuesFault_bl2 (a0 : List Go.L.Pv) : Int → Option ((Int) ⊕ ((Int × Int))) := fun s3_63 =>
 if s3_63 < (a0.length : Int) then Go.L.chk (0 ≤ s3_63 ∧ s3_63 < (a0.length : Int)) (Option.bind (value_Validate (a0.getD s3_63.toNat default)) (fun x70 => if x70.1 = (0 : Int) then Go.L.chk (Go.L.I64 (s3_63 + (1 : Int))) (some (Sum.inl (s3_63 + (1 : Int)))) else Option.bind (ref3_At x70.1 s3_63) (fun x76 => Option.map Sum.inr (some ((x76.1, x76.2)))))) else Option.map Sum.inr (law4_valuesFault_k1)
noncomputable def law4_valuesFault_l2 (a0 : List Go.L.Pv) (s : Int) : Option ((Int × Int)) := Go.L.run (law4_valuesFault_bl2 a0) s
noncomputable def law4_valuesFault (a0 : List Go.L.Pv) : Option ((Int × Int)) :=
 if (64 : Int) < (a0.length : Int) then Option.bind (ref3_At (2 : Int) (-1 : Int)) (fun x4 => some ((x4.1, x4.2))) else (law4_valuesFault_l2 a0) (0 : Int)
theorem law4_valuesFault_ok (w : World) (H : PH) (hH : Le H (hp w)) {a0 : List Go.L.Pv} {v0_0 : Value} (h0_0 : Vec .tree H v0_0 (a0)) {r : (Int × Int)} (h : law4_valuesFault a0 = some r) :
  Ok Tryz.prog 26 [v0_0] w (fun v w' => Ext w w' ∧ v = .agg #[.int .i64 r.1, .int .i64 r.2]) := by
 refine Ok_enter (n := 28) [(0, v0_0)] func26 rfl rfl rfl rfl rfl ?_;have hL := Lcl.start w;refine W_seqr ?_;refine S_alloc zr23 rfl rfl hL ?_;intro w1 b1 hL1 hle1 _;refine S_seqnil ?_;refine W_seq ?_;refine W_p 1 rfl ?_;refine S_v (r_len rfl underlying36 h0_0) rfl ?_;refine S_pz 1 rfl ?_;refine W_if rfl (fun hc2 => ?_) (fun hc2 => ?_)
 ·replace h := Go.L.ite_p hc2 h;refine W_seqr ?_;obtain ⟨x4, hb4, h⟩ := Go.L.bind_some h;refine S_callL rfl rfl hL1 (ref3_At_ok _ _ (gz_le hH hL1) hb4) ?_;rintro _ w5 rfl hx5 hL5 hle5;refine S_storeBN 0 rfl rfl rfl zr23 hL5 rfl rfl (onc rfl (onc rfl on0)) ?_;intro w6 hL6 hle6;refine S_seqnil ?_;refine W_ret ?_;refine At_seq_ret ?_;obtain rfl := Option.some.inj h;refine At_got1 rfl (.cell rfl underlying23 rfl zr23 (box_ptr (i := 0) hL6 rfl)) ?_;exact ⟨hL6.ext, rfl⟩
 ·replace h := Go.L.ite_n hc2 h;refine W_skip ?_;refine At_seq ?_;refine W_cut (σ := Unit) (fun (_ : Unit) => [(2, .pointer (some ⟨b1, 0, none⟩))]) (fun (_ : Unit) wr => Lcl w [.box b1 [.int .i64 (0 : Int), .int .i64 (0 : Int)] 23] wr ∧ law4_valuesFault_k1 = some r) ?_ ?_
  ·refine W_pz 1 rfl ?_;refine W_block ?_;obtain ⟨n64, h⟩ := Go.L.run_some h;refine W_loop (σ := Int × Nat) (fun ⟨s3_63, n⟩ => [(0, v0_0), (2, .pointer (some ⟨b1, 0, none⟩)), (3, .int .i64 s3_63)]) (fun ⟨s3_63, n⟩ wr => Lcl w [.box b1 [.int .i64 (0 : Int), .int .i64 (0 : Int)] 23] wr ∧ Go.L.itr (law4_valuesFault_bl2 a0) n s3_63 = some r) (fun ⟨s3_63, n⟩ => n) ((0 : Int), n64) (.cons rfl (.cons rfl (.cons rfl (Sub.nil _)))) ⟨hL1, h⟩ ?_;rintro ⟨s3_63, nn64⟩ wr64 ⟨hL64, h⟩;obtain ⟨n64, e64, rfl, h, hm64⟩ := Go.L.itr_some h;refine W_seq ?_;refine W_p 2 rfl ?_;refine S_v (r_len rfl underlying36 h0_0) rfl ?_;refine S_pz 1 rfl ?_;refine W_if rfl (fun hc66 => ?_) (fun hc66 => ?_)
   ·replace h := Go.L.ite_p hc66 h;refine W_skip ?_;refine At_seq ?_;refine W_seq ?_;refine W_block ?_;refine W_p 2 rfl ?_;obtain ⟨hk69, h⟩ := Go.L.chk_some h;refine S_index rfl rfl underlying36 zr38 h0_0 s3_63.toNat (Int.toNat_of_nonneg hk69.1).symm (idx_lt hk69) rfl ?_;rintro p68 _ e68t0 hp68;obtain ⟨_, _, rfl, rfl, ⟨_, _, rfl, rfl, ⟨_, _, rfl, ⟨e68v2, rfl, e68h2⟩, ⟨_, _, rfl, ⟨e68v3, rfl, e68h3⟩, ⟨e68v4, rfl, e68h4⟩⟩⟩⟩⟩ := Go.E.Rp.tree_open e68t0;refine S_v (r_loadN rfl underlying38 rfl zr38 hp68 (hH.trans hL64.arg)) rfl ?_;obtain ⟨x70, hb70, h⟩ := Go.L.bind_some h;refine S_callL rfl rfl hL64 (value_Validate_ok (a0 := (a0.getD s3_63.toNat default)) _ _ (gz_le hH hL64) (e68h2.mono (gz_left hH)) (e68h3.mono (gz_left hH)) (e68h4.mono (gz_left hH)) hb70) ?_;rintro _ w71 rfl hx71 hL71 hle71;refine S_alloc zr23 rfl rfl hL71 ?_;intro w72 b72 hL72 hle72 _;refine S_storeBN 0 rfl rfl rfl zr23 hL72 rfl rfl (onc rfl (onc rfl on0)) ?_;intro w73 hL73 hle73;refine S_seqnil ?_;refine W_seqr ?_;refine S_v (r_field rfl underlying23 rfl zr3 (by decide)) rfl ?_;refine S_v (r_loadB1 0 rfl underlying3 rfl hL73 rfl rfl) rfl ?_;refine S_pz 1 rfl ?_;refine W_ifn rfl (fun hc74 => ?_) (fun hc74 => ?_)
    ·replace h := Go.L.ite_n hc74 h;refine W_seqr ?_;refine S_v (r_field rfl underlying23 rfl zr3 (by decide)) rfl ?_;refine S_v (r_loadB1 0 rfl underlying3 rfl hL73 rfl rfl) rfl ?_;refine S_pu 1 rfl ?_;obtain ⟨x76, hb76, h⟩ := Go.L.bind_some h;refine S_callL rfl rfl hL73 (ref3_At_ok _ _ (gz_le hH hL73) hb76) ?_;rintro _ w77 rfl hx77 hL77 hle77;refine S_storeBN 1 rfl rfl rfl zr23 hL77 rfl rfl (onc rfl (onc rfl on0)) ?_;intro w78 hL78 hle78;refine S_seqnil ?_;refine W_ret ?_;refine At_block_ret ?_;refine At_seq_ret ?_;refine At_loop_ret ?_;replace h := Go.L.Nxt.out h hm64;refine At_block_ret ?_;refine At_cut_ret ?_;obtain rfl := Option.some.inj h;refine At_got1 rfl (.cell rfl underlying23 rfl zr23 (box_ptr (i := 1) hL78 rfl)) ?_;exact ⟨hL78.ext, rfl⟩
    ·replace h := Go.L.ite_p hc74 h;refine W_skip ?_;refine At_block ?_;refine At_seq ?_;refine W_region ?_;refine S_pu 1 rfl ?_;obtain ⟨hk80, h⟩ := Go.L.chk_some h;refine S_v (r_ar64 rfl rfl rfl hk80) rfl ?_;refine S_pu 1 rfl ?_;refine S_nil ?_;have hL81 := hL73.dropAt (i := 0) rfl;have h := Go.L.Nxt.again h hm64;refine At_round ((s3_63 + (1 : Int)), n64) (.cons rfl (.cons rfl (.cons rfl (Sub.nil _)))) ⟨hL81, h⟩ (Nat.lt_succ_self _)
   ·replace h := Go.L.ite_n hc66 h;refine W_exit ?_;refine At_seq_exit ?_;refine At_loop_exit ?_;replace h := Go.L.Nxt.out h hm64;refine At_exit ?_;refine At_cut () (.cons rfl (Sub.nil _)) ⟨hL64, h⟩
  ·rintro _ wr44 ⟨hL44, h⟩;refine W_seqr ?_;refine S_v (r_build rfl (fun _ => bld23_z _)) rfl ?_;refine S_storeBN 0 rfl rfl rfl zr23 hL44 rfl rfl (onc rfl (onc rfl on0)) ?_;intro w84 hL84 hle84;refine S_seqnil ?_;refine W_ret ?_;obtain rfl := Option.some.inj h;refine At_got1 rfl (.cell rfl underlying23 rfl zr23 (box_ptr (i := 0) hL84 rfl)) ?_;exact ⟨hL84.ext, rfl⟩
end Go.Proofs.YtmfiaecglndldaaGreatDoor
end
section
namespace Go.Proofs.YtmfiaecglndldaaGreatDoor
open Go Go.E Go.RowKit
set_option maxHeartbeats 1000000
set_option maxRecDepth 10000
open _root_.Go.Proofs.Tryz
noncomputable def law4_ShapesFormMatchesSpec_k1 (a0 : List Go.L.Pv) (x1 : (Int × (List (((List UInt8) × Int × Int × (List UInt8)) × (List Int)))) × (Int × Int)) (c23 : Int) (c24 : Int) (s6_25 : List UInt8) : Option (Bool) :=
 Option.bind (law4_shaped) (fun x40 => if !x40 then Option.bind (law4_shaped) (fun x44 => if x44 then if x1.2.1 = c23 ∧ x1.2.2 = c24 then Option.bind (shapes_Index_Items (x1.1.1, x1.1.2)) (fun x50 => some (decide (x50 = (0 : Int)))) else some (false) else some (false)) else if x1.2.1 = c23 ∧ x1.2.2 = c24 then if c23 = (0 : Int) then Option.bind (shapes_Index_Bytes (x1.1.1, x1.1.2)) (fun x81 => Option.bind (shapes_Open x81) (fun x83 => Option.bind (shapes_Index_Bytes (x1.1.1, x1.1.2)) (fun x90 => Option.bind (ref3_SameBytes x90 s6_25) (fun x92 => if x92 then if x83.2.1 = (0 : Int) then Option.bind (shapes_Index_Items (x83.1.1, x83.1.2)) (fun x98 => if x98 = (a0.length : Int) then Option.bind (shapes_Index_Bytes (x83.1.1, x83.1.2)) (fun x102 => Option.bind (ref3_SameBytes x102 s6_25) (fun x104 => some (x104))) else some (false)) else some (false) else some (false))))) else Option.bind (law4_shaped) (fun x70 => if x70 then if x1.2.1 = c23 ∧ x1.2.2 = c24 then Option.bind (shapes_Index_Items (x1.1.1, x1.1.2)) (fun x76 => some (decide (x76 = (0 : Int)))) else some (false) else some (false)) else Option.bind (law4_shaped) (fun x57 => if x57 then if x1.2.1 = c23 ∧ x1.2.2 = c24 then Option.bind (shapes_Index_Items (x1.1.1, x1.1.2)) (fun x63 => some (decide (x63 = (0 : Int)))) else some (false) else some (false)))
noncomputable def law4_ShapesFormMatchesSpec (a0 : List Go.L.Pv) : Option (Bool) :=
 Option.bind (shapes_Build a0) (fun x1 => Option.bind (law4_valuesFault a0) (fun x7 => if x7.1 = (0 : Int) then Option.bind (ref4_ShapesForm a0) (fun x30 => if (16384 : Int) < (x30.length : Int) then Option.bind (ref3_At (14 : Int) (-1 : Int)) (fun x34 => (law4_ShapesFormMatchesSpec_k1 a0 x1) x34.1 x34.2 x30) else (law4_ShapesFormMatchesSpec_k1 a0 x1) x7.1 x7.2 x30) else (law4_ShapesFormMatchesSpec_k1 a0 x1) x7.1 x7.2 ([])))
theorem law4_ShapesFormMatchesSpec_ok (w : World) (H : PH) (hH : Le H (hp w)) {a0 : List Go.L.Pv} {v0_0 : Value} (h0_0 : Vec .tree H v0_0 (a0)) {r : Bool} (h : law4_ShapesFormMatchesSpec a0 = some r) :
  Ok Tryz.prog 7 [v0_0] w (fun v w' => Ext w w' ∧ v = .bool r) := by
 refine Ok_enter (n := 76) [(0, v0_0)] func7 rfl rfl rfl rfl rfl ?_;have hL := Lcl.start w;refine W_pz 1 rfl ?_;refine W_p 1 rfl ?_;obtain ⟨x1, hb1, h⟩ := Go.L.bind_some h;refine S_callL rfl rfl hL (shapes_Build_ok _ _ (gz_le hH hL) (h0_0.mono (gz_left hH)) hb1) ?_;rintro _ w2 ⟨u2_0, rfl, hR2_0⟩ hx2 hL2 hle2;have hv2_0 := hR2_0.mono (gz_nw hH hL hx2);refine S_pu 3 rfl ?_;refine S_alloc zr47 rfl rfl hL2 ?_;intro w3 b3 hL3 hle3 _;replace hv2_0 := hv2_0.mono (gz_mono hH hle3);refine S_alloc zr23 rfl rfl hL3 ?_;intro w4 b4 hL4 hle4 _;replace hv2_0 := hv2_0.mono (gz_mono hH hle4);refine S_storeBN 1 rfl rfl rfl zr47 hL4 rfl rfl (onc rfl (onc hv2_0.one on0)) ?_;intro w5 hL5 hle5;replace hv2_0 := hv2_0.mono (gz_mono hH hle5);refine S_storeBN 0 rfl rfl rfl zr23 hL5 rfl rfl (onc rfl (onc rfl on0)) ?_;intro w6 hL6 hle6;replace hv2_0 := hv2_0.mono (gz_mono hH hle6);refine S_seqnil ?_;refine W_p 1 rfl ?_;obtain ⟨x7, hb7, h⟩ := Go.L.bind_some h;refine S_callL rfl rfl hL6 (law4_valuesFault_ok _ _ (gz_le hH hL6) (h0_0.mono (gz_left hH)) hb7) ?_;rintro _ w8 rfl hx8 hL8 hle8;replace hv2_0 := hv2_0.mono (gz_mono hH hle8);refine S_alloc zr23 rfl rfl hL8 ?_;intro w9 b9 hL9 hle9 _;replace hv2_0 := hv2_0.mono (gz_mono hH hle9);refine S_storeBN 0 rfl rfl rfl zr23 hL9 rfl rfl (onc rfl (onc rfl on0)) ?_;intro w10 hL10 hle10;replace hv2_0 := hv2_0.mono (gz_mono hH hle10);refine S_seqnil ?_;refine W_pz 1 rfl ?_
 refine W_cut (σ := Int × Int × (List UInt8) × Value) (fun ⟨c23, c24, s6_25, vs6_25⟩ => [(0, v0_0), (3, .pointer (some ⟨b3, 0, none⟩)), (4, .pointer (some ⟨b4, 0, none⟩)), (5, .pointer (some ⟨b9, 0, none⟩)), (6, vs6_25)]) (fun ⟨c23, c24, s6_25, vs6_25⟩ wr => InO w [.box b9 [.int .i64 c23, .int .i64 c24] 23, .box b4 [.int .i64 x1.2.1, .int .i64 x1.2.2] 23, .box b3 [.int .i64 x1.1.1, u2_0] 47] wr fun Oz => Vec .byte (gz H w wr Oz) (vs6_25) (s6_25) ∧ Vec (.pair (.pair .st (.pair (.int .i64) (.pair (.int .i64) .st))) (.vec (.int .i64))) (gz H w wr Oz) (u2_0) (x1.1.2) ∧ (law4_ShapesFormMatchesSpec_k1 a0 x1) c23 c24 s6_25 = some r) ?_ ?_
 ·refine W_seqr ?_;refine S_v (r_field rfl underlying23 rfl zr3 (by decide)) rfl ?_;refine S_v (r_loadB1 0 rfl underlying3 rfl hL10 rfl rfl) rfl ?_;refine S_pz 1 rfl ?_;refine W_if rfl (fun hc28 => ?_) (fun hc28 => ?_)
  ·replace h := Go.L.ite_p hc28 h;refine W_p 1 rfl ?_;obtain ⟨x30, hb30, h⟩ := Go.L.bind_some h;refine S_callL rfl rfl hL10 (ref4_ShapesForm_ok _ _ (gz_le hH hL10) (h0_0.mono (gz_left hH)) hb30) ?_;rintro u31_0 w31 ⟨_, rfl, hR31_0⟩ hx31 hL31 hle31;have hv31_0 := hR31_0.vecG hH hL10 hx31;replace hv2_0 := hv2_0.mono (gz_mono hH hle31);refine S_pz 1 rfl ?_;refine W_p 1 rfl ?_;refine S_v (r_len rfl underlying35 hv31_0) rfl ?_;refine S_pz 1 rfl ?_;refine W_if rfl (fun hc32 => ?_) (fun hc32 => ?_)
   ·replace h := Go.L.ite_p hc32 h;refine W_region ?_;obtain ⟨x34, hb34, h⟩ := Go.L.bind_some h;refine S_callL rfl rfl hL31 (ref3_At_ok _ _ (gz_le hH hL31) hb34) ?_;rintro _ w35 rfl hx35 hL35 hle35;replace hv2_0 := hv2_0.mono (gz_mono hH hle35);replace hv31_0 := hv31_0.mono (gz_mono hH hle35);refine S_storeBN 0 rfl rfl rfl zr23 hL35 rfl rfl (onc rfl (onc rfl on0)) ?_;intro w36 hL36 hle36;replace hv2_0 := hv2_0.mono (gz_mono hH hle36);replace hv31_0 := hv31_0.mono (gz_mono hH hle36);refine S_nil ?_;refine At_cut (x34.1, x34.2, x30, u31_0) (.cons rfl (.cons rfl (.cons rfl (.cons rfl (.cons rfl (Sub.nil _)))))) ⟨hL36, hv31_0, hv2_0, h⟩
   ·replace h := Go.L.ite_n hc32 h;refine W_skip ?_;refine At_cut (x7.1, x7.2, x30, u31_0) (.cons rfl (.cons rfl (.cons rfl (.cons rfl (.cons rfl (Sub.nil _)))))) ⟨hL31, hv31_0, hv2_0, h⟩
  ·replace h := Go.L.ite_n hc28 h;refine W_skip ?_;refine At_cut (x7.1, x7.2, [], .slice none 0 0) (.cons rfl (.cons rfl (.cons rfl (.cons rfl (.cons rfl (Sub.nil _)))))) ⟨hL10, (Vec.nil _ _), hv2_0, h⟩
 ·rintro ⟨c23, c24, s6_25, vs6_25⟩ wr26 ⟨hL26, hfs6_25, hf26_1, h⟩;refine W_seq ?_;refine W_seqr ?_;obtain ⟨x40, hb40, h⟩ := Go.L.bind_some h;refine S_callL rfl rfl hL26 (law4_shaped_ok _ _ (gz_le hH hL26) hb40) ?_;rintro _ w41 rfl hx41 hL41 hle41;replace hfs6_25 := hfs6_25.mono (gz_mono hH hle41);replace hf26_1 := hf26_1.mono (gz_mono hH hle41);refine S_pu 2 rfl ?_;refine S_split (s := 27) rfl (fun hg42 => ?_) (fun hg42 => ?_)
  ·replace h := Go.L.ite_t hg42 h
   iterate 3 refine S_unwanted rfl rfl hg42 rfl ?_
   refine S_v (r_pickT rfl hg42 rfl) rfl ?_;refine S_pu 1 rfl ?_
   iterate 3 refine S_unwanted rfl rfl rfl rfl ?_
   refine S_v (r_pickT rfl rfl rfl) rfl ?_;refine S_seqnil ?_;refine W_true rfl ?_;refine W_seqr ?_;obtain ⟨x44, hb44, h⟩ := Go.L.bind_some h;refine S_callL rfl rfl hL41 (law4_shaped_ok _ _ (gz_le hH hL41) hb44) ?_;rintro _ w45 rfl hx45 hL45 hle45;replace hfs6_25 := hfs6_25.mono (gz_mono hH hle45);replace hf26_1 := hf26_1.mono (gz_mono hH hle45);refine S_pu 1 rfl ?_;refine S_split (s := 38) rfl (fun hg46 => ?_) (fun hg46 => ?_)
   ·replace h := Go.L.ite_t hg46 h;refine S_guarded rfl rfl hg46 ?_;refine S_v (r_loadBN 1 rfl underlying23 rfl zr23 hL45 rfl) rfl ?_;refine S_guarded rfl rfl hg46 ?_;refine S_v (r_loadBN 0 rfl underlying23 rfl zr23 hL45 rfl) rfl ?_;refine S_guarded rfl rfl hg46 ?_;refine S_v (r_eqA rfl rfl eqg23 (eq23 _ _ _ _ )) rfl ?_;refine S_v (r_pickT rfl hg46 rfl) rfl ?_;refine S_pu 1 rfl ?_;refine S_split (s := 43) rfl (fun hg48 => ?_) (fun hg48 => ?_)
    ·replace h := Go.L.ite_p (of_decide_eq_true hg48) h;refine S_guarded rfl rfl hg48 ?_;refine S_v (r_loadBN 2 rfl underlying47 rfl zr47 hL45 rfl) rfl ?_;refine S_guarded rfl rfl hg48 ?_;obtain ⟨x50, hb50, h⟩ := Go.L.bind_some h;refine S_callL rfl rfl hL45 (shapes_Index_Items_ok (a0 := (x1.1.1, x1.1.2)) _ _ (gz_le hH hL45) hf26_1 hb50) ?_;rintro _ w51 rfl hx51 hL51 hle51;replace hfs6_25 := hfs6_25.mono (gz_mono hH hle51);replace hf26_1 := hf26_1.mono (gz_mono hH hle51);refine S_guarded rfl rfl hg48 ?_;refine S_v (RunsAt_pu rfl) rfl ?_;refine S_v (r_pickT rfl hg48 rfl) rfl ?_;refine S_pz 1 rfl ?_;refine W_ret ?_;refine At_seq_ret ?_;obtain rfl := Option.some.inj h;refine At_body rfl rfl ?_;exact ⟨hL51.ext, rfl⟩
    ·replace h := Go.L.ite_n (of_decide_eq_false hg48) h
     iterate 3 refine S_unwanted rfl rfl hg48 rfl ?_
     refine S_v (r_pickF rfl hg48 rfl) rfl ?_;refine S_pz 1 rfl ?_;refine W_ret ?_;refine At_seq_ret ?_;obtain rfl := Option.some.inj h;refine At_body rfl rfl ?_;exact ⟨hL45.ext, rfl⟩
   ·replace h := Go.L.ite_f hg46 h
    iterate 3 refine S_unwanted rfl rfl hg46 rfl ?_
    refine S_v (r_pickF rfl hg46 rfl) rfl ?_;refine S_pu 1 rfl ?_
    iterate 3 refine S_unwanted rfl rfl rfl rfl ?_
    refine S_v (r_pickF rfl rfl rfl) rfl ?_;refine S_pz 1 rfl ?_;refine W_ret ?_;refine At_seq_ret ?_;obtain rfl := Option.some.inj h;refine At_body rfl rfl ?_;exact ⟨hL45.ext, rfl⟩
  ·replace h := Go.L.ite_f hg42 h;refine S_guarded rfl rfl hg42 ?_;refine S_v (r_loadBN 1 rfl underlying23 rfl zr23 hL41 rfl) rfl ?_;refine S_guarded rfl rfl hg42 ?_;refine S_v (r_loadBN 0 rfl underlying23 rfl zr23 hL41 rfl) rfl ?_;refine S_guarded rfl rfl hg42 ?_;refine S_v (r_neA rfl rfl eqg23 (eq23 _ _ _ _ )) rfl ?_;refine S_v (r_pickF rfl hg42 rfl) rfl ?_;refine S_pu 1 rfl ?_;refine S_split (s := 32) rfl (fun hg55 => ?_) (fun hg55 => ?_)
   ·replace h := Go.L.ite_n (not_dec_t hg55) h
    iterate 3 refine S_unwanted rfl rfl hg55 rfl ?_
    refine S_v (r_pickT rfl hg55 rfl) rfl ?_;refine S_seqnil ?_;refine W_true rfl ?_;refine W_seqr ?_;obtain ⟨x57, hb57, h⟩ := Go.L.bind_some h;refine S_callL rfl rfl hL41 (law4_shaped_ok _ _ (gz_le hH hL41) hb57) ?_;rintro _ w58 rfl hx58 hL58 hle58;replace hfs6_25 := hfs6_25.mono (gz_mono hH hle58);replace hf26_1 := hf26_1.mono (gz_mono hH hle58);refine S_pu 1 rfl ?_;refine S_split (s := 38) rfl (fun hg59 => ?_) (fun hg59 => ?_)
    ·replace h := Go.L.ite_t hg59 h;refine S_guarded rfl rfl hg59 ?_;refine S_v (r_loadBN 1 rfl underlying23 rfl zr23 hL58 rfl) rfl ?_;refine S_guarded rfl rfl hg59 ?_;refine S_v (r_loadBN 0 rfl underlying23 rfl zr23 hL58 rfl) rfl ?_;refine S_guarded rfl rfl hg59 ?_;refine S_v (r_eqA rfl rfl eqg23 (eq23 _ _ _ _ )) rfl ?_;refine S_v (r_pickT rfl hg59 rfl) rfl ?_;refine S_pu 1 rfl ?_;refine S_split (s := 43) rfl (fun hg61 => ?_) (fun hg61 => ?_)
     ·replace h := Go.L.ite_p (of_decide_eq_true hg61) h;refine S_guarded rfl rfl hg61 ?_;refine S_v (r_loadBN 2 rfl underlying47 rfl zr47 hL58 rfl) rfl ?_;refine S_guarded rfl rfl hg61 ?_;obtain ⟨x63, hb63, h⟩ := Go.L.bind_some h;refine S_callL rfl rfl hL58 (shapes_Index_Items_ok (a0 := (x1.1.1, x1.1.2)) _ _ (gz_le hH hL58) hf26_1 hb63) ?_;rintro _ w64 rfl hx64 hL64 hle64;replace hfs6_25 := hfs6_25.mono (gz_mono hH hle64);replace hf26_1 := hf26_1.mono (gz_mono hH hle64);refine S_guarded rfl rfl hg61 ?_;refine S_v (RunsAt_pu rfl) rfl ?_;refine S_v (r_pickT rfl hg61 rfl) rfl ?_;refine S_pz 1 rfl ?_;refine W_ret ?_;refine At_seq_ret ?_;obtain rfl := Option.some.inj h;refine At_body rfl rfl ?_;exact ⟨hL64.ext, rfl⟩
     ·replace h := Go.L.ite_n (of_decide_eq_false hg61) h
      iterate 3 refine S_unwanted rfl rfl hg61 rfl ?_
      refine S_v (r_pickF rfl hg61 rfl) rfl ?_;refine S_pz 1 rfl ?_;refine W_ret ?_;refine At_seq_ret ?_;obtain rfl := Option.some.inj h;refine At_body rfl rfl ?_;exact ⟨hL58.ext, rfl⟩
    ·replace h := Go.L.ite_f hg59 h
     iterate 3 refine S_unwanted rfl rfl hg59 rfl ?_
     refine S_v (r_pickF rfl hg59 rfl) rfl ?_;refine S_pu 1 rfl ?_
     iterate 3 refine S_unwanted rfl rfl rfl rfl ?_
     refine S_v (r_pickF rfl rfl rfl) rfl ?_;refine S_pz 1 rfl ?_;refine W_ret ?_;refine At_seq_ret ?_;obtain rfl := Option.some.inj h;refine At_body rfl rfl ?_;exact ⟨hL58.ext, rfl⟩
   ·replace h := Go.L.ite_p (not_dec_f hg55) h;refine S_guarded rfl rfl hg55 ?_;refine S_v (r_field rfl underlying23 rfl zr3 (by decide)) rfl ?_;refine S_guarded rfl rfl hg55 ?_;refine S_v (r_loadB1 0 rfl underlying3 rfl hL41 rfl rfl) rfl ?_;refine S_guarded rfl rfl hg55 ?_;refine S_v (RunsAt_pu rfl) rfl ?_;refine S_v (r_pickF rfl hg55 rfl) rfl ?_;refine S_seqnil ?_;refine W_ifn rfl (fun hc68 => ?_) (fun hc68 => ?_)
    ·replace h := Go.L.ite_n hc68 h;refine W_seqr ?_;obtain ⟨x70, hb70, h⟩ := Go.L.bind_some h;refine S_callL rfl rfl hL41 (law4_shaped_ok _ _ (gz_le hH hL41) hb70) ?_;rintro _ w71 rfl hx71 hL71 hle71;replace hf26_1 := hf26_1.mono (gz_mono hH hle71);refine S_pu 1 rfl ?_;refine S_split (s := 38) rfl (fun hg72 => ?_) (fun hg72 => ?_)
     ·replace h := Go.L.ite_t hg72 h;refine S_guarded rfl rfl hg72 ?_;refine S_v (r_loadBN 1 rfl underlying23 rfl zr23 hL71 rfl) rfl ?_;refine S_guarded rfl rfl hg72 ?_;refine S_v (r_loadBN 0 rfl underlying23 rfl zr23 hL71 rfl) rfl ?_;refine S_guarded rfl rfl hg72 ?_;refine S_v (r_eqA rfl rfl eqg23 (eq23 _ _ _ _ )) rfl ?_;refine S_v (r_pickT rfl hg72 rfl) rfl ?_;refine S_pu 1 rfl ?_;refine S_split (s := 43) rfl (fun hg74 => ?_) (fun hg74 => ?_)
      ·replace h := Go.L.ite_p (of_decide_eq_true hg74) h;refine S_guarded rfl rfl hg74 ?_;refine S_v (r_loadBN 2 rfl underlying47 rfl zr47 hL71 rfl) rfl ?_;refine S_guarded rfl rfl hg74 ?_;obtain ⟨x76, hb76, h⟩ := Go.L.bind_some h;refine S_callL rfl rfl hL71 (shapes_Index_Items_ok (a0 := (x1.1.1, x1.1.2)) _ _ (gz_le hH hL71) hf26_1 hb76) ?_;rintro _ w77 rfl hx77 hL77 hle77;replace hf26_1 := hf26_1.mono (gz_mono hH hle77);refine S_guarded rfl rfl hg74 ?_;refine S_v (RunsAt_pu rfl) rfl ?_;refine S_v (r_pickT rfl hg74 rfl) rfl ?_;refine S_pz 1 rfl ?_;refine W_ret ?_;refine At_seq_ret ?_;obtain rfl := Option.some.inj h;refine At_body rfl rfl ?_;exact ⟨hL77.ext, rfl⟩
      ·replace h := Go.L.ite_n (of_decide_eq_false hg74) h
       iterate 3 refine S_unwanted rfl rfl hg74 rfl ?_
       refine S_v (r_pickF rfl hg74 rfl) rfl ?_;refine S_pz 1 rfl ?_;refine W_ret ?_;refine At_seq_ret ?_;obtain rfl := Option.some.inj h;refine At_body rfl rfl ?_;exact ⟨hL71.ext, rfl⟩
     ·replace h := Go.L.ite_f hg72 h
      iterate 3 refine S_unwanted rfl rfl hg72 rfl ?_
      refine S_v (r_pickF rfl hg72 rfl) rfl ?_;refine S_pu 1 rfl ?_
      iterate 3 refine S_unwanted rfl rfl rfl rfl ?_
      refine S_v (r_pickF rfl rfl rfl) rfl ?_;refine S_pz 1 rfl ?_;refine W_ret ?_;refine At_seq_ret ?_;obtain rfl := Option.some.inj h;refine At_body rfl rfl ?_;exact ⟨hL71.ext, rfl⟩
    ·replace h := Go.L.ite_p hc68 h;refine W_skip ?_;refine At_seq ?_;refine W_seqr ?_;refine S_v (r_loadBN 2 rfl underlying47 rfl zr47 hL41 rfl) rfl ?_;obtain ⟨x81, hb81, h⟩ := Go.L.bind_some h;refine S_callL rfl rfl hL41 (shapes_Index_Bytes_ok (a0 := (x1.1.1, x1.1.2)) _ _ (gz_le hH hL41) hf26_1 hb81) ?_;rintro u82_0 w82 ⟨_, rfl, hR82_0⟩ hx82 hL82 hle82;have hv82_0 := hR82_0.vecG hH hL41 hx82;replace hfs6_25 := hfs6_25.mono (gz_mono hH hle82);replace hf26_1 := hf26_1.mono (gz_mono hH hle82);obtain ⟨x83, hb83, h⟩ := Go.L.bind_some h;refine S_callL rfl rfl hL82 (shapes_Open_ok _ _ (gz_le hH hL82) hv82_0 hb83) ?_;rintro _ w84 ⟨u84_0, rfl, hR84_0⟩ hx84 hL84 hle84;have hv84_0 := hR84_0.mono (gz_nw hH hL82 hx84);replace hfs6_25 := hfs6_25.mono (gz_mono hH hle84);replace hf26_1 := hf26_1.mono (gz_mono hH hle84);replace hv82_0 := hv82_0.mono (gz_mono hH hle84);refine S_pu 3 rfl ?_;refine S_alloc zr47 rfl rfl hL84 ?_;intro w85 b85 hL85 hle85 _;replace hfs6_25 := hfs6_25.mono (gz_mono hH hle85);replace hf26_1 := hf26_1.mono (gz_mono hH hle85);replace hv82_0 := hv82_0.mono (gz_mono hH hle85);replace hv84_0 := hv84_0.mono (gz_mono hH hle85);refine S_alloc zr23 rfl rfl hL85 ?_;intro w86 b86 hL86 hle86 _;replace hfs6_25 := hfs6_25.mono (gz_mono hH hle86);replace hf26_1 := hf26_1.mono (gz_mono hH hle86);replace hv82_0 := hv82_0.mono (gz_mono hH hle86);replace hv84_0 := hv84_0.mono (gz_mono hH hle86);refine S_storeBN 1 rfl rfl rfl zr47 hL86 rfl rfl (onc rfl (onc hv84_0.one on0)) ?_
     intro w87 hL87 hle87;replace hfs6_25 := hfs6_25.mono (gz_mono hH hle87);replace hf26_1 := hf26_1.mono (gz_mono hH hle87);replace hv82_0 := hv82_0.mono (gz_mono hH hle87);replace hv84_0 := hv84_0.mono (gz_mono hH hle87);refine S_storeBN 0 rfl rfl rfl zr23 hL87 rfl rfl (onc rfl (onc rfl on0)) ?_;intro w88 hL88 hle88;replace hfs6_25 := hfs6_25.mono (gz_mono hH hle88);replace hf26_1 := hf26_1.mono (gz_mono hH hle88);replace hv82_0 := hv82_0.mono (gz_mono hH hle88);replace hv84_0 := hv84_0.mono (gz_mono hH hle88);refine S_seqnil ?_;have hG89 := hL88.rG H;refine W_seqr ?_;refine S_v (r_loadBN 4 rfl underlying47 rfl zr47 hL88 rfl) rfl ?_;obtain ⟨x90, hb90, h⟩ := Go.L.bind_some h;refine S_callL rfl rfl hL88 (shapes_Index_Bytes_ok (a0 := (x1.1.1, x1.1.2)) _ _ (gz_le hH hL88) (hf26_1.mono hG89) hb90) ?_;rintro u91_0 w91 ⟨_, rfl, hR91_0⟩ hx91 hL91 hle91;have hv91_0 := hR91_0.vecG hH hL88 hx91;replace hG89 := hG89.trans (gz_mono hH hle91);refine S_pu 1 rfl ?_;obtain ⟨x92, hb92, h⟩ := Go.L.bind_some h;refine S_callL rfl rfl hL91 (ref3_SameBytes_ok _ _ (gz_le hH hL91) hv91_0 (hfs6_25.mono hG89) hb92) ?_;rintro _ w93 rfl hx93 hL93 hle93;replace hv91_0 := hv91_0.mono (gz_mono hH hle93);replace hG89 := hG89.trans (gz_mono hH hle93);refine S_pu 1 rfl ?_;refine S_split (s := 58) rfl (fun hg94 => ?_) (fun hg94 => ?_)
     ·replace h := Go.L.ite_t hg94 h;refine S_guarded rfl rfl hg94 ?_;refine S_v (r_field rfl underlying23 rfl zr3 (by decide)) rfl ?_;refine S_guarded rfl rfl hg94 ?_;refine S_v (r_loadB1 0 rfl underlying3 rfl hL93 rfl rfl) rfl ?_;refine S_guarded rfl rfl hg94 ?_;refine S_v (RunsAt_pu rfl) rfl ?_;refine S_v (r_pickT rfl hg94 rfl) rfl ?_;refine S_pu 1 rfl ?_;refine S_split (s := 63) rfl (fun hg96 => ?_) (fun hg96 => ?_)
      ·replace h := Go.L.ite_p (of_decide_eq_true hg96) h;refine S_guarded rfl rfl hg96 ?_;refine S_v (r_loadBN 1 rfl underlying47 rfl zr47 hL93 rfl) rfl ?_;refine S_guarded rfl rfl hg96 ?_;obtain ⟨x98, hb98, h⟩ := Go.L.bind_some h;refine S_callL rfl rfl hL93 (shapes_Index_Items_ok (a0 := (x83.1.1, x83.1.2)) _ _ (gz_le hH hL93) (hv84_0.mono hG89) hb98) ?_;rintro _ w99 rfl hx99 hL99 hle99;replace hv91_0 := hv91_0.mono (gz_mono hH hle99);replace hG89 := hG89.trans (gz_mono hH hle99);refine S_guarded rfl rfl hg96 ?_;refine S_v (RunsAt_pu rfl) rfl ?_;refine S_guarded rfl rfl hg96 ?_;refine S_v (r_len rfl underlying36 h0_0) rfl ?_;refine S_guarded rfl rfl hg96 ?_;refine S_v (RunsAt_pu rfl) rfl ?_;refine S_v (r_pickT rfl hg96 rfl) rfl ?_;refine S_pu 1 rfl ?_;refine S_split (s := 70) rfl (fun hg100 => ?_) (fun hg100 => ?_)
       ·replace h := Go.L.ite_p (of_decide_eq_true hg100) h;refine S_guarded rfl rfl hg100 ?_;refine S_v (r_loadBN 1 rfl underlying47 rfl zr47 hL99 rfl) rfl ?_;refine S_guarded rfl rfl hg100 ?_;obtain ⟨x102, hb102, h⟩ := Go.L.bind_some h;refine S_callL rfl rfl hL99 (shapes_Index_Bytes_ok (a0 := (x83.1.1, x83.1.2)) _ _ (gz_le hH hL99) (hv84_0.mono hG89) hb102) ?_;rintro u103_0 w103 ⟨_, rfl, hR103_0⟩ hx103 hL103 hle103;have hv103_0 := hR103_0.vecG hH hL99 hx103;replace hv91_0 := hv91_0.mono (gz_mono hH hle103);replace hG89 := hG89.trans (gz_mono hH hle103);refine S_guarded rfl rfl hg100 ?_;refine S_v (RunsAt_pu rfl) rfl ?_;refine S_guarded rfl rfl hg100 ?_;obtain ⟨x104, hb104, h⟩ := Go.L.bind_some h;refine S_callL rfl rfl hL103 (ref3_SameBytes_ok _ _ (gz_le hH hL103) hv103_0 (hfs6_25.mono hG89) hb104) ?_;rintro _ w105 rfl hx105 hL105 hle105;replace hv91_0 := hv91_0.mono (gz_mono hH hle105);replace hv103_0 := hv103_0.mono (gz_mono hH hle105);replace hG89 := hG89.trans (gz_mono hH hle105);refine S_v (r_pickT rfl hg100 rfl) rfl ?_;refine S_pz 1 rfl ?_;refine W_ret ?_;obtain rfl := Option.some.inj h;refine At_body rfl rfl ?_;exact ⟨hL105.ext, rfl⟩
       ·replace h := Go.L.ite_n (of_decide_eq_false hg100) h
        iterate 4 refine S_unwanted rfl rfl hg100 rfl ?_
        refine S_v (r_pickF rfl hg100 rfl) rfl ?_;refine S_pz 1 rfl ?_;refine W_ret ?_;obtain rfl := Option.some.inj h;refine At_body rfl rfl ?_;exact ⟨hL99.ext, rfl⟩
      ·replace h := Go.L.ite_n (of_decide_eq_false hg96) h
       iterate 5 refine S_unwanted rfl rfl hg96 rfl ?_
       refine S_v (r_pickF rfl hg96 rfl) rfl ?_;refine S_pu 1 rfl ?_
       iterate 4 refine S_unwanted rfl rfl rfl rfl ?_
       refine S_v (r_pickF rfl rfl rfl) rfl ?_;refine S_pz 1 rfl ?_;refine W_ret ?_;obtain rfl := Option.some.inj h;refine At_body rfl rfl ?_;exact ⟨hL93.ext, rfl⟩
     ·replace h := Go.L.ite_f hg94 h
      iterate 3 refine S_unwanted rfl rfl hg94 rfl ?_
      refine S_v (r_pickF rfl hg94 rfl) rfl ?_;refine S_pu 1 rfl ?_
      iterate 5 refine S_unwanted rfl rfl rfl rfl ?_
      refine S_v (r_pickF rfl rfl rfl) rfl ?_;refine S_pu 1 rfl ?_
      iterate 4 refine S_unwanted rfl rfl rfl rfl ?_
      refine S_v (r_pickF rfl rfl rfl) rfl ?_;refine S_pz 1 rfl ?_;refine W_ret ?_;obtain rfl := Option.some.inj h;refine At_body rfl rfl ?_;exact ⟨hL93.ext, rfl⟩
end Go.Proofs.YtmfiaecglndldaaGreatDoor
end
section
namespace Go.Proofs.YtmfiaecglndldaaGreatDoor
open Go Go.L
theorem rchunk_form {s : List UInt8} (h : s.length ≤ 2000000) : ref4_chunk s = some (chunkF s) := by
  unfold ref4_chunk chunkF;have h1 := vint_len (zz (s.length : Int));rw [varint_eq (by unfold I64; omega), Option.bind_some, chk_pos (by omega), chk_pos (by unfold Go.E.Cap; omega)]
theorem rleaf_form {e : En} (h : EnS e) : ref4_leafForm e.1 e.2 = some (lform e) := by
  obtain ⟨p1, p2, p3, p4, p5, p6⟩ := h;unfold ref4_leafForm;have c1 : (chunkF e.1.1).length ≤ 2000010 := by have := vint_len (zz (e.1.1.length : Int)); unfold chunkF; rw [List.length_append]; omega
  have c2 := vint_len (zz e.1.2.1);have c3 := vint_len (zz e.1.2.2.1);have c4 : (chunkF e.1.2.2.2).length ≤ 2000010 := by have := vint_len (zz (e.1.2.2.2.length : Int)); unfold chunkF; rw [List.length_append]; omega
  have c5 := vint_len (zz (e.2.length : Int))
  rw [rchunk_form p1, Option.bind_some, varint_eq p2, Option.bind_some, chk_pos (by unfold Go.E.Cap; omega), varint_eq p3, Option.bind_some,
    chk_pos (by unfold Go.E.Cap; simp only [List.length_append]; omega), rchunk_form p4, Option.bind_some, chk_pos (by unfold Go.E.Cap; simp only [List.length_append]; omega),
    varint_eq (by unfold I64; omega), Option.bind_some, chk_pos (by unfold Go.E.Cap; simp only [List.length_append]; omega)]
  unfold ref4_leafForm_l2;generalize hL : chunkF e.1.1 ++ vint (zz e.1.2.1) ++ vint (zz e.1.2.2.1) ++ chunkF e.1.2.2.2 ++ vint (zz (e.2.length : Int)) = L;have hLl : L.length ≤ 5000000 := by rw [← hL]; simp only [List.length_append]; omega
  have hend : lform e = L ++ e.2.flatMap fun i => vint (zz i) := by
    rw [← hL]; unfold lform itemsF; simp
  rw [hend];refine run_count (fun i => (L ++ (e.2.take i).flatMap (fun i => vint (zz i)), ((i : Nat) : Int))) e.2.length (fun i hi => ?_) ?_ 0 (Nat.zero_le _) |> fun hh => by simpa using hh
  · unfold ref4_leafForm_bl2;dsimp only;have k1 := flatMap_vint_len (e.2.take i);rw [List.length_take] at k1;have k2 := vint_len (zz (e.2.getD i default));rw [if_pos (by omega), chk_pos (by omega), Int.toNat_natCast, varint_eq (p5 _ (getD_mem hi)), Option.bind_some, chk_pos (by unfold Go.E.Cap; simp only [List.length_append]; omega), chk_pos (by unfold I64; omega), take_succ_flatMap _ hi, List.append_assoc]
    rfl
  · unfold ref4_leafForm_bl2 ref4_leafForm_k1;dsimp only;rw [if_neg (by omega), List.take_length]
    try rfl
/-- Where a leaf stands. -/
theorem where_run {a : List Pv} (hl : a.length ≤ 64) (hv : AllV a) (out : List UInt8) (s5 : Int) (hs5 : I64 (s5 + 1)) {ks : List Lf} {n : Nat} (hn : n < ks.length) (hs : s5 = (n : Int)) (hS : EnS (ks.getD n default, setI (mget [] (ks.getD n default) (adds (prB 0 a) [])))) (ho : out.length ≤ 1000000000000) :
    Go.L.run (ref4_ShapesForm_bl5 a out s5 ks) ([], 0) = some (.inl (out ++ lform (ks.getD n default, setI (mget [] (ks.getD n default) (adds (prB 0 a) []))), s5 + 1)) := by
  generalize hk : ks.getD n default = k at *
  have key : ∀ (d i : Nat) (W : List Int), i + d = a.length → W.length ≤ i → W.Pairwise (fun x y => x ≤ y ∧ x ≠ y) → (∀ z, z ∈ W ↔ (k, z) ∈ prB 0 (a.take i)) →
      Go.L.run (ref4_ShapesForm_bl5 a out s5 ks) (W, (i : Int)) = some (.inl (out ++ lform (k, setI (mget [] k (adds (prB 0 a) []))), s5 + 1)) := by
    intro d
    induction d with
    | zero =>
      intro i W hi hW hp hm
      have hWe : setI (mget [] k (adds (prB 0 a) [])) = W := setI_eq hp fun z => by
        rw [hm, List.take_of_length_le (by omega), adds_mem]; simp [mget]
      rw [hWe] at hS ⊢;refine run_inr (m := some (Sum.inl (out ++ lform (k, W), s5 + 1))) ?_;unfold ref4_ShapesForm_bl5 ref4_ShapesForm_k4 ref4_ShapesForm_k3;dsimp only;have hlf := lform_len hS;have hf : ref4_leafForm (k.1, k.2.1, k.2.2.1, k.2.2.2) W = some (lform (k, W)) := rleaf_form (e := (k, W)) hS;rw [if_neg (by omega), hs, chk_pos (by omega), Int.toNat_natCast, hk, hf, Option.bind_some, chk_pos (by unfold Go.E.Cap; omega), chk_pos (by rw [← hs]; exact hs5)]
    | succ d ih =>
      intro i W hi hW hp hm;have hil : i < a.length := by omega
      obtain ⟨v1, v2, v3⟩ := hv _ (getD_mem hil);have hlen : (lvs 10 (a.getD i default) []).length ≤ 600 := by rw [lvs_len]; exact v3
      have hh : ref4_HasLeaf (lvs 10 (a.getD i default) []) (k.1, k.2.1, k.2.2.1, k.2.2.2) = some (decide (k ∈ lvs 10 (a.getD i default) [])) := hasLeaf_eq (by omega) _
      have htk : a.take (i + 1) = a.take i ++ [a.getD i default] := by
        rw [List.take_add_one, List.getElem?_eq_getElem hil]; simp [List.getD_eq_getElem?_getD, List.getElem?_eq_getElem hil]
      have hnew : ∀ z, (k, z) ∈ prB 0 (a.take (i + 1)) ↔ (k, z) ∈ prB 0 (a.take i) ∨ (k ∈ lvs 10 (a.getD i default) [] ∧ z = (i : Int)) := fun z => by
        rw [htk, prB_append];simp only [List.mem_append, prB, List.append_nil, List.mem_map, List.length_take];rw [show (0 : Int) + ((min i a.length : Nat) : Int) = (i : Int) by omega]
        constructor
        · rintro (h | ⟨x, hx, e⟩)
          · exact .inl h
          · have h1 : x = k := congrArg Prod.fst e;have h2 : (i : Int) = z := congrArg Prod.snd e;subst h1; exact .inr ⟨hx, h2.symm⟩
        · rintro (h | ⟨h1, h2⟩)
          · exact .inl h
          · subst h2; exact .inr ⟨k, h1, rfl⟩
      have hold : ∀ z, (k, z) ∈ prB 0 (a.take i) → z < (i : Int) := fun z hz => by
        obtain ⟨j, h1, h2, _⟩ := prB_mem.1 hz;rw [List.length_take] at h1;have h2' : z = 0 + (j : Int) := h2;omega
      by_cases hx : k ∈ lvs 10 (a.getD i default) []
      · have hb : ref4_ShapesForm_bl5 a out s5 ks (W, (i : Int)) = some (.inl (W ++ [(i : Int)], ((i + 1 : Nat) : Int))) := by
          unfold ref4_ShapesForm_bl5;dsimp only;rw [if_pos (by omega), chk_pos (by omega), hs, chk_pos (by omega), Int.toNat_natCast, Int.toNat_natCast, ref_leaves v2 (by omega), Option.bind_some, hk, hh, Option.bind_some, if_pos (by simpa using hx), chk_pos (by unfold Go.E.Cap; simp; omega), chk_pos (by unfold I64; omega)]
          rfl
        rw [run_inl hb];refine ih (i + 1) _ (by omega) (by rw [List.length_append]; simp; omega) (List.pairwise_append.2 ⟨hp, List.pairwise_singleton _ _, fun x hxm y hy => ?_⟩) fun z => ?_
        · rw [List.mem_singleton] at hy;subst hy;have := hold x ((hm x).1 hxm);omega
        · rw [hnew, List.mem_append, List.mem_singleton, hm];exact ⟨fun h => h.imp id fun e => ⟨hx, e⟩, fun h => h.imp id fun e => e.2⟩
      · have hb : ref4_ShapesForm_bl5 a out s5 ks (W, (i : Int)) = some (.inl (W, ((i + 1 : Nat) : Int))) := by
          unfold ref4_ShapesForm_bl5;dsimp only;rw [if_pos (by omega), chk_pos (by omega), hs, chk_pos (by omega), Int.toNat_natCast, Int.toNat_natCast, ref_leaves v2 (by omega), Option.bind_some, hk, hh, Option.bind_some, if_neg (by simpa using hx), chk_pos (by unfold I64; omega)]
          rfl
        rw [run_inl hb]
        exact ih (i + 1) _ (by omega) (by omega) hp fun z => by
          rw [hnew, hm];exact ⟨.inl, fun h => h.resolve_right fun e => hx e.1⟩
  exact key a.length 0 [] (by omega) (by simp) .nil (fun z => by simp [prB])
/-- The form of values, by the reference. -/
theorem ref_form {a : List Pv} (hl : a.length ≤ 64) (hv : AllV a) (hs : ∀ v ∈ a, Sm 1048576 10 v) : ref4_ShapesForm a = some (iform (a.length : Int) (kIdx (adds (prB 0 a) []))) := by
  have hms := (gi_build hl hv hs).2;have hS := kIdx_S hms
  have hlen : (srtL ((adds (prB 0 a) []).map Prod.fst)).length ≤ 38400 := by
    rw [srtL_length, List.length_map];have h1 := adds_count (prB 0 a) [];have h2 := prB_len 0 fun v hvm => (hv v hvm).2.2;have h3 : ([] : List (Lf × List Int)).length = 0 := rfl;omega
  have hke : kIdx (adds (prB 0 a) []) = (srtL ((adds (prB 0 a) []).map Prod.fst)).map fun k => (k, setI (mget [] k (adds (prB 0 a) []))) := rfl;unfold ref4_ShapesForm;rw [all_leaves hl hv, Option.bind_some];unfold iform;have h0 := vint_len (zz (a.length : Int));rw [hke] at hS ⊢;rw [List.length_map];generalize srtL ((adds (prB 0 a) []).map Prod.fst) = ks at *;have h1 := vint_len (zz (ks.length : Int));rw [varint_eq (by unfold I64; omega), Option.bind_some, varint_eq (by unfold I64; omega), Option.bind_some, chk_pos (by unfold Go.E.Cap; omega), ← List.append_assoc];generalize hH : vint (zz (a.length : Int)) ++ vint (zz (ks.length : Int)) = H;have hHl : H.length ≤ 20 := by rw [← hH, List.length_append]; omega
  unfold ref4_ShapesForm_l2;rw [List.flatMap_map];have hSk : ∀ k ∈ ks, EnS (k, setI (mget [] k (adds (prB 0 a) []))) := fun k hk => hS _ (List.mem_map.2 ⟨k, hk, rfl⟩);refine run_count (fun i => (H ++ (ks.take i).flatMap (fun k => lform (k, setI (mget [] k (adds (prB 0 a) [])))), ((i : Nat) : Int))) ks.length (fun i hi => ?_) ?_ 0 (Nat.zero_le _) |> fun hh => by simpa using hh
  · unfold ref4_ShapesForm_bl2 ref4_ShapesForm_l5;dsimp only;have k1 := flatMap_len_le (fun k => lform (k, setI (mget [] k (adds (prB 0 a) [])))) 20000000 (l := ks.take i) fun x hx => lform_len (hSk x (List.mem_of_mem_take hx));rw [List.length_take] at k1;have k3 : min i ks.length * 20000000 ≤ 38400 * 20000000 := Nat.mul_le_mul_right _ (by omega);rw [if_pos (by omega), where_run hl hv _ _ (by unfold I64; omega) hi rfl (hSk _ (getD_mem hi)) (by rw [List.length_append]; omega), take_succ_flatMap _ hi, List.append_assoc]
    rfl
  · unfold ref4_ShapesForm_bl2 ref4_ShapesForm_k1;dsimp only;rw [if_neg (by omega), List.take_length]
    try rfl
/-- The first fault of values. -/
theorem values_fault {a : List Pv} (hl : a.length ≤ 64) (hs : ∀ v ∈ a, Sm 1048576 10 v) : (∃ j f, j < a.length ∧ value_Validate (a.getD j default) = some f ∧ f.1 ≠ 0 ∧ AllV (a.take j) ∧ law4_valuesFault a = some (f.1, (j : Int))) ∨ (AllV a ∧ law4_valuesFault a = some (0, 0)) := by
  have key : ∀ (k i : Nat), i + k = a.length → AllV (a.take i) →
      (∃ j f, j < a.length ∧ value_Validate (a.getD j default) = some f ∧ f.1 ≠ 0 ∧ AllV (a.take j) ∧ Go.L.run (law4_valuesFault_bl2 a) (i : Int) = some (f.1, (j : Int))) ∨ (AllV a ∧ Go.L.run (law4_valuesFault_bl2 a) (i : Int) = some (0, 0)) := by
    intro k
    induction k with
    | zero =>
      intro i hi hv
      right
      rw [List.take_of_length_le (by omega)] at hv;refine ⟨hv, run_inr (m := some (0, 0)) ?_⟩;unfold law4_valuesFault_bl2 law4_valuesFault_k1;rw [if_neg (by omega)]
    | succ k ih =>
      intro i hi hv;have hil : i < a.length := by omega
      obtain ⟨f, h1, h2⟩ := validate_ex (by omega) (hs _ (getD_mem hil))
      have htk : a.take (i + 1) = a.take i ++ [a.getD i default] := by
        rw [List.take_add_one, List.getElem?_eq_getElem hil]; simp [List.getD_eq_getElem?_getD, List.getElem?_eq_getElem hil]
      rcases h2 with ⟨rfl, h3, h4⟩ | hf
      · have hb : law4_valuesFault_bl2 a (i : Int) = some (.inl ((i + 1 : Nat) : Int)) := by
          unfold law4_valuesFault_bl2;rw [if_pos (by omega), chk_pos (by omega), Int.toNat_natCast, h1, Option.bind_some, if_pos rfl, chk_pos (by unfold I64; omega)]
          rfl
        rw [run_inl hb];refine ih (i + 1) (by omega) ?_;rw [htk];intro v hvm
        rcases List.mem_append.1 hvm with h | h
        · exact hv v h
        · rw [List.mem_singleton] at h; subst h; exact ⟨h1, h3, h4⟩
      · left
        refine ⟨i, f, hil, h1, hf, hv, run_inr (m := some (f.1, (i : Int))) ?_⟩;unfold law4_valuesFault_bl2 ref3_At;rw [if_pos (by omega), chk_pos (by omega), Int.toNat_natCast, h1, Option.bind_some, if_neg hf]
        rfl
  have := key a.length 0 (by omega) (fun v hv => by simp at hv);unfold law4_valuesFault law4_valuesFault_l2;rw [if_neg (by omega)];exact this
/-- The first fault is one. -/
theorem fault_uniq {a : List Pv} {i j : Nat} {f g : Int × Int} (hi : value_Validate (a.getD i default) = some f) (hj : value_Validate (a.getD j default) = some g) (hf : f.1 ≠ 0) (hg : g.1 ≠ 0) (hil : i < a.length) (hjl : j < a.length) (vi : AllV (a.take i)) (vj : AllV (a.take j)) : i = j := by
  have : ∀ {i j : Nat} {f : Int × Int}, value_Validate (a.getD i default) = some f → f.1 ≠ 0 → i < a.length → AllV (a.take j) → ¬ i < j := fun {i j f} h1 h2 h3 h4 h5 => by
    have hm : a.getD i default ∈ a.take j := by
      have e : a.getD i default = (a.take j).getD i default := by
        rw [List.getD_eq_getElem?_getD, List.getD_eq_getElem?_getD, List.getElem?_take, if_pos h5]
      rw [e];exact getD_mem (by rw [List.length_take]; omega)
    have := (h4 _ hm).1;rw [h1] at this
    cases this
    exact h2 rfl
  have h1 := this hi hf hil vj;have h2 := this hj hg hjl vi;omega
theorem form_law {a : List Pv} (hs : ∀ v ∈ a, Sm 1048576 10 v) : law4_ShapesFormMatchesSpec a = some true := by
  unfold law4_ShapesFormMatchesSpec;obtain ⟨x, hx1, hx2⟩ := build_ex hs;rw [hx1, Option.bind_some];have hst := shaped_true
  have fin : ∀ (c i : Int) (f : List UInt8), c ≠ 0 → x = ((0, []), (c, i)) → law4_ShapesFormMatchesSpec_k1 a x c i f = some true := by
    rintro c i f hc rfl;unfold law4_ShapesFormMatchesSpec_k1 shapes_Index_Items;rw [hst, Option.bind_some, if_neg (by decide), if_pos ⟨rfl, rfl⟩, if_neg hc, Option.bind_some, if_pos rfl, if_pos ⟨rfl, rfl⟩]
    rfl
  rcases hx2 with ⟨h1, rfl⟩ | ⟨h1, j, f, hj, hf, hf0, hvj, rfl⟩ | ⟨h1, hv, rfl⟩
  · have hvf : law4_valuesFault a = some (2, -1) := by
      unfold law4_valuesFault ref3_At;rw [if_pos (by omega)]
      rfl
    rw [hvf, Option.bind_some, if_neg (by decide)];exact fin _ _ _ (by decide) rfl
  · rcases values_fault h1 hs with ⟨i, g, gi, hg, hg0, hvi, hvf⟩ | ⟨hv, _⟩
    · have hij := fault_uniq hf hg hf0 hg0 hj gi hvj hvi;subst hij;rw [hf] at hg
      cases hg
      rw [hvf, Option.bind_some, if_neg hf0];exact fin _ _ _ hf0 rfl
    · rw [(hv _ (getD_mem hj)).1] at hf
      cases hf
      exact absurd rfl hf0
  · rcases values_fault h1 hs with ⟨i, g, gi, hg, hg0, hvi, hvf⟩ | ⟨_, hvf⟩
    · rw [(hv _ (getD_mem gi)).1] at hg
      cases hg
      exact absurd rfl hg0
    · rw [hvf, Option.bind_some, if_pos rfl, ref_form h1 hv hs, Option.bind_some];obtain ⟨hG, hms⟩ := gi_build h1 hv hs;have hcount := iform_count (a.length : Int) (kIdx (adds (prB 0 a) []));unfold bres at fin ⊢
      by_cases hbig : 16384 < (iform (a.length : Int) (kIdx (adds (prB 0 a) []))).length
      · rw [if_pos hbig] at fin ⊢;rw [if_pos (by omega)];unfold ref3_At;rw [Option.bind_some];exact fin _ _ _ (by decide) rfl
      · rw [if_neg hbig, if_neg (by omega)];generalize kIdx (adds (prB 0 a) []) = es at *;have hby : shapes_Index_Bytes ((a.length : Int), es) = some (iform (a.length : Int) es) := bytes_eq (by unfold I64; omega) hG.len hG.sz;have hop := open_good hG hG.few (by omega) hcount;unfold law4_ShapesFormMatchesSpec_k1 shapes_Index_Items ref3_SameBytes;dsimp only;rw [hst, Option.bind_some, if_neg (by decide), if_pos ⟨rfl, rfl⟩, if_pos rfl, hby, Option.bind_some, hop, Option.bind_some, Option.bind_some, Option.bind_some];dsimp only;rw [if_pos (by simp), if_pos rfl, Option.bind_some, if_pos rfl, hby, Option.bind_some, Option.bind_some];simp
end Go.Proofs.YtmfiaecglndldaaGreatDoor
end
section
namespace Go.E
open Go Go.RowKit Go.ChangeShapes Go.WideShapes
section
variable {H : Type} {enc : TypeId × Value → H} {P : Program} {w : World} {base : Nat} {spare : Nat → Bool} {held : Bool}
theorem wf_u8 {n : Int} (h : (Lit.int .u8 n).wf = true) : 0 ≤ n ∧ n ≤ 255 := by
  simpa [Lit.wf, IntKind.min, IntKind.max, IntKind.signed, IntKind.bits] using h
theorem wf_i64 {n : Int} (h : (Lit.int .i64 n).wf = true) : -9223372036854775808 ≤ n ∧ n ≤ 9223372036854775807 := by
  simpa [Lit.wf, IntKind.min, IntKind.max, IntKind.signed, IntKind.bits] using h
/-- Arguments read, behind a call that leaves old memory as it was, as they read before. -/
theorem trodAll_stays (hl : laidOutB P = true) {W W' : World} (hb : Below W.heap.size W W') : ∀ {ts : List TypeId} {vs : List Value} {ds : List (DataW H)} {ps : List MemPlace}, (∀ t ∈ ts, P.readableRec t = true ∧ t < P.types.size) →
    DataW.TrodAll enc P W 0 (fun _ => true) true ts vs ds ps → (∀ x ∈ ps, x.block < W.heap.size) → DataW.TrodAll enc P W' 0 (fun b => decide (b < W.heap.size)) true ts vs ds ps
  | [], [], [], ps, _, h, _ => h
  | t :: ts, v :: vs, d :: ds, ps, ht, h, hlt => by
    obtain ⟨p, q, h1, h2, rfl⟩ := h;have ht0 := ht t (.head _);exact ⟨p, q, Below.trod hl ht0.1 ht0.2 h1 hb (fun x hx => hlt x (List.mem_append.2 (.inl hx))), trodAll_stays hl hb (fun t' h' => ht t' (.tail _ h')) h2 (fun x hx => hlt x (List.mem_append.2 (.inr hx))), rfl⟩
  | [], [], _ :: _, _, _, h, _ => by cases h
  | [], _ :: _, _, _, _, h, _ => by cases h
  | _ :: _, [], _, _, _, h, _ => by cases h
  | _ :: _, _ :: _, [], _, _, h, _ => by cases h
end
end Go.E
namespace Go.E
open Go Go.RowKit Go.ChangeShapes Go.WideShapes Go.Deep
/-- What is read at a type lies in memory as plain data, of which something holds. -/
def Reads (P : Program) (t : TypeId) {α : Type} (r : Rp α) (ok : α → Prop) : Prop :=
  ∀ {H : Type} {enc : TypeId × Value → H} {w : World} {base : Nat} {spare : Nat → Bool} {held : Bool} {fuel : Nat} {cs : List Value} {x : DataW H × List MemPlace},
    DataW.trod enc P w base spare held fuel t cs = some x → ∃ a, r.rel (hp w) a cs ∧ ok a
section
variable {P : Program} {t e : TypeId}
theorem reads_i64 (ht : P.underlying t = some (.int .i64)) : Reads P t (.int .i64) (fun n => Go.L.I64 n) := fun h => by
  obtain ⟨n, rfl, _, hw⟩ := DataW.trod_int ht h;exact ⟨n, rfl, wf_i64 hw⟩
theorem reads_byte (ht : P.underlying t = some (.int .u8)) : Reads P t .byte (fun _ => True) := fun h => by
  obtain ⟨n, rfl, _, hw⟩ := DataW.trod_int ht h;have hw' := wf_u8 hw;refine ⟨Go.L.u8 n, ?_, trivial⟩
  show [_] = [_]
  rw [Go.L.u8_toNat, Int.emod_eq_of_lt (by omega) (by omega)]
end
end Go.E
end
section
namespace Go.Proofs.YtmfiaecglndldaaGreatDoor.bulks
open Go Go.E
theorem one_le {H : Type} (d : DataW H) : 1 ≤ Rows.uptoBulk d := by
  cases d with
  | lit l => cases l <;> simp [Rows.uptoBulk]
  | nil => simp [Rows.uptoBulk]
  | ptr d => simp [Rows.uptoBulk]
  | slice elems spare => simp [Rows.uptoBulk]
  | agg parts => simp [Rows.uptoBulk]
  | iface t d => simp [Rows.uptoBulk]
  | map entries => simp [Rows.uptoBulk]
  | held h => simp [Rows.uptoBulk]
theorem length_le {H : Type} (l : List (DataW H)) : l.length ≤ Rows.uptoBulkAll l := by
  induction l with
  | nil => simp [Rows.uptoBulkAll]
  | cons x r ih => have := one_le x; simp only [Rows.uptoBulkAll, List.length_cons]; omega
theorem bound {H : Type} {l : List (DataW H)} (hk : Rows.uptoSmall H l = true) : Rows.uptoBulkAll l ≤ 1048576 := of_decide_eq_true hk
end Go.Proofs.YtmfiaecglndldaaGreatDoor.bulks
namespace Go.Proofs.YtmfiaecglndldaaGreatDoor.bulks
open Go Go.E Go.RowKit Go.ChangeShapes Go.WideShapes Go.Deep Go.L
theorem all_mem {H : Type} {l : List (DataW H)} {x : DataW H} (h : x ∈ l) : Rows.uptoBulk x ≤ Rows.uptoBulkAll l := by
  induction l with
  | nil => cases h
  | cons y l ih =>
    simp only [Rows.uptoBulkAll]
    rcases List.mem_cons.1 h with rfl | h
    · omega
    · have := ih h; omega
/-- What is read at a type with so much bulk lies in memory as plain data that is small. -/
def RB (P : Program) (t : TypeId) {α : Type} (r : Rp α) (ok : α → Prop) (k : Nat) : Prop :=
  ∀ {H : Type} {enc : TypeId × Value → H} {w : World} {base : Nat} {spare : Nat → Bool} {held : Bool} {fuel : Nat} {cs : List Value} {x : DataW H × List MemPlace},
    Rows.uptoBulk x.1 ≤ k → DataW.trod enc P w base spare held fuel t cs = some x → ∃ a, r.rel (hp w) a cs ∧ ok a
section
variable {P : Program} {t e : TypeId} {k : Nat}
theorem RB.use {α : Type} {r : Rp α} {ok : α → Prop} (h : RB P t r ok k) {H : Type} {enc : TypeId × Value → H} {w : World} {base : Nat} {spare : Nat → Bool} {held : Bool} {fuel : Nat} {cs : List Value} {d : DataW H} {p : List MemPlace}
    (hk : Rows.uptoBulk d ≤ k) (hx : DataW.trod enc P w base spare held fuel t cs = some (d, p)) : ∃ a, r.rel (hp w) a cs ∧ ok a := @h H enc w base spare held fuel cs (d, p) hk hx
theorem rb_of {α : Type} {r : Rp α} {ok : α → Prop} (h : Reads P t r ok) : RB P t r ok k := fun _ hx => h hx
theorem rb_str (ht : P.underlying t = some .string) : RB P t .st (fun l => l.length ≤ k) k := fun hk h => by
  obtain ⟨s, rfl, rfl, hs⟩ := DataW.trod_string ht h;simp only [Rows.uptoBulk] at hk;exact ⟨s.data.toList, by show [_] = [_]; simp, by omega⟩
theorem rb_slice {α : Type} {r : Rp α} {ok : α → Prop} (ht : P.underlying t = some (.slice e)) (hc : P.cellsOf e = r.sz) (hsz : 0 < r.sz) (hr : RB P e r ok k) : RB P t (.vec r) (fun l => l.length ≤ k ∧ ∀ x ∈ l, ok x) k := fun {H enc w base spare held fuel cs x} hk h => by
  rcases open_slice ht h with ⟨rfl, _⟩ | ⟨a, len, cap, m, n, D, Pl, rfl, hb, hl, hm, rfl, rfl, hel⟩
  · exact ⟨[], ⟨_, rfl, Vec.nil _ _⟩, by simp, by simp⟩
  · have hm2 : len ≤ (if spare a.block then cap else len) := by split <;> omega
    simp only [Rows.uptoBulk] at hk;have hlk := length_le ((List.range len).map D);rw [List.length_map, List.length_range] at hlk
    have hx : ∀ i, i < len → ∃ y, ok y ∧ ∃ c, r.rel (hp w) y c ∧ w.cells? base (a.add (i * r.sz)) r.sz = some c := fun i hi => by
      obtain ⟨cs', h1, h2⟩ := hel i (by omega);have hDi := all_mem (List.mem_map_of_mem (f := D) (List.mem_range.2 hi));obtain ⟨y, h3, h4⟩ := hr (x := (D i, Pl i)) (by show Rows.uptoBulk (D i) ≤ k; omega) h2;rw [hc] at h1;exact ⟨y, h4, cs', h3, h1⟩
    have key : ∀ k, k ≤ len → ∃ l : List α, l.length = k ∧ (∀ x ∈ l, ok x) ∧ ∀ i y, l[i]? = some y → ∃ c, r.rel (hp w) y c ∧ w.cells? base (a.add (i * r.sz)) r.sz = some c := by
      intro k
      induction k with
      | zero => intro _; exact ⟨[], rfl, by simp, by simp⟩
      | succ k ih =>
        intro hk;obtain ⟨l, h1, h2, h3⟩ := ih (by omega);obtain ⟨y, h4, c, h5, h6⟩ := hx k (by omega);refine ⟨l ++ [y], by simp [h1], fun z hz => ?_, fun i z hz => ?_⟩
        · rcases List.mem_append.1 hz with hz | hz
          · exact h2 z hz
          · simp at hz; subst hz; exact h4
        · rcases Nat.lt_or_ge i l.length with hi | hi
          · rw [List.getElem?_append_left hi] at hz; exact h3 i z hz
          · rw [List.getElem?_append_right hi] at hz
            have hi0 : i - l.length = 0 := by
              have := (List.getElem?_eq_some_iff.1 hz).1;simp at this; omega
            rw [hi0] at hz;simp at hz;subst hz;obtain rfl : i = k := by omega
            exact ⟨c, h5, h6⟩
    obtain ⟨l, h1, h2, h3⟩ := key len (Nat.le_refl _);refine ⟨l, ⟨_, rfl, some a, cap, by rw [h1], by omega, hm, (fun h => by cases h), fun A hA hne => ?_⟩, by omega, h2⟩
    cases hA
    have cell : ∀ i y, l[i]? = some y → ∃ c, r.rel (hp w) y c ∧ ∀ j u, c[j]? = some u → w.cell? ((a.add (i * r.sz)).add j) = some u := fun i y hy => by
      obtain ⟨c, h4, h5⟩ := h3 i y hy;obtain ⟨_, hlen, hcell⟩ := World.cells?_some h5;exact ⟨c, h4, fun j u hu => by rw [← hu]; exact hcell j (by rw [← hlen]; exact (List.getElem?_eq_some_iff.1 hu).1)⟩
    have hspot : a.spot = none := by
      obtain ⟨y, l', rfl⟩ := List.exists_cons_of_ne_nil hne;obtain ⟨c, h4, h5⟩ := cell 0 y rfl;have hc0 : 0 < c.length := by rw [r.len h4]; omega
      have := World.cell?_spot (h5 0 _ (List.getElem?_eq_getElem hc0))
      simpa [Addr.add] using this
    refine ⟨hspot, fun i y hy => ?_⟩;obtain ⟨c, h4, h5⟩ := cell i y hy;refine ⟨c, h4, fun j u hu => ?_⟩;rw [← addr_add_add hspot];exact h5 j u hu
/-- A value of package api. -/
theorem rb_tree {f0 f1 f2 f3 f4 : Field} {tb ts tp te : TypeId} (ht : P.underlying t = some (.struct #[f0, f1, f2, f3, f4])) (hc : P.cellsOf t = 5)
    (o0 : f0.offset = 0) (o1 : f1.offset = 1) (o2 : f2.offset = 2) (o3 : f3.offset = 3) (o4 : f4.offset = 4)
    (u0 : P.underlying f0.type = some (.int .i64)) (u1 : P.underlying f1.type = some (.int .i64)) (e2 : f2.type = tb) (e3 : f3.type = ts) (e4 : f4.type = tp)
    (c0 : P.cellsOf f0.type = 1) (c1 : P.cellsOf f1.type = 1) (c2 : P.cellsOf tb = 1) (c3 : P.cellsOf ts = 1) (c4 : P.cellsOf tp = 1)
    (ub : P.underlying tb = some (.slice te)) (ue : P.underlying te = some (.int .u8)) (ce : P.cellsOf te = 1) {tg : TypeId} (us : P.underlying ts = some (.slice tg)) (ug : P.underlying tg = some .string) (cg : P.cellsOf tg = 1) (up : P.underlying tp = some (.slice t)) (B : Nat) (k : Nat) (hB : k ≤ B) : RB P t .tree (fun v => ∀ d, Sm B d v) k := by
  induction k with
  | zero =>
    intro H enc w base spare held fuel cs x hk h;have := one_le x.1;omega
  | succ k ih0 =>
    intro H enc w base spare held fuel cs x hk h;subst e2; subst e3; subst e4;obtain ⟨xs, n, rfl, rfl, hl, hlen, hfs⟩ := DataW.trod_struct ht h;have ih : RB P t .tree (fun v => ∀ d, Sm B d v) k := @ih0 (by omega);simp only [Rows.uptoBulk] at hk
    have hb : ∀ y ∈ xs, Rows.uptoBulk y.1 ≤ k := fun y hy => by
      have := all_mem (List.mem_map_of_mem (f := fun z : DataW H × List MemPlace => z.1) hy);omega
    have hx5 : xs.length = 5 := by simpa using hlen
    have get : ∀ (i : Nat) (f : Field), (#[f0, f1, f2, f3, f4] : Array Field)[i]? = some f → i < 5 → P.cellsOf f.type = 1 → f.offset = i → ∃ y : DataW H × List MemPlace, Rows.uptoBulk y.1 ≤ k ∧ DataW.trod enc P w base spare held n f.type ((cs.drop i).take 1) = some y := fun i f hf hi hcf hof => by
      have h1 := hfs i f hf;rw [hcf, hof, List.getElem?_eq_getElem (by omega : i < xs.length)] at h1;exact ⟨_, hb _ (List.getElem_mem _), h1⟩
    obtain ⟨y0, b0, t0⟩ := get 0 f0 rfl (by omega) c0 o0;obtain ⟨y1, b1, t1⟩ := get 1 f1 rfl (by omega) c1 o1;obtain ⟨y2, b2, t2⟩ := get 2 f2 rfl (by omega) c2 o2;obtain ⟨y3, b3, t3⟩ := get 3 f3 rfl (by omega) c3 o3;obtain ⟨y4, b4, t4⟩ := get 4 f4 rfl (by omega) c4 o4;obtain ⟨a0, r0, q0⟩ := rb_of (k := k) (reads_i64 u0) b0 t0;obtain ⟨a1, r1, q1⟩ := rb_of (k := k) (reads_i64 u1) b1 t1;obtain ⟨a2, r2, q2, _⟩ := rb_slice ub ce (by decide) (rb_of (k := k) (reads_byte ue)) b2 t2;obtain ⟨a3, r3, q3, q3'⟩ := rb_slice us cg (by decide) (rb_str (k := k) ug) b3 t3;obtain ⟨a4, r4, q4, q4'⟩ := rb_slice up (r := .tree) hc (by decide) ih b4 t4;refine ⟨.mk a0 a1 a2 a3 a4, Rp.tree_close ?_, fun d => ?_⟩
    · have hcs : cs = (cs.drop 0).take 1 ++ ((cs.drop 1).take 1 ++ ((cs.drop 2).take 1 ++ ((cs.drop 3).take 1 ++ (cs.drop 4).take 1))) := by
        have h5 : cs.length = 5 := by rw [hl, hc]
        match cs, h5 with
        | [_, _, _, _, _], _ => rfl
      exact ⟨_, _, hcs, r0, _, _, rfl, r1, _, _, rfl, r2, _, _, rfl, r3, r4⟩
    · cases d with
      | zero => exact trivial
      | succ d => exact ⟨by show a2.length ≤ B; omega, by show a3.length ≤ B; omega, by show a4.length ≤ B; omega, fun x hx => by have := q3' x hx; omega, q0, q1, fun p hp => q4' p hp d⟩
end
end Go.Proofs.YtmfiaecglndldaaGreatDoor.bulks
end
section
namespace Go.Proofs.YtmfiaecglndldaaGreatDoor
open Go Go.E Go.Lib
def laidU : List (String × DataW Unit) := [("unicode/utf8.acceptRanges", Rows.laid_unicode_utf8_acceptRanges), ("unicode/utf8.first", Rows.laid_unicode_utf8_first)]
noncomputable def laidWorld (os : Os) : World :=
  let w0 := World.holding Tryz.prog os ⟨#[], #[], []⟩
  let put (h : Array Obj) (g : Nat) (cs : Array Value) : Array Obj := h.modify g fun
    | .cells _ t frozen => .cells cs t frozen
    | o => o
  let h1 := put w0.heap 1 (Lib.firstTab.map fun z => Value.int .u8 z).toArray
  let h2 := put h1 2 ((List.range 16).flatMap fun i => [Value.int .u8 (Lib.accLo i), Value.int .u8 (Lib.accHi i)]).toArray
  { w0 with heap := h2 }
theorem door_met (os : Os) (args : Array Value) : laidMetH Tryz.prog laidU ((laidWorld os).forCall (fun _ _ => 0) ⟨#[], args, []⟩).memory :=
  laidMetH_of_parts3 (fuel := 8) (laidMet_of_run' 8 (by kernel_rfl) (by kernel_rfl)) (by kernel_rfl) (by kernel_rfl)
end Go.Proofs.YtmfiaecglndldaaGreatDoor
end
