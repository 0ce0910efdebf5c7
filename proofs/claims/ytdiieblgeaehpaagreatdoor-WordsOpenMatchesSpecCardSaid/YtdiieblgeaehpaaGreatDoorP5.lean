/- Generated walks: words of texts. -/
import Derived.Test.YtdiieblgeaehpaaGreatDoorColl
import Derived.KernelRfl
namespace Go.Proofs.YtdiieblgeaehpaaGreatDoor
open Go Go.E Go.RowKit
set_option maxHeartbeats 1000000
set_option maxRecDepth 10000
open _root_.Go.Proofs.Tryz
noncomputable def words_Split (a0 : List UInt8) : Option ((List ((List UInt8) × Int × Int)) × (Int × Int)) :=
 if (2048 : Int) < (a0.length : Int) then Option.bind (words_fault (3 : Int) (-1 : Int)) (fun x4 => some ([], (x4.1, x4.2))) else Option.bind (collectW a0) (fun x9 => some (x9, ((0 : Int), (0 : Int))))

theorem words_Split_ok (w : World) (H : PH) (hH : Le H (hp w)) (hU : Utab H) {a0 : List UInt8} {v0_0 : Value} (h0_0 : Vec .byte H v0_0 (a0)) {r : (List ((List UInt8) × Int × Int)) × (Int × Int)} (h : words_Split a0 = some r) :
  Ok Tryz.prog 24 [v0_0] w (fun v w' => Ext w w' ∧ ∃ u0, v = .tuple #[u0, .agg #[.int .i64 r.2.1, .int .i64 r.2.2]] ∧ OwnH 75 (.pair .st (.pair (.int .i64) (.int .i64))) H w w' u0 (r.1)) := by
 refine Ok_enter (n := 12) [(0, v0_0)] func24 rfl rfl rfl rfl rfl ?_
 have hL := Lcl.start w
 refine W_p 1 rfl ?_
 refine S_alloc zr27 rfl rfl hL ?_
 intro w1 b1 hL1 hle1 _
 refine S_seqnil ?_
 refine W_seq ?_
 refine W_p 1 rfl ?_
 refine S_v (r_len rfl underlying22 h0_0) rfl ?_
 refine S_pz 1 rfl ?_
 refine W_if rfl (fun hc2 => ?_) (fun hc2 => ?_)
 ·replace h := Go.L.ite_p hc2 h
  refine W_seqr ?_
  obtain ⟨x4, hb4, h⟩ := Go.L.bind_some h
  refine S_callL rfl rfl hL1 (words_fault_ok _ _ (gz_le hH hL1) hb4) ?_
  rintro _ w5 rfl hx5 hL5 hle5
  refine S_pu 1 rfl ?_
  refine S_storeBN 0 rfl rfl rfl zr27 hL5 rfl rfl (onc rfl (onc rfl on0)) ?_
  intro w6 hL6 hle6
  refine S_seqnil ?_
  refine W_ret ?_
  refine At_seq_ret ?_
  obtain rfl := Option.some.inj h
  refine At_got2 rfl (.tmp rfl) (.cell rfl underlying27 rfl zr27 (box_ptr (i := 0) hL6 rfl)) ?_
  exact ⟨hL6.ext, _, rfl, OwnH.nil⟩
 ·replace h := Go.L.ite_n hc2 h
  refine W_skip ?_
  refine At_seq ?_
  refine W_p 1 rfl ?_
  refine S_callL rfl rfl hL1 (split_ok _ _ (gz_le hH hL1) (h0_0.mono (gz_left hH))) ?_
  intro u8 w8 hi8 hx8 hL8 hle8
  have hv8 := hi8.mono (gz_nw hH hL1 hx8)
  obtain ⟨x9, hb9, h⟩ := Go.L.bind_some h
  refine S_callL rfl rfl hL8 (collect_ok _ _ (gz_le hH hL8) (hU.mono (gz_left hH)) hv8 hb9) ?_
  rintro u10_0 w10 ⟨_, rfl, hR10_0⟩ hx10 hL10 hle10
  obtain ⟨xs10, hL10, hle10, he10⟩ := hR10_0.take hH hL8 hx10
  replace hv8 := hv8.mono (gz_mono hH hle10)
  refine S_v (r_build rfl (fun _ => bld27_z _)) rfl ?_
  refine S_pu 1 rfl ?_
  refine S_storeBN 1 rfl rfl rfl zr27 hL10 rfl rfl (onc rfl (onc rfl on0)) ?_
  intro w11 hL11 hle11
  replace hv8 := hv8.mono (gz_mono hH hle11)
  replace he10 := he10.mono (gz_mono hH hle11)
  refine S_seqnil ?_
  refine W_ret ?_
  obtain rfl := Option.some.inj h
  refine At_got2 rfl (.tmp rfl) (.cell rfl underlying27 rfl zr27 (box_ptr (i := 1) hL11 rfl)) ?_
  exact ⟨hL11.ext, _, rfl, (hL11.ownH hH (i := 0) rfl he10)⟩

noncomputable def words_isWord (a0 : List UInt8) : Option (Bool) :=
 Go.L.chk (a0.length ≤ 9223372036854775807) (Option.bind (collectW a0) (fun x4 => if (x4.length : Int) = (1 : Int) then Go.L.chk (0 ≤ (0 : Int) ∧ (0 : Int) < (x4.length : Int)) (some (decide ((x4.getD ((0 : Int).toNat) default).1 = a0))) else some (false)))

theorem words_isWord_ok (w : World) (H : PH) (hH : Le H (hp w)) (hU : Utab H) {a0 : List UInt8}   {r : Bool} (h : words_isWord a0 = some r) :
  Ok Tryz.prog 47 [.string ⟨(a0).toArray⟩] w (fun v w' => Ext w w' ∧ v = .bool r) := by
 refine Ok_enter (n := 19) [(0, .string ⟨(a0).toArray⟩)] func47 rfl rfl rfl rfl rfl ?_
 have hL := Lcl.start w
 refine W_pz 1 rfl ?_
 refine W_p 1 rfl ?_
 obtain ⟨hk2, h⟩ := Go.L.chk_some h
 refine S_s2b (H := H) rfl underlying9 underlying22 underlying5 rfl hL hk2 ?_
 intro v1 w1 hx1 hL1 hle1 hv1
 refine S_callL rfl rfl hL1 (split_ok _ _ (gz_le hH hL1) hv1) ?_
 intro u3 w3 hi3 hx3 hL3 hle3
 have hv3 := hi3.mono (gz_nw hH hL1 hx3)
 replace hv1 := hv1.mono (gz_mono hH hle3)
 obtain ⟨x4, hb4, h⟩ := Go.L.bind_some h
 refine S_callL rfl rfl hL3 (collect_ok _ _ (gz_le hH hL3) (hU.mono (gz_left hH)) hv3 hb4) ?_
 rintro u5_0 w5 ⟨_, rfl, hR5_0⟩ hx5 hL5 hle5
 have hv5_0 := hR5_0.vecG hH hL3 hx5
 replace hv1 := hv1.mono (gz_mono hH hle5)
 replace hv3 := hv3.mono (gz_mono hH hle5)
 refine S_pz 1 rfl ?_
 refine W_p 1 rfl ?_
 refine S_v (r_len rfl underlying67 hv5_0) rfl ?_
 refine S_pu 2 rfl ?_
 refine S_split (s := 11) rfl (fun hg6 => ?_) (fun hg6 => ?_)
 ·replace h := Go.L.ite_p (of_decide_eq_true hg6) h
  refine S_guarded rfl rfl hg6 ?_
  refine S_v (RunsAt_pu rfl) rfl ?_
  refine S_guarded rfl rfl hg6 ?_
  obtain ⟨hk9, h⟩ := Go.L.chk_some h
  refine S_index rfl rfl underlying67 zr75 hv5_0 ((0 : Int).toNat) (Int.toNat_of_nonneg hk9.1).symm (idx_lt hk9) rfl ?_
  rintro p8 _ ⟨_, _, rfl, rfl, ⟨_, _, rfl, rfl, rfl⟩⟩ hp8
  refine S_guarded rfl rfl hg6 ?_
  refine S_v (r_field rfl underlying75 rfl zr9 (by decide)) rfl ?_
  have hp10 := hp8.add 0
  refine S_guarded rfl rfl hg6 ?_
  refine S_v (r_load1 rfl underlying9 rfl hp10 (gz_le hH hL5)) rfl ?_
  refine S_guarded rfl rfl hg6 ?_
  refine S_v (RunsAt_pu rfl) rfl ?_
  refine S_guarded rfl rfl hg6 ?_
  refine S_v (r_seq rfl rfl) rfl ?_
  refine S_v (r_pickT rfl hg6 rfl) rfl ?_
  refine S_pz 1 rfl ?_
  refine W_ret ?_
  obtain rfl := Option.some.inj h
  refine At_body rfl rfl ?_
  exact ⟨hL5.ext, rfl⟩
 ·replace h := Go.L.ite_n (of_decide_eq_false hg6) h
  iterate 6 refine S_unwanted rfl rfl hg6 rfl ?_
  refine S_v (r_pickF rfl hg6 rfl) rfl ?_
  refine S_pz 1 rfl ?_
  refine W_ret ?_
  obtain rfl := Option.some.inj h
  refine At_body rfl rfl ?_
  exact ⟨hL5.ext, rfl⟩

noncomputable def words_Check (a0 : List UInt8) : Option ((Int × Int)) :=
 if (64 : Int) < (a0.length : Int) then Option.bind (words_fault (3 : Int) (-1 : Int)) (fun x4 => some ((x4.1, x4.2))) else Option.bind (words_isWord a0) (fun x8 => if !x8 then Option.bind (words_fault (6 : Int) (-1 : Int)) (fun x12 => some ((x12.1, x12.2))) else some (((0 : Int), (0 : Int))))

theorem words_Check_ok (w : World) (H : PH) (hH : Le H (hp w)) (hU : Utab H) {a0 : List UInt8}   {r : (Int × Int)} (h : words_Check a0 = some r) :
  Ok Tryz.prog 29 [.string ⟨(a0).toArray⟩] w (fun v w' => Ext w w' ∧ v = .agg #[.int .i64 r.1, .int .i64 r.2]) := by
 refine Ok_enter (n := 12) [(0, .string ⟨(a0).toArray⟩)] func29 rfl rfl rfl rfl rfl ?_
 have hL := Lcl.start w
 refine W_seqr ?_
 refine S_alloc zr27 rfl rfl hL ?_
 intro w1 b1 hL1 hle1 _
 refine S_seqnil ?_
 refine W_seq ?_
 refine W_p 1 rfl ?_
 refine S_v (r_lenS rfl underlying9) rfl ?_
 refine S_pz 1 rfl ?_
 refine W_if rfl (fun hc2 => ?_) (fun hc2 => ?_)
 ·replace h := Go.L.ite_p hc2 h
  refine W_seqr ?_
  obtain ⟨x4, hb4, h⟩ := Go.L.bind_some h
  refine S_callL rfl rfl hL1 (words_fault_ok _ _ (gz_le hH hL1) hb4) ?_
  rintro _ w5 rfl hx5 hL5 hle5
  refine S_storeBN 0 rfl rfl rfl zr27 hL5 rfl rfl (onc rfl (onc rfl on0)) ?_
  intro w6 hL6 hle6
  refine S_seqnil ?_
  refine W_ret ?_
  refine At_seq_ret ?_
  obtain rfl := Option.some.inj h
  refine At_got1 rfl (.cell rfl underlying27 rfl zr27 (box_ptr (i := 0) hL6 rfl)) ?_
  exact ⟨hL6.ext, rfl⟩
 ·replace h := Go.L.ite_n hc2 h
  refine W_skip ?_
  refine At_seq ?_
  refine W_seq ?_
  refine W_p 1 rfl ?_
  obtain ⟨x8, hb8, h⟩ := Go.L.bind_some h
  refine S_callL rfl rfl hL1 (words_isWord_ok _ _ (gz_le hH hL1) (hU.mono (gz_left hH)) hb8) ?_
  rintro _ w9 rfl hx9 hL9 hle9
  refine S_pz 1 rfl ?_
  refine W_cond rfl (fun hc10 => ?_) (fun hc10 => ?_)
  ·replace h := Go.L.ite_t hc10 h
   refine W_seqr ?_
   obtain ⟨x12, hb12, h⟩ := Go.L.bind_some h
   refine S_callL rfl rfl hL9 (words_fault_ok _ _ (gz_le hH hL9) hb12) ?_
   rintro _ w13 rfl hx13 hL13 hle13
   refine S_storeBN 0 rfl rfl rfl zr27 hL13 rfl rfl (onc rfl (onc rfl on0)) ?_
   intro w14 hL14 hle14
   refine S_seqnil ?_
   refine W_ret ?_
   refine At_seq_ret ?_
   obtain rfl := Option.some.inj h
   refine At_got1 rfl (.cell rfl underlying27 rfl zr27 (box_ptr (i := 0) hL14 rfl)) ?_
   exact ⟨hL14.ext, rfl⟩
  ·replace h := Go.L.ite_f hc10 h
   refine W_skip ?_
   refine At_seq ?_
   refine W_seqr ?_
   refine S_v (r_build rfl (fun _ => bld27_z _)) rfl ?_
   refine S_storeBN 0 rfl rfl rfl zr27 hL9 rfl rfl (onc rfl (onc rfl on0)) ?_
   intro w16 hL16 hle16
   refine S_seqnil ?_
   refine W_ret ?_
   obtain rfl := Option.some.inj h
   refine At_got1 rfl (.cell rfl underlying27 rfl zr27 (box_ptr (i := 0) hL16 rfl)) ?_
   exact ⟨hL16.ext, rfl⟩
end Go.Proofs.YtdiieblgeaehpaaGreatDoor
