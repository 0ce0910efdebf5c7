/- Generated walk: a law of words. -/
import Derived.Test.YtdiieblgeaehpaaGreatDoorP8Z
import Derived.KernelRfl
namespace Go.Proofs.YtdiieblgeaehpaaGreatDoor
open Go Go.E Go.RowKit
set_option maxHeartbeats 1000000
set_option maxRecDepth 10000
open _root_.Go.Proofs.Tryz
noncomputable def law4_WordsOpenMatchesSpec_k3 (s9_273 : Int) (x28 : Int × (List ((List UInt8) × (List (Int × Int)))) × Bool) (x46 : (List (List UInt8))) (c301 : Int) (_c302 : Int) (s10_303 : List (Int × Int)) : Option ((Int) ⊕ (Bool)) :=
 Go.L.chk (0 ≤ s9_273 ∧ s9_273 < (x46.length : Int)) (Go.L.chk (0 ≤ s9_273 ∧ s9_273 < (x28.2.1.length : Int)) (if x46.getD s9_273.toNat default = (x28.2.1.getD s9_273.toNat default).1 then Go.L.chk (0 ≤ s9_273 ∧ s9_273 < (x28.2.1.length : Int)) (if (((x28.2.1.getD s9_273.toNat default).1).length : Int) ≤ (64 : Int) then if c301 = (0 : Int) then Go.L.chk (0 ≤ s9_273 ∧ s9_273 < (x28.2.1.length : Int)) (Option.bind (ref4_SameHits s10_303 ((x28.2.1.getD s9_273.toNat default).2)) (fun x353 => if !x353 then Option.map Sum.inr (some (false)) else Go.L.chk (Go.L.I64 (s9_273 + (1 : Int))) (some (Sum.inl (s9_273 + (1 : Int)))))) else Option.map Sum.inr (some (false)) else Go.L.chk (Go.L.I64 (s9_273 + (1 : Int))) (some (Sum.inl (s9_273 + (1 : Int))))) else Option.map Sum.inr (some (false))))
noncomputable def law4_WordsOpenMatchesSpec_k1 : Option (Bool) :=
 some (true)
noncomputable def law4_WordsOpenMatchesSpec_bl2 (x1 : (Int × (List ((List UInt8) × (List (Int × Int))))) × (Int × Int)) (x28 : Int × (List ((List UInt8) × (List (Int × Int)))) × Bool) (x46 : (List (List UInt8))) : Int → Option ((Int) ⊕ (Bool)) := fun s9_273 =>
 if s9_273 < (x28.2.1.length : Int) then Go.L.chk (0 ≤ s9_273 ∧ s9_273 < (x28.2.1.length : Int)) (Option.bind (words_Index_Find (x1.1.1, x1.1.2) ((x28.2.1.getD s9_273.toNat default).1)) (fun x311 => (law4_WordsOpenMatchesSpec_k3 s9_273 x28 x46) x311.2.1 x311.2.2 x311.1)) else Option.map Sum.inr (law4_WordsOpenMatchesSpec_k1)
noncomputable def law4_WordsOpenMatchesSpec_l2 (x1 : (Int × (List ((List UInt8) × (List (Int × Int))))) × (Int × Int)) (x28 : Int × (List ((List UInt8) × (List (Int × Int)))) × Bool) (x46 : (List (List UInt8))) (s : Int) : Option (Bool) := Go.L.run (law4_WordsOpenMatchesSpec_bl2 x1 x28 x46) s
noncomputable def law4_WordsOpenMatchesSpec (a0 : List UInt8) : Option (Bool) :=
 Option.bind (words_Open a0) (fun x1 => Option.bind (law4_speaks) (fun x7 => if !x7 then some (false) else (if (16384 : Int) < (a0.length : Int) then Option.bind (ref3_At (3 : Int) (-1 : Int)) (fun x16 => if x1.2.1 = x16.1 ∧ x1.2.2 = x16.2 then Option.bind (words_Index_Items (x1.1.1, x1.1.2)) (fun x20 => some (decide (x20 = (0 : Int)))) else some (false)) else Option.bind (ref4_WordsIndex a0) (fun x28 => if !x28.2.2 then Option.bind (ref3_At (16 : Int) (-1 : Int)) (fun x34 => if x1.2.1 = x34.1 ∧ x1.2.2 = x34.2 then Option.bind (words_Index_Items (x1.1.1, x1.1.2)) (fun x38 => some (decide (x38 = (0 : Int)))) else some (false)) else Option.bind (words_Index_Words (x1.1.1, x1.1.2)) (fun x46 => if x1.2.1 = (0 : Int) then Option.bind (words_Index_Items (x1.1.1, x1.1.2)) (fun x52 => if x52 = x28.1 then if (x46.length : Int) = (x28.2.1.length : Int) then Option.bind (words_Index_Bytes (x1.1.1, x1.1.2)) (fun x60 => Option.bind (ref3_SameBytes x60 a0) (fun x62 => if !x62 then some (false) else (law4_WordsOpenMatchesSpec_l2 x1 x28 x46) (0 : Int))) else some (false) else some (false)) else some (false))))))

theorem law4_WordsOpenMatchesSpec_ok (w : World) (H : PH) (hH : Le H (hp w)) (hU : Utab H) {a0 : List UInt8} {v0_0 : Value} (h0_0 : Vec .byte H v0_0 (a0)) {r : Bool} (h : law4_WordsOpenMatchesSpec a0 = some r) :
  Ok Tryz.prog 3 [v0_0] w (fun v w' => Ext w w' ∧ v = .bool r) := by
 refine Ok_enter (n := 121) [(0, v0_0)] func3 rfl rfl rfl rfl rfl ?_
 have hL := Lcl.start w
 refine W_pz 1 rfl ?_
 refine W_p 1 rfl ?_
 obtain ⟨x1, hb1, h⟩ := Go.L.bind_some h
 refine S_callL rfl rfl hL (words_Open_ok _ _ (gz_le hH hL) (hU.mono (gz_left hH)) (h0_0.mono (gz_left hH)) hb1) ?_
 rintro _ w2 ⟨u2_0, rfl, hR2_0⟩ hx2 hL2 hle2
 have hv2_0 := hR2_0.mono (gz_nw hH hL hx2)
 refine S_pu 3 rfl ?_
 refine S_alloc zr25 rfl rfl hL2 ?_
 intro w3 b3 hL3 hle3 _
 replace hv2_0 := hv2_0.mono (gz_mono hH hle3)
 refine S_alloc zr27 rfl rfl hL3 ?_
 intro w4 b4 hL4 hle4 _
 replace hv2_0 := hv2_0.mono (gz_mono hH hle4)
 refine S_storeBN 1 rfl rfl rfl zr25 hL4 rfl rfl (onc rfl (onc hv2_0.one on0)) ?_
 intro w5 hL5 hle5
 replace hv2_0 := hv2_0.mono (gz_mono hH hle5)
 refine S_storeBN 0 rfl rfl rfl zr27 hL5 rfl rfl (onc rfl (onc rfl on0)) ?_
 intro w6 hL6 hle6
 replace hv2_0 := hv2_0.mono (gz_mono hH hle6)
 refine S_seqnil ?_
 refine W_seq ?_
 refine W_seqr ?_
 obtain ⟨x7, hb7, h⟩ := Go.L.bind_some h
 refine S_callL rfl rfl hL6 (law4_speaks_ok _ _ (gz_le hH hL6) (hU.mono (gz_left hH)) hb7) ?_
 rintro _ w8 rfl hx8 hL8 hle8
 replace hv2_0 := hv2_0.mono (gz_mono hH hle8)
 refine S_pz 1 rfl ?_
 refine W_cond rfl (fun hc9 => ?_) (fun hc9 => ?_)
 ·replace h := Go.L.ite_t hc9 h
  refine W_pz 1 rfl ?_
  refine W_ret ?_
  refine At_seq_ret ?_
  obtain rfl := Option.some.inj h
  refine At_body rfl rfl ?_
  exact ⟨hL8.ext, rfl⟩
 ·replace h := Go.L.ite_f hc9 h
  refine W_skip ?_
  refine At_seq ?_
  refine W_seq ?_
  refine W_p 1 rfl ?_
  refine S_v (r_len rfl underlying22 h0_0) rfl ?_
  refine S_pz 1 rfl ?_
  refine W_if rfl (fun hc12 => ?_) (fun hc12 => ?_)
  ·replace h := Go.L.ite_p hc12 h
   refine W_seqd (.q 0 (.q 1 (.q 2 (.q 3 (.q 4 (.q 5 (.q 6 (.q 7 (.q 8 (.tail 9)))))))))) mixed (by kernel_rfl) (fun w14 hx14 => ?_)
   have hL15 := hL8.call hx14
   have hle15 := fz_ext hL8 hx14
   replace hv2_0 := hv2_0.mono (gz_mono hH hle15)
   refine D_v (r_loadBN 0 rfl underlying27 rfl zr27 hL15 rfl) rfl rfl ?_
   obtain ⟨x16, hb16, h⟩ := Go.L.bind_some h
   refine D_call rfl rfl rfl (fun w17 hx17 => ref3_At_ok _ _ (Le.refl _) hb16) ?_
   refine D_v (r_eqA rfl rfl eqg27 (eq27 _ _ _ _ )) rfl rfl ?_
   refine D_pu 1 rfl ?_
   refine D_split (s := 25) rfl (fun hg18 => ?_) (fun hg18 => ?_)
   ·replace h := Go.L.ite_p (of_decide_eq_true hg18) h
    refine D_vg (r_loadBN 1 rfl underlying25 rfl zr25 hL15 rfl) rfl rfl rfl rfl hg18 rfl ?_
    obtain ⟨x20, hb20, h⟩ := Go.L.bind_some h
    have hok21 := (fun (w21 : World) (hx21 : Ext _ w21) => words_Index_Items_ok w21 _ (Le.refl _) ((hv2_0.mono (gz_le hH hL15)).mono hx21.le) hb20)
    refine D_callg rfl rfl rfl rfl hg18 rfl rfl hok21 ?_
    refine D_vg (RunsAt_pu rfl) rfl rfl rfl rfl hg18 rfl ?_
    refine D_v (r_pickT rfl hg18 rfl) rfl rfl ?_
    refine D_pu 1 rfl ?_
    refine D_tail (fun w22 hx22 => ?_)
    have hL23 := hL15.call hx22
    have hle23 := fz_ext hL15 hx22
    replace hv2_0 := hv2_0.mono (gz_mono hH hle23)
    refine S_seqnil ?_
    refine W_ret ?_
    refine At_seq_ret ?_
    obtain rfl := Option.some.inj h
    refine At_body rfl rfl ?_
    exact ⟨hL23.ext, rfl⟩
   ·replace h := Go.L.ite_n (of_decide_eq_false hg18) h
    iterate 3 refine D_no rfl rfl rfl rfl hg18 rfl ?_
    refine D_v (r_pickF rfl hg18 rfl) rfl rfl ?_
    refine D_pu 1 rfl ?_
    refine D_tail (fun w25 hx25 => ?_)
    have hL26 := hL15.call hx25
    have hle26 := fz_ext hL15 hx25
    replace hv2_0 := hv2_0.mono (gz_mono hH hle26)
    refine S_seqnil ?_
    refine W_ret ?_
    refine At_seq_ret ?_
    obtain rfl := Option.some.inj h
    refine At_body rfl rfl ?_
    exact ⟨hL26.ext, rfl⟩
  ·replace h := Go.L.ite_n hc12 h
   refine W_skip ?_
   refine At_seq ?_
   refine W_p 1 rfl ?_
   obtain ⟨x28, hb28, h⟩ := Go.L.bind_some h
   refine S_callL rfl rfl hL8 (ref4_WordsIndex_ok _ _ (gz_le hH hL8) (h0_0.mono (gz_left hH)) hb28) ?_
   rintro _ w29 ⟨u29_0, rfl, hR29_0⟩ hx29 hL29 hle29
   have hv29_0 := hR29_0.vecG hH hL8 hx29
   replace hv2_0 := hv2_0.mono (gz_mono hH hle29)
   refine S_pz 7 rfl ?_
   refine W_seq ?_
   refine W_pz 2 rfl ?_
   refine W_cond rfl (fun hc30 => ?_) (fun hc30 => ?_)
   ·replace h := Go.L.ite_t hc30 h
    refine W_seqd (.q 0 (.q 1 (.q 2 (.q 3 (.q 4 (.q 5 (.q 6 (.q 7 (.q 8 (.tail 9)))))))))) mixed (by kernel_rfl) (fun w32 hx32 => ?_)
    have hL33 := hL29.call hx32
    have hle33 := fz_ext hL29 hx32
    replace hv2_0 := hv2_0.mono (gz_mono hH hle33)
    refine D_v (r_loadBN 0 rfl underlying27 rfl zr27 hL33 rfl) rfl rfl ?_
    obtain ⟨x34, hb34, h⟩ := Go.L.bind_some h
    refine D_call rfl rfl rfl (fun w35 hx35 => ref3_At_ok _ _ (Le.refl _) hb34) ?_
    refine D_v (r_eqA rfl rfl eqg27 (eq27 _ _ _ _ )) rfl rfl ?_
    refine D_pu 1 rfl ?_
    refine D_split (s := 41) rfl (fun hg36 => ?_) (fun hg36 => ?_)
    ·replace h := Go.L.ite_p (of_decide_eq_true hg36) h
     refine D_vg (r_loadBN 1 rfl underlying25 rfl zr25 hL33 rfl) rfl rfl rfl rfl hg36 rfl ?_
     obtain ⟨x38, hb38, h⟩ := Go.L.bind_some h
     have hok39 := (fun (w39 : World) (hx39 : Ext _ w39) => words_Index_Items_ok w39 _ (Le.refl _) ((hv2_0.mono (gz_le hH hL33)).mono hx39.le) hb38)
     refine D_callg rfl rfl rfl rfl hg36 rfl rfl hok39 ?_
     refine D_vg (RunsAt_pu rfl) rfl rfl rfl rfl hg36 rfl ?_
     refine D_v (r_pickT rfl hg36 rfl) rfl rfl ?_
     refine D_pu 1 rfl ?_
     refine D_tail (fun w40 hx40 => ?_)
     have hL41 := hL33.call hx40
     have hle41 := fz_ext hL33 hx40
     replace hv2_0 := hv2_0.mono (gz_mono hH hle41)
     refine S_seqnil ?_
     refine W_ret ?_
     refine At_seq_ret ?_
     obtain rfl := Option.some.inj h
     refine At_body rfl rfl ?_
     exact ⟨hL41.ext, rfl⟩
    ·replace h := Go.L.ite_n (of_decide_eq_false hg36) h
     iterate 3 refine D_no rfl rfl rfl rfl hg36 rfl ?_
     refine D_v (r_pickF rfl hg36 rfl) rfl rfl ?_
     refine D_pu 1 rfl ?_
     refine D_tail (fun w43 hx43 => ?_)
     have hL44 := hL33.call hx43
     have hle44 := fz_ext hL33 hx43
     replace hv2_0 := hv2_0.mono (gz_mono hH hle44)
     refine S_seqnil ?_
     refine W_ret ?_
     refine At_seq_ret ?_
     obtain rfl := Option.some.inj h
     refine At_body rfl rfl ?_
     exact ⟨hL44.ext, rfl⟩
   ·replace h := Go.L.ite_f hc30 h
    refine W_skip ?_
    refine At_seq ?_
    refine W_seqr ?_
    refine S_v (r_loadBN 1 rfl underlying25 rfl zr25 hL29 rfl) rfl ?_
    obtain ⟨x46, hb46, h⟩ := Go.L.bind_some h
    refine S_callL rfl rfl hL29 (words_Index_Words_ok _ _ (gz_le hH hL29) hv2_0 hb46) ?_
    rintro u47_0 w47 ⟨_, rfl, hR47_0⟩ hx47 hL47 hle47
    have hv47_0 := hR47_0.vecG hH hL29 hx47
    replace hv2_0 := hv2_0.mono (gz_mono hH hle47)
    replace hv29_0 := hv29_0.mono (gz_mono hH hle47)
    refine S_pz 1 rfl ?_
    refine W_seq ?_
    have hG48 := hL47.rG H
    refine W_seqr ?_
    refine S_v (r_field rfl underlying27 rfl zr3 (by decide)) rfl ?_
    refine S_v (r_loadB1 0 rfl underlying3 rfl hL47 rfl rfl) rfl ?_
    refine S_pu 2 rfl ?_
    refine S_split (s := 51) rfl (fun hg49 => ?_) (fun hg49 => ?_)
    ·replace h := Go.L.ite_n (not_dec_t hg49) h
     iterate 4 refine S_unwanted rfl rfl hg49 rfl ?_
     refine S_v (r_pickT rfl hg49 rfl) rfl ?_
     refine S_pu 1 rfl ?_
     iterate 5 refine S_unwanted rfl rfl rfl rfl ?_
     refine S_v (r_pickT rfl rfl rfl) rfl ?_
     refine S_pu 1 rfl ?_
     iterate 5 refine S_unwanted rfl rfl rfl rfl ?_
     refine S_v (r_pickT rfl rfl rfl) rfl ?_
     refine S_seqnil ?_
     refine W_true rfl ?_
     refine W_pz 1 rfl ?_
     refine W_ret ?_
     refine At_seq_ret ?_
     obtain rfl := Option.some.inj h
     refine At_body rfl rfl ?_
     exact ⟨hL47.ext, rfl⟩
    ·replace h := Go.L.ite_p (not_dec_f hg49) h
     refine S_guarded rfl rfl hg49 ?_
     refine S_v (r_loadBN 1 rfl underlying25 rfl zr25 hL47 rfl) rfl ?_
     refine S_guarded rfl rfl hg49 ?_
     obtain ⟨x52, hb52, h⟩ := Go.L.bind_some h
     refine S_callL rfl rfl hL47 (words_Index_Items_ok _ _ (gz_le hH hL47) (hv2_0.mono hG48) hb52) ?_
     rintro _ w53 rfl hx53 hL53 hle53
     replace hG48 := hG48.trans (gz_mono hH hle53)
     refine S_guarded rfl rfl hg49 ?_
     refine S_v (RunsAt_pu rfl) rfl ?_
     refine S_guarded rfl rfl hg49 ?_
     refine S_v (RunsAt_pu rfl) rfl ?_
     refine S_v (r_pickF rfl hg49 rfl) rfl ?_
     refine S_pu 1 rfl ?_
     refine S_split (s := 57) rfl (fun hg54 => ?_) (fun hg54 => ?_)
     ·replace h := Go.L.ite_n (not_dec_t hg54) h
      iterate 5 refine S_unwanted rfl rfl hg54 rfl ?_
      refine S_v (r_pickT rfl hg54 rfl) rfl ?_
      refine S_pu 1 rfl ?_
      iterate 5 refine S_unwanted rfl rfl rfl rfl ?_
      refine S_v (r_pickT rfl rfl rfl) rfl ?_
      refine S_seqnil ?_
      refine W_true rfl ?_
      refine W_pz 1 rfl ?_
      refine W_ret ?_
      refine At_seq_ret ?_
      obtain rfl := Option.some.inj h
      refine At_body rfl rfl ?_
      exact ⟨hL53.ext, rfl⟩
     ·replace h := Go.L.ite_p (not_dec_f hg54) h
      refine S_guarded rfl rfl hg54 ?_
      refine S_v (RunsAt_pu rfl) rfl ?_
      refine S_guarded rfl rfl hg54 ?_
      refine S_v (r_len rfl underlying36 (hv47_0.mono hG48)) rfl ?_
      refine S_guarded rfl rfl hg54 ?_
      refine S_v (RunsAt_pu rfl) rfl ?_
      refine S_guarded rfl rfl hg54 ?_
      refine S_v (r_len rfl underlying33 (hv29_0.mono hG48)) rfl ?_
      refine S_guarded rfl rfl hg54 ?_
      refine S_v (RunsAt_pu rfl) rfl ?_
      refine S_v (r_pickF rfl hg54 rfl) rfl ?_
      refine S_pu 1 rfl ?_
      refine S_split (s := 64) rfl (fun hg57 => ?_) (fun hg57 => ?_)
      ·replace h := Go.L.ite_n (not_dec_t hg57) h
       iterate 5 refine S_unwanted rfl rfl hg57 rfl ?_
       refine S_v (r_pickT rfl hg57 rfl) rfl ?_
       refine S_seqnil ?_
       refine W_true rfl ?_
       refine W_pz 1 rfl ?_
       refine W_ret ?_
       refine At_seq_ret ?_
       obtain rfl := Option.some.inj h
       refine At_body rfl rfl ?_
       exact ⟨hL53.ext, rfl⟩
      ·replace h := Go.L.ite_p (not_dec_f hg57) h
       refine S_guarded rfl rfl hg57 ?_
       refine S_v (r_loadBN 1 rfl underlying25 rfl zr25 hL53 rfl) rfl ?_
       refine S_guarded rfl rfl hg57 ?_
       obtain ⟨x60, hb60, h⟩ := Go.L.bind_some h
       refine S_callL rfl rfl hL53 (words_Index_Bytes_ok _ _ (gz_le hH hL53) (hv2_0.mono hG48) hb60) ?_
       rintro u61_0 w61 ⟨_, rfl, hR61_0⟩ hx61 hL61 hle61
       have hv61_0 := hR61_0.mono (gz_nw hH hL53 hx61)
       replace hG48 := hG48.trans (gz_mono hH hle61)
       refine S_guarded rfl rfl hg57 ?_
       refine S_v (RunsAt_pu rfl) rfl ?_
       refine S_guarded rfl rfl hg57 ?_
       obtain ⟨x62, hb62, h⟩ := Go.L.bind_some h
       refine S_callL rfl rfl hL61 (ref3_SameBytes_ok _ _ (gz_le hH hL61) hv61_0 (h0_0.mono (gz_left hH)) hb62) ?_
       rintro _ w63 rfl hx63 hL63 hle63
       replace hv61_0 := hv61_0.mono (gz_mono hH hle63)
       replace hG48 := hG48.trans (gz_mono hH hle63)
       refine S_guarded rfl rfl hg57 ?_
       refine S_v (RunsAt_pu rfl) rfl ?_
       refine S_v (r_pickF rfl hg57 rfl) rfl ?_
       refine S_seqnil ?_
       refine W_cond rfl (fun hc64 => ?_) (fun hc64 => ?_)
       ·replace h := Go.L.ite_t hc64 h
        refine W_pz 1 rfl ?_
        refine W_ret ?_
        refine At_seq_ret ?_
        obtain rfl := Option.some.inj h
        refine At_body rfl rfl ?_
        exact ⟨hL63.ext, rfl⟩
       ·replace h := Go.L.ite_f hc64 h
        refine W_skip ?_
        refine At_seq ?_
        refine W_cut (σ := Unit) (fun (_ : Unit) => []) (fun (_ : Unit) wr => InO w [.box b4 [.int .i64 x1.2.1, .int .i64 x1.2.2] 27, .box b3 [.int .i64 x1.1.1, u2_0] 25] wr fun Oz => Vec (.pair .st (.vec (.pair (.int .i64) (.int .i64)))) (gz H w wr Oz) (u2_0) (x1.1.2) ∧ law4_WordsOpenMatchesSpec_k1 = some r) ?_ ?_
        ·refine W_pz 1 rfl ?_
         refine W_block ?_
         obtain ⟨n274, h⟩ := Go.L.run_some h
         refine W_loop (σ := Int × Nat) (fun ⟨s9_273, n⟩ => [(3, .pointer (some ⟨b3, 0, none⟩)), (6, u29_0), (8, u47_0), (9, .int .i64 s9_273)]) (fun ⟨s9_273, n⟩ wr => InO w [.box b4 [.int .i64 x1.2.1, .int .i64 x1.2.2] 27, .box b3 [.int .i64 x1.1.1, u2_0] 25] wr fun Oz => Vec (.pair .st (.vec (.pair (.int .i64) (.int .i64)))) (gz H w wr Oz) (u29_0) (x28.2.1) ∧ Vec .st (gz H w wr Oz) (u47_0) (x46) ∧ Vec (.pair .st (.vec (.pair (.int .i64) (.int .i64)))) (gz H w wr Oz) (u2_0) (x1.1.2) ∧ Go.L.itr (law4_WordsOpenMatchesSpec_bl2 x1 x28 x46) n s9_273 = some r) (fun ⟨s9_273, n⟩ => n) ((0 : Int), n274) (.cons rfl (.cons rfl (.cons rfl (.cons rfl (Sub.nil _))))) ⟨hL63, (hv29_0.mono hG48), (hv47_0.mono hG48), (hv2_0.mono hG48), h⟩ ?_
         rintro ⟨s9_273, nn274⟩ wr274 ⟨hL274, hf274_0, hf274_1, hf274_2, h⟩
         obtain ⟨n274, e274, rfl, h, hm274⟩ := Go.L.itr_some h
         refine W_seq ?_
         have hG276 := hL274.rG H
         refine W_p 2 rfl ?_
         refine S_v (r_len rfl underlying33 (hf274_0.mono hG276)) rfl ?_
         refine S_pz 1 rfl ?_
         refine W_if rfl (fun hc277 => ?_) (fun hc277 => ?_)
         ·replace h := Go.L.ite_p hc277 h
          refine W_skip ?_
          refine At_seq ?_
          refine W_seq ?_
          refine W_block ?_
          refine W_cut (σ := Int × Int × (List (Int × Int)) × Nat × Value) (fun ⟨c301, c302, s10_303, bjb300, vs10_303⟩ => [(3, .pointer (some ⟨b3, 0, none⟩)), (6, u29_0), (8, u47_0), (9, .int .i64 s9_273), (10, vs10_303), (11, .pointer (some ⟨bjb300, 0, none⟩))]) (fun ⟨c301, c302, s10_303, bjb300, vs10_303⟩ wr => InO w [.box bjb300 [.int .i64 c301, .int .i64 c302] 27, .box b4 [.int .i64 x1.2.1, .int .i64 x1.2.2] 27, .box b3 [.int .i64 x1.1.1, u2_0] 25] wr fun Oz => Vec (.pair .st (.vec (.pair (.int .i64) (.int .i64)))) (gz H w wr Oz) (u29_0) (x28.2.1) ∧ Vec .st (gz H w wr Oz) (u47_0) (x46) ∧ Vec (.pair (.int .i64) (.int .i64)) (gz H w wr Oz) (vs10_303) (s10_303) ∧ Vec (.pair .st (.vec (.pair (.int .i64) (.int .i64)))) (gz H w wr Oz) (u2_0) (x1.1.2) ∧ (law4_WordsOpenMatchesSpec_k3 s9_273 x28 x46) c301 c302 s10_303 = some e274) ?_ ?_
          ·refine W_regd (.q 0 (.q 1 (.q 2 (.q 3 (.q 4 (.q 5 (.h2 6 (.q 7 (.q 8 (.q 9 (.h 10 (.q 11 (.tail 12)))))) 10 (.h 6 (.q 7 (.q 8 (.q 9 (.q 11 (.tail 12))))))))))))) mixed (by kernel_rfl) (fun w306 hx306 => ?_)
           have hL307 := hL274.call hx306
           have hle307 := fz_ext hL274 hx306
           replace hG276 := hG276.trans (gz_mono hH hle307)
           refine D_v (r_loadBN 1 rfl underlying25 rfl zr25 hL307 rfl) rfl rfl ?_
           refine D_pu 2 rfl ?_
           obtain ⟨hk309, h⟩ := Go.L.chk_some h
           refine D_index rfl rfl rfl underlying33 zr44 (hf274_0.mono hG276) s9_273.toNat (Int.toNat_of_nonneg hk309.1).symm (idx_lt hk309) rfl ?_
           rintro p308 _ ⟨_, _, rfl, rfl, ⟨e308v1, rfl, e308h1⟩⟩ hp308
           refine D_v (r_field rfl underlying44 rfl zr9 (by decide)) rfl rfl ?_
           have hp310 := hp308.add 0
           refine D_v (r_load1 rfl underlying9 rfl hp310 (gz_le hH hL307)) rfl rfl ?_
           refine D_h2 ?_ ?_
           ·obtain ⟨x311, hb311, h⟩ := Go.L.bind_some h
            refine D_hcall rfl rfl rfl (fun w313 hx313 => words_Index_Find_ok _ _ (gz_le hH (hL307.call hx313)) (hU.mono (gz_left hH)) ((hf274_2.mono hG276).mono (gz_mono hH (fz_ext hL307 hx313))) hb311) ?_
            rintro w313 _ w312 hx313 hx312 ⟨u312_0, rfl, hR312_0⟩
            have hL314 := hL307.call hx313
            have hle314 := fz_ext hL307 hx313
            replace hp308 := hp308.mono (gz_mono hH hle314)
            replace e308h1 := e308h1.mono (gz_mono hH hle314)
            replace hp310 := hp310.mono (gz_mono hH hle314)
            replace hG276 := hG276.trans (gz_mono hH hle314)
            have hL312 := hL314.call hx312
            have hle312 := fz_ext hL314 hx312
            have hv312_0 := hR312_0.vecG hH hL314 hx312
            replace hp308 := hp308.mono (gz_mono hH hle312)
            replace e308h1 := e308h1.mono (gz_mono hH hle312)
            replace hp310 := hp310.mono (gz_mono hH hle312)
            replace hG276 := hG276.trans (gz_mono hH hle312)
            refine D_pu 3 rfl ?_
            refine D_alloc rfl zr27 rfl rfl hL312 ?_
            intro w315 b315 hL315 hle315
            replace hp308 := hp308.mono (gz_mono hH hle315)
            replace e308h1 := e308h1.mono (gz_mono hH hle315)
            replace hp310 := hp310.mono (gz_mono hH hle315)
            replace hv312_0 := hv312_0.mono (gz_mono hH hle315)
            replace hG276 := hG276.trans (gz_mono hH hle315)
            refine D_pu 1 rfl ?_
            refine D_tail (fun w316 hx316 => ?_)
            have hL317 := hL315.call hx316
            have hle317 := fz_ext hL315 hx316
            replace hp308 := hp308.mono (gz_mono hH hle317)
            replace e308h1 := e308h1.mono (gz_mono hH hle317)
            replace hp310 := hp310.mono (gz_mono hH hle317)
            replace hv312_0 := hv312_0.mono (gz_mono hH hle317)
            replace hG276 := hG276.trans (gz_mono hH hle317)
            refine S_storeBN 0 rfl rfl rfl zr27 hL317 rfl rfl (onc rfl (onc rfl on0)) ?_
            intro w318 hL318 hle318
            replace hp308 := hp308.mono (gz_mono hH hle318)
            replace e308h1 := e308h1.mono (gz_mono hH hle318)
            replace hp310 := hp310.mono (gz_mono hH hle318)
            replace hv312_0 := hv312_0.mono (gz_mono hH hle318)
            replace hG276 := hG276.trans (gz_mono hH hle318)
            refine S_nil ?_
            refine At_cut (x311.2.1, x311.2.2, x311.1, b315, u312_0) (.cons rfl (.cons rfl (.cons rfl (.cons rfl (.cons rfl (.cons rfl (Sub.nil _))))))) ⟨hL318, (hf274_0.mono hG276), (hf274_1.mono hG276), hv312_0, (hf274_2.mono hG276), h⟩
           ·obtain ⟨x311, hb311, h⟩ := Go.L.bind_some h
            refine D_alloc rfl zr27 rfl rfl hL307 ?_
            intro w319 b319 hL319 hle319
            replace hp308 := hp308.mono (gz_mono hH hle319)
            replace e308h1 := e308h1.mono (gz_mono hH hle319)
            replace hp310 := hp310.mono (gz_mono hH hle319)
            replace hG276 := hG276.trans (gz_mono hH hle319)
            refine D_hcall rfl rfl rfl (fun w321 hx321 => words_Index_Find_ok _ _ (gz_le hH (hL319.call hx321)) (hU.mono (gz_left hH)) ((hf274_2.mono hG276).mono (gz_mono hH (fz_ext hL319 hx321))) hb311) ?_
            rintro w321 _ w320 hx321 hx320 ⟨u320_0, rfl, hR320_0⟩
            have hL322 := hL319.call hx321
            have hle322 := fz_ext hL319 hx321
            replace hp308 := hp308.mono (gz_mono hH hle322)
            replace e308h1 := e308h1.mono (gz_mono hH hle322)
            replace hp310 := hp310.mono (gz_mono hH hle322)
            replace hG276 := hG276.trans (gz_mono hH hle322)
            have hL320 := hL322.call hx320
            have hle320 := fz_ext hL322 hx320
            have hv320_0 := hR320_0.vecG hH hL322 hx320
            replace hp308 := hp308.mono (gz_mono hH hle320)
            replace e308h1 := e308h1.mono (gz_mono hH hle320)
            replace hp310 := hp310.mono (gz_mono hH hle320)
            replace hG276 := hG276.trans (gz_mono hH hle320)
            refine D_pu 4 rfl ?_
            refine D_tail (fun w323 hx323 => ?_)
            have hL324 := hL320.call hx323
            have hle324 := fz_ext hL320 hx323
            replace hp308 := hp308.mono (gz_mono hH hle324)
            replace e308h1 := e308h1.mono (gz_mono hH hle324)
            replace hp310 := hp310.mono (gz_mono hH hle324)
            replace hv320_0 := hv320_0.mono (gz_mono hH hle324)
            replace hG276 := hG276.trans (gz_mono hH hle324)
            refine S_storeBN 0 rfl rfl rfl zr27 hL324 rfl rfl (onc rfl (onc rfl on0)) ?_
            intro w325 hL325 hle325
            replace hp308 := hp308.mono (gz_mono hH hle325)
            replace e308h1 := e308h1.mono (gz_mono hH hle325)
            replace hp310 := hp310.mono (gz_mono hH hle325)
            replace hv320_0 := hv320_0.mono (gz_mono hH hle325)
            replace hG276 := hG276.trans (gz_mono hH hle325)
            refine S_nil ?_
            refine At_cut (x311.2.1, x311.2.2, x311.1, b319, u320_0) (.cons rfl (.cons rfl (.cons rfl (.cons rfl (.cons rfl (.cons rfl (Sub.nil _))))))) ⟨hL325, (hf274_0.mono hG276), (hf274_1.mono hG276), hv320_0, (hf274_2.mono hG276), h⟩
          ·rintro ⟨c301, c302, s10_303, bjb300, vs10_303⟩ wr304 ⟨hL304, hf304_0, hf304_1, hfs10_303, hf304_3, h⟩
           have hG327 := hL304.rG H
           refine W_seqd (.q 0 (.q 1 (.q 2 (.q 3 (.q 4 (.q 5 (.q 6 (.q 7 (.q 8 (.q 9 (.q 10 (.q 11 (.q 12 (.q 13 (.q 14 (.q 15 (.q 16 (.q 17 (.q 18 (.q 19 (.q 20 (.q 21 (.q 22 (.q 23 (.q 24 (.q 25 (.q 26 (.q 27 (.q 28 (.q 29 (.q 30 (.q 31 (.q 32 (.q 33 (.tail 34))))))))))))))))))))))))))))))))))) mixed (by kernel_rfl) (fun w328 hx328 => ?_)
           have hL329 := hL304.call hx328
           have hle329 := fz_ext hL304 hx328
           replace hG327 := hG327.trans (gz_mono hH hle329)
           refine D_pu 2 rfl ?_
           obtain ⟨hk331, h⟩ := Go.L.chk_some h
           refine D_index rfl rfl rfl underlying36 zr9 (hf304_1.mono hG327) s9_273.toNat (Int.toNat_of_nonneg hk331.1).symm (idx_lt hk331) rfl ?_
           rintro p330 _ rfl hp330
           refine D_v (r_load1 rfl underlying9 rfl hp330 (gz_le hH hL329)) rfl rfl ?_
           refine D_pu 2 rfl ?_
           obtain ⟨hk333, h⟩ := Go.L.chk_some h
           refine D_index rfl rfl rfl underlying33 zr44 (hf304_0.mono hG327) s9_273.toNat (Int.toNat_of_nonneg hk333.1).symm (idx_lt hk333) rfl ?_
           rintro p332 _ ⟨_, _, rfl, rfl, ⟨e332v1, rfl, e332h1⟩⟩ hp332
           refine D_v (r_field rfl underlying44 rfl zr9 (by decide)) rfl rfl ?_
           have hp334 := hp332.add 0
           refine D_v (r_load1 rfl underlying9 rfl hp334 (gz_le hH hL329)) rfl rfl ?_
           refine D_v (r_sne rfl rfl) rfl rfl ?_
           refine D_pu 1 rfl ?_
           refine D_split (s := 97) rfl (fun hg335 => ?_) (fun hg335 => ?_)
           ·replace h := Go.L.ite_n (not_dec_t hg335) h
            iterate 8 refine D_no rfl rfl rfl rfl hg335 rfl ?_
            iterate 13 refine D_no2 rfl rfl rfl rfl rfl ?_
            refine D_no rfl rfl rfl rfl hg335 rfl ?_
            refine D_v (r_pickT rfl hg335 rfl) rfl rfl ?_
            refine D_tail (fun w337 hx337 => ?_)
            have hL338 := hL329.call hx337
            have hle338 := fz_ext hL329 hx337
            replace hp330 := hp330.mono (gz_mono hH hle338)
            replace hp332 := hp332.mono (gz_mono hH hle338)
            replace e332h1 := e332h1.mono (gz_mono hH hle338)
            replace hp334 := hp334.mono (gz_mono hH hle338)
            replace hG327 := hG327.trans (gz_mono hH hle338)
            refine S_seqnil ?_
            refine W_true rfl ?_
            refine W_pz 1 rfl ?_
            refine W_ret ?_
            refine At_block_ret ?_
            refine At_seq_ret ?_
            refine At_loop_ret ?_
            replace h := Go.L.Nxt.out h hm274
            refine At_block_ret ?_
            refine At_cut_ret ?_
            obtain rfl := Option.some.inj h
            refine At_body rfl rfl ?_
            exact ⟨hL338.ext, rfl⟩
           ·replace h := Go.L.ite_p (not_dec_f hg335) h
            iterate 2 refine D_vg (RunsAt_pu rfl) rfl rfl rfl rfl hg335 rfl ?_
            obtain ⟨hk341, h⟩ := Go.L.chk_some h
            refine D_indexg rfl rfl rfl rfl hg335 rfl rfl underlying33 zr44 (hf304_0.mono hG327) s9_273.toNat (Int.toNat_of_nonneg hk341.1).symm (idx_lt hk341) rfl ?_
            rintro p340 _ ⟨_, _, rfl, rfl, ⟨e340v1, rfl, e340h1⟩⟩ hp340
            refine D_vg (r_field rfl underlying44 rfl zr9 (by decide)) rfl rfl rfl rfl hg335 rfl ?_
            have hp342 := hp340.add 0
            refine D_vg (r_load1 rfl underlying9 rfl hp342 (gz_le hH hL329)) rfl rfl rfl rfl hg335 rfl ?_
            refine D_vg (r_lenS rfl underlying9) rfl rfl rfl rfl hg335 rfl ?_
            iterate 2 refine D_vg (RunsAt_pu rfl) rfl rfl rfl rfl hg335 rfl ?_
            refine D_split (s := 105) rfl (fun hg343 => ?_) (fun hg343 => ?_)
            ·replace h := Go.L.ite_p (of_decide_eq_true hg343) h
             refine D_vg (r_field rfl underlying27 rfl zr3 (by decide)) rfl rfl rfl rfl hg343 rfl ?_
             refine D_vg (r_loadB1 0 rfl underlying3 rfl hL329 rfl rfl) rfl rfl rfl rfl hg343 rfl ?_
             iterate 2 refine D_vg (RunsAt_pu rfl) rfl rfl rfl rfl hg343 rfl ?_
             refine D_split (s := 109) rfl (fun hg345 => ?_) (fun hg345 => ?_)
             ·replace h := Go.L.ite_n (not_dec_t hg345) h
              iterate 8 refine D_no rfl rfl rfl rfl hg345 rfl ?_
              refine D_vg (r_pickT rfl hg345 rfl) rfl rfl rfl rfl hg343 rfl ?_
              refine D_vg (r_pickT rfl hg343 rfl) rfl rfl rfl rfl hg335 rfl ?_
              refine D_v (r_pickF rfl hg335 rfl) rfl rfl ?_
              refine D_tail (fun w347 hx347 => ?_)
              have hL348 := hL329.call hx347
              have hle348 := fz_ext hL329 hx347
              replace hp330 := hp330.mono (gz_mono hH hle348)
              replace hp332 := hp332.mono (gz_mono hH hle348)
              replace e332h1 := e332h1.mono (gz_mono hH hle348)
              replace hp334 := hp334.mono (gz_mono hH hle348)
              replace hp340 := hp340.mono (gz_mono hH hle348)
              replace e340h1 := e340h1.mono (gz_mono hH hle348)
              replace hp342 := hp342.mono (gz_mono hH hle348)
              replace hG327 := hG327.trans (gz_mono hH hle348)
              refine S_seqnil ?_
              refine W_true rfl ?_
              refine W_pz 1 rfl ?_
              refine W_ret ?_
              refine At_block_ret ?_
              refine At_seq_ret ?_
              refine At_loop_ret ?_
              replace h := Go.L.Nxt.out h hm274
              refine At_block_ret ?_
              refine At_cut_ret ?_
              obtain rfl := Option.some.inj h
              refine At_body rfl rfl ?_
              exact ⟨hL348.ext, rfl⟩
             ·replace h := Go.L.ite_p (not_dec_f hg345) h
              iterate 3 refine D_vg (RunsAt_pu rfl) rfl rfl rfl rfl hg345 rfl ?_
              obtain ⟨hk351, h⟩ := Go.L.chk_some h
              refine D_indexg rfl rfl rfl rfl hg345 rfl rfl underlying33 zr44 (hf304_0.mono hG327) s9_273.toNat (Int.toNat_of_nonneg hk351.1).symm (idx_lt hk351) rfl ?_
              rintro p350 _ ⟨_, _, rfl, rfl, ⟨e350v1, rfl, e350h1⟩⟩ hp350
              refine D_vg (r_field rfl underlying44 rfl zr40 (by decide)) rfl rfl rfl rfl hg345 rfl ?_
              have hp352 := hp350.add 1
              refine D_vg (r_load1 rfl underlying40 rfl hp352 (gz_le hH hL329)) rfl rfl rfl rfl hg345 rfl ?_
              obtain ⟨x353, hb353, h⟩ := Go.L.bind_some h
              refine D_callg rfl rfl rfl rfl hg345 rfl rfl (fun w354 hx354 => ref4_SameHits_ok _ _ (Le.refl _) (((hfs10_303.mono hG327).mono (gz_le hH hL329)).mono hx354.le) ((e350h1.mono (gz_le hH hL329)).mono hx354.le) hb353) ?_
              refine D_vg (RunsAt_pu rfl) rfl rfl rfl rfl hg345 rfl ?_
              refine D_vg (r_pickF rfl hg345 rfl) rfl rfl rfl rfl hg343 rfl ?_
              refine D_vg (r_pickT rfl hg343 rfl) rfl rfl rfl rfl hg335 rfl ?_
              refine D_v (r_pickF rfl hg335 rfl) rfl rfl ?_
              refine D_tail (fun w355 hx355 => ?_)
              have hL356 := hL329.call hx355
              have hle356 := fz_ext hL329 hx355
              replace hp330 := hp330.mono (gz_mono hH hle356)
              replace hp332 := hp332.mono (gz_mono hH hle356)
              replace e332h1 := e332h1.mono (gz_mono hH hle356)
              replace hp334 := hp334.mono (gz_mono hH hle356)
              replace hp340 := hp340.mono (gz_mono hH hle356)
              replace e340h1 := e340h1.mono (gz_mono hH hle356)
              replace hp342 := hp342.mono (gz_mono hH hle356)
              replace hp350 := hp350.mono (gz_mono hH hle356)
              replace e350h1 := e350h1.mono (gz_mono hH hle356)
              replace hp352 := hp352.mono (gz_mono hH hle356)
              replace hG327 := hG327.trans (gz_mono hH hle356)
              refine S_seqnil ?_
              refine W_cond rfl (fun hc357 => ?_) (fun hc357 => ?_)
              ·replace h := Go.L.ite_t hc357 h
               refine W_pz 1 rfl ?_
               refine W_ret ?_
               refine At_block_ret ?_
               refine At_seq_ret ?_
               refine At_loop_ret ?_
               replace h := Go.L.Nxt.out h hm274
               refine At_block_ret ?_
               refine At_cut_ret ?_
               obtain rfl := Option.some.inj h
               refine At_body rfl rfl ?_
               exact ⟨hL356.ext, rfl⟩
              ·replace h := Go.L.ite_f hc357 h
               refine W_skip ?_
               refine At_block ?_
               refine At_seq ?_
               refine W_region ?_
               refine S_pu 1 rfl ?_
               obtain ⟨hk360, h⟩ := Go.L.chk_some h
               refine S_v (r_ar64 rfl rfl rfl hk360) rfl ?_
               refine S_pu 1 rfl ?_
               refine S_nil ?_
               have hL361 := hL356.dropAt (i := 0) rfl
               replace e350h1 := e350h1.mono (gz_mono hH (fz_dropAt (i := 0) rfl))
               replace hG327 := hG327.trans (gz_mono hH (fz_dropAt (i := 0) rfl))
               have h := Go.L.Nxt.again h hm274
               refine At_round ((s9_273 + (1 : Int)), n274) (.cons rfl (.cons rfl (.cons rfl (.cons rfl (Sub.nil _))))) ⟨hL361, (hf304_0.mono hG327), (hf304_1.mono hG327), (hf304_3.mono hG327), h⟩ (Nat.lt_succ_self _)
            ·replace h := Go.L.ite_n (of_decide_eq_false hg343) h
             iterate 4 refine D_no rfl rfl rfl rfl hg343 rfl ?_
             iterate 8 refine D_no2 rfl rfl rfl rfl rfl ?_
             refine D_no rfl rfl rfl rfl hg343 rfl ?_
             refine D_vg (r_pickF rfl hg343 rfl) rfl rfl rfl rfl hg335 rfl ?_
             refine D_v (r_pickF rfl hg335 rfl) rfl rfl ?_
             refine D_tail (fun w363 hx363 => ?_)
             have hL364 := hL329.call hx363
             have hle364 := fz_ext hL329 hx363
             replace hp330 := hp330.mono (gz_mono hH hle364)
             replace hp332 := hp332.mono (gz_mono hH hle364)
             replace e332h1 := e332h1.mono (gz_mono hH hle364)
             replace hp334 := hp334.mono (gz_mono hH hle364)
             replace hp340 := hp340.mono (gz_mono hH hle364)
             replace e340h1 := e340h1.mono (gz_mono hH hle364)
             replace hp342 := hp342.mono (gz_mono hH hle364)
             replace hG327 := hG327.trans (gz_mono hH hle364)
             refine S_seqnil ?_
             refine W_false rfl ?_
             refine W_skip ?_
             refine At_block ?_
             refine At_seq ?_
             refine W_region ?_
             refine S_pu 1 rfl ?_
             obtain ⟨hk365, h⟩ := Go.L.chk_some h
             refine S_v (r_ar64 rfl rfl rfl hk365) rfl ?_
             refine S_pu 1 rfl ?_
             refine S_nil ?_
             have hL366 := hL364.dropAt (i := 0) rfl
             replace hG327 := hG327.trans (gz_mono hH (fz_dropAt (i := 0) rfl))
             have h := Go.L.Nxt.again h hm274
             refine At_round ((s9_273 + (1 : Int)), n274) (.cons rfl (.cons rfl (.cons rfl (.cons rfl (Sub.nil _))))) ⟨hL366, (hf304_0.mono hG327), (hf304_1.mono hG327), (hf304_3.mono hG327), h⟩ (Nat.lt_succ_self _)
         ·replace h := Go.L.ite_n hc277 h
          refine W_exit ?_
          refine At_seq_exit ?_
          refine At_loop_exit ?_
          replace h := Go.L.Nxt.out h hm274
          refine At_exit ?_
          refine At_cut () (Sub.nil _) ⟨hL274, (hf274_2.mono hG276), h⟩
        ·rintro _ wr204 ⟨hL204, hf204_0, h⟩
         refine W_pz 1 rfl ?_
         refine W_ret ?_
         obtain rfl := Option.some.inj h
         refine At_body rfl rfl ?_
         exact ⟨hL204.ext, rfl⟩
end Go.Proofs.YtdiieblgeaehpaaGreatDoor
