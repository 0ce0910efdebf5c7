/- Texts of a claim, merged. -/
import Derived.Test.YtmfiaecglndldaaGreatDoorKb7
import Derived.KernelRfl
import Derived.ProofKit
import Derived.OpenShut
import Derived.Carry
import Derived.Deep.Slices
import Derived.Test.YtmfiaecglndldaaGreatDoorRows
import Derived.Lib.LaidU8T
import Derived.LaidMore
import Derived.MakeChecks
import Derived.LaidHandle
set_option linter.unusedVariables false
set_option linter.unusedSimpArgs false
section
namespace Go.Proofs.YtmfiaecglndldaaGreatDoor
open Go Go.E Go.RowKit
set_option maxHeartbeats 1000000
set_option maxRecDepth 10000
open _root_.Go.Proofs.Tryz
noncomputable def law4_ShapesWildcards_k4 (s10_108 : List UInt8) (s8_90 : Int) (s9_107 : List UInt8) (s6_121 : List UInt8) (s7_122 : List UInt8) : Option (((List UInt8) × (List UInt8) × Int) ⊕ (Bool)) :=
 Go.L.chk (s6_121.length + s9_107.length ≤ 9223372036854775807) (Go.L.chk (s7_122.length + s10_108.length ≤ 9223372036854775807) (Go.L.chk (Go.L.I64 (s8_90 + (1 : Int))) (some (Sum.inl ((s6_121 ++ s9_107), (s7_122 ++ s10_108), (s8_90 + (1 : Int)))))))
noncomputable def law4_ShapesWildcards_k3 (s6_88 : List UInt8) (s7_89 : List UInt8) (s8_90 : Int) (s9_107 : List UInt8) (s10_108 : List UInt8) : Option (((List UInt8) × (List UInt8) × Int) ⊕ (Bool)) :=
 if (0 : Int) < s8_90 then Go.L.chk (s6_88.length + ([47] : List UInt8).length ≤ 9223372036854775807) (Go.L.chk (s7_89.length + ([47] : List UInt8).length ≤ 9223372036854775807) ((law4_ShapesWildcards_k4 s10_108 s8_90 s9_107) (s6_88 ++ ([47] : List UInt8)) (s7_89 ++ ([47] : List UInt8)))) else (law4_ShapesWildcards_k4 s10_108 s8_90 s9_107) s6_88 s7_89
noncomputable def law4_ShapesWildcards_k1 (a0 : List UInt8) (s6_55 : List UInt8) (s7_56 : List UInt8) : Option (Bool) :=
 Option.bind (shapes_Match a0 a0) (fun x136 => Option.bind (shapes_Match s6_55 a0) (fun x140 => Option.bind (shapes_Match ([42, 42] : List UInt8) a0) (fun x144 => Option.bind (shapes_Match s7_56 a0) (fun x148 => if x136.2.1 = (0 : Int) then if x140.2.1 = (0 : Int) then if (bif (bif (bif decide (x144.2.1 = (0 : Int)) then x136.1 else false) then x140.1 else false) then x144.1 else false) then if (64 : Int) < (s7_56.length : Int) then some (true) else if x148.2.1 = (0 : Int) then some (x148.1) else some (false) else some (false) else some (false) else some (false)))))
noncomputable def law4_ShapesWildcards_bl2 (a0 : List UInt8) (a1 : Int) (x6 : (List (List UInt8))) : (List UInt8) × (List UInt8) × Int → Option (((List UInt8) × (List UInt8) × Int) ⊕ (Bool)) := fun ⟨s6_88, s7_89, s8_90⟩ =>
 if s8_90 < (x6.length : Int) then Go.L.chk (0 ≤ s8_90 ∧ s8_90 < (x6.length : Int)) (Go.L.chk (0 ≤ s8_90 ∧ s8_90 < (x6.length : Int)) (if s8_90 = a1 then (law4_ShapesWildcards_k3 s6_88 s7_89 s8_90) ([42] : List UInt8) ([42, 42] : List UInt8) else (law4_ShapesWildcards_k3 s6_88 s7_89 s8_90) (x6.getD s8_90.toNat default) (x6.getD s8_90.toNat default))) else Option.map Sum.inr ((law4_ShapesWildcards_k1 a0) s6_88 s7_89)
noncomputable def law4_ShapesWildcards_l2 (a0 : List UInt8) (a1 : Int) (x6 : (List (List UInt8))) (s : (List UInt8) × (List UInt8) × Int) : Option (Bool) := Go.L.run (law4_ShapesWildcards_bl2 a0 a1 x6) s
noncomputable def law4_ShapesWildcards (a0 : List UInt8) (a1 : Int) : Option (Bool) :=
 Option.bind (law4_shaped) (fun x1 => if !x1 then some (false) else Option.bind (ref4_Steps a0) (fun x6 => Option.bind (ref4_Wrong a0 false) (fun x8 => if (0 : Int) ≤ x8 then some (true) else if (64 : Int) < (a0.length : Int) then some (true) else Go.L.chk (Go.L.I64 ((x6.length : Int) - (1 : Int))) (Option.bind (ref3_In a1 (0 : Int) ((x6.length : Int) - (1 : Int))) (fun x17 => if !x17 then some (true) else (law4_ShapesWildcards_l2 a0 a1 x6) (([] : List UInt8), ([] : List UInt8), (0 : Int)))))))
theorem law4_ShapesWildcards_ok (w : World) (H : PH) (hH : Le H (hp w)) {a0 : List UInt8} {a1 : Int}   {r : Bool} (h : law4_ShapesWildcards a0 a1 = some r) :
  Ok Tryz.prog 4 [.string ⟨(a0).toArray⟩, .int .i64 a1] w (fun v w' => Ext w w' ∧ v = .bool r) := by
 refine Ok_enter (n := 128) [(0, .string ⟨(a0).toArray⟩), (1, .int .i64 a1)] func4 rfl rfl rfl rfl rfl ?_
 have hL := Lcl.start w
 refine W_pz 1 rfl ?_
 refine W_seq ?_
 refine W_seqr ?_
 obtain ⟨x1, hb1, h⟩ := Go.L.bind_some h
 refine S_callL rfl rfl hL (law4_shaped_ok _ _ (gz_le hH hL) hb1) ?_
 rintro _ w2 rfl hx2 hL2 hle2
 refine S_pz 1 rfl ?_
 refine W_cond rfl (fun hc3 => ?_) (fun hc3 => ?_)
 ·replace h := Go.L.ite_t hc3 h
  refine W_pz 1 rfl ?_
  refine W_ret ?_
  refine At_seq_ret ?_
  obtain rfl := Option.some.inj h
  refine At_body rfl rfl ?_
  exact ⟨hL2.ext, rfl⟩
 ·replace h := Go.L.ite_f hc3 h
  refine W_skip ?_
  refine At_seq ?_
  refine W_p 1 rfl ?_
  obtain ⟨x6, hb6, h⟩ := Go.L.bind_some h
  refine S_callL rfl rfl hL2 (ref4_Steps_ok _ _ (gz_le hH hL2) hb6) ?_
  rintro u7_0 w7 ⟨_, rfl, hR7_0⟩ hx7 hL7 hle7
  have hv7_0 := hR7_0.vecG hH hL2 hx7
  refine S_pz 1 rfl ?_
  refine W_seq ?_
  refine W_p 1 rfl ?_
  obtain ⟨x8, hb8, h⟩ := Go.L.bind_some h
  refine S_callL rfl rfl hL7 (ref4_Wrong_ok _ _ (gz_le hH hL7) hb8) ?_
  rintro _ w9 rfl hx9 hL9 hle9
  replace hv7_0 := hv7_0.mono (gz_mono hH hle9)
  refine S_pu 2 rfl ?_
  refine S_split (s := 27) rfl (fun hg10 => ?_) (fun hg10 => ?_)
  ·replace h := Go.L.ite_p (of_decide_eq_true hg10) h
   iterate 3 refine S_unwanted rfl rfl hg10 rfl ?_
   refine S_v (r_pickT rfl hg10 rfl) rfl ?_
   refine S_pu 1 rfl ?_
   iterate 6 refine S_unwanted rfl rfl rfl rfl ?_
   refine S_v (r_pickT rfl rfl rfl) rfl ?_
   refine S_seqnil ?_
   refine W_true rfl ?_
   refine W_pz 1 rfl ?_
   refine W_ret ?_
   refine At_seq_ret ?_
   obtain rfl := Option.some.inj h
   refine At_body rfl rfl ?_
   exact ⟨hL9.ext, rfl⟩
  ·replace h := Go.L.ite_n (of_decide_eq_false hg10) h
   refine S_guarded rfl rfl hg10 ?_
   refine S_v (RunsAt_pu rfl) rfl ?_
   refine S_guarded rfl rfl hg10 ?_
   refine S_v (r_lenS rfl underlying9) rfl ?_
   refine S_guarded rfl rfl hg10 ?_
   refine S_v (RunsAt_pu rfl) rfl ?_
   refine S_v (r_pickF rfl hg10 rfl) rfl ?_
   refine S_pu 1 rfl ?_
   refine S_split (s := 32) rfl (fun hg13 => ?_) (fun hg13 => ?_)
   ·replace h := Go.L.ite_p (of_decide_eq_true hg13) h
    iterate 6 refine S_unwanted rfl rfl hg13 rfl ?_
    refine S_v (r_pickT rfl hg13 rfl) rfl ?_
    refine S_seqnil ?_
    refine W_true rfl ?_
    refine W_pz 1 rfl ?_
    refine W_ret ?_
    refine At_seq_ret ?_
    obtain rfl := Option.some.inj h
    refine At_body rfl rfl ?_
    exact ⟨hL9.ext, rfl⟩
   ·replace h := Go.L.ite_n (of_decide_eq_false hg13) h
    refine S_guarded rfl rfl hg13 ?_
    refine S_v (RunsAt_pu rfl) rfl ?_
    refine S_guarded rfl rfl hg13 ?_
    refine S_v (RunsAt_pu rfl) rfl ?_
    refine S_guarded rfl rfl hg13 ?_
    refine S_v (r_len rfl underlying30 hv7_0) rfl ?_
    refine S_guarded rfl rfl hg13 ?_
    obtain ⟨hk16, h⟩ := Go.L.chk_some h
    refine S_v (r_ar64 rfl rfl rfl hk16) rfl ?_
    refine S_guarded rfl rfl hg13 ?_
    obtain ⟨x17, hb17, h⟩ := Go.L.bind_some h
    refine S_callL rfl rfl hL9 (ref3_In_ok _ _ (gz_le hH hL9) hb17) ?_
    rintro _ w18 rfl hx18 hL18 hle18
    replace hv7_0 := hv7_0.mono (gz_mono hH hle18)
    refine S_guarded rfl rfl hg13 ?_
    refine S_v (RunsAt_pu rfl) rfl ?_
    refine S_v (r_pickF rfl hg13 rfl) rfl ?_
    refine S_seqnil ?_
    refine W_cond rfl (fun hc19 => ?_) (fun hc19 => ?_)
    ·replace h := Go.L.ite_t hc19 h
     refine W_pz 1 rfl ?_
     refine W_ret ?_
     refine At_seq_ret ?_
     obtain rfl := Option.some.inj h
     refine At_body rfl rfl ?_
     exact ⟨hL18.ext, rfl⟩
    ·replace h := Go.L.ite_f hc19 h
     refine W_skip ?_
     refine At_seq ?_
     refine W_pz 2 rfl ?_
     refine W_cut (σ := (List UInt8) × (List UInt8)) (fun ⟨s6_55, s7_56⟩ => [(0, .string ⟨(a0).toArray⟩), (6, .string ⟨(s6_55).toArray⟩), (7, .string ⟨(s7_56).toArray⟩)]) (fun ⟨s6_55, s7_56⟩ wr => Lcl w [] wr ∧ (law4_ShapesWildcards_k1 a0) s6_55 s7_56 = some r) ?_ ?_
     ·refine W_pz 1 rfl ?_
      refine W_block ?_
      obtain ⟨n91, h⟩ := Go.L.run_some h
      refine W_loop (σ := (List UInt8) × (List UInt8) × Int × Nat) (fun ⟨s6_88, s7_89, s8_90, n⟩ => [(0, .string ⟨(a0).toArray⟩), (1, .int .i64 a1), (5, u7_0), (6, .string ⟨(s6_88).toArray⟩), (7, .string ⟨(s7_89).toArray⟩), (8, .int .i64 s8_90)]) (fun ⟨s6_88, s7_89, s8_90, n⟩ wr => InO w [] wr fun Oz => Vec .st (gz H w wr Oz) (u7_0) (x6) ∧ Go.L.itr (law4_ShapesWildcards_bl2 a0 a1 x6) n (s6_88, s7_89, s8_90) = some r) (fun ⟨s6_88, s7_89, s8_90, n⟩ => n) (([] : List UInt8), ([] : List UInt8), (0 : Int), n91) (.cons rfl (.cons rfl (.cons rfl (.cons rfl (.cons rfl (.cons rfl (Sub.nil _))))))) ⟨hL18, hv7_0, h⟩ ?_
      rintro ⟨s6_88, s7_89, s8_90, nn91⟩ wr91 ⟨hL91, hf91_0, h⟩
      obtain ⟨n91, e91, rfl, h, hm91⟩ := Go.L.itr_some h
      refine W_seq ?_
      refine W_p 2 rfl ?_
      refine S_v (r_len rfl underlying30 hf91_0) rfl ?_
      refine S_pz 1 rfl ?_
      refine W_if rfl (fun hc93 => ?_) (fun hc93 => ?_)
      ·replace h := Go.L.ite_p hc93 h
       refine W_skip ?_
       refine At_seq ?_
       refine W_seq ?_
       refine W_block ?_
       refine W_seqd (.q 0 (.q 1 (.q 2 (.q 3 (.q 4 (.q 5 (.q 6 (.q 7 (.q 8 (.q 9 (.tail 10))))))))))) mixed (by kernel_rfl) (fun w95 hx95 => ?_)
       have hL96 := hL91.call hx95
       have hle96 := fz_ext hL91 hx95
       replace hf91_0 := hf91_0.mono (gz_mono hH hle96)
       refine D_pu 2 rfl ?_
       obtain ⟨hk98, h⟩ := Go.L.chk_some h
       refine D_index rfl rfl rfl underlying30 zr9 hf91_0 s8_90.toNat (Int.toNat_of_nonneg hk98.1).symm (idx_lt hk98) rfl ?_
       rintro p97 _ rfl hp97
       refine D_v (r_load1 rfl underlying9 rfl hp97 (gz_le hH hL96)) rfl rfl ?_
       refine D_pu 2 rfl ?_
       obtain ⟨hk100, h⟩ := Go.L.chk_some h
       refine D_index rfl rfl rfl underlying30 zr9 hf91_0 s8_90.toNat (Int.toNat_of_nonneg hk100.1).symm (idx_lt hk100) rfl ?_
       rintro p99 _ rfl hp99
       refine D_v (r_load1 rfl underlying9 rfl hp99 (gz_le hH hL96)) rfl rfl ?_
       refine D_pu 2 rfl ?_
       refine D_tail (fun w101 hx101 => ?_)
       have hL102 := hL96.call hx101
       have hle102 := fz_ext hL96 hx101
       replace hf91_0 := hf91_0.mono (gz_mono hH hle102)
       replace hp97 := hp97.mono (gz_mono hH hle102)
       replace hp99 := hp99.mono (gz_mono hH hle102)
       refine S_seqnil ?_
       refine W_cut (σ := (List UInt8) × (List UInt8)) (fun ⟨s9_107, s10_108⟩ => [(0, .string ⟨(a0).toArray⟩), (1, .int .i64 a1), (5, u7_0), (6, .string ⟨(s6_88).toArray⟩), (7, .string ⟨(s7_89).toArray⟩), (8, .int .i64 s8_90), (9, .string ⟨(s9_107).toArray⟩), (10, .string ⟨(s10_108).toArray⟩)]) (fun ⟨s9_107, s10_108⟩ wr => InO w [] wr fun Oz => Vec .st (gz H w wr Oz) (u7_0) (x6) ∧ (law4_ShapesWildcards_k3 s6_88 s7_89 s8_90) s9_107 s10_108 = some e91) ?_ ?_
       ·refine W_pz 3 rfl ?_
        refine W_if rfl (fun hc111 => ?_) (fun hc111 => ?_)
        ·replace h := Go.L.ite_p hc111 h
         refine W_region ?_
         refine S_pu 2 rfl ?_
         refine S_nil ?_
         refine At_cut (([42] : List UInt8), ([42, 42] : List UInt8)) (.cons rfl (.cons rfl (.cons rfl (.cons rfl (.cons rfl (.cons rfl (.cons rfl (.cons rfl (Sub.nil _))))))))) ⟨hL102, hf91_0, h⟩
        ·replace h := Go.L.ite_n hc111 h
         refine W_skip ?_
         refine At_cut (x6.getD s8_90.toNat default, x6.getD s8_90.toNat default) (.cons rfl (.cons rfl (.cons rfl (.cons rfl (.cons rfl (.cons rfl (.cons rfl (.cons rfl (Sub.nil _))))))))) ⟨hL102, hf91_0, h⟩
       ·rintro ⟨s9_107, s10_108⟩ wr109 ⟨hL109, hf109_0, h⟩
        refine W_cut (σ := (List UInt8) × (List UInt8)) (fun ⟨s6_121, s7_122⟩ => [(0, .string ⟨(a0).toArray⟩), (1, .int .i64 a1), (5, u7_0), (6, .string ⟨(s6_121).toArray⟩), (7, .string ⟨(s7_122).toArray⟩), (8, .int .i64 s8_90), (9, .string ⟨(s9_107).toArray⟩), (10, .string ⟨(s10_108).toArray⟩)]) (fun ⟨s6_121, s7_122⟩ wr => InO w [] wr fun Oz => Vec .st (gz H w wr Oz) (u7_0) (x6) ∧ (law4_ShapesWildcards_k4 s10_108 s8_90 s9_107) s6_121 s7_122 = some e91) ?_ ?_
        ·refine W_pz 2 rfl ?_
         refine W_if rfl (fun hc125 => ?_) (fun hc125 => ?_)
         ·replace h := Go.L.ite_p hc125 h
          refine W_p 1 rfl ?_
          obtain ⟨hk127, h⟩ := Go.L.chk_some h
          refine S_v (r_cat rfl rfl hk127) rfl ?_
          refine S_pz 1 rfl ?_
          refine W_region ?_
          refine S_pu 1 rfl ?_
          obtain ⟨hk128, h⟩ := Go.L.chk_some h
          refine S_v (r_cat rfl rfl hk128) rfl ?_
          refine S_pu 1 rfl ?_
          refine S_nil ?_
          refine At_cut ((s6_88 ++ ([47] : List UInt8)), (s7_89 ++ ([47] : List UInt8))) (.cons rfl (.cons rfl (.cons rfl (.cons rfl (.cons rfl (.cons rfl (.cons rfl (.cons rfl (Sub.nil _))))))))) ⟨hL109, hf109_0, h⟩
         ·replace h := Go.L.ite_n hc125 h
          refine W_skip ?_
          refine At_cut (s6_88, s7_89) (.cons rfl (.cons rfl (.cons rfl (.cons rfl (.cons rfl (.cons rfl (.cons rfl (.cons rfl (Sub.nil _))))))))) ⟨hL109, hf109_0, h⟩
        ·rintro ⟨s6_121, s7_122⟩ wr123 ⟨hL123, hf123_0, h⟩
         refine W_p 2 rfl ?_
         obtain ⟨hk131, h⟩ := Go.L.chk_some h
         refine S_v (r_cat rfl rfl hk131) rfl ?_
         refine S_pz 1 rfl ?_
         refine W_region ?_
         refine S_pu 2 rfl ?_
         obtain ⟨hk132, h⟩ := Go.L.chk_some h
         refine S_v (r_cat rfl rfl hk132) rfl ?_
         refine S_pu 1 rfl ?_
         refine S_nil ?_
         refine At_block ?_
         refine At_seq ?_
         refine W_region ?_
         refine S_pu 1 rfl ?_
         obtain ⟨hk133, h⟩ := Go.L.chk_some h
         refine S_v (r_ar64 rfl rfl rfl hk133) rfl ?_
         refine S_pu 1 rfl ?_
         refine S_nil ?_
         have h := Go.L.Nxt.again h hm91
         refine At_round ((s6_121 ++ s9_107), (s7_122 ++ s10_108), (s8_90 + (1 : Int)), n91) (.cons rfl (.cons rfl (.cons rfl (.cons rfl (.cons rfl (.cons rfl (Sub.nil _))))))) ⟨hL123, hf123_0, h⟩ (Nat.lt_succ_self _)
      ·replace h := Go.L.ite_n hc93 h
       refine W_exit ?_
       refine At_seq_exit ?_
       refine At_loop_exit ?_
       replace h := Go.L.Nxt.out h hm91
       refine At_exit ?_
       refine At_cut (s6_88, s7_89) (.cons rfl (.cons rfl (.cons rfl (Sub.nil _)))) ⟨hL91, h⟩
     ·rintro ⟨s6_55, s7_56⟩ wr57 ⟨hL57, h⟩
      refine W_p 2 rfl ?_
      obtain ⟨x136, hb136, h⟩ := Go.L.bind_some h
      refine S_callL rfl rfl hL57 (shapes_Match_ok _ _ (gz_le hH hL57) hb136) ?_
      rintro _ w137 rfl hx137 hL137 hle137
      refine S_pu 3 rfl ?_
      refine S_alloc zr23 rfl rfl hL137 ?_
      intro w138 b138 hL138 hle138 _
      refine S_pu 1 rfl ?_
      refine S_storeBN 0 rfl rfl rfl zr23 hL138 rfl rfl (onc rfl (onc rfl on0)) ?_
      intro w139 hL139 hle139
      refine S_seqnil ?_
      refine W_p 2 rfl ?_
      obtain ⟨x140, hb140, h⟩ := Go.L.bind_some h
      refine S_callL rfl rfl hL139 (shapes_Match_ok _ _ (gz_le hH hL139) hb140) ?_
      rintro _ w141 rfl hx141 hL141 hle141
      refine S_pu 3 rfl ?_
      refine S_alloc zr23 rfl rfl hL141 ?_
      intro w142 b142 hL142 hle142 _
      refine S_pu 1 rfl ?_
      refine S_storeBN 0 rfl rfl rfl zr23 hL142 rfl rfl (onc rfl (onc rfl on0)) ?_
      intro w143 hL143 hle143
      refine S_seqnil ?_
      refine W_p 1 rfl ?_
      obtain ⟨x144, hb144, h⟩ := Go.L.bind_some h
      refine S_callL rfl rfl hL143 (shapes_Match_ok _ _ (gz_le hH hL143) hb144) ?_
      rintro _ w145 rfl hx145 hL145 hle145
      refine S_pu 3 rfl ?_
      refine S_alloc zr23 rfl rfl hL145 ?_
      intro w146 b146 hL146 hle146 _
      refine S_pu 1 rfl ?_
      refine S_storeBN 0 rfl rfl rfl zr23 hL146 rfl rfl (onc rfl (onc rfl on0)) ?_
      intro w147 hL147 hle147
      refine S_seqnil ?_
      refine W_p 2 rfl ?_
      obtain ⟨x148, hb148, h⟩ := Go.L.bind_some h
      refine S_callL rfl rfl hL147 (shapes_Match_ok _ _ (gz_le hH hL147) hb148) ?_
      rintro _ w149 rfl hx149 hL149 hle149
      refine S_pu 3 rfl ?_
      refine S_alloc zr23 rfl rfl hL149 ?_
      intro w150 b150 hL150 hle150 _
      refine S_pu 1 rfl ?_
      refine S_storeBN 0 rfl rfl rfl zr23 hL150 rfl rfl (onc rfl (onc rfl on0)) ?_
      intro w151 hL151 hle151
      refine S_seqnil ?_
      refine W_p 1 rfl ?_
      refine S_v (r_lenS rfl underlying9) rfl ?_
      refine S_pz 2 rfl ?_
      refine W_seqr ?_
      refine S_v (r_field rfl underlying23 rfl zr3 (by decide)) rfl ?_
      refine S_v (r_loadB1 3 rfl underlying3 rfl hL151 rfl rfl) rfl ?_
      refine S_pu 2 rfl ?_
      refine S_split (s := 98) rfl (fun hg152 => ?_) (fun hg152 => ?_)
      ·replace h := Go.L.ite_p (of_decide_eq_true hg152) h
       refine S_guarded rfl rfl hg152 ?_
       refine S_v (r_field rfl underlying23 rfl zr3 (by decide)) rfl ?_
       refine S_guarded rfl rfl hg152 ?_
       refine S_v (r_loadB1 2 rfl underlying3 rfl hL151 rfl rfl) rfl ?_
       refine S_guarded rfl rfl hg152 ?_
       refine S_v (RunsAt_pu rfl) rfl ?_
       refine S_v (r_pickT rfl hg152 rfl) rfl ?_
       refine S_pu 1 rfl ?_
       refine S_split (s := 103) rfl (fun hg154 => ?_) (fun hg154 => ?_)
       ·replace h := Go.L.ite_p (of_decide_eq_true hg154) h
        refine S_guarded rfl rfl hg154 ?_
        refine S_v (r_field rfl underlying23 rfl zr3 (by decide)) rfl ?_
        refine S_guarded rfl rfl hg154 ?_
        refine S_v (r_loadB1 1 rfl underlying3 rfl hL151 rfl rfl) rfl ?_
        refine S_guarded rfl rfl hg154 ?_
        refine S_v (RunsAt_pu rfl) rfl ?_
        refine S_v (r_pickT rfl hg154 rfl) rfl ?_
        refine S_pu 1 rfl ?_
        refine S_pickT 1 13 rfl rfl rfl rfl rfl rfl rfl ?_
        refine S_pu 1 rfl ?_
        refine S_pickT 1 16 rfl rfl rfl rfl rfl rfl rfl ?_
        refine S_pu 1 rfl ?_
        refine S_pickT 1 19 rfl rfl rfl rfl rfl rfl rfl ?_
        refine S_pu 1 rfl ?_
        refine S_split (s := 117) rfl (fun hg156 => ?_) (fun hg156 => ?_)
        ·replace h := Go.L.ite_t hg156 h
         refine S_guarded rfl rfl hg156 ?_
         refine S_v (RunsAt_pu rfl) rfl ?_
         refine S_guarded rfl rfl hg156 ?_
         refine S_v (RunsAt_pu rfl) rfl ?_
         refine S_split (s := 119) rfl (fun hg158 => ?_) (fun hg158 => ?_)
         ·replace h := Go.L.ite_p (of_decide_eq_true hg158) h
          iterate 4 refine S_unwanted rfl rfl hg158 rfl ?_
          refine S_unwanted2 rfl rfl rfl ?_
          refine S_unwanted rfl rfl hg158 rfl ?_
          refine S_guarded rfl rfl hg156 ?_
          refine S_v (r_pickT rfl hg158 rfl) rfl ?_
          refine S_v (r_pickT rfl hg156 rfl) rfl ?_
          refine S_pz 1 rfl ?_
          refine W_ret ?_
          obtain rfl := Option.some.inj h
          refine At_body rfl rfl ?_
          exact ⟨hL151.ext, rfl⟩
         ·replace h := Go.L.ite_n (of_decide_eq_false hg158) h
          refine S_guarded rfl rfl hg158 ?_
          refine S_v (r_field rfl underlying23 rfl zr3 (by decide)) rfl ?_
          refine S_guarded rfl rfl hg158 ?_
          refine S_v (r_loadB1 0 rfl underlying3 rfl hL151 rfl rfl) rfl ?_
          refine S_guarded rfl rfl hg158 ?_
          refine S_v (RunsAt_pu rfl) rfl ?_
          refine S_guarded rfl rfl hg158 ?_
          refine S_v (RunsAt_pu rfl) rfl ?_
          refine S_split (s := 123) rfl (fun hg161 => ?_) (fun hg161 => ?_)
          ·replace h := Go.L.ite_p (of_decide_eq_true hg161) h
           refine S_guarded rfl rfl hg161 ?_
           refine S_v (RunsAt_pu rfl) rfl ?_
           refine S_guarded rfl rfl hg158 ?_
           refine S_v (r_pickT rfl hg161 rfl) rfl ?_
           refine S_guarded rfl rfl hg156 ?_
           refine S_v (r_pickF rfl hg158 rfl) rfl ?_
           refine S_v (r_pickT rfl hg156 rfl) rfl ?_
           refine S_pz 1 rfl ?_
           refine W_ret ?_
           obtain rfl := Option.some.inj h
           refine At_body rfl rfl ?_
           exact ⟨hL151.ext, rfl⟩
          ·replace h := Go.L.ite_n (of_decide_eq_false hg161) h
           refine S_unwanted rfl rfl hg161 rfl ?_
           refine S_guarded rfl rfl hg158 ?_
           refine S_v (r_pickF rfl hg161 rfl) rfl ?_
           refine S_guarded rfl rfl hg156 ?_
           refine S_v (r_pickF rfl hg158 rfl) rfl ?_
           refine S_v (r_pickT rfl hg156 rfl) rfl ?_
           refine S_pz 1 rfl ?_
           refine W_ret ?_
           obtain rfl := Option.some.inj h
           refine At_body rfl rfl ?_
           exact ⟨hL151.ext, rfl⟩
        ·replace h := Go.L.ite_f hg156 h
         iterate 2 refine S_unwanted rfl rfl hg156 rfl ?_
         iterate 6 refine S_unwanted2 rfl rfl rfl ?_
         refine S_unwanted rfl rfl hg156 rfl ?_
         refine S_v (r_pickF rfl hg156 rfl) rfl ?_
         refine S_pz 1 rfl ?_
         refine W_ret ?_
         obtain rfl := Option.some.inj h
         refine At_body rfl rfl ?_
         exact ⟨hL151.ext, rfl⟩
       ·replace h := Go.L.ite_n (of_decide_eq_false hg154) h
        iterate 3 refine S_unwanted rfl rfl hg154 rfl ?_
        refine S_v (r_pickF rfl hg154 rfl) rfl ?_
        refine S_pu 1 rfl ?_
        refine S_unwanted rfl rfl rfl rfl ?_
        refine S_v (r_pickF rfl rfl rfl) rfl ?_
        refine S_pu 1 rfl ?_
        refine S_unwanted rfl rfl rfl rfl ?_
        refine S_v (r_pickF rfl rfl rfl) rfl ?_
        refine S_pu 1 rfl ?_
        refine S_unwanted rfl rfl rfl rfl ?_
        refine S_v (r_pickF rfl rfl rfl) rfl ?_
        refine S_pu 1 rfl ?_
        iterate 2 refine S_unwanted rfl rfl rfl rfl ?_
        iterate 6 refine S_unwanted2 rfl rfl rfl ?_
        refine S_unwanted rfl rfl rfl rfl ?_
        refine S_v (r_pickF rfl rfl rfl) rfl ?_
        refine S_pz 1 rfl ?_
        refine W_ret ?_
        obtain rfl := Option.some.inj h
        refine At_body rfl rfl ?_
        exact ⟨hL151.ext, rfl⟩
      ·replace h := Go.L.ite_n (of_decide_eq_false hg152) h
       iterate 3 refine S_unwanted rfl rfl hg152 rfl ?_
       refine S_v (r_pickF rfl hg152 rfl) rfl ?_
       refine S_pu 1 rfl ?_
       iterate 3 refine S_unwanted rfl rfl rfl rfl ?_
       refine S_v (r_pickF rfl rfl rfl) rfl ?_
       refine S_pu 1 rfl ?_
       refine S_unwanted rfl rfl rfl rfl ?_
       refine S_v (r_pickF rfl rfl rfl) rfl ?_
       refine S_pu 1 rfl ?_
       refine S_unwanted rfl rfl rfl rfl ?_
       refine S_v (r_pickF rfl rfl rfl) rfl ?_
       refine S_pu 1 rfl ?_
       refine S_unwanted rfl rfl rfl rfl ?_
       refine S_v (r_pickF rfl rfl rfl) rfl ?_
       refine S_pu 1 rfl ?_
       iterate 2 refine S_unwanted rfl rfl rfl rfl ?_
       iterate 6 refine S_unwanted2 rfl rfl rfl ?_
       refine S_unwanted rfl rfl rfl rfl ?_
       refine S_v (r_pickF rfl rfl rfl) rfl ?_
       refine S_pz 1 rfl ?_
       refine W_ret ?_
       obtain rfl := Option.some.inj h
       refine At_body rfl rfl ?_
       exact ⟨hL151.ext, rfl⟩
end Go.Proofs.YtmfiaecglndldaaGreatDoor
end
section
namespace Go.Proofs.YtmfiaecglndldaaGreatDoor
open Go Go.L
theorem wild_loop {a0 : List UInt8} {l : List (List UInt8)} {t : Nat} (hl : l.length ≤ 1000) (htot : tot l ≤ 100000) :
    Go.L.run (law4_ShapesWildcards_bl2 a0 (t : Int) l) ([], [], ((0 : Nat) : Int)) = law4_ShapesWildcards_k1 a0 (jn (l.set t [42])) (jn (l.set t [42, 42])) := by
  have hset : ∀ w : List UInt8, w.length ≤ 2 → tot (l.set t w) ≤ 100010 := by
    intro w hw
    have : ∀ (l : List (List UInt8)) (t : Nat), tot (l.set t w) ≤ tot l + 3 := by
      intro l
      induction l with
      | nil => intro t; simp [tot]
      | cons x l ih =>
        intro t
        cases t with
        | zero => simp only [List.set_cons_zero, tot]; omega
        | succ t => have := ih t; simp only [List.set_cons_succ, tot]; omega
    have := this l t
    omega
  have htake : ∀ (m : List (List UInt8)) (i : Nat), tot (m.take i) ≤ tot m := by
    intro m
    induction m with
    | nil => intro i; simp
    | cons x m ih =>
      intro i
      cases i with
      | zero => simp [tot]
      | succ i => have := ih i; simp only [List.take_succ_cons, tot]; omega
  have hj : ∀ (w : List UInt8) (i : Nat), w.length ≤ 2 → (jn ((l.set t w).take i)).length ≤ 100010 := by
    intro w i hw
    by_cases h : (l.set t w).take i = []
    · rw [h]; simp [jn]
    · have h1 := jn_len h
      have h2 := htake (l.set t w) i
      have h3 := hset w hw
      omega
  have hsn : ∀ (w : List UInt8) (i : Nat), i < l.length → jn ((l.set t w).take (i + 1)) = if i = 0 then (l.set t w).getD i default else jn ((l.set t w).take i) ++ 47 :: (l.set t w).getD i default := by
    intro w i hi
    rw [List.take_add_one, List.getElem?_eq_getElem (by rw [List.length_set]; exact hi), Option.toList_some, jn_snoc]
    have e : (l.set t w).getD i default = (l.set t w)[i]'(by rw [List.length_set]; exact hi) := by
      rw [List.getD_eq_getElem?_getD, List.getElem?_eq_getElem (by rw [List.length_set]; exact hi)]; rfl
    rw [e]
    by_cases h0 : i = 0
    · subst h0; simp
    · rw [if_neg h0, if_neg]
      intro hh
      have h9 : ((l.set t w).take i).length = 0 := by rw [hh]; rfl
      rw [List.length_take, List.length_set] at h9
      omega
  have hgd : ∀ (w : List UInt8) (i : Nat), i < l.length → (l.set t w).getD i default = if i = t then w else l.getD i default := by
    intro w i hi
    rw [List.getD_eq_getElem?_getD, List.getD_eq_getElem?_getD]
    by_cases h : i = t
    · subst h; rw [if_pos rfl, List.getElem?_set_self hi]; rfl
    · rw [if_neg h, List.getElem?_set_ne (fun e => h e.symm)]
  have h0 : ∀ w : List UInt8, jn ((l.set t w).take 0) = [] := fun w => by simp [jn]
  have key : Go.L.run (law4_ShapesWildcards_bl2 a0 (t : Int) l) (jn ((l.set t [42]).take 0), jn ((l.set t [42, 42]).take 0), ((0 : Nat) : Int)) = law4_ShapesWildcards_k1 a0 (jn (l.set t [42])) (jn (l.set t [42, 42])) := by
    refine run_count (fun i => (jn ((l.set t [42]).take i), jn ((l.set t [42, 42]).take i), ((i : Nat) : Int))) l.length (fun i hi => ?_) ?_ 0 (Nat.zero_le _)
    · have k1 := hj [42] i (by decide)
      have k2 := hj [42, 42] i (by decide)
      have k3 := hj [42] (i + 1) (by decide)
      have k4 := hj [42, 42] (i + 1) (by decide)
      rw [hsn [42] i hi, hsn [42, 42] i hi, hgd _ i hi, hgd _ i hi]
      rw [hsn [42] i hi, hgd _ i hi] at k3
      rw [hsn [42, 42] i hi, hgd _ i hi] at k4
      unfold law4_ShapesWildcards_bl2
      dsimp only
      rw [if_pos (by omega), chk_pos (by omega), chk_pos (by omega), Int.toNat_natCast]
      have hx : (l.getD i default).length < tot l := tot_mem (getD_mem hi)
      have fin : ∀ x y : List UInt8, x.length ≤ 100010 → y.length ≤ 100010 → law4_ShapesWildcards_k3 (jn ((l.set t [42]).take i)) (jn ((l.set t [42, 42]).take i)) (i : Int) x y = some (.inl (if i = 0 then x else jn ((l.set t [42]).take i) ++ 47 :: x, if i = 0 then y else jn ((l.set t [42, 42]).take i) ++ 47 :: y, ((i + 1 : Nat) : Int))) := by
        intro x y hx hy
        unfold law4_ShapesWildcards_k3 law4_ShapesWildcards_k4
        by_cases hi0 : i = 0
        · subst hi0
          rw [if_neg (by omega), chk_pos (by simp [jn]; omega), chk_pos (by simp [jn]; omega), chk_pos (by unfold I64; omega)]
          simp [jn]
        · rw [if_pos (by omega), chk_pos (by simp only [List.length_cons, List.length_nil]; omega), chk_pos (by simp only [List.length_cons, List.length_nil]; omega), chk_pos (by simp only [List.length_append, List.length_cons, List.length_nil]; omega), chk_pos (by simp only [List.length_append, List.length_cons, List.length_nil]; omega), chk_pos (by unfold I64; omega), if_neg hi0, if_neg hi0]
          simp
      by_cases hit : i = t
      · rw [if_pos (by omega), if_pos hit, if_pos hit]
        exact fin _ _ (by decide) (by decide)
      · rw [if_neg (by omega), if_neg hit, if_neg hit]
        exact fin _ _ (by omega) (by omega)
    · unfold law4_ShapesWildcards_bl2
      dsimp only
      rw [if_neg (by omega), List.take_of_length_le (by rw [List.length_set]; exact Nat.le_refl _), List.take_of_length_le (by rw [List.length_set]; exact Nat.le_refl _)]
  rw [h0, h0] at key
  exact key
theorem wild_law (a0 : List UInt8) (a1 : Int) (hs : a0.length ≤ 100000000000) : law4_ShapesWildcards a0 a1 = some true := by
  unfold law4_ShapesWildcards
  rw [shaped_true, Option.bind_some, if_neg (by decide), ref_steps (by omega), Option.bind_some, wrong_eq hs, Option.bind_some]
  have hlen := sl_len a0
  have htot := sl_tot a0
  by_cases h1 : 0 ≤ wr false 0 (sl a0)
  · rw [if_pos h1]
  · rw [if_neg h1]
    by_cases h2 : (64 : Int) < (a0.length : Int)
    · rw [if_pos h2]
    · rw [if_neg h2, chk_pos (by unfold I64; omega)]
      unfold ref3_In
      rw [Option.bind_some]
      by_cases h3 : 0 ≤ a1 ∧ a1 ≤ ((sl a0).length : Int) - 1
      · rw [if_neg (by simp; omega)]
        obtain ⟨t, rfl⟩ := Int.eq_ofNat_of_zero_le h3.1
        have ht : t < (sl a0).length := by omega
        have hst := wr_path (Int.le_refl _) h1
        have hloop := wild_loop (a0 := a0) (l := sl a0) (t := t) (by omega) (by omega)
        unfold law4_ShapesWildcards_l2
        rw [show ((0 : Int)) = ((0 : Nat) : Int) from rfl, hloop]
        generalize hL : sl a0 = l at *
        have hne2 : ∀ x ∈ l, x ≠ [42, 42] := fun x hx => (stp_ne (hst x hx)).2.2.2
        have hset : ∀ w, w = [42] ∨ w = [42, 42] → ∀ x ∈ l.set t w, x ≠ [] ∧ 47 ∉ x ∧ (stp x || (true && (decide (x = [42]) || decide (x = [42, 42])))) = true := by
          intro w hw x hx
          rcases List.mem_or_eq_of_mem_set hx with h | rfl
          · have := stp_ne (hst x h)
            exact ⟨this.1, this.2.1, by rw [hst x h, Bool.true_or]⟩
          · rcases hw with rfl | rfl <;> decide
        have hpf : ∀ w, w = [42] ∨ w = [42, 42] → (jn (l.set t w)).length ≤ 64 → mres (jn (l.set t w)) a0 = (true, 0, 0) := by
          intro w hw hlw
          have e : sl (jn (l.set t w)) = l.set t w := sl_jn (fun x hx => (hset w hw x hx).1) (fun x hx => (hset w hw x hx).2.1)
          have e2 : pf (jn (l.set t w)) = (0, 0) := by
            unfold pf
            rw [if_neg (by omega), e, wr_ok (fun x hx => (hset w hw x hx).2.2), if_neg (by decide)]
          unfold mres
          rw [e2, if_pos rfl, if_neg (by omega), hL, if_neg h1, e, col_set hne2, fits_set hw ht hne2]
        have hlt : (jn (l.set t [42])).length ≤ 64 := by
          have k1 := jn_len (l := l.set t [42]) (by intro hh; have := congrArg List.length hh; simp at this; subst this; simp at ht)
          have k2 : tot (l.set t [42]) ≤ tot l := by
            have gen : ∀ (l : List (List UInt8)) (t : Nat), (∀ x ∈ l, x ≠ []) → tot (l.set t [42]) ≤ tot l := by
              intro l
              induction l with
              | nil => intro t _; simp [tot]
              | cons x l ih =>
                intro t hx
                cases t with
                | zero =>
                  have : 0 < x.length := List.length_pos_iff.2 (hx x (.head _))
                  simp only [List.set_cons_zero, tot, List.length_cons, List.length_nil]; omega
                | succ t => have := ih t (fun y hy => hx y (.tail _ hy)); simp only [List.set_cons_succ, tot]; omega
            exact gen l t (fun x hx => (stp_ne (hst x hx)).1)
          omega
        have e0 : mres a0 a0 = (true, 0, 0) := by
          have e2 : pf a0 = (0, 0) := by
            unfold pf
            rw [if_neg (by omega), hL, wr_ok (fun x hx => by rw [hst x hx, Bool.true_or]), if_neg (by decide)]
          unfold mres
          rw [e2, if_pos rfl, if_neg (by omega), hL, if_neg h1, col_path hne2, fits_self hne2]
        have e3 : mres [42, 42] a0 = (true, 0, 0) := by
          have e2 : pf [42, 42] = (0, 0) := by decide
          have e4 : col (sl [42, 42]) = [[42, 42]] := by decide
          unfold mres
          rw [e2, if_pos rfl, if_neg (by omega), hL, if_neg h1, e4]
          unfold fits
          rw [if_pos rfl, suf_end (by decide)]
        unfold law4_ShapesWildcards_k1
        rw [match_eq, Option.bind_some, match_eq, Option.bind_some, match_eq, Option.bind_some, match_eq, Option.bind_some, e0, e3, hpf [42] (.inl rfl) hlt]
        simp only [if_true, decide_true, cond_true]
        by_cases h5 : (64 : Int) < ((jn (l.set t [42, 42])).length : Int)
        · rw [if_pos h5]
        · rw [if_neg h5, hpf [42, 42] (.inr rfl) (by omega)]
          rfl
      · rw [if_pos (by simp; omega)]
end Go.Proofs.YtmfiaecglndldaaGreatDoor
end
section
namespace Go.E
open Go Go.RowKit Go.ChangeShapes Go.WideShapes
section
variable {H : Type} {enc : TypeId × Value → H} {P : Program} {w : World} {base : Nat} {spare : Nat → Bool} {held : Bool}
/-- Arguments read, behind a call that leaves old memory as it was, as they read before. -/
theorem trodAll_stays (hl : laidOutB P = true) {W W' : World} (hb : Below W.heap.size W W') : ∀ {ts : List TypeId} {vs : List Value} {ds : List (DataW H)} {ps : List MemPlace}, (∀ t ∈ ts, P.readableRec t = true ∧ t < P.types.size) →
    DataW.TrodAll enc P W 0 (fun _ => true) true ts vs ds ps → (∀ x ∈ ps, x.block < W.heap.size) → DataW.TrodAll enc P W' 0 (fun b => decide (b < W.heap.size)) true ts vs ds ps
  | [], [], [], ps, _, h, _ => h
  | t :: ts, v :: vs, d :: ds, ps, ht, h, hlt => by
    obtain ⟨p, q, h1, h2, rfl⟩ := h
    have ht0 := ht t (.head _)
    exact ⟨p, q, Below.trod hl ht0.1 ht0.2 h1 hb (fun x hx => hlt x (List.mem_append.2 (.inl hx))), trodAll_stays hl hb (fun t' h' => ht t' (.tail _ h')) h2 (fun x hx => hlt x (List.mem_append.2 (.inr hx))), rfl⟩
  | [], [], _ :: _, _, _, h, _ => by cases h
  | [], _ :: _, _, _, _, h, _ => by cases h
  | _ :: _, [], _, _, _, h, _ => by cases h
  | _ :: _, _ :: _, [], _, _, h, _ => by cases h
end
end Go.E
namespace Go.E
open Go Go.RowKit Go.ChangeShapes Go.WideShapes Go.Deep
section
variable {P : Program} {t e : TypeId}
end
end Go.E
end
section
namespace Go.Proofs.YtmfiaecglndldaaGreatDoor
open Go Go.E Go.Lib
def laidU : List (String × DataW Unit) := [("unicode/utf8.acceptRanges", Rows.laid_unicode_utf8_acceptRanges), ("unicode/utf8.first", Rows.laid_unicode_utf8_first)]
noncomputable def laidWorld (os : Os) : World :=
  let w0 := World.holding Tryz.prog os ⟨#[], #[], []⟩
  let put (h : Array Obj) (g : Nat) (cs : Array Value) : Array Obj := h.modify g fun
    | .cells _ t frozen => .cells cs t frozen
    | o => o
  let h1 := put w0.heap 1 (Lib.firstTab.map fun z => Value.int .u8 z).toArray
  let h2 := put h1 2 ((List.range 16).flatMap fun i => [Value.int .u8 (Lib.accLo i), Value.int .u8 (Lib.accHi i)]).toArray
  { w0 with heap := h2 }
theorem door_met (os : Os) (args : Array Value) : laidMetH Tryz.prog laidU ((laidWorld os).forCall (fun _ _ => 0) ⟨#[], args, []⟩).memory :=
  laidMetH_of_parts3 (fuel := 8) (laidMet_of_run' 8 (by kernel_rfl) (by kernel_rfl)) (by kernel_rfl) (by kernel_rfl)
end Go.Proofs.YtmfiaecglndldaaGreatDoor
namespace Go.Proofs.YtmfiaecglndldaaGreatDoor.bulks
open Go Go.E
theorem bound {H : Type} {l : List (DataW H)} (hk : Rows.uptoSmall H l = true) : Rows.uptoBulkAll l ≤ 1048576 := of_decide_eq_true hk
end Go.Proofs.YtmfiaecglndldaaGreatDoor.bulks
end
