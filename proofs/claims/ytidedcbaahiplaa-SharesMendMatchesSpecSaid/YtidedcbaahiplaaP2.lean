/- Generated walks: elimination, and a division whose rows are the caller's own. -/
import Derived.Test.YtidedcbaahiplaaEngQ
import Derived.Test.YtidedcbaahiplaaP1
import Derived.KernelRfl
namespace Go.Proofs.Ytidedcbaahiplaa
open Go Go.E Go.RowKit
noncomputable def ref4_Through_k3 (s7_80 : Int) (l115 : List (List UInt8)) : Option (((List (List UInt8)) × Int) ⊕ ((List UInt8))) :=
  Go.L.chk (Go.L.I64 (s7_80 + (1 : Int))) (some (Sum.inl (l115, (s7_80 + (1 : Int)))))
noncomputable def ref4_Through_k4 (a1 : List UInt8) (l79 : List (List UInt8)) (s7_80 : Int) (l139 : List UInt8) : Option (((List (List UInt8)) × Int) ⊕ ((List UInt8))) :=
  Go.L.chk (0 ≤ s7_80 ∧ s7_80 < (a1.length : Int)) (Go.L.chk (Go.E.Cap 1 (l139.length + ([a1.getD s7_80.toNat default]).length)) (Go.L.chk (Go.E.Cap 24 (l79.length + 1)) ((ref4_Through_k3 s7_80) (l79 ++ [(l139 ++ [a1.getD s7_80.toNat default])]))))
noncomputable def ref4_Through_bl5 (a0 : List UInt8) (a1 : List UInt8) (l79 : List (List UInt8)) (s7_80 : Int) : (List UInt8) × Int → Option (((List UInt8) × Int) ⊕ (((List (List UInt8)) × Int) ⊕ ((List UInt8)))) := fun ⟨l160, s9_161⟩ =>
  if s9_161 < (a0.length : Int) then Go.L.chk (Go.L.I64 (s9_161 - (1 : Int))) (Go.L.chk (0 ≤ (s9_161 - (1 : Int)) ∧ (s9_161 - (1 : Int)) < (l160.length : Int)) (Go.L.chk (0 ≤ s7_80 ∧ s7_80 < (a0.length : Int)) (Go.L.chk (Go.E.Cap 1 (l160.length + ([(M.gmul (l160.getD ((s9_161 - (1 : Int)).toNat) default) (a0.getD s7_80.toNat default))]).length)) (Go.L.chk (Go.L.I64 (s9_161 + (1 : Int))) (some (Sum.inl ((l160 ++ [(M.gmul (l160.getD ((s9_161 - (1 : Int)).toNat) default) (a0.getD s7_80.toNat default))]), (s9_161 + (1 : Int))))))))) else Option.map Sum.inr ((ref4_Through_k4 a1 l79 s7_80) l160)
noncomputable def ref4_Through_l5 (a0 : List UInt8) (a1 : List UInt8) (l79 : List (List UInt8)) (s7_80 : Int) (s : (List UInt8) × Int) : Option (((List (List UInt8)) × Int) ⊕ ((List UInt8))) := Go.L.run (ref4_Through_bl5 a0 a1 l79 s7_80) s
noncomputable def ref4_Through_k17 (l828 : List UInt8) : Option ((List UInt8)) :=
  some (l828)
noncomputable def ref4_Through_bl18 (a0 : List UInt8) (l302 : List (List UInt8)) : (List UInt8) × Int → Option (((List UInt8) × Int) ⊕ ((List UInt8))) := fun ⟨l843, s18_844⟩ =>
  if s18_844 < (a0.length : Int) then Go.L.chk (0 ≤ s18_844 ∧ s18_844 < (l302.length : Int)) (Go.L.chk (0 ≤ (a0.length : Int) ∧ (a0.length : Int) < ((l302.getD s18_844.toNat default).length : Int)) (Go.L.chk (Go.E.Cap 1 (l843.length + ([(l302.getD s18_844.toNat default).getD ((a0.length : Int).toNat) default]).length)) (Go.L.chk (Go.L.I64 (s18_844 + (1 : Int))) (some (Sum.inl ((l843 ++ [(l302.getD s18_844.toNat default).getD ((a0.length : Int).toNat) default]), (s18_844 + (1 : Int)))))))) else Option.map Sum.inr (ref4_Through_k17 l843)
noncomputable def ref4_Through_l18 (a0 : List UInt8) (l302 : List (List UInt8)) (s : (List UInt8) × Int) : Option ((List UInt8)) := Go.L.run (ref4_Through_bl18 a0 l302) s
noncomputable def ref4_Through_k6 (a0 : List UInt8) (l302 : List (List UInt8)) : Option ((List UInt8)) :=
  (ref4_Through_l18 a0 l302) (([] : List UInt8), (0 : Int))
noncomputable def ref4_Through_k8 (s10_413 : Int) (l519 : List (List UInt8)) : Option (((List (List UInt8)) × Int) ⊕ ((List UInt8))) :=
  Go.L.chk (Go.L.I64 (s10_413 + (1 : Int))) (some (Sum.inl (l519, (s10_413 + (1 : Int)))))
noncomputable def ref4_Through_k15 (s14_716 : Int) (l750 : List (List UInt8)) : Option (((List (List UInt8)) × Int) ⊕ (((List (List UInt8)) × Int) ⊕ ((List UInt8)))) :=
  Go.L.chk (Go.L.I64 (s14_716 + (1 : Int))) (some (Sum.inl (l750, (s14_716 + (1 : Int)))))
noncomputable def ref4_Through_bl16 (a0 : List UInt8) (l715 : List (List UInt8)) (s10_413 : Int) (s14_716 : Int) : (List (List UInt8)) × Int → Option (((List (List UInt8)) × Int) ⊕ (((List (List UInt8)) × Int) ⊕ (((List (List UInt8)) × Int) ⊕ ((List UInt8))))) := fun ⟨l780, s16_781⟩ =>
  if (bif decide (s16_781 ≤ (a0.length : Int)) then !decide (s14_716 = s10_413) else false) then Go.L.chk (0 ≤ s14_716 ∧ s14_716 < (l780.length : Int)) (Go.L.chk (0 ≤ s14_716 ∧ s14_716 < (l780.length : Int)) (Go.L.chk (0 ≤ s16_781 ∧ s16_781 < ((l780.getD s14_716.toNat default).length : Int)) (Go.L.chk (0 ≤ s10_413 ∧ s10_413 < (l780.length : Int)) (Go.L.chk (0 ≤ s16_781 ∧ s16_781 < ((l780.getD s10_413.toNat default).length : Int)) (Go.L.chk (0 ≤ s16_781 ∧ s16_781 < ((l780.getD s14_716.toNat default).length : Int)) (Go.L.chk (Go.L.I64 (s16_781 + (1 : Int))) (some (Sum.inl ((l780.set s14_716.toNat ((l780.getD s14_716.toNat default).set s16_781.toNat ((l780.getD s14_716.toNat default).getD s16_781.toNat default ^^^ (M.gmul ((l715.getD s14_716.toNat default).getD s10_413.toNat default) ((l780.getD s10_413.toNat default).getD s16_781.toNat default))))), (s16_781 + (1 : Int))))))))))) else Option.map Sum.inr ((ref4_Through_k15 s14_716) l780)
noncomputable def ref4_Through_l16 (a0 : List UInt8) (l715 : List (List UInt8)) (s10_413 : Int) (s14_716 : Int) (s : (List (List UInt8)) × Int) : Option (((List (List UInt8)) × Int) ⊕ (((List (List UInt8)) × Int) ⊕ ((List UInt8)))) := Go.L.run (ref4_Through_bl16 a0 l715 s10_413 s14_716) s
noncomputable def ref4_Through_bl14 (a0 : List UInt8) (s10_413 : Int) : (List (List UInt8)) × Int → Option (((List (List UInt8)) × Int) ⊕ (((List (List UInt8)) × Int) ⊕ ((List UInt8)))) := fun ⟨l715, s14_716⟩ =>
  if s14_716 < (a0.length : Int) then Go.L.chk (0 ≤ s14_716 ∧ s14_716 < (l715.length : Int)) (Go.L.chk (0 ≤ s10_413 ∧ s10_413 < ((l715.getD s14_716.toNat default).length : Int)) ((ref4_Through_l16 a0 l715 s10_413 s14_716) (l715, (0 : Int)))) else Option.map Sum.inr ((ref4_Through_k8 s10_413) l715)
noncomputable def ref4_Through_l14 (a0 : List UInt8) (s10_413 : Int) (s : (List (List UInt8)) × Int) : Option (((List (List UInt8)) × Int) ⊕ ((List UInt8))) := Go.L.run (ref4_Through_bl14 a0 s10_413) s
noncomputable def ref4_Through_k12 (a0 : List UInt8) (s10_413 : Int) (l635 : List (List UInt8)) : Option (((List (List UInt8)) × Int) ⊕ ((List UInt8))) :=
  (ref4_Through_l14 a0 s10_413) (l635, (0 : Int))
noncomputable def ref4_Through_bl13 (a0 : List UInt8) (l588 : List (List UInt8)) (s10_413 : Int) : (List (List UInt8)) × Int → Option (((List (List UInt8)) × Int) ⊕ (((List (List UInt8)) × Int) ⊕ ((List UInt8)))) := fun ⟨l657, s13_658⟩ =>
  if s13_658 ≤ (a0.length : Int) then Go.L.chk (0 ≤ s10_413 ∧ s10_413 < (l657.length : Int)) (Go.L.chk (0 ≤ s10_413 ∧ s10_413 < (l657.length : Int)) (Go.L.chk (0 ≤ s13_658 ∧ s13_658 < ((l657.getD s10_413.toNat default).length : Int)) (Go.L.chk (0 ≤ s13_658 ∧ s13_658 < ((l657.getD s10_413.toNat default).length : Int)) (Go.L.chk (Go.L.I64 (s13_658 + (1 : Int))) (some (Sum.inl ((l657.set s10_413.toNat ((l657.getD s10_413.toNat default).set s13_658.toNat (M.gquo ((l657.getD s10_413.toNat default).getD s13_658.toNat default) ((l588.getD s10_413.toNat default).getD s10_413.toNat default)))), (s13_658 + (1 : Int))))))))) else Option.map Sum.inr ((ref4_Through_k12 a0 s10_413) l657)
noncomputable def ref4_Through_l13 (a0 : List UInt8) (l588 : List (List UInt8)) (s10_413 : Int) (s : (List (List UInt8)) × Int) : Option (((List (List UInt8)) × Int) ⊕ ((List UInt8))) := Go.L.run (ref4_Through_bl13 a0 l588 s10_413) s
noncomputable def ref4_Through_k11 (a0 : List UInt8) (s10_413 : Int) (l588 : List (List UInt8)) : Option (((List (List UInt8)) × Int) ⊕ ((List UInt8))) :=
  Go.L.chk (0 ≤ s10_413 ∧ s10_413 < (l588.length : Int)) (Go.L.chk (0 ≤ s10_413 ∧ s10_413 < ((l588.getD s10_413.toNat default).length : Int)) ((ref4_Through_l13 a0 l588 s10_413) (l588, (0 : Int))))
noncomputable def ref4_Through_k9 (a0 : List UInt8) (l412 : List (List UInt8)) (s10_413 : Int) (s11_536 : Int) : Option (((List (List UInt8)) × Int) ⊕ ((List UInt8))) :=
  if s11_536 = (a0.length : Int) then Option.map Sum.inr (some ([])) else Go.L.chk (0 ≤ s11_536 ∧ s11_536 < (l412.length : Int)) (Go.L.chk (0 ≤ s10_413 ∧ s10_413 < (l412.length : Int)) (Go.L.chk (0 ≤ s10_413 ∧ s10_413 < (l412.length : Int)) (Go.L.chk (0 ≤ s11_536 ∧ s11_536 < (l412.length : Int)) ((ref4_Through_k11 a0 s10_413) (Go.E.swp l412 (s10_413.toNat) (s11_536.toNat))))))
noncomputable def ref4_Through_bl10 (a0 : List UInt8) (l412 : List (List UInt8)) (s10_413 : Int) : Int → Option ((Int) ⊕ (((List (List UInt8)) × Int) ⊕ ((List UInt8)))) := fun s11_551 =>
  if s11_551 < (a0.length : Int) then Go.L.chk (0 ≤ s11_551 ∧ s11_551 < (l412.length : Int)) (Go.L.chk (0 ≤ s10_413 ∧ s10_413 < ((l412.getD s11_551.toNat default).length : Int)) (if (((l412.getD s11_551.toNat default).getD s10_413.toNat default).toNat : Int) = 0 then Go.L.chk (Go.L.I64 (s11_551 + (1 : Int))) (some (Sum.inl (s11_551 + (1 : Int)))) else Option.map Sum.inr ((ref4_Through_k9 a0 l412 s10_413) s11_551))) else Option.map Sum.inr ((ref4_Through_k9 a0 l412 s10_413) s11_551)
noncomputable def ref4_Through_l10 (a0 : List UInt8) (l412 : List (List UInt8)) (s10_413 : Int) (s : Int) : Option (((List (List UInt8)) × Int) ⊕ ((List UInt8))) := Go.L.run (ref4_Through_bl10 a0 l412 s10_413) s
noncomputable def ref4_Through_bl7 (a0 : List UInt8) : (List (List UInt8)) × Int → Option (((List (List UInt8)) × Int) ⊕ ((List UInt8))) := fun ⟨l412, s10_413⟩ =>
  if s10_413 < (a0.length : Int) then (ref4_Through_l10 a0 l412 s10_413) s10_413 else Option.map Sum.inr ((ref4_Through_k6 a0) l412)
noncomputable def ref4_Through_l7 (a0 : List UInt8) (s : (List (List UInt8)) × Int) : Option ((List UInt8)) := Go.L.run (ref4_Through_bl7 a0) s
noncomputable def ref4_Through_k1 (a0 : List UInt8) (l40 : List (List UInt8)) : Option ((List UInt8)) :=
  (ref4_Through_l7 a0) (l40, (0 : Int))
noncomputable def ref4_Through_bl2 (a0 : List UInt8) (a1 : List UInt8) : (List (List UInt8)) × Int → Option (((List (List UInt8)) × Int) ⊕ ((List UInt8))) := fun ⟨l79, s7_80⟩ =>
  if s7_80 < (a0.length : Int) then (ref4_Through_l5 a0 a1 l79 s7_80) ([(1 : UInt8)], (1 : Int)) else Option.map Sum.inr ((ref4_Through_k1 a0) l79)
noncomputable def ref4_Through_l2 (a0 : List UInt8) (a1 : List UInt8) (s : (List (List UInt8)) × Int) : Option ((List UInt8)) := Go.L.run (ref4_Through_bl2 a0 a1) s
noncomputable def ref4_Through (a0 : List UInt8) (a1 : List UInt8) : Option ((List UInt8)) :=
  (ref4_Through_l2 a0 a1) (([] : List (List UInt8)), (0 : Int))

set_option maxRecDepth 10000 in
theorem ref4_Through_ok (w : World) (H : PH) (hH : Le H (hp w)) {a0 : List UInt8} {a1 : List UInt8} {v0_0 : Value} {v1_0 : Value} (h0_0 : Vec .byte H v0_0 (a0)) (h1_0 : Vec .byte H v1_0 (a1)) {r : (List UInt8)} (h : ref4_Through a0 a1 = some r) :
    Ok Try.prog 45 [v0_0, v1_0] w (fun v w' => Ext w w' ∧ ∃ u0, v = u0 ∧ OwnH 5 .byte H w w' u0 (r)) := by
  refine Ok_enter (n := 181) [(0, v0_0), (1, v1_0)] Try.func45 rfl rfl rfl rfl rfl ?_
  have hL := Lcl.start w
  refine W_seqr ?_
  refine S_pu 1 rfl ?_
  refine S_seqnil ?_
  refine W_seqr ?_
  refine S_pu 1 rfl ?_
  refine S_v (r_len rfl Try.underlying22 h0_0) rfl ?_
  refine S_pu 1 rfl ?_
  refine S_seqnil ?_
  refine W_seqr ?_
  refine S_pu 1 rfl ?_
  obtain ⟨hL1, hle1⟩ := row_nil hL 22 1
  refine S_seqnil ?_
  refine W_cut (σ := (List (List UInt8)) × (List Value) × Value) (fun (⟨l40, vsl40, vl40⟩ : (List (List UInt8)) × (List Value) × Value) => [(5, .int .i64 (a0.length : Int)), (6, vl40)]) (fun (⟨l40, vsl40, vl40⟩ : (List (List UInt8)) × (List Value) × Value) wr => Lcl w ([.row (vl40) 22 1 (l40).length (nC Nb.b (l40) (vsl40))] ++ nT Nb.b 5 (l40) (vsl40)) wr ∧ (l40).length = (vsl40).length ∧ (ref4_Through_k1 a0) l40 = some r) ?_ ?_
  · refine W_seqr ?_
    refine S_pu 1 rfl ?_
    refine S_seqnil ?_
    refine W_block ?_
    obtain ⟨n81, h⟩ := Go.L.run_some h
    refine W_loop (σ := (List (List UInt8)) × Int × (List Value) × Value × Nat) (fun (⟨l79, s7_80, vsl79, vl79, n⟩ : (List (List UInt8)) × Int × (List Value) × Value × Nat) => [(0, v0_0), (1, v1_0), (5, .int .i64 (a0.length : Int)), (6, vl79), (7, .int .i64 s7_80)]) (fun (⟨l79, s7_80, vsl79, vl79, n⟩ : (List (List UInt8)) × Int × (List Value) × Value × Nat) wr => Lcl w ([.row (vl79) 22 1 (l79).length (nC Nb.b (l79) (vsl79))] ++ nT Nb.b 5 (l79) (vsl79)) wr ∧ (l79).length = (vsl79).length ∧ Go.L.itr (ref4_Through_bl2 a0 a1) n (l79, s7_80) = some r) (fun (⟨l79, s7_80, vsl79, vl79, n⟩ : (List (List UInt8)) × Int × (List Value) × Value × Nat) => n) (([] : List (List UInt8)), (0 : Int), ([] : List Value), .slice none 0 0, n81) (.cons rfl (.cons rfl (.cons rfl (.cons rfl (.cons rfl (Sub.nil _)))))) ⟨hL1, rfl, h⟩ ?_
    rintro ⟨l79, s7_80, vsl79, vl79, nn81⟩ wr81 ⟨hL81, hnl79, h⟩
    obtain ⟨n81, e81, rfl, h, hm81⟩ := Go.L.itr_some h
    refine W_seq ?_
    refine W_seqr ?_
    refine S_pu 3 rfl ?_
    refine S_seqnil ?_
    refine W_if rfl (fun hc83 => ?_) (fun hc83 => ?_)
    · replace h := Go.L.ite_p hc83 h
      refine W_skip ?_
      refine At_seq ?_
      refine W_cut (σ := (List (List UInt8)) × (List Value) × Value) (fun (⟨l115, vsl115, vl115⟩ : (List (List UInt8)) × (List Value) × Value) => [(0, v0_0), (1, v1_0), (5, .int .i64 (a0.length : Int)), (6, vl115), (7, .int .i64 s7_80)]) (fun (⟨l115, vsl115, vl115⟩ : (List (List UInt8)) × (List Value) × Value) wr => Lcl w ([.row (vl115) 22 1 (l115).length (nC Nb.b (l115) (vsl115))] ++ nT Nb.b 5 (l115) (vsl115)) wr ∧ (l115).length = (vsl115).length ∧ (ref4_Through_k3 s7_80) l115 = some e81) ?_ ?_
      · refine W_block ?_
        refine W_seqr ?_
        refine S_litO (r := .byte) (l := [(1 : UInt8)]) rfl (fun _ => bsl22_1 _ _) rfl (show 1 ≤ 9223372036854775807 by decide) hH hL81 (.c1 rfl .nil) ?_
        intro v118 w118 xs118 hL118 hle118 he118
        refine S_pu 1 rfl ?_
        refine S_seqnil ?_
        refine W_cut (σ := (List UInt8) × Value × (List Value)) (fun (⟨l139, vl139, xsl139⟩ : (List UInt8) × Value × (List Value)) => [(0, v0_0), (1, v1_0), (5, .int .i64 (a0.length : Int)), (6, vl79), (7, .int .i64 s7_80), (8, vl139)]) (fun (⟨l139, vl139, xsl139⟩ : (List UInt8) × Value × (List Value)) wr => Lcl w ([.row (vl139) 5 1 (l139).length (xsl139), .row (vl79) 22 1 (l79).length (nC Nb.b (l79) (vsl79))] ++ nT Nb.b 5 (l79) (vsl79)) wr ∧ Elems .byte (gz H w wr ([.row (vl139) 5 1 (l139).length (xsl139), .row (vl79) 22 1 (l79).length (nC Nb.b (l79) (vsl79))] ++ nT Nb.b 5 (l79) (vsl79))) (l139) (xsl139) ∧ (l79).length = (vsl79).length ∧ (ref4_Through_k4 a1 l79 s7_80) l139 = some e81) ?_ ?_
        · refine W_seqr ?_
          refine S_pu 1 rfl ?_
          refine S_seqnil ?_
          refine W_block ?_
          obtain ⟨n162, h⟩ := Go.L.run_some h
          refine W_loop (σ := (List UInt8) × Int × Value × (List Value) × Nat) (fun (⟨l160, s9_161, vl160, xsl160, n⟩ : (List UInt8) × Int × Value × (List Value) × Nat) => [(0, v0_0), (1, v1_0), (5, .int .i64 (a0.length : Int)), (6, vl79), (7, .int .i64 s7_80), (8, vl160), (9, .int .i64 s9_161)]) (fun (⟨l160, s9_161, vl160, xsl160, n⟩ : (List UInt8) × Int × Value × (List Value) × Nat) wr => Lcl w ([.row (vl160) 5 1 (l160).length (xsl160), .row (vl79) 22 1 (l79).length (nC Nb.b (l79) (vsl79))] ++ nT Nb.b 5 (l79) (vsl79)) wr ∧ Elems .byte (gz H w wr ([.row (vl160) 5 1 (l160).length (xsl160), .row (vl79) 22 1 (l79).length (nC Nb.b (l79) (vsl79))] ++ nT Nb.b 5 (l79) (vsl79))) (l160) (xsl160) ∧ (l79).length = (vsl79).length ∧ Go.L.itr (ref4_Through_bl5 a0 a1 l79 s7_80) n (l160, s9_161) = some e81) (fun (⟨l160, s9_161, vl160, xsl160, n⟩ : (List UInt8) × Int × Value × (List Value) × Nat) => n) ([(1 : UInt8)], (1 : Int), v118, xs118, n162) (.cons rfl (.cons rfl (.cons rfl (.cons rfl (.cons rfl (.cons rfl (.cons rfl (Sub.nil _)))))))) ⟨hL118, he118, hnl79, h⟩ ?_
          rintro ⟨l160, s9_161, vl160, xsl160, nn162⟩ wr162 ⟨hL162, hel160, hnl79, h⟩
          obtain ⟨n162, e162, rfl, h, hm162⟩ := Go.L.itr_some h
          refine W_seq ?_
          refine W_seqr ?_
          refine S_pu 3 rfl ?_
          refine S_seqnil ?_
          refine W_if rfl (fun hc164 => ?_) (fun hc164 => ?_)
          · replace h := Go.L.ite_p hc164 h
            refine W_skip ?_
            refine At_seq ?_
            refine W_seq ?_
            refine W_block ?_
            refine W_regd (.q 0 (.q 1 (.q 2 (.q 3 (.q 4 (.q 5 (.q 6 (.q 7 (.q 8 (.q 9 (.q 10 (.h 11 (.tail 12))))))))))))) mixed (by kernel_rfl) (fun w166 hx166 => ?_)
            have hL167 := hL162.call hx166
            have hle167 := fz_ext hL162 hx166
            replace hel160 := hel160.mono (gz_mono hH hle167)
            refine D_pu 3 rfl ?_
            obtain ⟨hk168, h⟩ := Go.L.chk_some h
            refine D_v (r_ar64 rfl rfl rfl hk168) rfl rfl ?_
            obtain ⟨hk170, h⟩ := Go.L.chk_some h
            refine D_index rfl rfl rfl Try.underlying22 zr5 (hL167.vecN hH (i := 0) rfl hel160) ((s9_161 - (1 : Int)).toNat) (Int.toNat_of_nonneg hk170.1).symm (idx_lt hk170) rfl ?_
            rintro p169 _ rfl hp169
            refine D_v (r_load1 rfl Try.underlying5 rfl hp169 (Le.refl _)) rfl rfl ?_
            refine D_pu 2 rfl ?_
            obtain ⟨hk172, h⟩ := Go.L.chk_some h
            refine D_index rfl rfl rfl Try.underlying22 zr5 h0_0 s7_80.toNat (Int.toNat_of_nonneg hk172.1).symm (idx_lt hk172) rfl ?_
            rintro p171 _ rfl hp171
            refine D_v (r_load1 rfl Try.underlying5 rfl hp171 (hH.trans hL167.arg)) rfl rfl ?_
            refine D_call rfl rfl rfl (fun w173 hx173 => times_l _ _ (Le.refl _) ) ?_
            refine D_litE (r := .byte) (l := [(M.gmul (l160.getD ((s9_161 - (1 : Int)).toNat) default) (a0.getD s7_80.toNat default))]) rfl rfl (fun _ => bsl22_1 _ _) rfl (show 1 ≤ 9223372036854775807 by decide) hH hL167 (.c1 rfl .nil) ?_
            intro v174 w174 hx174 hL174 hle174 hv174
            replace hel160 := hel160.mono (gz_mono hH hle174)
            refine D_tail (fun w175 hx175 => ?_)
            have hL176 := hL174.call hx175
            have hle176 := fz_ext hL174 hx175
            replace hel160 := hel160.mono (gz_mono hH hle176)
            replace hv174 := hv174.mono (gz_mono hH hle176)
            obtain ⟨hk178, h⟩ := Go.L.chk_some h
            refine S_appE (r := .byte) (l := l160) (m := [(M.gmul (l160.getD ((s9_161 - (1 : Int)).toNat) default) (a0.getD s7_80.toNat default))]) 0 rfl rfl Try.underlying22 zr5 rfl (by decide) rfl hH hL176 rfl hel160 hv174 hk178 ?_
            intro v177 w177 xs177 hL177 hle177 he177
            replace hv174 := hv174.mono (gz_mono hH hle177)
            refine S_pu 1 rfl ?_
            refine S_nil ?_
            refine At_block ?_
            refine At_seq ?_
            refine W_region ?_
            refine S_pu 1 rfl ?_
            obtain ⟨hk179, h⟩ := Go.L.chk_some h
            refine S_v (r_ar64 rfl rfl rfl hk179) rfl ?_
            refine S_pu 1 rfl ?_
            refine S_nil ?_
            have h := Go.L.Nxt.again h hm162
            refine At_round ((l160 ++ [(M.gmul (l160.getD ((s9_161 - (1 : Int)).toNat) default) (a0.getD s7_80.toNat default))]), (s9_161 + (1 : Int)), v177, xs177, n162) (.cons rfl (.cons rfl (.cons rfl (.cons rfl (.cons rfl (.cons rfl (.cons rfl (Sub.nil _)))))))) ⟨hL177, he177, hnl79, h⟩ (Nat.lt_succ_self _)
          · replace h := Go.L.ite_n hc164 h
            refine W_exit ?_
            refine At_seq_exit ?_
            refine At_loop_exit ?_
            replace h := Go.L.Nxt.out h hm162
            refine At_exit ?_
            refine At_cut (l160, vl160, xsl160) (.cons rfl (.cons rfl (.cons rfl (.cons rfl (.cons rfl (.cons rfl (Sub.nil _))))))) ⟨hL162, hel160, hnl79, h⟩
        · rintro ⟨l139, vl139, xsl139⟩ wr140 ⟨hL140, hel139, hnl79, h⟩
          refine W_region ?_
          refine S_pu 4 rfl ?_
          obtain ⟨hk183, h⟩ := Go.L.chk_some h
          refine S_index rfl rfl Try.underlying22 zr5 h1_0 s7_80.toNat (Int.toNat_of_nonneg hk183.1).symm (idx_lt hk183) rfl ?_
          rintro p182 _ rfl hp182
          refine S_v (r_load1 rfl Try.underlying5 rfl hp182 (hH.trans hL140.arg)) rfl ?_
          refine S_litE (r := .byte) (l := [a1.getD s7_80.toNat default]) rfl (fun _ => bsl22_1 _ _) rfl (show 1 ≤ 9223372036854775807 by decide) hH hL140 (.c1 rfl .nil) ?_
          intro v184 w184 hx184 hL184 hle184 hv184
          replace hel139 := hel139.mono (gz_mono hH hle184)
          obtain ⟨hk186, h⟩ := Go.L.chk_some h
          refine S_appE (r := .byte) (l := l139) (m := [a1.getD s7_80.toNat default]) 0 rfl rfl Try.underlying22 zr5 rfl (by decide) rfl hH hL184 rfl hel139 hv184 hk186 ?_
          intro v185 w185 xs185 hL185 hle185 he185
          replace hv184 := hv184.mono (gz_mono hH hle185)
          obtain ⟨hk188, h⟩ := Go.L.chk_some h
          refine S_pushQ (N := Nb.b) (e := 5) (l := l79) (vs := vsl79) [.row (v185) 5 1 ((l139 ++ [a1.getD s7_80.toNat default])).length (xs185), .row (vl79) 22 1 (l79).length (nC Nb.b (l79) (vsl79))] (fun v' => [.row (v') 22 1 ((l79 ++ [(l139 ++ [a1.getD s7_80.toNat default])])).length (nC Nb.b ((l79 ++ [(l139 ++ [a1.getD s7_80.toNat default])])) ((vsl79 ++ [v185])))]) 1 0 ((l139 ++ [a1.getD s7_80.toNat default])) rfl (fun _ => bsl41_1 _ (row_one (hL185.at (i := 0) rfl)) _) rfl rfl (fun _ => rfl) Try.underlying41 zr22 rfl rfl hL185 hnl79 rfl rfl (by decide) he185 hk188 (fun _ => rfl) ?_
          intro u187 v187 w187 hn187 hL187 hle187
          replace hv184 := hv184.mono (gz_mono hH hle187)
          refine S_pu 1 rfl ?_
          refine S_nil ?_
          refine At_block ?_
          refine At_cut ((l79 ++ [(l139 ++ [a1.getD s7_80.toNat default])]), (vsl79 ++ [v185]), v187) (.cons rfl (.cons rfl (.cons rfl (.cons rfl (.cons rfl (Sub.nil _)))))) ⟨hL187, hn187, h⟩
      · rintro ⟨l115, vsl115, vl115⟩ wr116 ⟨hL116, hnl115, h⟩
        refine W_region ?_
        refine S_pu 1 rfl ?_
        obtain ⟨hk190, h⟩ := Go.L.chk_some h
        refine S_v (r_ar64 rfl rfl rfl hk190) rfl ?_
        refine S_pu 1 rfl ?_
        refine S_nil ?_
        have h := Go.L.Nxt.again h hm81
        refine At_round (l115, (s7_80 + (1 : Int)), vsl115, vl115, n81) (.cons rfl (.cons rfl (.cons rfl (.cons rfl (.cons rfl (Sub.nil _)))))) ⟨hL116, hnl115, h⟩ (Nat.lt_succ_self _)
    · replace h := Go.L.ite_n hc83 h
      refine W_exit ?_
      refine At_seq_exit ?_
      refine At_loop_exit ?_
      replace h := Go.L.Nxt.out h hm81
      refine At_exit ?_
      refine At_cut (l79, vsl79, vl79) (.cons rfl (.cons rfl (Sub.nil _))) ⟨hL81, hnl79, h⟩
  · rintro ⟨l40, vsl40, vl40⟩ wr41 ⟨hL41, hnl40, h⟩
    refine W_cut (σ := (List (List UInt8)) × (List Value)) (fun (⟨l302, vsl302⟩ : (List (List UInt8)) × (List Value)) => [(5, .int .i64 (a0.length : Int)), (6, vl40)]) (fun (⟨l302, vsl302⟩ : (List (List UInt8)) × (List Value)) wr => Lcl w ([.row (vl40) 22 1 (l302).length (nC Nb.b (l302) (vsl302))] ++ nT Nb.b 5 (l302) (vsl302)) wr ∧ (l302).length = (vsl302).length ∧ (ref4_Through_k6 a0) l302 = some r) ?_ ?_
    · refine W_seqr ?_
      refine S_pu 1 rfl ?_
      refine S_seqnil ?_
      refine W_block ?_
      obtain ⟨n414, h⟩ := Go.L.run_some h
      refine W_loop (σ := (List (List UInt8)) × Int × (List Value) × Nat) (fun (⟨l412, s10_413, vsl412, n⟩ : (List (List UInt8)) × Int × (List Value) × Nat) => [(5, .int .i64 (a0.length : Int)), (6, vl40), (10, .int .i64 s10_413)]) (fun (⟨l412, s10_413, vsl412, n⟩ : (List (List UInt8)) × Int × (List Value) × Nat) wr => Lcl w ([.row (vl40) 22 1 (l412).length (nC Nb.b (l412) (vsl412))] ++ nT Nb.b 5 (l412) (vsl412)) wr ∧ (l412).length = (vsl412).length ∧ Go.L.itr (ref4_Through_bl7 a0) n (l412, s10_413) = some r) (fun (⟨l412, s10_413, vsl412, n⟩ : (List (List UInt8)) × Int × (List Value) × Nat) => n) (l40, (0 : Int), vsl40, n414) (.cons rfl (.cons rfl (.cons rfl (Sub.nil _)))) ⟨hL41, hnl40, h⟩ ?_
      rintro ⟨l412, s10_413, vsl412, nn414⟩ wr414 ⟨hL414, hnl412, h⟩
      obtain ⟨n414, e414, rfl, h, hm414⟩ := Go.L.itr_some h
      refine W_seq ?_
      refine W_seqr ?_
      refine S_pu 3 rfl ?_
      refine S_seqnil ?_
      refine W_if rfl (fun hc416 => ?_) (fun hc416 => ?_)
      · replace h := Go.L.ite_p hc416 h
        refine W_skip ?_
        refine At_seq ?_
        refine W_cut (σ := (List (List UInt8)) × (List Value)) (fun (⟨l519, vsl519⟩ : (List (List UInt8)) × (List Value)) => [(5, .int .i64 (a0.length : Int)), (6, vl40), (10, .int .i64 s10_413)]) (fun (⟨l519, vsl519⟩ : (List (List UInt8)) × (List Value)) wr => Lcl w ([.row (vl40) 22 1 (l519).length (nC Nb.b (l519) (vsl519))] ++ nT Nb.b 5 (l519) (vsl519)) wr ∧ (l519).length = (vsl519).length ∧ (ref4_Through_k8 s10_413) l519 = some e414) ?_ ?_
        · refine W_block ?_
          refine W_seqr ?_
          refine S_pu 2 rfl ?_
          refine S_seqnil ?_
          refine W_cut (σ := Int) (fun (s11_536 : Int) => [(5, .int .i64 (a0.length : Int)), (6, vl40), (10, .int .i64 s10_413), (11, .int .i64 s11_536)]) (fun (s11_536 : Int) wr => Lcl w ([.row (vl40) 22 1 (l412).length (nC Nb.b (l412) (vsl412))] ++ nT Nb.b 5 (l412) (vsl412)) wr ∧ (l412).length = (vsl412).length ∧ (ref4_Through_k9 a0 l412 s10_413) s11_536 = some e414) ?_ ?_
          · refine W_block ?_
            obtain ⟨n552, h⟩ := Go.L.run_some h
            refine W_loop (σ := Int × Nat) (fun (⟨s11_551, n⟩ : Int × Nat) => [(5, .int .i64 (a0.length : Int)), (6, vl40), (10, .int .i64 s10_413), (11, .int .i64 s11_551)]) (fun (⟨s11_551, n⟩ : Int × Nat) wr => Lcl w ([.row (vl40) 22 1 (l412).length (nC Nb.b (l412) (vsl412))] ++ nT Nb.b 5 (l412) (vsl412)) wr ∧ (l412).length = (vsl412).length ∧ Go.L.itr (ref4_Through_bl10 a0 l412 s10_413) n s11_551 = some e414) (fun (⟨s11_551, n⟩ : Int × Nat) => n) (s10_413, n552) (.cons rfl (.cons rfl (.cons rfl (.cons rfl (Sub.nil _))))) ⟨hL414, hnl412, h⟩ ?_
            rintro ⟨s11_551, nn552⟩ wr552 ⟨hL552, hnl412, h⟩
            obtain ⟨n552, e552, rfl, h, hm552⟩ := Go.L.itr_some h
            refine W_seq ?_
            refine W_seqr ?_
            refine S_pu 4 rfl ?_
            refine S_split (s := 64) rfl (fun hg554 => ?_) (fun hg554 => ?_)
            · replace h := Go.L.ite_p (of_decide_eq_true hg554) h
              refine S_guarded rfl rfl hg554 ?_
              refine S_v (RunsAt_pu rfl) rfl ?_
              refine S_guarded rfl rfl hg554 ?_
              refine S_v (RunsAt_pu rfl) rfl ?_
              refine S_guarded rfl rfl hg554 ?_
              obtain ⟨hk557, h⟩ := Go.L.chk_some h
              refine S_indexQ (N := Nb.b) (e := 5) (A := [.row (vl40) 22 1 (l412).length (nC Nb.b (l412) (vsl412))]) (l := l412) (vs := vsl412) 0 rfl rfl Try.underlying41 zr22 hL552 rfl hnl412 s11_551.toNat (Int.toNat_of_nonneg hk557.1).symm (idx_lt hk557) rfl ?_
              intro p556 (hp556 : PtrTo (hp wr552) p556 [(vsl412.getD s11_551.toNat default)])
              refine S_guarded rfl rfl hg554 ?_
              refine S_v (r_load1 rfl Try.underlying22 rfl hp556 (Le.refl _)) rfl ?_
              refine S_guarded rfl rfl hg554 ?_
              refine S_v (RunsAt_pu rfl) rfl ?_
              refine S_guarded rfl rfl hg554 ?_
              obtain ⟨hk559, h⟩ := Go.L.chk_some h
              refine S_index rfl rfl Try.underlying22 zr5 (nest_vec (N := Nb.b) (e := 5) (A := [.row (vl40) 22 1 (l412).length (nC Nb.b (l412) (vsl412))]) (l := l412) (vs := vsl412) hL552 hnl412 s11_551.toNat (idx_lt hk557)) s10_413.toNat (Int.toNat_of_nonneg hk559.1).symm (idx_lt hk559) rfl ?_
              rintro p558 _ rfl hp558
              refine S_guarded rfl rfl hg554 ?_
              refine S_v (r_load1 rfl Try.underlying5 rfl hp558 (Le.refl _)) rfl ?_
              refine S_guarded rfl rfl hg554 ?_
              refine S_v (RunsAt_pu rfl) rfl ?_
              refine S_v (r_pickT rfl hg554 rfl) rfl ?_
              refine S_seqnil ?_
              refine W_if rfl (fun hc560 => ?_) (fun hc560 => ?_)
              · replace h := Go.L.ite_p hc560 h
                refine W_skip ?_
                refine At_seq ?_
                refine W_block ?_
                refine W_region ?_
                refine S_pu 1 rfl ?_
                obtain ⟨hk562, h⟩ := Go.L.chk_some h
                refine S_v (r_ar64 rfl rfl rfl hk562) rfl ?_
                refine S_pu 1 rfl ?_
                refine S_nil ?_
                refine At_block ?_
                have h := Go.L.Nxt.again h hm552
                refine At_round ((s11_551 + (1 : Int)), n552) (.cons rfl (.cons rfl (.cons rfl (.cons rfl (Sub.nil _))))) ⟨hL552, hnl412, h⟩ (Nat.lt_succ_self _)
              · replace h := Go.L.ite_n hc560 h
                refine W_exit ?_
                refine At_seq_exit ?_
                refine At_loop_exit ?_
                replace h := Go.L.Nxt.out h hm552
                refine At_exit ?_
                refine At_cut s11_551 (.cons rfl (.cons rfl (.cons rfl (.cons rfl (Sub.nil _))))) ⟨hL552, hnl412, h⟩
            · replace h := Go.L.ite_n (of_decide_eq_false hg554) h
              refine S_unwanted rfl rfl hg554 rfl ?_
              refine S_unwanted rfl rfl hg554 rfl ?_
              refine S_unwanted rfl rfl hg554 rfl ?_
              refine S_unwanted rfl rfl hg554 rfl ?_
              refine S_unwanted rfl rfl hg554 rfl ?_
              refine S_unwanted rfl rfl hg554 rfl ?_
              refine S_unwanted rfl rfl hg554 rfl ?_
              refine S_unwanted rfl rfl hg554 rfl ?_
              refine S_v (r_pickF rfl hg554 rfl) rfl ?_
              refine S_seqnil ?_
              refine W_false rfl ?_
              refine W_exit ?_
              refine At_seq_exit ?_
              refine At_loop_exit ?_
              replace h := Go.L.Nxt.out h hm552
              refine At_exit ?_
              refine At_cut s11_551 (.cons rfl (.cons rfl (.cons rfl (.cons rfl (Sub.nil _))))) ⟨hL552, hnl412, h⟩
          · rintro s11_536 wr537 ⟨hL537, hnl412, h⟩
            refine W_seq ?_
            refine W_seqr ?_
            refine S_pu 3 rfl ?_
            refine S_seqnil ?_
            refine W_if rfl (fun hc566 => ?_) (fun hc566 => ?_)
            · replace h := Go.L.ite_p hc566 h
              refine W_seqr ?_
              refine S_pu 1 rfl ?_
              refine S_seqnil ?_
              refine W_ret ?_
              refine At_seq_ret ?_
              refine At_block_ret ?_
              refine At_cut_ret ?_
              refine At_loop_ret ?_
              replace h := Go.L.Nxt.out h hm414
              refine At_block_ret ?_
              refine At_cut_ret ?_
              obtain rfl := Option.some.inj h
              refine At_body rfl rfl ?_
              exact ⟨hL537.ext, _, rfl, OwnH.nil⟩
            · replace h := Go.L.ite_n hc566 h
              refine W_skip ?_
              refine At_seq ?_
              refine W_cut (σ := (List (List UInt8)) × (List Value)) (fun (⟨l588, vsl588⟩ : (List (List UInt8)) × (List Value)) => [(5, .int .i64 (a0.length : Int)), (6, vl40), (10, .int .i64 s10_413)]) (fun (⟨l588, vsl588⟩ : (List (List UInt8)) × (List Value)) wr => Lcl w ([.row (vl40) 22 1 (l588).length (nC Nb.b (l588) (vsl588))] ++ nT Nb.b 5 (l588) (vsl588)) wr ∧ (l588).length = (vsl588).length ∧ (ref4_Through_k11 a0 s10_413) l588 = some e414) ?_ ?_
              · refine W_naive mixed rfl (fun w591 hx591 => ?_)
                have hL592 := hL537.call hx591
                refine N_hoist 0 (np_cut (np_block (np_cut (np_loop (np_block (np_cut np_body)))))) (by kernel_rfl) rfl (fun _ => RunsAt_pu rfl) rfl ?_
                refine N_hoist 1 (np_cut (np_block (np_cut (np_loop (np_block (np_cut np_body)))))) (by kernel_rfl) rfl (fun _ => RunsAt_pu rfl) rfl ?_
                refine N_hoist 2 (np_cut (np_block (np_cut (np_loop (np_block (np_cut np_body)))))) (by kernel_rfl) rfl (fun _ => RunsAt_pu rfl) rfl ?_
                refine N_hoist 3 (np_cut (np_block (np_cut (np_loop (np_block (np_cut np_body)))))) (by kernel_rfl) rfl (fun _ => RunsAt_pu rfl) rfl ?_
                refine N_hoist 4 (np_cut (np_block (np_cut (np_loop (np_block (np_cut np_body)))))) (by kernel_rfl) rfl (fun _ => RunsAt_pu rfl) rfl ?_
                refine N_hoist 5 (np_cut (np_block (np_cut (np_loop (np_block (np_cut np_body)))))) (by kernel_rfl) rfl (fun _ => RunsAt_pu rfl) rfl ?_
                obtain ⟨hk594, h⟩ := Go.L.chk_some h
                refine N_indexQ (N := Nb.b) (e := 5) (A := [.row (vl40) 22 1 (l412).length (nC Nb.b (l412) (vsl412))]) (l := l412) (vs := vsl412) 6 0 (np_cut (np_block (np_cut (np_loop (np_block (np_cut np_body)))))) (by kernel_rfl) rfl rfl rfl Try.underlying41 zr22 hL592 rfl hnl412 s11_536.toNat (Int.toNat_of_nonneg hk594.1).symm (idx_lt hk594) rfl ?_
                intro p593 (hp593 : PtrTo (hp w591) p593 [(vsl412.getD s11_536.toNat default)])
                refine N_hoist 8 (np_cut (np_block (np_cut (np_loop (np_block (np_cut np_body)))))) (by kernel_rfl) rfl (fun _ => RunsAt_pu rfl) rfl ?_
                refine N_hoist 9 (np_cut (np_block (np_cut (np_loop (np_block (np_cut np_body)))))) (by kernel_rfl) rfl (fun _ => RunsAt_pu rfl) rfl ?_
                obtain ⟨hk596, h⟩ := Go.L.chk_some h
                refine N_indexQ (N := Nb.b) (e := 5) (A := [.row (vl40) 22 1 (l412).length (nC Nb.b (l412) (vsl412))]) (l := l412) (vs := vsl412) 10 0 (np_cut (np_block (np_cut (np_loop (np_block (np_cut np_body)))))) (by kernel_rfl) rfl rfl rfl Try.underlying41 zr22 hL592 rfl hnl412 s10_413.toNat (Int.toNat_of_nonneg hk596.1).symm (idx_lt hk596) rfl ?_
                intro p595 (hp595 : PtrTo (hp w591) p595 [(vsl412.getD s10_413.toNat default)])
                refine N2 (i := 7) (j := 11) (by kernel_rfl) rfl rfl ?_ ?_
                · refine S_v (r_load1 rfl Try.underlying22 rfl hp593 (Le.refl _)) rfl ?_
                  refine N_nil ?_
                  refine N1 (i := 11) (by kernel_rfl) rfl ?_
                  refine S_v (r_load1 rfl Try.underlying22 rfl hp595 (Le.refl _)) rfl ?_
                  refine N_nil ?_
                  obtain ⟨hk598, h⟩ := Go.L.chk_some h
                  refine N_indexR 12 0 (np_cut (np_block (np_cut (np_loop (np_block (np_cut np_body)))))) (by kernel_rfl) rfl rfl rfl Try.underlying41 zr22 hL592 rfl s10_413.toNat (Int.toNat_of_nonneg hk598.1).symm (idx_lt hk598) rfl ?_
                  intro p597 hp597
                  refine N1 (i := 13) (by kernel_rfl) rfl ?_
                  have ho599 := nest_one (N := Nb.b) (e := 5) (A := [.row (vl40) 22 1 (l412).length (nC Nb.b (l412) (vsl412))]) (l := l412) (vs := vsl412) hL592 hnl412 (s11_536.toNat) (idx_lt hk594)
                  have ho599' := nest_one (N := Nb.b) (e := 5) (A := [.row (vl40) 22 1 (l412).length (nC Nb.b (l412) (vsl412))]) (l := l412) (vs := vsl412) hL592 hnl412 (s10_413.toNat) (idx_lt hk598)
                  refine S_storeR (u := (vsl412.getD (s11_536.toNat) default)) 0 rfl rfl ho599 zr22 hL592 rfl hp597 (nb_lt hnl412 (idx_lt hk598)) ?_
                  intro w599 hL599 hle599
                  refine N_nil ?_
                  obtain ⟨hk601, h⟩ := Go.L.chk_some h
                  refine N_indexR 14 0 (np_cut (np_block (np_cut (np_loop (np_block (np_cut np_body)))))) (by kernel_rfl) rfl rfl rfl Try.underlying41 zr22 hL599 rfl s11_536.toNat (Int.toNat_of_nonneg hk601.1).symm (idx_lt hk601) rfl ?_
                  intro p600 hp600
                  refine N1 (i := 15) (by kernel_rfl) rfl ?_
                  refine S_storeR (u := (vsl412.getD (s10_413.toNat) default)) 0 rfl rfl ho599' zr22 hL599 rfl hp600 (nb_lt' hnl412 (idx_lt hk601)) ?_
                  intro w602 hL602 hle602
                  obtain ⟨hn603, hL603, hle603⟩ := nest_swap (e := 5) (w := w602) (l := l412) (vs := vsl412) (c := s10_413.toNat) (p := s11_536.toNat) (fun zn zx => [.row (vl40) 22 1 zn zx]) hnl412 (idx_lt hk598) (idx_lt hk594) hL602
                  refine N_nil ?_
                  refine N_end (by kernel_rfl) ?_
                  refine At_cut ((Go.E.swp l412 (s10_413.toNat) (s11_536.toNat)), (Go.E.swp vsl412 (s10_413.toNat) (s11_536.toNat))) (.cons rfl (.cons rfl (.cons rfl (Sub.nil _)))) ⟨hL603, hn603, h⟩
                · obtain ⟨hk598, h⟩ := Go.L.chk_some h
                  obtain ⟨hk601, h⟩ := Go.L.chk_some h
                  refine S_v (r_load1 rfl Try.underlying22 rfl hp595 (Le.refl _)) rfl ?_
                  refine N_nil ?_
                  refine N1 (i := 7) (by kernel_rfl) rfl ?_
                  refine S_v (r_load1 rfl Try.underlying22 rfl hp593 (Le.refl _)) rfl ?_
                  refine N_nil ?_
                  refine N_indexR 12 0 (np_cut (np_block (np_cut (np_loop (np_block (np_cut np_body)))))) (by kernel_rfl) rfl rfl rfl Try.underlying41 zr22 hL592 rfl s10_413.toNat (Int.toNat_of_nonneg hk598.1).symm (idx_lt hk598) rfl ?_
                  intro p604 hp604
                  refine N1 (i := 13) (by kernel_rfl) rfl ?_
                  have ho605 := nest_one (N := Nb.b) (e := 5) (A := [.row (vl40) 22 1 (l412).length (nC Nb.b (l412) (vsl412))]) (l := l412) (vs := vsl412) hL592 hnl412 (s11_536.toNat) (idx_lt hk594)
                  have ho605' := nest_one (N := Nb.b) (e := 5) (A := [.row (vl40) 22 1 (l412).length (nC Nb.b (l412) (vsl412))]) (l := l412) (vs := vsl412) hL592 hnl412 (s10_413.toNat) (idx_lt hk598)
                  refine S_storeR (u := (vsl412.getD (s11_536.toNat) default)) 0 rfl rfl ho605 zr22 hL592 rfl hp604 (nb_lt hnl412 (idx_lt hk598)) ?_
                  intro w605 hL605 hle605
                  refine N_nil ?_
                  refine N_indexR 14 0 (np_cut (np_block (np_cut (np_loop (np_block (np_cut np_body)))))) (by kernel_rfl) rfl rfl rfl Try.underlying41 zr22 hL605 rfl s11_536.toNat (Int.toNat_of_nonneg hk601.1).symm (idx_lt hk601) rfl ?_
                  intro p606 hp606
                  refine N1 (i := 15) (by kernel_rfl) rfl ?_
                  refine S_storeR (u := (vsl412.getD (s10_413.toNat) default)) 0 rfl rfl ho605' zr22 hL605 rfl hp606 (nb_lt' hnl412 (idx_lt hk601)) ?_
                  intro w607 hL607 hle607
                  obtain ⟨hn608, hL608, hle608⟩ := nest_swap (e := 5) (w := w607) (l := l412) (vs := vsl412) (c := s10_413.toNat) (p := s11_536.toNat) (fun zn zx => [.row (vl40) 22 1 zn zx]) hnl412 (idx_lt hk598) (idx_lt hk594) hL607
                  refine N_nil ?_
                  refine N_end (by kernel_rfl) ?_
                  refine At_cut ((Go.E.swp l412 (s10_413.toNat) (s11_536.toNat)), (Go.E.swp vsl412 (s10_413.toNat) (s11_536.toNat))) (.cons rfl (.cons rfl (.cons rfl (Sub.nil _)))) ⟨hL608, hn608, h⟩
              · rintro ⟨l588, vsl588⟩ wr589 ⟨hL589, hnl588, h⟩
                refine W_seqr ?_
                refine S_pu 2 rfl ?_
                obtain ⟨hk611, h⟩ := Go.L.chk_some h
                refine S_indexQ (N := Nb.b) (e := 5) (A := [.row (vl40) 22 1 (l588).length (nC Nb.b (l588) (vsl588))]) (l := l588) (vs := vsl588) 0 rfl rfl Try.underlying41 zr22 hL589 rfl hnl588 s10_413.toNat (Int.toNat_of_nonneg hk611.1).symm (idx_lt hk611) rfl ?_
                intro p610 (hp610 : PtrTo (hp wr589) p610 [(vsl588.getD s10_413.toNat default)])
                refine S_v (r_load1 rfl Try.underlying22 rfl hp610 (Le.refl _)) rfl ?_
                refine S_pu 1 rfl ?_
                obtain ⟨hk613, h⟩ := Go.L.chk_some h
                refine S_index rfl rfl Try.underlying22 zr5 (nest_vec (N := Nb.b) (e := 5) (A := [.row (vl40) 22 1 (l588).length (nC Nb.b (l588) (vsl588))]) (l := l588) (vs := vsl588) hL589 hnl588 s10_413.toNat (idx_lt hk611)) s10_413.toNat (Int.toNat_of_nonneg hk613.1).symm (idx_lt hk613) rfl ?_
                rintro p612 _ rfl hp612
                refine S_v (r_load1 rfl Try.underlying5 rfl hp612 (Le.refl _)) rfl ?_
                refine S_pu 1 rfl ?_
                refine S_seqnil ?_
                refine W_cut (σ := (List (List UInt8)) × (List Value)) (fun (⟨l635, vsl635⟩ : (List (List UInt8)) × (List Value)) => [(5, .int .i64 (a0.length : Int)), (6, vl40), (10, .int .i64 s10_413)]) (fun (⟨l635, vsl635⟩ : (List (List UInt8)) × (List Value)) wr => Lcl w ([.row (vl40) 22 1 (l635).length (nC Nb.b (l635) (vsl635))] ++ nT Nb.b 5 (l635) (vsl635)) wr ∧ (l635).length = (vsl635).length ∧ (ref4_Through_k12 a0 s10_413) l635 = some e414) ?_ ?_
                · refine W_seqr ?_
                  refine S_pu 1 rfl ?_
                  refine S_seqnil ?_
                  refine W_block ?_
                  obtain ⟨n659, h⟩ := Go.L.run_some h
                  refine W_loop (σ := (List (List UInt8)) × Int × (List Value) × Nat) (fun (⟨l657, s13_658, vsl657, n⟩ : (List (List UInt8)) × Int × (List Value) × Nat) => [(5, .int .i64 (a0.length : Int)), (6, vl40), (10, .int .i64 s10_413), (12, .int .u8 (((l588.getD s10_413.toNat default).getD s10_413.toNat default).toNat : Int)), (13, .int .i64 s13_658)]) (fun (⟨l657, s13_658, vsl657, n⟩ : (List (List UInt8)) × Int × (List Value) × Nat) wr => Lcl w ([.row (vl40) 22 1 (l657).length (nC Nb.b (l657) (vsl657))] ++ nT Nb.b 5 (l657) (vsl657)) wr ∧ (l657).length = (vsl657).length ∧ Go.L.itr (ref4_Through_bl13 a0 l588 s10_413) n (l657, s13_658) = some e414) (fun (⟨l657, s13_658, vsl657, n⟩ : (List (List UInt8)) × Int × (List Value) × Nat) => n) (l588, (0 : Int), vsl588, n659) (.cons rfl (.cons rfl (.cons rfl (.cons rfl (.cons rfl (Sub.nil _)))))) ⟨hL589, hnl588, h⟩ ?_
                  rintro ⟨l657, s13_658, vsl657, nn659⟩ wr659 ⟨hL659, hnl657, h⟩
                  obtain ⟨n659, e659, rfl, h, hm659⟩ := Go.L.itr_some h
                  refine W_seq ?_
                  refine W_seqr ?_
                  refine S_pu 3 rfl ?_
                  refine S_seqnil ?_
                  refine W_if rfl (fun hc661 => ?_) (fun hc661 => ?_)
                  · replace h := Go.L.ite_p hc661 h
                    refine W_skip ?_
                    refine At_seq ?_
                    refine W_seq ?_
                    refine W_block ?_
                    refine W_regd (.q 0 (.q 1 (.q 2 (.q 3 (.q 4 (.q 5 (.q 6 (.q 7 (.q 8 (.q 9 (.q 10 (.q 11 (.q 12 (.q 13 (.tail 14))))))))))))))) mixed (by kernel_rfl) (fun w663 hx663 => ?_)
                    have hL664 := hL659.call hx663
                    refine D_pu 2 rfl ?_
                    obtain ⟨hk666, h⟩ := Go.L.chk_some h
                    refine D_indexQ (N := Nb.b) (e := 5) (A := [.row (vl40) 22 1 (l657).length (nC Nb.b (l657) (vsl657))]) (l := l657) (vs := vsl657) 0 rfl rfl rfl Try.underlying41 zr22 hL664 rfl hnl657 s10_413.toNat (Int.toNat_of_nonneg hk666.1).symm (idx_lt hk666) rfl ?_
                    intro p665 (hp665 : PtrTo (hp w663) p665 [(vsl657.getD s10_413.toNat default)])
                    refine D_v (r_load1 rfl Try.underlying22 rfl hp665 (Le.refl _)) rfl rfl ?_
                    refine D_pu 3 rfl ?_
                    obtain ⟨hk668, h⟩ := Go.L.chk_some h
                    refine D_indexQ (N := Nb.b) (e := 5) (A := [.row (vl40) 22 1 (l657).length (nC Nb.b (l657) (vsl657))]) (l := l657) (vs := vsl657) 0 rfl rfl rfl Try.underlying41 zr22 hL664 rfl hnl657 s10_413.toNat (Int.toNat_of_nonneg hk668.1).symm (idx_lt hk668) rfl ?_
                    intro p667 (hp667 : PtrTo (hp w663) p667 [(vsl657.getD s10_413.toNat default)])
                    refine D_v (r_load1 rfl Try.underlying22 rfl hp667 (Le.refl _)) rfl rfl ?_
                    refine D_pu 1 rfl ?_
                    obtain ⟨hk670, h⟩ := Go.L.chk_some h
                    refine D_index rfl rfl rfl Try.underlying22 zr5 (nest_vec (N := Nb.b) (e := 5) (A := [.row (vl40) 22 1 (l657).length (nC Nb.b (l657) (vsl657))]) (l := l657) (vs := vsl657) hL664 hnl657 s10_413.toNat (idx_lt hk668)) s13_658.toNat (Int.toNat_of_nonneg hk670.1).symm (idx_lt hk670) rfl ?_
                    rintro p669 _ rfl hp669
                    refine D_v (r_load1 rfl Try.underlying5 rfl hp669 (Le.refl _)) rfl rfl ?_
                    refine D_pu 1 rfl ?_
                    refine D_call rfl rfl rfl (fun w671 hx671 => quo_l _ _ (Le.refl _) ) ?_
                    refine D_tail (fun w672 hx672 => ?_)
                    have hL673 := hL664.call hx672
                    obtain ⟨hk675, h⟩ := Go.L.chk_some h
                    refine S_indexI (N := Nb.b) (e := 5) (A := [.row (vl40) 22 1 (l657).length (nC Nb.b (l657) (vsl657))]) (l := l657) (vs := vsl657) s10_413.toNat rfl rfl Try.underlying22 zr5 hL673 hnl657 (idx_lt hk666) s13_658.toNat (Int.toNat_of_nonneg hk675.1).symm (idx_lt hk675) rfl ?_
                    intro p674 hp674
                    refine S_storeI (N := Nb.b) (e := 5) (l := l657) (vs := vsl657) (fun zl => [.row (vl40) 22 1 zl.length (nC Nb.b zl (vsl657))]) (m := s10_413.toNat) (j := s13_658.toNat) (z := (M.gquo ((l657.getD s10_413.toNat default).getD s13_658.toNat default) ((l588.getD s10_413.toNat default).getD s10_413.toNat default))) rfl rfl zr5 hL673 hnl657 (fun l' h1 h2 => by simp only [h1, h2]) (idx_lt hk666) hp674 (idx_lt hk675) ?_
                    intro w676 hn676 hL676 hle676
                    refine S_nil ?_
                    refine At_block ?_
                    refine At_seq ?_
                    refine W_region ?_
                    refine S_pu 1 rfl ?_
                    obtain ⟨hk677, h⟩ := Go.L.chk_some h
                    refine S_v (r_ar64 rfl rfl rfl hk677) rfl ?_
                    refine S_pu 1 rfl ?_
                    refine S_nil ?_
                    have h := Go.L.Nxt.again h hm659
                    refine At_round ((l657.set s10_413.toNat ((l657.getD s10_413.toNat default).set s13_658.toNat (M.gquo ((l657.getD s10_413.toNat default).getD s13_658.toNat default) ((l588.getD s10_413.toNat default).getD s10_413.toNat default)))), (s13_658 + (1 : Int)), vsl657, n659) (.cons rfl (.cons rfl (.cons rfl (.cons rfl (.cons rfl (Sub.nil _)))))) ⟨hL676, hn676, h⟩ (Nat.lt_succ_self _)
                  · replace h := Go.L.ite_n hc661 h
                    refine W_exit ?_
                    refine At_seq_exit ?_
                    refine At_loop_exit ?_
                    replace h := Go.L.Nxt.out h hm659
                    refine At_exit ?_
                    refine At_cut (l657, vsl657) (.cons rfl (.cons rfl (.cons rfl (Sub.nil _)))) ⟨hL659, hnl657, h⟩
                · rintro ⟨l635, vsl635⟩ wr636 ⟨hL636, hnl635, h⟩
                  refine W_seqr ?_
                  refine S_pu 1 rfl ?_
                  refine S_seqnil ?_
                  refine W_block ?_
                  obtain ⟨n717, h⟩ := Go.L.run_some h
                  refine W_loop (σ := (List (List UInt8)) × Int × (List Value) × Nat) (fun (⟨l715, s14_716, vsl715, n⟩ : (List (List UInt8)) × Int × (List Value) × Nat) => [(5, .int .i64 (a0.length : Int)), (6, vl40), (10, .int .i64 s10_413), (14, .int .i64 s14_716)]) (fun (⟨l715, s14_716, vsl715, n⟩ : (List (List UInt8)) × Int × (List Value) × Nat) wr => Lcl w ([.row (vl40) 22 1 (l715).length (nC Nb.b (l715) (vsl715))] ++ nT Nb.b 5 (l715) (vsl715)) wr ∧ (l715).length = (vsl715).length ∧ Go.L.itr (ref4_Through_bl14 a0 s10_413) n (l715, s14_716) = some e414) (fun (⟨l715, s14_716, vsl715, n⟩ : (List (List UInt8)) × Int × (List Value) × Nat) => n) (l635, (0 : Int), vsl635, n717) (.cons rfl (.cons rfl (.cons rfl (.cons rfl (Sub.nil _))))) ⟨hL636, hnl635, h⟩ ?_
                  rintro ⟨l715, s14_716, vsl715, nn717⟩ wr717 ⟨hL717, hnl715, h⟩
                  obtain ⟨n717, e717, rfl, h, hm717⟩ := Go.L.itr_some h
                  refine W_seq ?_
                  refine W_seqr ?_
                  refine S_pu 3 rfl ?_
                  refine S_seqnil ?_
                  refine W_if rfl (fun hc719 => ?_) (fun hc719 => ?_)
                  · replace h := Go.L.ite_p hc719 h
                    refine W_skip ?_
                    refine At_seq ?_
                    refine W_cut (σ := (List (List UInt8)) × (List Value)) (fun (⟨l750, vsl750⟩ : (List (List UInt8)) × (List Value)) => [(5, .int .i64 (a0.length : Int)), (6, vl40), (10, .int .i64 s10_413), (14, .int .i64 s14_716)]) (fun (⟨l750, vsl750⟩ : (List (List UInt8)) × (List Value)) wr => Lcl w ([.row (vl40) 22 1 (l750).length (nC Nb.b (l750) (vsl750))] ++ nT Nb.b 5 (l750) (vsl750)) wr ∧ (l750).length = (vsl750).length ∧ (ref4_Through_k15 s14_716) l750 = some e717) ?_ ?_
                    · refine W_block ?_
                      refine W_seqr ?_
                      refine S_pu 2 rfl ?_
                      obtain ⟨hk754, h⟩ := Go.L.chk_some h
                      refine S_indexQ (N := Nb.b) (e := 5) (A := [.row (vl40) 22 1 (l715).length (nC Nb.b (l715) (vsl715))]) (l := l715) (vs := vsl715) 0 rfl rfl Try.underlying41 zr22 hL717 rfl hnl715 s14_716.toNat (Int.toNat_of_nonneg hk754.1).symm (idx_lt hk754) rfl ?_
                      intro p753 (hp753 : PtrTo (hp wr717) p753 [(vsl715.getD s14_716.toNat default)])
                      refine S_v (r_load1 rfl Try.underlying22 rfl hp753 (Le.refl _)) rfl ?_
                      refine S_pu 1 rfl ?_
                      obtain ⟨hk756, h⟩ := Go.L.chk_some h
                      refine S_index rfl rfl Try.underlying22 zr5 (nest_vec (N := Nb.b) (e := 5) (A := [.row (vl40) 22 1 (l715).length (nC Nb.b (l715) (vsl715))]) (l := l715) (vs := vsl715) hL717 hnl715 s14_716.toNat (idx_lt hk754)) s10_413.toNat (Int.toNat_of_nonneg hk756.1).symm (idx_lt hk756) rfl ?_
                      rintro p755 _ rfl hp755
                      refine S_v (r_load1 rfl Try.underlying5 rfl hp755 (Le.refl _)) rfl ?_
                      refine S_pu 1 rfl ?_
                      refine S_seqnil ?_
                      refine W_seqr ?_
                      refine S_pu 1 rfl ?_
                      refine S_seqnil ?_
                      refine W_block ?_
                      obtain ⟨n782, h⟩ := Go.L.run_some h
                      refine W_loop (σ := (List (List UInt8)) × Int × (List Value) × Nat) (fun (⟨l780, s16_781, vsl780, n⟩ : (List (List UInt8)) × Int × (List Value) × Nat) => [(5, .int .i64 (a0.length : Int)), (6, vl40), (10, .int .i64 s10_413), (14, .int .i64 s14_716), (15, .int .u8 (((l715.getD s14_716.toNat default).getD s10_413.toNat default).toNat : Int)), (16, .int .i64 s16_781)]) (fun (⟨l780, s16_781, vsl780, n⟩ : (List (List UInt8)) × Int × (List Value) × Nat) wr => Lcl w ([.row (vl40) 22 1 (l780).length (nC Nb.b (l780) (vsl780))] ++ nT Nb.b 5 (l780) (vsl780)) wr ∧ (l780).length = (vsl780).length ∧ Go.L.itr (ref4_Through_bl16 a0 l715 s10_413 s14_716) n (l780, s16_781) = some e717) (fun (⟨l780, s16_781, vsl780, n⟩ : (List (List UInt8)) × Int × (List Value) × Nat) => n) (l715, (0 : Int), vsl715, n782) (.cons rfl (.cons rfl (.cons rfl (.cons rfl (.cons rfl (.cons rfl (Sub.nil _))))))) ⟨hL717, hnl715, h⟩ ?_
                      rintro ⟨l780, s16_781, vsl780, nn782⟩ wr782 ⟨hL782, hnl780, h⟩
                      obtain ⟨n782, e782, rfl, h, hm782⟩ := Go.L.itr_some h
                      refine W_seq ?_
                      refine W_seqr ?_
                      refine S_pu 4 rfl ?_
                      refine S_pickT 3 3 rfl rfl rfl rfl rfl rfl rfl ?_
                      refine S_seqnil ?_
                      refine W_cond rfl (fun hc784 => ?_) (fun hc784 => ?_)
                      · replace h := Go.L.ite_t hc784 h
                        refine W_skip ?_
                        refine At_seq ?_
                        refine W_seq ?_
                        refine W_block ?_
                        refine W_regd (.q 0 (.q 1 (.q 2 (.q 3 (.q 4 (.q 5 (.q 6 (.q 7 (.q 8 (.q 9 (.q 10 (.q 11 (.q 12 (.q 13 (.q 14 (.q 15 (.q 16 (.q 17 (.q 18 (.q 19 (.q 20 (.q 21 (.tail 22))))))))))))))))))))))) mixed (by kernel_rfl) (fun w786 hx786 => ?_)
                        have hL787 := hL782.call hx786
                        refine D_pu 2 rfl ?_
                        obtain ⟨hk789, h⟩ := Go.L.chk_some h
                        refine D_indexQ (N := Nb.b) (e := 5) (A := [.row (vl40) 22 1 (l780).length (nC Nb.b (l780) (vsl780))]) (l := l780) (vs := vsl780) 0 rfl rfl rfl Try.underlying41 zr22 hL787 rfl hnl780 s14_716.toNat (Int.toNat_of_nonneg hk789.1).symm (idx_lt hk789) rfl ?_
                        intro p788 (hp788 : PtrTo (hp w786) p788 [(vsl780.getD s14_716.toNat default)])
                        refine D_v (r_load1 rfl Try.underlying22 rfl hp788 (Le.refl _)) rfl rfl ?_
                        refine D_pu 3 rfl ?_
                        obtain ⟨hk791, h⟩ := Go.L.chk_some h
                        refine D_indexQ (N := Nb.b) (e := 5) (A := [.row (vl40) 22 1 (l780).length (nC Nb.b (l780) (vsl780))]) (l := l780) (vs := vsl780) 0 rfl rfl rfl Try.underlying41 zr22 hL787 rfl hnl780 s14_716.toNat (Int.toNat_of_nonneg hk791.1).symm (idx_lt hk791) rfl ?_
                        intro p790 (hp790 : PtrTo (hp w786) p790 [(vsl780.getD s14_716.toNat default)])
                        refine D_v (r_load1 rfl Try.underlying22 rfl hp790 (Le.refl _)) rfl rfl ?_
                        refine D_pu 1 rfl ?_
                        obtain ⟨hk793, h⟩ := Go.L.chk_some h
                        refine D_index rfl rfl rfl Try.underlying22 zr5 (nest_vec (N := Nb.b) (e := 5) (A := [.row (vl40) 22 1 (l780).length (nC Nb.b (l780) (vsl780))]) (l := l780) (vs := vsl780) hL787 hnl780 s14_716.toNat (idx_lt hk791)) s16_781.toNat (Int.toNat_of_nonneg hk793.1).symm (idx_lt hk793) rfl ?_
                        rintro p792 _ rfl hp792
                        refine D_v (r_load1 rfl Try.underlying5 rfl hp792 (Le.refl _)) rfl rfl ?_
                        refine D_pu 3 rfl ?_
                        obtain ⟨hk795, h⟩ := Go.L.chk_some h
                        refine D_indexQ (N := Nb.b) (e := 5) (A := [.row (vl40) 22 1 (l780).length (nC Nb.b (l780) (vsl780))]) (l := l780) (vs := vsl780) 0 rfl rfl rfl Try.underlying41 zr22 hL787 rfl hnl780 s10_413.toNat (Int.toNat_of_nonneg hk795.1).symm (idx_lt hk795) rfl ?_
                        intro p794 (hp794 : PtrTo (hp w786) p794 [(vsl780.getD s10_413.toNat default)])
                        refine D_v (r_load1 rfl Try.underlying22 rfl hp794 (Le.refl _)) rfl rfl ?_
                        refine D_pu 1 rfl ?_
                        obtain ⟨hk797, h⟩ := Go.L.chk_some h
                        refine D_index rfl rfl rfl Try.underlying22 zr5 (nest_vec (N := Nb.b) (e := 5) (A := [.row (vl40) 22 1 (l780).length (nC Nb.b (l780) (vsl780))]) (l := l780) (vs := vsl780) hL787 hnl780 s10_413.toNat (idx_lt hk795)) s16_781.toNat (Int.toNat_of_nonneg hk797.1).symm (idx_lt hk797) rfl ?_
                        rintro p796 _ rfl hp796
                        refine D_v (r_load1 rfl Try.underlying5 rfl hp796 (Le.refl _)) rfl rfl ?_
                        refine D_call rfl rfl rfl (fun w798 hx798 => times_l _ _ (Le.refl _) ) ?_
                        refine D_v (r_bit8 rfl rfl rfl) rfl rfl ?_
                        refine D_tail (fun w799 hx799 => ?_)
                        have hL800 := hL787.call hx799
                        obtain ⟨hk802, h⟩ := Go.L.chk_some h
                        refine S_indexI (N := Nb.b) (e := 5) (A := [.row (vl40) 22 1 (l780).length (nC Nb.b (l780) (vsl780))]) (l := l780) (vs := vsl780) s14_716.toNat rfl rfl Try.underlying22 zr5 hL800 hnl780 (idx_lt hk789) s16_781.toNat (Int.toNat_of_nonneg hk802.1).symm (idx_lt hk802) rfl ?_
                        intro p801 hp801
                        refine S_storeI (N := Nb.b) (e := 5) (l := l780) (vs := vsl780) (fun zl => [.row (vl40) 22 1 zl.length (nC Nb.b zl (vsl780))]) (m := s14_716.toNat) (j := s16_781.toNat) (z := ((l780.getD s14_716.toNat default).getD s16_781.toNat default ^^^ (M.gmul ((l715.getD s14_716.toNat default).getD s10_413.toNat default) ((l780.getD s10_413.toNat default).getD s16_781.toNat default)))) rfl rfl zr5 hL800 hnl780 (fun l' h1 h2 => by simp only [h1, h2]) (idx_lt hk789) hp801 (idx_lt hk802) ?_
                        intro w803 hn803 hL803 hle803
                        refine S_nil ?_
                        refine At_block ?_
                        refine At_seq ?_
                        refine W_region ?_
                        refine S_pu 1 rfl ?_
                        obtain ⟨hk804, h⟩ := Go.L.chk_some h
                        refine S_v (r_ar64 rfl rfl rfl hk804) rfl ?_
                        refine S_pu 1 rfl ?_
                        refine S_nil ?_
                        have h := Go.L.Nxt.again h hm782
                        refine At_round ((l780.set s14_716.toNat ((l780.getD s14_716.toNat default).set s16_781.toNat ((l780.getD s14_716.toNat default).getD s16_781.toNat default ^^^ (M.gmul ((l715.getD s14_716.toNat default).getD s10_413.toNat default) ((l780.getD s10_413.toNat default).getD s16_781.toNat default))))), (s16_781 + (1 : Int)), vsl780, n782) (.cons rfl (.cons rfl (.cons rfl (.cons rfl (.cons rfl (.cons rfl (Sub.nil _))))))) ⟨hL803, hn803, h⟩ (Nat.lt_succ_self _)
                      · replace h := Go.L.ite_f hc784 h
                        refine W_exit ?_
                        refine At_seq_exit ?_
                        refine At_loop_exit ?_
                        replace h := Go.L.Nxt.out h hm782
                        refine At_exit ?_
                        refine At_block ?_
                        refine At_cut (l780, vsl780) (.cons rfl (.cons rfl (.cons rfl (.cons rfl (Sub.nil _))))) ⟨hL782, hnl780, h⟩
                    · rintro ⟨l750, vsl750⟩ wr751 ⟨hL751, hnl750, h⟩
                      refine W_region ?_
                      refine S_pu 1 rfl ?_
                      obtain ⟨hk807, h⟩ := Go.L.chk_some h
                      refine S_v (r_ar64 rfl rfl rfl hk807) rfl ?_
                      refine S_pu 1 rfl ?_
                      refine S_nil ?_
                      have h := Go.L.Nxt.again h hm717
                      refine At_round (l750, (s14_716 + (1 : Int)), vsl750, n717) (.cons rfl (.cons rfl (.cons rfl (.cons rfl (Sub.nil _))))) ⟨hL751, hnl750, h⟩ (Nat.lt_succ_self _)
                  · replace h := Go.L.ite_n hc719 h
                    refine W_exit ?_
                    refine At_seq_exit ?_
                    refine At_loop_exit ?_
                    replace h := Go.L.Nxt.out h hm717
                    refine At_exit ?_
                    refine At_block ?_
                    refine At_cut (l715, vsl715) (.cons rfl (.cons rfl (.cons rfl (Sub.nil _)))) ⟨hL717, hnl715, h⟩
        · rintro ⟨l519, vsl519⟩ wr520 ⟨hL520, hnl519, h⟩
          refine W_region ?_
          refine S_pu 1 rfl ?_
          obtain ⟨hk810, h⟩ := Go.L.chk_some h
          refine S_v (r_ar64 rfl rfl rfl hk810) rfl ?_
          refine S_pu 1 rfl ?_
          refine S_nil ?_
          have h := Go.L.Nxt.again h hm414
          refine At_round (l519, (s10_413 + (1 : Int)), vsl519, n414) (.cons rfl (.cons rfl (.cons rfl (Sub.nil _)))) ⟨hL520, hnl519, h⟩ (Nat.lt_succ_self _)
      · replace h := Go.L.ite_n hc416 h
        refine W_exit ?_
        refine At_seq_exit ?_
        refine At_loop_exit ?_
        replace h := Go.L.Nxt.out h hm414
        refine At_exit ?_
        refine At_cut (l412, vsl412) (.cons rfl (.cons rfl (Sub.nil _))) ⟨hL414, hnl412, h⟩
    · rintro ⟨l302, vsl302⟩ wr303 ⟨hL303, hnl302, h⟩
      refine W_seqr ?_
      refine S_pu 1 rfl ?_
      obtain ⟨hL813, hle813, he813⟩ := row_nilE .byte H 5 hL303
      refine S_seqnil ?_
      refine W_cut (σ := (List UInt8) × Value × (List Value)) (fun (⟨l828, vl828, xsl828⟩ : (List UInt8) × Value × (List Value)) => [(17, vl828)]) (fun (⟨l828, vl828, xsl828⟩ : (List UInt8) × Value × (List Value)) wr => Lcl w ([.row (vl828) 5 1 (l828).length (xsl828), .row (vl40) 22 1 (l302).length (nC Nb.b (l302) (vsl302))] ++ nT Nb.b 5 (l302) (vsl302)) wr ∧ Elems .byte (gz H w wr ([.row (vl828) 5 1 (l828).length (xsl828), .row (vl40) 22 1 (l302).length (nC Nb.b (l302) (vsl302))] ++ nT Nb.b 5 (l302) (vsl302))) (l828) (xsl828) ∧ (l302).length = (vsl302).length ∧ ref4_Through_k17 l828 = some r) ?_ ?_
      · refine W_seqr ?_
        refine S_pu 1 rfl ?_
        refine S_seqnil ?_
        refine W_block ?_
        obtain ⟨n845, h⟩ := Go.L.run_some h
        refine W_loop (σ := (List UInt8) × Int × Value × (List Value) × Nat) (fun (⟨l843, s18_844, vl843, xsl843, n⟩ : (List UInt8) × Int × Value × (List Value) × Nat) => [(5, .int .i64 (a0.length : Int)), (6, vl40), (17, vl843), (18, .int .i64 s18_844)]) (fun (⟨l843, s18_844, vl843, xsl843, n⟩ : (List UInt8) × Int × Value × (List Value) × Nat) wr => Lcl w ([.row (vl843) 5 1 (l843).length (xsl843), .row (vl40) 22 1 (l302).length (nC Nb.b (l302) (vsl302))] ++ nT Nb.b 5 (l302) (vsl302)) wr ∧ Elems .byte (gz H w wr ([.row (vl843) 5 1 (l843).length (xsl843), .row (vl40) 22 1 (l302).length (nC Nb.b (l302) (vsl302))] ++ nT Nb.b 5 (l302) (vsl302))) (l843) (xsl843) ∧ (l302).length = (vsl302).length ∧ Go.L.itr (ref4_Through_bl18 a0 l302) n (l843, s18_844) = some r) (fun (⟨l843, s18_844, vl843, xsl843, n⟩ : (List UInt8) × Int × Value × (List Value) × Nat) => n) (([] : List UInt8), (0 : Int), .slice none 0 0, [], n845) (.cons rfl (.cons rfl (.cons rfl (.cons rfl (Sub.nil _))))) ⟨hL813, he813, hnl302, h⟩ ?_
        rintro ⟨l843, s18_844, vl843, xsl843, nn845⟩ wr845 ⟨hL845, hel843, hnl302, h⟩
        obtain ⟨n845, e845, rfl, h, hm845⟩ := Go.L.itr_some h
        refine W_seq ?_
        refine W_seqr ?_
        refine S_pu 3 rfl ?_
        refine S_seqnil ?_
        refine W_if rfl (fun hc847 => ?_) (fun hc847 => ?_)
        · replace h := Go.L.ite_p hc847 h
          refine W_skip ?_
          refine At_seq ?_
          refine W_seq ?_
          refine W_block ?_
          refine W_region ?_
          refine S_pu 3 rfl ?_
          obtain ⟨hk850, h⟩ := Go.L.chk_some h
          refine S_indexQ (N := Nb.b) (e := 5) (A := [.row (vl843) 5 1 (l843).length (xsl843), .row (vl40) 22 1 (l302).length (nC Nb.b (l302) (vsl302))]) (l := l302) (vs := vsl302) 1 rfl rfl Try.underlying41 zr22 hL845 rfl hnl302 s18_844.toNat (Int.toNat_of_nonneg hk850.1).symm (idx_lt hk850) rfl ?_
          intro p849 (hp849 : PtrTo (hp wr845) p849 [(vsl302.getD s18_844.toNat default)])
          refine S_v (r_load1 rfl Try.underlying22 rfl hp849 (Le.refl _)) rfl ?_
          refine S_pu 1 rfl ?_
          obtain ⟨hk852, h⟩ := Go.L.chk_some h
          refine S_index rfl rfl Try.underlying22 zr5 (nest_vec (N := Nb.b) (e := 5) (A := [.row (vl843) 5 1 (l843).length (xsl843), .row (vl40) 22 1 (l302).length (nC Nb.b (l302) (vsl302))]) (l := l302) (vs := vsl302) hL845 hnl302 s18_844.toNat (idx_lt hk850)) ((a0.length : Int).toNat) (Int.toNat_of_nonneg hk852.1).symm (idx_lt hk852) rfl ?_
          rintro p851 _ rfl hp851
          refine S_v (r_load1 rfl Try.underlying5 rfl hp851 (Le.refl _)) rfl ?_
          refine S_litE (r := .byte) (l := [(l302.getD s18_844.toNat default).getD ((a0.length : Int).toNat) default]) rfl (fun _ => bsl22_1 _ _) rfl (show 1 ≤ 9223372036854775807 by decide) hH hL845 (.c1 rfl .nil) ?_
          intro v853 w853 hx853 hL853 hle853 hv853
          replace hel843 := hel843.mono (gz_mono hH hle853)
          obtain ⟨hk855, h⟩ := Go.L.chk_some h
          refine S_appE (r := .byte) (l := l843) (m := [(l302.getD s18_844.toNat default).getD ((a0.length : Int).toNat) default]) 0 rfl rfl Try.underlying22 zr5 rfl (by decide) rfl hH hL853 rfl hel843 hv853 hk855 ?_
          intro v854 w854 xs854 hL854 hle854 he854
          replace hv853 := hv853.mono (gz_mono hH hle854)
          refine S_pu 1 rfl ?_
          refine S_nil ?_
          refine At_block ?_
          refine At_seq ?_
          refine W_region ?_
          refine S_pu 1 rfl ?_
          obtain ⟨hk856, h⟩ := Go.L.chk_some h
          refine S_v (r_ar64 rfl rfl rfl hk856) rfl ?_
          refine S_pu 1 rfl ?_
          refine S_nil ?_
          have h := Go.L.Nxt.again h hm845
          refine At_round ((l843 ++ [(l302.getD s18_844.toNat default).getD ((a0.length : Int).toNat) default]), (s18_844 + (1 : Int)), v854, xs854, n845) (.cons rfl (.cons rfl (.cons rfl (.cons rfl (Sub.nil _))))) ⟨hL854, he854, hnl302, h⟩ (Nat.lt_succ_self _)
        · replace h := Go.L.ite_n hc847 h
          refine W_exit ?_
          refine At_seq_exit ?_
          refine At_loop_exit ?_
          replace h := Go.L.Nxt.out h hm845
          refine At_exit ?_
          refine At_cut (l843, vl843, xsl843) (.cons rfl (Sub.nil _)) ⟨hL845, hel843, hnl302, h⟩
      · rintro ⟨l828, vl828, xsl828⟩ wr829 ⟨hL829, hel828, hnl302, h⟩
        refine W_seqr ?_
        refine S_pu 2 rfl ?_
        refine S_seqnil ?_
        refine W_ret ?_
        obtain rfl := Option.some.inj h
        refine At_body rfl rfl ?_
        exact ⟨hL829.ext, _, rfl, (hL829.ownH hH (i := 0) rfl hel828)⟩

noncomputable def ref4_Values_k1 (l15 : List UInt8) : Option ((List UInt8)) :=
  some (l15)
noncomputable def ref4_Values_bl2 (a0 : List (List UInt8)) (a1 : UInt8) : (List UInt8) × Int → Option (((List UInt8) × Int) ⊕ ((List UInt8))) := fun ⟨l29, s6_30⟩ =>
  if s6_30 < (a0.length : Int) then Go.L.chk (0 ≤ s6_30 ∧ s6_30 < (a0.length : Int)) (Go.L.chk (Go.E.Cap 1 (l29.length + ([(M.va (a0.getD s6_30.toNat default) a1)]).length)) (Go.L.chk (Go.L.I64 (s6_30 + (1 : Int))) (some (Sum.inl ((l29 ++ [(M.va (a0.getD s6_30.toNat default) a1)]), (s6_30 + (1 : Int))))))) else Option.map Sum.inr (ref4_Values_k1 l29)
noncomputable def ref4_Values_l2 (a0 : List (List UInt8)) (a1 : UInt8) (s : (List UInt8) × Int) : Option ((List UInt8)) := Go.L.run (ref4_Values_bl2 a0 a1) s
noncomputable def ref4_Values (a0 : List (List UInt8)) (a1 : UInt8) : Option ((List UInt8)) :=
  (ref4_Values_l2 a0 a1) (([] : List UInt8), (0 : Int))

set_option maxRecDepth 10000 in
theorem ref4_Values_ok (w : World) (H : PH) (hH : Le H (hp w)) {a0 : List (List UInt8)} {a1 : UInt8} {v0_0 : Value} (h0_0 : Vec (.vec .byte) H v0_0 (a0)) {r : (List UInt8)} (h : ref4_Values a0 a1 = some r) :
    Ok Try.prog 25 [v0_0, .int .u8 (a1.toNat : Int)] w (fun v w' => Ext w w' ∧ ∃ u0, v = u0 ∧ OwnH 5 .byte H w w' u0 (r)) := by
  refine Ok_enter (n := 23) [(0, v0_0), (1, .int .u8 (a1.toNat : Int))] Try.func25 rfl rfl rfl rfl rfl ?_
  have hL := Lcl.start w
  refine W_seqr ?_
  refine S_pu 1 rfl ?_
  refine S_seqnil ?_
  refine W_seqr ?_
  refine S_pu 1 rfl ?_
  obtain ⟨hL1, hle1, he1⟩ := row_nilE .byte H 5 hL
  refine S_seqnil ?_
  refine W_cut (σ := (List UInt8) × Value × (List Value)) (fun (⟨l15, vl15, xsl15⟩ : (List UInt8) × Value × (List Value)) => [(5, vl15)]) (fun (⟨l15, vl15, xsl15⟩ : (List UInt8) × Value × (List Value)) wr => Lcl w [.row (vl15) 5 1 (l15).length (xsl15)] wr ∧ Elems .byte (gz H w wr [.row (vl15) 5 1 (l15).length (xsl15)]) (l15) (xsl15) ∧ ref4_Values_k1 l15 = some r) ?_ ?_
  · refine W_seqr ?_
    refine S_pu 1 rfl ?_
    refine S_seqnil ?_
    refine W_block ?_
    obtain ⟨n31, h⟩ := Go.L.run_some h
    refine W_loop (σ := (List UInt8) × Int × Value × (List Value) × Nat) (fun (⟨l29, s6_30, vl29, xsl29, n⟩ : (List UInt8) × Int × Value × (List Value) × Nat) => [(0, v0_0), (1, .int .u8 (a1.toNat : Int)), (5, vl29), (6, .int .i64 s6_30)]) (fun (⟨l29, s6_30, vl29, xsl29, n⟩ : (List UInt8) × Int × Value × (List Value) × Nat) wr => Lcl w [.row (vl29) 5 1 (l29).length (xsl29)] wr ∧ Elems .byte (gz H w wr [.row (vl29) 5 1 (l29).length (xsl29)]) (l29) (xsl29) ∧ Go.L.itr (ref4_Values_bl2 a0 a1) n (l29, s6_30) = some r) (fun (⟨l29, s6_30, vl29, xsl29, n⟩ : (List UInt8) × Int × Value × (List Value) × Nat) => n) (([] : List UInt8), (0 : Int), .slice none 0 0, [], n31) (.cons rfl (.cons rfl (.cons rfl (.cons rfl (Sub.nil _))))) ⟨hL1, he1, h⟩ ?_
    rintro ⟨l29, s6_30, vl29, xsl29, nn31⟩ wr31 ⟨hL31, hel29, h⟩
    obtain ⟨n31, e31, rfl, h, hm31⟩ := Go.L.itr_some h
    refine W_seq ?_
    refine W_seqr ?_
    refine S_pu 2 rfl ?_
    refine S_v (r_len rfl Try.underlying41 h0_0) rfl ?_
    refine S_pu 1 rfl ?_
    refine S_seqnil ?_
    refine W_if rfl (fun hc33 => ?_) (fun hc33 => ?_)
    · replace h := Go.L.ite_p hc33 h
      refine W_skip ?_
      refine At_seq ?_
      refine W_seq ?_
      refine W_block ?_
      refine W_region ?_
      refine S_pu 3 rfl ?_
      obtain ⟨hk36, h⟩ := Go.L.chk_some h
      refine S_index rfl rfl Try.underlying41 zr22 h0_0 s6_30.toNat (Int.toNat_of_nonneg hk36.1).symm (idx_lt hk36) rfl ?_
      rintro p35 _ ⟨e35v0, rfl, e35h0⟩ hp35
      refine S_v (r_load1 rfl Try.underlying22 rfl hp35 (hH.trans hL31.arg)) rfl ?_
      refine S_pu 1 rfl ?_
      refine S_callL rfl rfl hL31 (valueat_l _ _ (gz_le hH hL31) (e35h0.mono (gz_left hH))) ?_
      rintro _ w37 rfl hx37 hL37 hle37
      replace hel29 := hel29.mono (gz_mono hH hle37)
      refine S_litE (r := .byte) (l := [(M.va (a0.getD s6_30.toNat default) a1)]) rfl (fun _ => bsl22_1 _ _) rfl (show 1 ≤ 9223372036854775807 by decide) hH hL37 (.c1 rfl .nil) ?_
      intro v38 w38 hx38 hL38 hle38 hv38
      replace hel29 := hel29.mono (gz_mono hH hle38)
      obtain ⟨hk40, h⟩ := Go.L.chk_some h
      refine S_appE (r := .byte) (l := l29) (m := [(M.va (a0.getD s6_30.toNat default) a1)]) 0 rfl rfl Try.underlying22 zr5 rfl (by decide) rfl hH hL38 rfl hel29 hv38 hk40 ?_
      intro v39 w39 xs39 hL39 hle39 he39
      replace hv38 := hv38.mono (gz_mono hH hle39)
      refine S_pu 1 rfl ?_
      refine S_nil ?_
      refine At_block ?_
      refine At_seq ?_
      refine W_region ?_
      refine S_pu 1 rfl ?_
      obtain ⟨hk41, h⟩ := Go.L.chk_some h
      refine S_v (r_ar64 rfl rfl rfl hk41) rfl ?_
      refine S_pu 1 rfl ?_
      refine S_nil ?_
      have h := Go.L.Nxt.again h hm31
      refine At_round ((l29 ++ [(M.va (a0.getD s6_30.toNat default) a1)]), (s6_30 + (1 : Int)), v39, xs39, n31) (.cons rfl (.cons rfl (.cons rfl (.cons rfl (Sub.nil _))))) ⟨hL39, he39, h⟩ (Nat.lt_succ_self _)
    · replace h := Go.L.ite_n hc33 h
      refine W_exit ?_
      refine At_seq_exit ?_
      refine At_loop_exit ?_
      replace h := Go.L.Nxt.out h hm31
      refine At_exit ?_
      refine At_cut (l29, vl29, xsl29) (.cons rfl (Sub.nil _)) ⟨hL31, hel29, h⟩
  · rintro ⟨l15, vl15, xsl15⟩ wr16 ⟨hL16, hel15, h⟩
    refine W_seqr ?_
    refine S_pu 2 rfl ?_
    refine S_seqnil ?_
    refine W_ret ?_
    obtain rfl := Option.some.inj h
    refine At_body rfl rfl ?_
    exact ⟨hL16.ext, _, rfl, (hL16.ownH hH (i := 0) rfl hel15)⟩

noncomputable def ref4_Polynomials_k3 (l82 : List (List UInt8)) : Option ((List (List UInt8))) :=
  some (l82)
noncomputable def ref4_Polynomials_k5 (s6_121 : Int) (l154 : List (List UInt8)) : Option (((List (List UInt8)) × Int) ⊕ ((List (List UInt8)))) :=
  Go.L.chk (Go.L.I64 (s6_121 + (1 : Int))) (some (Sum.inl (l154, (s6_121 + (1 : Int)))))
noncomputable def ref4_Polynomials_k6 (l120 : List (List UInt8)) (l15 : List UInt8) (s6_121 : Int) (l173 : List UInt8) : Option (((List (List UInt8)) × Int) ⊕ ((List (List UInt8)))) :=
  Option.bind (ref4_Through l15 l173) (fun x206 => Go.L.chk (Go.E.Cap 24 (l120.length + ([x206]).length)) ((ref4_Polynomials_k5 s6_121) (l120 ++ [x206])))
noncomputable def ref4_Polynomials_bl7 (a0 : List (Int × (List UInt8))) (l120 : List (List UInt8)) (l15 : List UInt8) (s6_121 : Int) : (List UInt8) × Int → Option (((List UInt8) × Int) ⊕ (((List (List UInt8)) × Int) ⊕ ((List (List UInt8))))) := fun ⟨l189, s8_190⟩ =>
  if s8_190 < (a0.length : Int) then Go.L.chk (0 ≤ s8_190 ∧ s8_190 < (a0.length : Int)) (Go.L.chk (0 ≤ s6_121 ∧ s6_121 < (((a0.getD s8_190.toNat default).2).length : Int)) (Go.L.chk (Go.E.Cap 1 (l189.length + ([((a0.getD s8_190.toNat default).2).getD s6_121.toNat default]).length)) (Go.L.chk (Go.L.I64 (s8_190 + (1 : Int))) (some (Sum.inl ((l189 ++ [((a0.getD s8_190.toNat default).2).getD s6_121.toNat default]), (s8_190 + (1 : Int)))))))) else Option.map Sum.inr ((ref4_Polynomials_k6 l120 l15 s6_121) l189)
noncomputable def ref4_Polynomials_l7 (a0 : List (Int × (List UInt8))) (l120 : List (List UInt8)) (l15 : List UInt8) (s6_121 : Int) (s : (List UInt8) × Int) : Option (((List (List UInt8)) × Int) ⊕ ((List (List UInt8)))) := Go.L.run (ref4_Polynomials_bl7 a0 l120 l15 s6_121) s
noncomputable def ref4_Polynomials_bl4 (a0 : List (Int × (List UInt8))) (l15 : List UInt8) : (List (List UInt8)) × Int → Option (((List (List UInt8)) × Int) ⊕ ((List (List UInt8)))) := fun ⟨l120, s6_121⟩ =>
  if (0 : Int) < (a0.length : Int) then Go.L.chk (0 ≤ (0 : Int) ∧ (0 : Int) < (a0.length : Int)) (if s6_121 < (((a0.getD ((0 : Int).toNat) default).2).length : Int) then (ref4_Polynomials_l7 a0 l120 l15 s6_121) (([] : List UInt8), (0 : Int)) else Option.map Sum.inr (ref4_Polynomials_k3 l120)) else Option.map Sum.inr (ref4_Polynomials_k3 l120)
noncomputable def ref4_Polynomials_l4 (a0 : List (Int × (List UInt8))) (l15 : List UInt8) (s : (List (List UInt8)) × Int) : Option ((List (List UInt8))) := Go.L.run (ref4_Polynomials_bl4 a0 l15) s
noncomputable def ref4_Polynomials_k1 (a0 : List (Int × (List UInt8))) (l15 : List UInt8) : Option ((List (List UInt8))) :=
  (ref4_Polynomials_l4 a0 l15) (([] : List (List UInt8)), (0 : Int))
noncomputable def ref4_Polynomials_bl2 (a0 : List (Int × (List UInt8))) : (List UInt8) × Int → Option (((List UInt8) × Int) ⊕ ((List (List UInt8)))) := fun ⟨l29, s4_30⟩ =>
  if s4_30 < (a0.length : Int) then Go.L.chk (0 ≤ s4_30 ∧ s4_30 < (a0.length : Int)) (Go.L.chk (Go.E.Cap 1 (l29.length + ([(Go.L.u8 ((a0.getD s4_30.toNat default).1))]).length)) (Go.L.chk (Go.L.I64 (s4_30 + (1 : Int))) (some (Sum.inl ((l29 ++ [(Go.L.u8 ((a0.getD s4_30.toNat default).1))]), (s4_30 + (1 : Int))))))) else Option.map Sum.inr ((ref4_Polynomials_k1 a0) l29)
noncomputable def ref4_Polynomials_l2 (a0 : List (Int × (List UInt8))) (s : (List UInt8) × Int) : Option ((List (List UInt8))) := Go.L.run (ref4_Polynomials_bl2 a0) s
noncomputable def ref4_Polynomials (a0 : List (Int × (List UInt8))) : Option ((List (List UInt8))) :=
  (ref4_Polynomials_l2 a0) (([] : List UInt8), (0 : Int))

set_option maxRecDepth 10000 in
theorem ref4_Polynomials_ok (w : World) (H : PH) (hH : Le H (hp w)) {a0 : List (Int × (List UInt8))} {v0_0 : Value} (h0_0 : Vec (.pair (.int .i64) (.vec .byte)) H v0_0 (a0)) {r : (List (List UInt8))} (h : ref4_Polynomials a0 = some r) :
    Ok Try.prog 21 [v0_0] w (fun v w' => Ext w w' ∧ ∃ u0, v = u0 ∧ OwnH 22 (.vec .byte) H w w' u0 (r)) := by
  refine Ok_enter (n := 62) [(0, v0_0)] Try.func21 rfl rfl rfl rfl rfl ?_
  have hL := Lcl.start w
  refine W_seqr ?_
  refine S_pu 1 rfl ?_
  refine S_seqnil ?_
  refine W_seqr ?_
  refine S_pu 1 rfl ?_
  obtain ⟨hL1, hle1, he1⟩ := row_nilE .byte H 5 hL
  refine S_seqnil ?_
  refine W_cut (σ := (List UInt8) × Value × (List Value)) (fun (⟨l15, vl15, xsl15⟩ : (List UInt8) × Value × (List Value)) => [(0, v0_0), (3, vl15)]) (fun (⟨l15, vl15, xsl15⟩ : (List UInt8) × Value × (List Value)) wr => Lcl w [.row (vl15) 5 1 (l15).length (xsl15)] wr ∧ Elems .byte (gz H w wr [.row (vl15) 5 1 (l15).length (xsl15)]) (l15) (xsl15) ∧ (ref4_Polynomials_k1 a0) l15 = some r) ?_ ?_
  · refine W_seqr ?_
    refine S_pu 1 rfl ?_
    refine S_seqnil ?_
    refine W_block ?_
    obtain ⟨n31, h⟩ := Go.L.run_some h
    refine W_loop (σ := (List UInt8) × Int × Value × (List Value) × Nat) (fun (⟨l29, s4_30, vl29, xsl29, n⟩ : (List UInt8) × Int × Value × (List Value) × Nat) => [(0, v0_0), (3, vl29), (4, .int .i64 s4_30)]) (fun (⟨l29, s4_30, vl29, xsl29, n⟩ : (List UInt8) × Int × Value × (List Value) × Nat) wr => Lcl w [.row (vl29) 5 1 (l29).length (xsl29)] wr ∧ Elems .byte (gz H w wr [.row (vl29) 5 1 (l29).length (xsl29)]) (l29) (xsl29) ∧ Go.L.itr (ref4_Polynomials_bl2 a0) n (l29, s4_30) = some r) (fun (⟨l29, s4_30, vl29, xsl29, n⟩ : (List UInt8) × Int × Value × (List Value) × Nat) => n) (([] : List UInt8), (0 : Int), .slice none 0 0, [], n31) (.cons rfl (.cons rfl (.cons rfl (Sub.nil _)))) ⟨hL1, he1, h⟩ ?_
    rintro ⟨l29, s4_30, vl29, xsl29, nn31⟩ wr31 ⟨hL31, hel29, h⟩
    obtain ⟨n31, e31, rfl, h, hm31⟩ := Go.L.itr_some h
    refine W_seq ?_
    refine W_seqr ?_
    refine S_pu 2 rfl ?_
    refine S_v (r_len rfl Try.underlying23 h0_0) rfl ?_
    refine S_pu 1 rfl ?_
    refine S_seqnil ?_
    refine W_if rfl (fun hc33 => ?_) (fun hc33 => ?_)
    · replace h := Go.L.ite_p hc33 h
      refine W_skip ?_
      refine At_seq ?_
      refine W_seq ?_
      refine W_block ?_
      refine W_region ?_
      refine S_pu 3 rfl ?_
      obtain ⟨hk36, h⟩ := Go.L.chk_some h
      refine S_index rfl rfl Try.underlying23 zr32 h0_0 s4_30.toNat (Int.toNat_of_nonneg hk36.1).symm (idx_lt hk36) rfl ?_
      rintro p35 _ ⟨_, _, rfl, rfl, ⟨e35v1, rfl, e35h1⟩⟩ hp35
      refine S_v (r_field rfl Try.underlying32 rfl zr3 (by decide)) rfl ?_
      have hp37 := hp35.add 0
      refine S_v (r_load1 rfl Try.underlying3 rfl hp37 (hH.trans hL31.arg)) rfl ?_
      refine S_v (r_conv Try.underlying3 Try.underlying5 rfl (conv_64_u8 _)) rfl ?_
      refine S_litE (r := .byte) (l := [(Go.L.u8 ((a0.getD s4_30.toNat default).1))]) rfl (fun _ => bsl22_1 _ _) rfl (show 1 ≤ 9223372036854775807 by decide) hH hL31 (.c1 rfl .nil) ?_
      intro v38 w38 hx38 hL38 hle38 hv38
      replace hel29 := hel29.mono (gz_mono hH hle38)
      obtain ⟨hk40, h⟩ := Go.L.chk_some h
      refine S_appE (r := .byte) (l := l29) (m := [(Go.L.u8 ((a0.getD s4_30.toNat default).1))]) 0 rfl rfl Try.underlying22 zr5 rfl (by decide) rfl hH hL38 rfl hel29 hv38 hk40 ?_
      intro v39 w39 xs39 hL39 hle39 he39
      replace hv38 := hv38.mono (gz_mono hH hle39)
      refine S_pu 1 rfl ?_
      refine S_nil ?_
      refine At_block ?_
      refine At_seq ?_
      refine W_region ?_
      refine S_pu 1 rfl ?_
      obtain ⟨hk41, h⟩ := Go.L.chk_some h
      refine S_v (r_ar64 rfl rfl rfl hk41) rfl ?_
      refine S_pu 1 rfl ?_
      refine S_nil ?_
      have h := Go.L.Nxt.again h hm31
      refine At_round ((l29 ++ [(Go.L.u8 ((a0.getD s4_30.toNat default).1))]), (s4_30 + (1 : Int)), v39, xs39, n31) (.cons rfl (.cons rfl (.cons rfl (Sub.nil _)))) ⟨hL39, he39, h⟩ (Nat.lt_succ_self _)
    · replace h := Go.L.ite_n hc33 h
      refine W_exit ?_
      refine At_seq_exit ?_
      refine At_loop_exit ?_
      replace h := Go.L.Nxt.out h hm31
      refine At_exit ?_
      refine At_cut (l29, vl29, xsl29) (.cons rfl (.cons rfl (Sub.nil _))) ⟨hL31, hel29, h⟩
  · rintro ⟨l15, vl15, xsl15⟩ wr16 ⟨hL16, hel15, h⟩
    refine W_seqr ?_
    refine S_pu 1 rfl ?_
    obtain ⟨hL44, hle44, he44⟩ := row_nilE (.vec .byte) H 22 hL16
    replace hel15 := hel15.mono (gz_mono hH hle44)
    refine S_seqnil ?_
    refine W_cut (σ := (List (List UInt8)) × Value × (List Value)) (fun (⟨l82, vl82, xsl82⟩ : (List (List UInt8)) × Value × (List Value)) => [(5, vl82)]) (fun (⟨l82, vl82, xsl82⟩ : (List (List UInt8)) × Value × (List Value)) wr => Lcl w [.row (vl82) 22 1 (l82).length (xsl82), .row (vl15) 5 1 (l15).length (xsl15)] wr ∧ Elems (.vec .byte) (gz H w wr [.row (vl82) 22 1 (l82).length (xsl82), .row (vl15) 5 1 (l15).length (xsl15)]) (l82) (xsl82) ∧ Elems .byte (gz H w wr [.row (vl82) 22 1 (l82).length (xsl82), .row (vl15) 5 1 (l15).length (xsl15)]) (l15) (xsl15) ∧ ref4_Polynomials_k3 l82 = some r) ?_ ?_
    · refine W_seqr ?_
      refine S_pu 1 rfl ?_
      refine S_seqnil ?_
      refine W_block ?_
      obtain ⟨n122, h⟩ := Go.L.run_some h
      refine W_loop (σ := (List (List UInt8)) × Int × Value × (List Value) × Nat) (fun (⟨l120, s6_121, vl120, xsl120, n⟩ : (List (List UInt8)) × Int × Value × (List Value) × Nat) => [(0, v0_0), (3, vl15), (5, vl120), (6, .int .i64 s6_121)]) (fun (⟨l120, s6_121, vl120, xsl120, n⟩ : (List (List UInt8)) × Int × Value × (List Value) × Nat) wr => Lcl w [.row (vl120) 22 1 (l120).length (xsl120), .row (vl15) 5 1 (l15).length (xsl15)] wr ∧ Elems (.vec .byte) (gz H w wr [.row (vl120) 22 1 (l120).length (xsl120), .row (vl15) 5 1 (l15).length (xsl15)]) (l120) (xsl120) ∧ Elems .byte (gz H w wr [.row (vl120) 22 1 (l120).length (xsl120), .row (vl15) 5 1 (l15).length (xsl15)]) (l15) (xsl15) ∧ Go.L.itr (ref4_Polynomials_bl4 a0 l15) n (l120, s6_121) = some r) (fun (⟨l120, s6_121, vl120, xsl120, n⟩ : (List (List UInt8)) × Int × Value × (List Value) × Nat) => n) (([] : List (List UInt8)), (0 : Int), .slice none 0 0, [], n122) (.cons rfl (.cons rfl (.cons rfl (.cons rfl (Sub.nil _))))) ⟨hL44, he44, hel15, h⟩ ?_
      rintro ⟨l120, s6_121, vl120, xsl120, nn122⟩ wr122 ⟨hL122, hel120, hel15, h⟩
      obtain ⟨n122, e122, rfl, h, hm122⟩ := Go.L.itr_some h
      refine W_seq ?_
      refine W_seqr ?_
      refine S_pu 1 rfl ?_
      refine S_v (r_len rfl Try.underlying23 h0_0) rfl ?_
      refine S_pu 2 rfl ?_
      refine S_split (s := 27) rfl (fun hg124 => ?_) (fun hg124 => ?_)
      · replace h := Go.L.ite_p (of_decide_eq_true hg124) h
        refine S_guarded rfl rfl hg124 ?_
        refine S_v (RunsAt_pu rfl) rfl ?_
        refine S_guarded rfl rfl hg124 ?_
        refine S_v (RunsAt_pu rfl) rfl ?_
        refine S_guarded rfl rfl hg124 ?_
        obtain ⟨hk127, h⟩ := Go.L.chk_some h
        refine S_index rfl rfl Try.underlying23 zr32 h0_0 ((0 : Int).toNat) (Int.toNat_of_nonneg hk127.1).symm (idx_lt hk127) rfl ?_
        rintro p126 _ ⟨_, _, rfl, rfl, ⟨e126v1, rfl, e126h1⟩⟩ hp126
        refine S_guarded rfl rfl hg124 ?_
        refine S_v (r_field rfl Try.underlying32 rfl zr22 (by decide)) rfl ?_
        have hp128 := hp126.add 1
        refine S_guarded rfl rfl hg124 ?_
        refine S_v (r_load1 rfl Try.underlying22 rfl hp128 (hH.trans hL122.arg)) rfl ?_
        refine S_guarded rfl rfl hg124 ?_
        refine S_v (r_len rfl Try.underlying22 e126h1) rfl ?_
        refine S_guarded rfl rfl hg124 ?_
        refine S_v (RunsAt_pu rfl) rfl ?_
        refine S_v (r_pickT rfl hg124 rfl) rfl ?_
        refine S_seqnil ?_
        refine W_if rfl (fun hc129 => ?_) (fun hc129 => ?_)
        · replace h := Go.L.ite_p hc129 h
          refine W_skip ?_
          refine At_seq ?_
          refine W_cut (σ := (List (List UInt8)) × Value × (List Value)) (fun (⟨l154, vl154, xsl154⟩ : (List (List UInt8)) × Value × (List Value)) => [(0, v0_0), (3, vl15), (5, vl154), (6, .int .i64 s6_121), (28, .int .i64 s6_121), (29, v0_0), (32, e126v1), (33, .int .i64 (((a0.getD ((0 : Int).toNat) default).2).length : Int)), (34, .bool (decide (s6_121 < (((a0.getD ((0 : Int).toNat) default).2).length : Int))))]) (fun (⟨l154, vl154, xsl154⟩ : (List (List UInt8)) × Value × (List Value)) wr => Lcl w [.row (vl154) 22 1 (l154).length (xsl154), .row (vl15) 5 1 (l15).length (xsl15)] wr ∧ Elems (.vec .byte) (gz H w wr [.row (vl154) 22 1 (l154).length (xsl154), .row (vl15) 5 1 (l15).length (xsl15)]) (l154) (xsl154) ∧ Elems .byte (gz H w wr [.row (vl154) 22 1 (l154).length (xsl154), .row (vl15) 5 1 (l15).length (xsl15)]) (l15) (xsl15) ∧ (ref4_Polynomials_k5 s6_121) l154 = some e122) ?_ ?_
          · refine W_block ?_
            refine W_seqr ?_
            refine S_pu 1 rfl ?_
            obtain ⟨hL157, hle157, he157⟩ := row_nilE .byte H 5 hL122
            replace hel120 := hel120.mono (gz_mono hH hle157)
            replace hel15 := hel15.mono (gz_mono hH hle157)
            refine S_seqnil ?_
            refine W_cut (σ := (List UInt8) × Value × (List Value)) (fun (⟨l173, vl173, xsl173⟩ : (List UInt8) × Value × (List Value)) => [(0, v0_0), (3, vl15), (5, vl120), (6, .int .i64 s6_121), (7, vl173), (28, .int .i64 s6_121), (29, v0_0), (32, e126v1), (33, .int .i64 (((a0.getD ((0 : Int).toNat) default).2).length : Int)), (34, .bool (decide (s6_121 < (((a0.getD ((0 : Int).toNat) default).2).length : Int))))]) (fun (⟨l173, vl173, xsl173⟩ : (List UInt8) × Value × (List Value)) wr => Lcl w [.row (vl173) 5 1 (l173).length (xsl173), .row (vl120) 22 1 (l120).length (xsl120), .row (vl15) 5 1 (l15).length (xsl15)] wr ∧ Elems .byte (gz H w wr [.row (vl173) 5 1 (l173).length (xsl173), .row (vl120) 22 1 (l120).length (xsl120), .row (vl15) 5 1 (l15).length (xsl15)]) (l173) (xsl173) ∧ Elems (.vec .byte) (gz H w wr [.row (vl173) 5 1 (l173).length (xsl173), .row (vl120) 22 1 (l120).length (xsl120), .row (vl15) 5 1 (l15).length (xsl15)]) (l120) (xsl120) ∧ Elems .byte (gz H w wr [.row (vl173) 5 1 (l173).length (xsl173), .row (vl120) 22 1 (l120).length (xsl120), .row (vl15) 5 1 (l15).length (xsl15)]) (l15) (xsl15) ∧ (ref4_Polynomials_k6 l120 l15 s6_121) l173 = some e122) ?_ ?_
            · refine W_seqr ?_
              refine S_pu 1 rfl ?_
              refine S_seqnil ?_
              refine W_block ?_
              obtain ⟨n191, h⟩ := Go.L.run_some h
              refine W_loop (σ := (List UInt8) × Int × Value × (List Value) × Nat) (fun (⟨l189, s8_190, vl189, xsl189, n⟩ : (List UInt8) × Int × Value × (List Value) × Nat) => [(0, v0_0), (3, vl15), (5, vl120), (6, .int .i64 s6_121), (7, vl189), (8, .int .i64 s8_190), (28, .int .i64 s6_121), (29, v0_0), (32, e126v1), (33, .int .i64 (((a0.getD ((0 : Int).toNat) default).2).length : Int)), (34, .bool (decide (s6_121 < (((a0.getD ((0 : Int).toNat) default).2).length : Int))))]) (fun (⟨l189, s8_190, vl189, xsl189, n⟩ : (List UInt8) × Int × Value × (List Value) × Nat) wr => Lcl w [.row (vl189) 5 1 (l189).length (xsl189), .row (vl120) 22 1 (l120).length (xsl120), .row (vl15) 5 1 (l15).length (xsl15)] wr ∧ Elems .byte (gz H w wr [.row (vl189) 5 1 (l189).length (xsl189), .row (vl120) 22 1 (l120).length (xsl120), .row (vl15) 5 1 (l15).length (xsl15)]) (l189) (xsl189) ∧ Elems (.vec .byte) (gz H w wr [.row (vl189) 5 1 (l189).length (xsl189), .row (vl120) 22 1 (l120).length (xsl120), .row (vl15) 5 1 (l15).length (xsl15)]) (l120) (xsl120) ∧ Elems .byte (gz H w wr [.row (vl189) 5 1 (l189).length (xsl189), .row (vl120) 22 1 (l120).length (xsl120), .row (vl15) 5 1 (l15).length (xsl15)]) (l15) (xsl15) ∧ Go.L.itr (ref4_Polynomials_bl7 a0 l120 l15 s6_121) n (l189, s8_190) = some e122) (fun (⟨l189, s8_190, vl189, xsl189, n⟩ : (List UInt8) × Int × Value × (List Value) × Nat) => n) (([] : List UInt8), (0 : Int), .slice none 0 0, [], n191) (.cons rfl (.cons rfl (.cons rfl (.cons rfl (.cons rfl (.cons rfl (.cons rfl (.cons rfl (.cons rfl (.cons rfl (.cons rfl (Sub.nil _)))))))))))) ⟨hL157, he157, hel120, hel15, h⟩ ?_
              rintro ⟨l189, s8_190, vl189, xsl189, nn191⟩ wr191 ⟨hL191, hel189, hel120, hel15, h⟩
              obtain ⟨n191, e191, rfl, h, hm191⟩ := Go.L.itr_some h
              refine W_seq ?_
              refine W_seqr ?_
              refine S_pu 2 rfl ?_
              refine S_v (r_len rfl Try.underlying23 h0_0) rfl ?_
              refine S_pu 1 rfl ?_
              refine S_seqnil ?_
              refine W_if rfl (fun hc193 => ?_) (fun hc193 => ?_)
              · replace h := Go.L.ite_p hc193 h
                refine W_skip ?_
                refine At_seq ?_
                refine W_seq ?_
                refine W_block ?_
                refine W_region ?_
                refine S_pu 3 rfl ?_
                obtain ⟨hk196, h⟩ := Go.L.chk_some h
                refine S_index rfl rfl Try.underlying23 zr32 h0_0 s8_190.toNat (Int.toNat_of_nonneg hk196.1).symm (idx_lt hk196) rfl ?_
                rintro p195 _ ⟨_, _, rfl, rfl, ⟨e195v1, rfl, e195h1⟩⟩ hp195
                refine S_v (r_field rfl Try.underlying32 rfl zr22 (by decide)) rfl ?_
                have hp197 := hp195.add 1
                refine S_v (r_load1 rfl Try.underlying22 rfl hp197 (hH.trans hL191.arg)) rfl ?_
                refine S_pu 1 rfl ?_
                obtain ⟨hk199, h⟩ := Go.L.chk_some h
                refine S_index rfl rfl Try.underlying22 zr5 e195h1 s6_121.toNat (Int.toNat_of_nonneg hk199.1).symm (idx_lt hk199) rfl ?_
                rintro p198 _ rfl hp198
                refine S_v (r_load1 rfl Try.underlying5 rfl hp198 (hH.trans hL191.arg)) rfl ?_
                refine S_litE (r := .byte) (l := [((a0.getD s8_190.toNat default).2).getD s6_121.toNat default]) rfl (fun _ => bsl22_1 _ _) rfl (show 1 ≤ 9223372036854775807 by decide) hH hL191 (.c1 rfl .nil) ?_
                intro v200 w200 hx200 hL200 hle200 hv200
                replace hel189 := hel189.mono (gz_mono hH hle200)
                replace hel120 := hel120.mono (gz_mono hH hle200)
                replace hel15 := hel15.mono (gz_mono hH hle200)
                obtain ⟨hk202, h⟩ := Go.L.chk_some h
                refine S_appE (r := .byte) (l := l189) (m := [((a0.getD s8_190.toNat default).2).getD s6_121.toNat default]) 0 rfl rfl Try.underlying22 zr5 rfl (by decide) rfl hH hL200 rfl hel189 hv200 hk202 ?_
                intro v201 w201 xs201 hL201 hle201 he201
                replace hel120 := hel120.mono (gz_mono hH hle201)
                replace hel15 := hel15.mono (gz_mono hH hle201)
                replace hv200 := hv200.mono (gz_mono hH hle201)
                refine S_pu 1 rfl ?_
                refine S_nil ?_
                refine At_block ?_
                refine At_seq ?_
                refine W_region ?_
                refine S_pu 1 rfl ?_
                obtain ⟨hk203, h⟩ := Go.L.chk_some h
                refine S_v (r_ar64 rfl rfl rfl hk203) rfl ?_
                refine S_pu 1 rfl ?_
                refine S_nil ?_
                have h := Go.L.Nxt.again h hm191
                refine At_round ((l189 ++ [((a0.getD s8_190.toNat default).2).getD s6_121.toNat default]), (s8_190 + (1 : Int)), v201, xs201, n191) (.cons rfl (.cons rfl (.cons rfl (.cons rfl (.cons rfl (.cons rfl (.cons rfl (.cons rfl (.cons rfl (.cons rfl (.cons rfl (Sub.nil _)))))))))))) ⟨hL201, he201, hel120, hel15, h⟩ (Nat.lt_succ_self _)
              · replace h := Go.L.ite_n hc193 h
                refine W_exit ?_
                refine At_seq_exit ?_
                refine At_loop_exit ?_
                replace h := Go.L.Nxt.out h hm191
                refine At_exit ?_
                refine At_cut (l189, vl189, xsl189) (.cons rfl (.cons rfl (.cons rfl (.cons rfl (.cons rfl (.cons rfl (.cons rfl (.cons rfl (.cons rfl (.cons rfl (Sub.nil _))))))))))) ⟨hL191, hel189, hel120, hel15, h⟩
            · rintro ⟨l173, vl173, xsl173⟩ wr174 ⟨hL174, hel173, hel120, hel15, h⟩
              refine W_region ?_
              refine S_pu 3 rfl ?_
              obtain ⟨x206, hb206, h⟩ := Go.L.bind_some h
              refine S_callL rfl rfl hL174 (ref4_Through_ok _ _ (Le.refl _) (hL174.vecN hH (i := 2) rfl hel15) (hL174.vecN hH (i := 0) rfl hel173) hb206) ?_
              rintro u207_0 w207 ⟨_, rfl, hR207_0⟩ hx207 hL207 hle207
              have hv207_0 := (hR207_0.ofPlain plain_byte).vecG hH hL174 hx207
              replace hel173 := hel173.mono (gz_mono hH hle207)
              replace hel120 := hel120.mono (gz_mono hH hle207)
              replace hel15 := hel15.mono (gz_mono hH hle207)
              refine S_litE (r := (.vec .byte)) (l := [x206]) rfl (fun _ => bsl41_1 _ hv207_0.one _) rfl (show 1 ≤ 9223372036854775807 by decide) hH hL207 (.c1 ⟨_, rfl, hv207_0⟩ .nil) ?_
              intro v208 w208 hx208 hL208 hle208 hv208
              replace hel173 := hel173.mono (gz_mono hH hle208)
              replace hel120 := hel120.mono (gz_mono hH hle208)
              replace hel15 := hel15.mono (gz_mono hH hle208)
              replace hv207_0 := hv207_0.mono (gz_mono hH hle208)
              obtain ⟨hk210, h⟩ := Go.L.chk_some h
              refine S_appE (r := (.vec .byte)) (l := l120) (m := [x206]) 1 rfl rfl Try.underlying41 zr22 rfl (by decide) rfl hH hL208 rfl hel120 hv208 hk210 ?_
              intro v209 w209 xs209 hL209 hle209 he209
              replace hel173 := hel173.mono (gz_mono hH hle209)
              replace hel15 := hel15.mono (gz_mono hH hle209)
              replace hv207_0 := hv207_0.mono (gz_mono hH hle209)
              replace hv208 := hv208.mono (gz_mono hH hle209)
              refine S_pu 1 rfl ?_
              refine S_nil ?_
              refine At_block ?_
              have hL211 := hL209.dropAt (i := 0) rfl
              replace hel15 := hel15.mono (gz_mono hH (fz_dropAt (i := 0) rfl))
              replace hv207_0 := hv207_0.mono (gz_mono hH (fz_dropAt (i := 0) rfl))
              replace hv208 := hv208.mono (gz_mono hH (fz_dropAt (i := 0) rfl))
              replace he209 := he209.mono (gz_mono hH (fz_dropAt (i := 0) rfl))
              refine At_cut ((l120 ++ [x206]), v209, xs209) (.cons rfl (.cons rfl (.cons rfl (.cons rfl (.cons rfl (.cons rfl (.cons rfl (.cons rfl (.cons rfl (Sub.nil _)))))))))) ⟨hL211, he209, hel15, h⟩
          · rintro ⟨l154, vl154, xsl154⟩ wr155 ⟨hL155, hel154, hel15, h⟩
            refine W_region ?_
            refine S_pu 1 rfl ?_
            obtain ⟨hk213, h⟩ := Go.L.chk_some h
            refine S_v (r_ar64 rfl rfl rfl hk213) rfl ?_
            refine S_pu 1 rfl ?_
            refine S_nil ?_
            have h := Go.L.Nxt.again h hm122
            refine At_round (l154, (s6_121 + (1 : Int)), vl154, xsl154, n122) (.cons rfl (.cons rfl (.cons rfl (.cons rfl (Sub.nil _))))) ⟨hL155, hel154, hel15, h⟩ (Nat.lt_succ_self _)
        · replace h := Go.L.ite_n hc129 h
          refine W_exit ?_
          refine At_seq_exit ?_
          refine At_loop_exit ?_
          replace h := Go.L.Nxt.out h hm122
          refine At_exit ?_
          refine At_cut (l120, vl120, xsl120) (.cons rfl (Sub.nil _)) ⟨hL122, hel120, hel15, h⟩
      · replace h := Go.L.ite_n (of_decide_eq_false hg124) h
        refine S_unwanted rfl rfl hg124 rfl ?_
        refine S_unwanted rfl rfl hg124 rfl ?_
        refine S_unwanted rfl rfl hg124 rfl ?_
        refine S_unwanted rfl rfl hg124 rfl ?_
        refine S_unwanted rfl rfl hg124 rfl ?_
        refine S_unwanted rfl rfl hg124 rfl ?_
        refine S_unwanted rfl rfl hg124 rfl ?_
        refine S_v (r_pickF rfl hg124 rfl) rfl ?_
        refine S_seqnil ?_
        refine W_false rfl ?_
        refine W_exit ?_
        refine At_seq_exit ?_
        refine At_loop_exit ?_
        replace h := Go.L.Nxt.out h hm122
        refine At_exit ?_
        refine At_cut (l120, vl120, xsl120) (.cons rfl (Sub.nil _)) ⟨hL122, hel120, hel15, h⟩
    · rintro ⟨l82, vl82, xsl82⟩ wr83 ⟨hL83, hel82, hel15, h⟩
      refine W_seqr ?_
      refine S_pu 2 rfl ?_
      refine S_seqnil ?_
      refine W_ret ?_
      obtain rfl := Option.some.inj h
      refine At_body rfl rfl ?_
      exact ⟨hL83.ext, _, rfl, (hL83.ownH hH (i := 0) rfl hel82)⟩

noncomputable def ref4_Forged_k1 (l31 : List Int) : Option ((List Int)) :=
  some (l31)
noncomputable def ref4_Forged_bl2 (a0 : List (Int × (List UInt8))) (a1 : List (List UInt8)) : (List Int) × Int → Option (((List Int) × Int) ⊕ ((List Int))) := fun ⟨l61, s6_62⟩ =>
  if s6_62 < (a0.length : Int) then Go.L.chk (0 ≤ s6_62 ∧ s6_62 < (a0.length : Int)) (Go.L.chk (0 ≤ s6_62 ∧ s6_62 < (a0.length : Int)) (Option.bind (ref4_Values a1 (Go.L.u8 ((a0.getD s6_62.toNat default).1))) (fun x75 => if ((a0.getD s6_62.toNat default).2) = x75 then Go.L.chk (Go.L.I64 (s6_62 + (1 : Int))) (some (Sum.inl (l61, (s6_62 + (1 : Int))))) else Go.L.chk (Go.E.Cap 8 (l61.length + ([s6_62]).length)) (Go.L.chk (Go.L.I64 (s6_62 + (1 : Int))) (some (Sum.inl ((l61 ++ [s6_62]), (s6_62 + (1 : Int))))))))) else Option.map Sum.inr (ref4_Forged_k1 l61)
noncomputable def ref4_Forged_l2 (a0 : List (Int × (List UInt8))) (a1 : List (List UInt8)) (s : (List Int) × Int) : Option ((List Int)) := Go.L.run (ref4_Forged_bl2 a0 a1) s
noncomputable def ref4_Forged (a0 : List (Int × (List UInt8))) (a1 : List (List UInt8)) : Option ((List Int)) :=
  (ref4_Forged_l2 a0 a1) (([] : List Int), (0 : Int))

set_option maxRecDepth 10000 in
theorem ref4_Forged_ok (w : World) (H : PH) (hH : Le H (hp w)) {a0 : List (Int × (List UInt8))} {a1 : List (List UInt8)} {v0_0 : Value} {v1_0 : Value} (h0_0 : Vec (.pair (.int .i64) (.vec .byte)) H v0_0 (a0)) (h1_0 : Vec (.vec .byte) H v1_0 (a1)) {r : (List Int)} (h : ref4_Forged a0 a1 = some r) :
    Ok Try.prog 22 [v0_0, v1_0] w (fun v w' => Ext w w' ∧ ∃ u0, v = u0 ∧ OwnH 3 (.int .i64) H w w' u0 (r)) := by
  refine Ok_enter (n := 33) [(0, v0_0), (1, v1_0)] Try.func22 rfl rfl rfl rfl rfl ?_
  have hL := Lcl.start w
  refine W_seqr ?_
  refine S_pu 1 rfl ?_
  refine S_seqnil ?_
  refine W_seqr ?_
  refine S_pu 1 rfl ?_
  obtain ⟨hL1, hle1, he1⟩ := row_nilE (.int .i64) H 3 hL
  refine S_seqnil ?_
  refine W_cut (σ := (List Int) × Value × (List Value)) (fun (⟨l31, vl31, xsl31⟩ : (List Int) × Value × (List Value)) => [(5, vl31)]) (fun (⟨l31, vl31, xsl31⟩ : (List Int) × Value × (List Value)) wr => Lcl w [.row (vl31) 3 1 (l31).length (xsl31)] wr ∧ Elems (.int .i64) (gz H w wr [.row (vl31) 3 1 (l31).length (xsl31)]) (l31) (xsl31) ∧ ref4_Forged_k1 l31 = some r) ?_ ?_
  · refine W_seqr ?_
    refine S_pu 1 rfl ?_
    refine S_seqnil ?_
    refine W_block ?_
    obtain ⟨n63, h⟩ := Go.L.run_some h
    refine W_loop (σ := (List Int) × Int × Value × (List Value) × Nat) (fun (⟨l61, s6_62, vl61, xsl61, n⟩ : (List Int) × Int × Value × (List Value) × Nat) => [(0, v0_0), (1, v1_0), (5, vl61), (6, .int .i64 s6_62)]) (fun (⟨l61, s6_62, vl61, xsl61, n⟩ : (List Int) × Int × Value × (List Value) × Nat) wr => Lcl w [.row (vl61) 3 1 (l61).length (xsl61)] wr ∧ Elems (.int .i64) (gz H w wr [.row (vl61) 3 1 (l61).length (xsl61)]) (l61) (xsl61) ∧ Go.L.itr (ref4_Forged_bl2 a0 a1) n (l61, s6_62) = some r) (fun (⟨l61, s6_62, vl61, xsl61, n⟩ : (List Int) × Int × Value × (List Value) × Nat) => n) (([] : List Int), (0 : Int), .slice none 0 0, [], n63) (.cons rfl (.cons rfl (.cons rfl (.cons rfl (Sub.nil _))))) ⟨hL1, he1, h⟩ ?_
    rintro ⟨l61, s6_62, vl61, xsl61, nn63⟩ wr63 ⟨hL63, hel61, h⟩
    obtain ⟨n63, e63, rfl, h, hm63⟩ := Go.L.itr_some h
    refine W_seq ?_
    refine W_seqr ?_
    refine S_pu 2 rfl ?_
    refine S_v (r_len rfl Try.underlying23 h0_0) rfl ?_
    refine S_pu 1 rfl ?_
    refine S_seqnil ?_
    refine W_if rfl (fun hc65 => ?_) (fun hc65 => ?_)
    · replace h := Go.L.ite_p hc65 h
      refine W_skip ?_
      refine At_seq ?_
      refine W_seq ?_
      refine W_block ?_
      refine W_seqd (.q 0 (.q 1 (.q 2 (.q 3 (.q 4 (.q 5 (.q 6 (.q 7 (.q 8 (.q 9 (.q 10 (.q 11 (.h 12 (.q 13 (.q 14 (.tail 15)))))))))))))))) mixed (by kernel_rfl) (fun w67 hx67 => ?_)
      have hL68 := hL63.call hx67
      have hle68 := fz_ext hL63 hx67
      replace hel61 := hel61.mono (gz_mono hH hle68)
      refine D_pu 2 rfl ?_
      obtain ⟨hk70, h⟩ := Go.L.chk_some h
      refine D_index rfl rfl rfl Try.underlying23 zr32 h0_0 s6_62.toNat (Int.toNat_of_nonneg hk70.1).symm (idx_lt hk70) rfl ?_
      rintro p69 _ ⟨_, _, rfl, rfl, ⟨e69v1, rfl, e69h1⟩⟩ hp69
      refine D_v (r_field rfl Try.underlying32 rfl zr22 (by decide)) rfl rfl ?_
      have hp71 := hp69.add 1
      refine D_v (r_load1 rfl Try.underlying22 rfl hp71 (hH.trans hL68.arg)) rfl rfl ?_
      refine D_pu 3 rfl ?_
      obtain ⟨hk73, h⟩ := Go.L.chk_some h
      refine D_index rfl rfl rfl Try.underlying23 zr32 h0_0 s6_62.toNat (Int.toNat_of_nonneg hk73.1).symm (idx_lt hk73) rfl ?_
      rintro p72 _ ⟨_, _, rfl, rfl, ⟨e72v1, rfl, e72h1⟩⟩ hp72
      refine D_v (r_field rfl Try.underlying32 rfl zr3 (by decide)) rfl rfl ?_
      have hp74 := hp72.add 0
      refine D_v (r_load1 rfl Try.underlying3 rfl hp74 (hH.trans hL68.arg)) rfl rfl ?_
      refine D_v (r_conv Try.underlying3 Try.underlying5 rfl (conv_64_u8 _)) rfl rfl ?_
      obtain ⟨x75, hb75, h⟩ := Go.L.bind_some h
      refine D_hcall rfl rfl rfl (fun w77 hx77 => ref4_Values_ok _ _ (gz_le hH (hL68.call hx77)) (h1_0.mono (gz_left hH)) hb75) ?_
      rintro w77 u76_0 w76 hx77 hx76 ⟨_, rfl, hR76_0⟩
      have hL78 := hL68.call hx77
      have hle78 := fz_ext hL68 hx77
      replace hel61 := hel61.mono (gz_mono hH hle78)
      have hL76 := hL78.call hx76
      have hle76 := fz_ext hL78 hx76
      have hv76_0 := hR76_0.vecG hH hL78 hx76
      replace hel61 := hel61.mono (gz_mono hH hle76)
      refine D_call rfl rfl rfl (fun w79 hx79 => same_l _ _ (Le.refl _) ((e69h1.mono (hH.trans hL76.arg)).mono hx79.le) ((hv76_0.mono (gz_le hH hL76)).mono hx79.le)) ?_
      refine D_pu 1 rfl ?_
      refine D_tail (fun w80 hx80 => ?_)
      have hL81 := hL76.call hx80
      have hle81 := fz_ext hL76 hx80
      replace hel61 := hel61.mono (gz_mono hH hle81)
      replace hv76_0 := hv76_0.mono (gz_mono hH hle81)
      refine S_seqnil ?_
      refine W_ifn rfl (fun hc82 => ?_) (fun hc82 => ?_)
      · replace h := Go.L.ite_n hc82 h
        refine W_region ?_
        refine S_pu 2 rfl ?_
        refine S_litE (r := (.int .i64)) (l := [s6_62]) rfl (fun _ => bsl43_1 _ _) rfl (show 1 ≤ 9223372036854775807 by decide) hH hL81 (.c1 rfl .nil) ?_
        intro v84 w84 hx84 hL84 hle84 hv84
        replace hel61 := hel61.mono (gz_mono hH hle84)
        obtain ⟨hk86, h⟩ := Go.L.chk_some h
        refine S_appE (r := (.int .i64)) (l := l61) (m := [s6_62]) 0 rfl rfl Try.underlying43 zr3 rfl (by decide) rfl hH hL84 rfl hel61 hv84 hk86 ?_
        intro v85 w85 xs85 hL85 hle85 he85
        replace hv84 := hv84.mono (gz_mono hH hle85)
        refine S_pu 1 rfl ?_
        refine S_nil ?_
        refine At_block ?_
        refine At_seq ?_
        refine W_region ?_
        refine S_pu 1 rfl ?_
        obtain ⟨hk87, h⟩ := Go.L.chk_some h
        refine S_v (r_ar64 rfl rfl rfl hk87) rfl ?_
        refine S_pu 1 rfl ?_
        refine S_nil ?_
        have h := Go.L.Nxt.again h hm63
        refine At_round ((l61 ++ [s6_62]), (s6_62 + (1 : Int)), v85, xs85, n63) (.cons rfl (.cons rfl (.cons rfl (.cons rfl (Sub.nil _))))) ⟨hL85, he85, h⟩ (Nat.lt_succ_self _)
      · replace h := Go.L.ite_p hc82 h
        refine W_skip ?_
        refine At_block ?_
        refine At_seq ?_
        refine W_region ?_
        refine S_pu 1 rfl ?_
        obtain ⟨hk89, h⟩ := Go.L.chk_some h
        refine S_v (r_ar64 rfl rfl rfl hk89) rfl ?_
        refine S_pu 1 rfl ?_
        refine S_nil ?_
        have h := Go.L.Nxt.again h hm63
        refine At_round (l61, (s6_62 + (1 : Int)), vl61, xsl61, n63) (.cons rfl (.cons rfl (.cons rfl (.cons rfl (Sub.nil _))))) ⟨hL81, hel61, h⟩ (Nat.lt_succ_self _)
    · replace h := Go.L.ite_n hc65 h
      refine W_exit ?_
      refine At_seq_exit ?_
      refine At_loop_exit ?_
      replace h := Go.L.Nxt.out h hm63
      refine At_exit ?_
      refine At_cut (l61, vl61, xsl61) (.cons rfl (Sub.nil _)) ⟨hL63, hel61, h⟩
  · rintro ⟨l31, vl31, xsl31⟩ wr32 ⟨hL32, hel31, h⟩
    refine W_seqr ?_
    refine S_pu 2 rfl ?_
    refine S_seqnil ?_
    refine W_ret ?_
    obtain rfl := Option.some.inj h
    refine At_body rfl rfl ?_
    exact ⟨hL32.ext, _, rfl, (hL32.ownH hH (i := 0) rfl hel31)⟩

noncomputable def ref3_Power_k1 (s3_10 : Int) : Option (Int) :=
  some (s3_10)
noncomputable def ref3_Power_bl2 (a0 : Int) : Int × Int → Option ((Int × Int) ⊕ (Int)) := fun ⟨s3_19, s4_20⟩ =>
  if s4_20 < a0 then Go.L.chk (Go.L.I64 ((2 : Int) * s3_19)) (Go.L.chk (Go.L.I64 (s4_20 + (1 : Int))) (some (Sum.inl (((2 : Int) * s3_19), (s4_20 + (1 : Int)))))) else Option.map Sum.inr (ref3_Power_k1 s3_19)
noncomputable def ref3_Power_l2 (a0 : Int) (s : Int × Int) : Option (Int) := Go.L.run (ref3_Power_bl2 a0) s
noncomputable def ref3_Power (a0 : Int) : Option (Int) :=
  (ref3_Power_l2 a0) ((1 : Int), (0 : Int))

set_option maxRecDepth 10000 in
theorem ref3_Power_ok (w : World) (H : PH) (hH : Le H (hp w)) {a0 : Int}   {r : Int} (h : ref3_Power a0 = some r) :
    Ok Try.prog 49 [.int .i64 a0] w (fun v w' => Ext w w' ∧ v = .int .i64 r) := by
  refine Ok_enter (n := 13) [(0, .int .i64 a0)] Try.func49 rfl rfl rfl rfl rfl ?_
  have hL := Lcl.start w
  refine W_seqr ?_
  refine S_pu 1 rfl ?_
  refine S_seqnil ?_
  refine W_seqr ?_
  refine S_pu 1 rfl ?_
  refine S_seqnil ?_
  refine W_cut (σ := Int) (fun (s3_10 : Int) => [(3, .int .i64 s3_10)]) (fun (s3_10 : Int) wr => Lcl w [] wr ∧ ref3_Power_k1 s3_10 = some r) ?_ ?_
  · refine W_seqr ?_
    refine S_pu 1 rfl ?_
    refine S_seqnil ?_
    refine W_block ?_
    obtain ⟨n21, h⟩ := Go.L.run_some h
    refine W_loop (σ := Int × Int × Nat) (fun (⟨s3_19, s4_20, n⟩ : Int × Int × Nat) => [(0, .int .i64 a0), (3, .int .i64 s3_19), (4, .int .i64 s4_20)]) (fun (⟨s3_19, s4_20, n⟩ : Int × Int × Nat) wr => Lcl w [] wr ∧ Go.L.itr (ref3_Power_bl2 a0) n (s3_19, s4_20) = some r) (fun (⟨s3_19, s4_20, n⟩ : Int × Int × Nat) => n) ((1 : Int), (0 : Int), n21) (.cons rfl (.cons rfl (.cons rfl (Sub.nil _)))) ⟨hL, h⟩ ?_
    rintro ⟨s3_19, s4_20, nn21⟩ wr21 ⟨hL21, h⟩
    obtain ⟨n21, e21, rfl, h, hm21⟩ := Go.L.itr_some h
    refine W_seq ?_
    refine W_seqr ?_
    refine S_pu 3 rfl ?_
    refine S_seqnil ?_
    refine W_if rfl (fun hc23 => ?_) (fun hc23 => ?_)
    · replace h := Go.L.ite_p hc23 h
      refine W_skip ?_
      refine At_seq ?_
      refine W_seq ?_
      refine W_block ?_
      refine W_region ?_
      refine S_pu 1 rfl ?_
      obtain ⟨hk25, h⟩ := Go.L.chk_some h
      refine S_v (r_ar64 rfl rfl rfl hk25) rfl ?_
      refine S_pu 1 rfl ?_
      refine S_nil ?_
      refine At_block ?_
      refine At_seq ?_
      refine W_region ?_
      refine S_pu 1 rfl ?_
      obtain ⟨hk26, h⟩ := Go.L.chk_some h
      refine S_v (r_ar64 rfl rfl rfl hk26) rfl ?_
      refine S_pu 1 rfl ?_
      refine S_nil ?_
      have h := Go.L.Nxt.again h hm21
      refine At_round (((2 : Int) * s3_19), (s4_20 + (1 : Int)), n21) (.cons rfl (.cons rfl (.cons rfl (Sub.nil _)))) ⟨hL21, h⟩ (Nat.lt_succ_self _)
    · replace h := Go.L.ite_n hc23 h
      refine W_exit ?_
      refine At_seq_exit ?_
      refine At_loop_exit ?_
      replace h := Go.L.Nxt.out h hm21
      refine At_exit ?_
      refine At_cut s3_19 (.cons rfl (Sub.nil _)) ⟨hL21, h⟩
  · rintro s3_10 wr11 ⟨hL11, h⟩
    refine W_seqr ?_
    refine S_pu 2 rfl ?_
    refine S_seqnil ?_
    refine W_ret ?_
    obtain rfl := Option.some.inj h
    refine At_body rfl rfl ?_
    exact ⟨hL11.ext, rfl⟩

noncomputable def law4_mended_k1 : Option ((List UInt8) × (List Int) × Bool) :=
  some ([], [], false)
noncomputable def law4_mended_bl2 (a0 : List (Int × (List UInt8))) (a1 : Int) : Int → Option ((Int) ⊕ ((List UInt8) × (List Int) × Bool)) := fun s7_53 =>
  Option.bind (ref3_Power (a0.length : Int)) (fun x56 => if s7_53 < x56 then Option.bind (chosenL a0 s7_53) (fun x60 => if (x60.length : Int) = a1 then Option.bind (ref4_Polynomials x60) (fun x66 => Option.bind (ref4_Forged a0 x66) (fun x68 => Go.L.chk (Go.L.I64 ((2 : Int) * (x68.length : Int))) (Go.L.chk (Go.L.I64 ((a0.length : Int) - a1)) (if ((2 : Int) * (x68.length : Int)) ≤ ((a0.length : Int) - a1) then Option.bind (ref4_Values x66 (0 : UInt8)) (fun x74 => Option.map Sum.inr (some (x74, x68, true))) else Go.L.chk (Go.L.I64 (s7_53 + (1 : Int))) (some (Sum.inl (s7_53 + (1 : Int)))))))) else Go.L.chk (Go.L.I64 (s7_53 + (1 : Int))) (some (Sum.inl (s7_53 + (1 : Int))))) else Option.map Sum.inr (law4_mended_k1))
noncomputable def law4_mended_l2 (a0 : List (Int × (List UInt8))) (a1 : Int) (s : Int) : Option ((List UInt8) × (List Int) × Bool) := Go.L.run (law4_mended_bl2 a0 a1) s
noncomputable def law4_mended (a0 : List (Int × (List UInt8))) (a1 : Int) : Option ((List UInt8) × (List Int) × Bool) :=
  (law4_mended_l2 a0 a1) (0 : Int)

set_option maxRecDepth 10000 in
theorem law4_mended_ok (w : World) (H : PH) (hH : Le H (hp w)) {a0 : List (Int × (List UInt8))} {a1 : Int} {v0_0 : Value} (h0_0 : Vec (.pair (.int .i64) (.vec .byte)) H v0_0 (a0)) {r : (List UInt8) × (List Int) × Bool} (h : law4_mended a0 a1 = some r) :
    Ok Try.prog 32 [v0_0, .int .i64 a1] w (fun v w' => Ext w w' ∧ ∃ u0 u1, v = .tuple #[u0, u1, .bool r.2.2] ∧ OwnH 5 .byte H w w' u0 (r.1) ∧ OwnH 3 (.int .i64) H w w' u1 (r.2.1)) := by
  refine Ok_enter (n := 41) [(0, v0_0), (1, .int .i64 a1)] Try.func32 rfl rfl rfl rfl rfl ?_
  have hL := Lcl.start w
  refine W_seqr ?_
  refine S_pu 3 rfl ?_
  refine S_seqnil ?_
  refine W_cut (σ := Unit) (fun (_ : Unit) => []) (fun (_ : Unit) wr => Lcl w [] wr ∧ law4_mended_k1 = some r) ?_ ?_
  · refine W_seqr ?_
    refine S_pu 1 rfl ?_
    refine S_seqnil ?_
    refine W_block ?_
    obtain ⟨n54, h⟩ := Go.L.run_some h
    refine W_loop (σ := Int × Nat) (fun (⟨s7_53, n⟩ : Int × Nat) => [(0, v0_0), (1, .int .i64 a1), (7, .int .i64 s7_53)]) (fun (⟨s7_53, n⟩ : Int × Nat) wr => Lcl w [] wr ∧ Go.L.itr (law4_mended_bl2 a0 a1) n s7_53 = some r) (fun (⟨s7_53, n⟩ : Int × Nat) => n) ((0 : Int), n54) (.cons rfl (.cons rfl (.cons rfl (Sub.nil _)))) ⟨hL, h⟩ ?_
    rintro ⟨s7_53, nn54⟩ wr54 ⟨hL54, h⟩
    obtain ⟨n54, e54, rfl, h, hm54⟩ := Go.L.itr_some h
    refine W_seq ?_
    refine W_seqr ?_
    refine S_pu 2 rfl ?_
    refine S_v (r_len rfl Try.underlying23 h0_0) rfl ?_
    obtain ⟨x56, hb56, h⟩ := Go.L.bind_some h
    refine S_callL rfl rfl hL54 (ref3_Power_ok _ _ (gz_le hH hL54) hb56) ?_
    rintro _ w57 rfl hx57 hL57 hle57
    refine S_pu 1 rfl ?_
    refine S_seqnil ?_
    refine W_if rfl (fun hc58 => ?_) (fun hc58 => ?_)
    · replace h := Go.L.ite_p hc58 h
      refine W_skip ?_
      refine At_seq ?_
      refine W_seq ?_
      refine W_block ?_
      refine W_seqr ?_
      refine S_pu 2 rfl ?_
      obtain ⟨x60, hb60, h⟩ := Go.L.bind_some h
      refine S_callL rfl rfl hL57 (chosen_l _ _ (gz_le hH hL57) (h0_0.mono (gz_left hH)) hb60) ?_
      rintro u61_0 w61 ⟨_, rfl, hR61_0⟩ hx61 hL61 hle61
      have hv61_0 := hR61_0.mono (gz_nw hH hL57 hx61)
      refine S_pu 1 rfl ?_
      refine S_seqnil ?_
      refine W_seq ?_
      refine W_seqr ?_
      refine S_pu 1 rfl ?_
      refine S_v (r_len rfl Try.underlying23 hv61_0) rfl ?_
      refine S_pu 2 rfl ?_
      refine S_seqnil ?_
      refine W_ifn rfl (fun hc62 => ?_) (fun hc62 => ?_)
      · replace h := Go.L.ite_n hc62 h
        refine W_exit ?_
        refine At_seq_exit ?_
        refine At_exit ?_
        refine At_seq ?_
        refine W_region ?_
        refine S_pu 1 rfl ?_
        obtain ⟨hk64, h⟩ := Go.L.chk_some h
        refine S_v (r_ar64 rfl rfl rfl hk64) rfl ?_
        refine S_pu 1 rfl ?_
        refine S_nil ?_
        have h := Go.L.Nxt.again h hm54
        refine At_round ((s7_53 + (1 : Int)), n54) (.cons rfl (.cons rfl (.cons rfl (Sub.nil _)))) ⟨hL61, h⟩ (Nat.lt_succ_self _)
      · replace h := Go.L.ite_p hc62 h
        refine W_skip ?_
        refine At_seq ?_
        refine W_seqr ?_
        refine S_pu 1 rfl ?_
        obtain ⟨x66, hb66, h⟩ := Go.L.bind_some h
        refine S_callL rfl rfl hL61 (ref4_Polynomials_ok _ _ (gz_le hH hL61) hv61_0 hb66) ?_
        rintro u67_0 w67 ⟨_, rfl, hR67_0⟩ hx67 hL67 hle67
        have hv67_0 := hR67_0.vecG hH hL61 hx67
        replace hv61_0 := hv61_0.mono (gz_mono hH hle67)
        refine S_pu 1 rfl ?_
        refine S_seqnil ?_
        refine W_seqr ?_
        refine S_pu 2 rfl ?_
        obtain ⟨x68, hb68, h⟩ := Go.L.bind_some h
        refine S_callL rfl rfl hL67 (ref4_Forged_ok _ _ (gz_le hH hL67) (h0_0.mono (gz_left hH)) hv67_0 hb68) ?_
        rintro u69_0 w69 ⟨_, rfl, hR69_0⟩ hx69 hL69 hle69
        obtain ⟨xs69, hL69, hle69, he69⟩ := hR69_0.take hH hL67 hx69
        replace hv67_0 := hv67_0.mono (gz_mono hH hle69)
        refine S_pu 1 rfl ?_
        refine S_seqnil ?_
        refine W_seqr ?_
        refine S_pu 1 rfl ?_
        refine S_v (r_lenR (i := 0) rfl Try.underlying43 hL69 rfl) rfl ?_
        obtain ⟨hk70, h⟩ := Go.L.chk_some h
        refine S_v (r_ar64 rfl rfl rfl hk70) rfl ?_
        refine S_pu 1 rfl ?_
        refine S_v (r_len rfl Try.underlying23 h0_0) rfl ?_
        refine S_pu 1 rfl ?_
        obtain ⟨hk71, h⟩ := Go.L.chk_some h
        refine S_v (r_ar64 rfl rfl rfl hk71) rfl ?_
        refine S_pu 1 rfl ?_
        refine S_seqnil ?_
        refine W_if rfl (fun hc72 => ?_) (fun hc72 => ?_)
        · replace h := Go.L.ite_p hc72 h
          refine W_seqr ?_
          refine S_pu 1 rfl ?_
          obtain ⟨x74, hb74, h⟩ := Go.L.bind_some h
          have hok75 := ref4_Values_ok _ _ (gz_le hH hL69) hv67_0 hb74
          rw [show (((0 : UInt8).toNat : Nat) : Int) = 0 from rfl] at hok75
          refine S_callL rfl rfl hL69 hok75 ?_
          rintro u75_0 w75 ⟨_, rfl, hR75_0⟩ hx75 hL75 hle75
          obtain ⟨xs75, hL75, hle75, he75⟩ := hR75_0.take hH hL69 hx75
          replace hv67_0 := hv67_0.mono (gz_mono hH hle75)
          replace he69 := he69.mono (gz_mono hH hle75)
          refine S_pu 4 rfl ?_
          refine S_seqnil ?_
          refine W_ret ?_
          refine At_block_ret ?_
          refine At_seq_ret ?_
          refine At_loop_ret ?_
          replace h := Go.L.Nxt.out h hm54
          refine At_block_ret ?_
          refine At_cut_ret ?_
          obtain rfl := Option.some.inj h
          refine At_body rfl rfl ?_
          exact ⟨hL75.ext, _, _, rfl, (hL75.ownH hH (i := 0) rfl he75), (hL75.ownH hH (i := 1) rfl he69)⟩
        · replace h := Go.L.ite_n hc72 h
          refine W_skip ?_
          refine At_block ?_
          refine At_seq ?_
          refine W_region ?_
          refine S_pu 1 rfl ?_
          obtain ⟨hk77, h⟩ := Go.L.chk_some h
          refine S_v (r_ar64 rfl rfl rfl hk77) rfl ?_
          refine S_pu 1 rfl ?_
          refine S_nil ?_
          have hL78 := hL69.dropAt (i := 0) rfl
          have h := Go.L.Nxt.again h hm54
          refine At_round ((s7_53 + (1 : Int)), n54) (.cons rfl (.cons rfl (.cons rfl (Sub.nil _)))) ⟨hL78, h⟩ (Nat.lt_succ_self _)
    · replace h := Go.L.ite_n hc58 h
      refine W_exit ?_
      refine At_seq_exit ?_
      refine At_loop_exit ?_
      replace h := Go.L.Nxt.out h hm54
      refine At_exit ?_
      refine At_cut () (Sub.nil _) ⟨hL57, h⟩
  · rintro _ wr27 ⟨hL27, h⟩
    refine W_seqr ?_
    refine S_pu 3 rfl ?_
    refine S_seqnil ?_
    refine W_ret ?_
    obtain rfl := Option.some.inj h
    refine At_body rfl rfl ?_
    exact ⟨hL27.ext, _, _, rfl, OwnH.nil, OwnH.nil⟩
end Go.Proofs.Ytidedcbaahiplaa
