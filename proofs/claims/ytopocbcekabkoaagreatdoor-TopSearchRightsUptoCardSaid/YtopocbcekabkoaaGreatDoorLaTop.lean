/- The law TopSearchRights: for every input it returns true, and each argument reads behind the call as it read before. No condition. -/
import Derived.Test.YtopocbcekabkoaaGreatDoorLa8
import Derived.Test.YtopocbcekabkoaaGreatDoorTie
import Derived.Test.YtopocbcekabkoaaGreatDoorCards
import Derived.Test.YtopocbcekabkoaaGreatDoorRows
import Derived.WalkKit
import Derived.ProofKit
import Derived.OpenShut
import Derived.JoinedCond
import Derived.KernelRfl
import Derived.SevenTiedAt
import Derived.LaidLaws
import Derived.Handed
import Derived.Deep.DeepHandedRow
import Derived.Deep.DeepWitnessRowRef
set_option linter.unusedVariables false
set_option linter.unusedSimpArgs false
namespace Go.Proofs.YtopocbcekabkoaaGreatDoor.topSearchRights
open Go Go.E Go.ChangeShapes Go.WideShapes Go.ChangeAt Go.RowKit

theorem own : ownKnob Tryz.prog.godebug = none := by kernel_rfl
theorem laidOut : laidOutB Tryz.prog = true := by kernel_rfl
theorem cells3 : Tryz.prog.cellsOf 3 = 1 := by kernel_rfl
theorem cells5 : Tryz.prog.cellsOf 5 = 1 := by kernel_rfl
theorem cells9 : Tryz.prog.cellsOf 9 = 1 := by kernel_rfl
theorem cells22 : Tryz.prog.cellsOf 22 = 1 := by kernel_rfl
theorem cells24 : Tryz.prog.cellsOf 24 = 1 := by kernel_rfl
theorem cells26 : Tryz.prog.cellsOf 26 = 1 := by kernel_rfl
theorem cells27 : Tryz.prog.cellsOf 27 = 1 := by kernel_rfl
theorem cells28 : Tryz.prog.cellsOf 28 = 1 := by kernel_rfl
theorem cells30 : Tryz.prog.cellsOf 30 = 7 := by kernel_rfl
theorem cells32 : Tryz.prog.cellsOf 32 = 2 := by kernel_rfl
theorem cells49 : Tryz.prog.cellsOf 49 = 1 := by kernel_rfl
theorem cells51 : Tryz.prog.cellsOf 51 = 5 := by kernel_rfl
theorem cells53 : Tryz.prog.cellsOf 53 = 6 := by kernel_rfl
theorem cells65 : Tryz.prog.cellsOf 65 = 32 := by kernel_rfl
theorem cells66 : Tryz.prog.cellsOf 66 = 1 := by kernel_rfl
theorem cells67 : Tryz.prog.cellsOf 67 = 1 := by kernel_rfl
theorem cells69 : Tryz.prog.cellsOf 69 = 34 := by kernel_rfl
theorem cells71 : Tryz.prog.cellsOf 71 = 76 := by kernel_rfl
theorem cells101 : Tryz.prog.cellsOf 101 = 2 := by kernel_rfl
theorem readable : ∀t ∈ [24, 25, 30, 32, 3], Tryz.prog.readableRec t = true ∧ t < Tryz.prog.types.size := by
  intro t ht
  simp only[List.mem_cons, List.not_mem_nil, or_false]at ht
  rcases ht with rfl | rfl | rfl | rfl | rfl <;> exact ⟨by kernel_rfl, of_decide_eq_true Qqb⟩

set_option maxRecDepth 100000 in
theorem lifted (os : Os) (started : os.Started) (H : Type) (enc : TypeId × Value → H) (F : Stop.Interp) :
    ReturnsInHanded {} Tryz.checked os 3 .any ((Rows.OpenSpec.upto Rows.topSearchRightsSpec).preRow enc Tryz.prog Tryz.f3 Rows.topSearchRightsUptoRow.domain false Rows.topSearchRightsUptoRow.laid) (((Rows.OpenSpec.upto Rows.topSearchRightsSpec).at F).post enc Tryz.prog Tryz.f3 false true false false) := by
  obtain ⟨places, hx⟩ : ∃places, DataW.whole enc Tryz.prog ((UZ os).forCall (fun _ _ => 0) ⟨#[], #[.agg #[.slice none 0 0], .slice none 0 0, .agg #[.int .i64 0, .slice none 0 0, .string .empty, .slice none 0 0, .int .i64 0, .int .i64 0, .slice none 0 0], .agg #[.slice none 0 0, .int .i64 0], .int .i64 0], []⟩).memory Tryz.f3.params.toList Rows.topSearchRightsSpec.vars false (#[.agg #[.slice none 0 0], .slice none 0 0, .agg #[.int .i64 0, .slice none 0 0, .string .empty, .slice none 0 0, .int .i64 0, .int .i64 0, .slice none 0 0], .agg #[.slice none 0 0, .int .i64 0], .int .i64 0] : Array Value).toList 8 = some ([.agg [.nil], .nil, .agg [.lit (.int .i64 0), .nil, .lit (.string []), .nil, .lit (.int .i64 0), .lit (.int .i64 0), .nil], .agg [.nil, .lit (.int .i64 0)], .lit (.int .i64 0)], [], places) := ⟨[], by kernel_rfl⟩
  refine returnsInHanded_of_row (C := Tryz.checked) (s := Rows.OpenSpec.upto Rows.topSearchRightsSpec) own started Qqb Tryz.func3
    (witness_row_atRef (enc := enc) (C := Tryz.checked) false (UZ os) #[.agg #[.slice none 0 0], .slice none 0 0, .agg #[.int .i64 0, .slice none 0 0, .string .empty, .slice none 0 0, .int .i64 0, .int .i64 0, .slice none 0 0], .agg #[.slice none 0 0, .int .i64 0], .int .i64 0] Z Qqb Qqb Qqb
      (OpenSpec.preRow_of_cond 8 hx Qqb (fun k hk => by cases hk; kernel_rfl) Qqb (Ahc os _))) ?_
  intro W base args ds gs before hval0 hW _ hcond _ hLd _ _
  have hbulk := QP.bound (hcond _ Z)
  have hU : HG (hp W) := ZM hLd
  have hval : ∀(j : Nat) t v, Tryz.f3.params[j]? = some t → args[j]? = some v → Value.okWide Tryz.prog W .any base t v := hval0
  have hW' := hW
  obtain ⟨p, q, hA0, hV, rfl, _, _⟩ := hW
  have hA : DataW.TrodAll enc Tryz.prog W 0 (fun _ => true) true Tryz.f3.params.toList args.toList ds p := hA0
  rw[Tryz.params3]at hA hval
  obtain ⟨rfl, rfl⟩ := trodVars_none hV
  simp only[List.append_nil]at hW'
  have hlt : ∀x ∈ p, x.block < W.heap.size := fun x hx => by simpa using hW'.lt x hx
  have hAk := hA
  obtain ⟨v0, vs0, d0, ds0, p0, q0, hargs0, rfl, rfl, h0, r0⟩ := trodAll_cons hA
  obtain ⟨v1, vs1, d1, ds1, p1, q1, hargs1, rfl, rfl, h1, r1⟩ := trodAll_cons r0
  obtain ⟨v2, vs2, d2, ds2, p2, q2, hargs2, rfl, rfl, h2, r2⟩ := trodAll_cons r1
  obtain ⟨v3, vs3, d3, ds3, p3, q3, hargs3, rfl, rfl, h3, r3⟩ := trodAll_cons r2
  obtain ⟨v4, vs4, d4, ds4, p4, q4, hargs4, rfl, rfl, h4, r4⟩ := trodAll_cons r3
  obtain ⟨rfl, rfl, rfl⟩ := trodAll_nil r4
  subst hargs4
  subst hargs3
  subst hargs2
  subst hargs1
  obtain rfl : args = #[v0, v1, v2, v3, v4] := by cases args; simp_all
  have hb2 := hbulk
  simp only[Rows.uptoBulkAll, List.cons_append, List.nil_append, List.append_nil]at hb2
  obtain ⟨cs0, rfl, _⟩ := okWide_struct Tryz.underlying24 (hval 0 24 v0 Z Z)
  obtain ⟨fuel0, hf0⟩ := h0
  obtain ⟨a0, hl0, _⟩ := (LG Tryz.underlying24 cells24 (O2 (MX Tryz.underlying22 cells71 Qqc (LG Tryz.underlying71 cells71 (Dj (Sx Tryz.underlying9) Z cells9 (Dj (EX Tryz.underlying3) Z cells3 (Dj (EX Tryz.underlying3) Z cells3 (Dj (EX Tryz.underlying3) Z cells3 (Dj (EX Tryz.underlying3) Z cells3 (Dj (XB Tryz.underlying65 Tryz.underlying5 cells5 cells65) Z cells65 (Dj (MX Tryz.underlying66 cells101 Qqc (LG Tryz.underlying101 cells101 (Dj (Sx Tryz.underlying9) Z cells9 (O2 (EX Tryz.underlying3) Z cells3)))) Z cells66 (Dj (MX Tryz.underlying26 cells9 Qqc (Sx Tryz.underlying9)) Z cells26 (Dj (EX Tryz.underlying3) Z cells3 (Dj (EX Tryz.underlying3) Z cells3 (Dj (EX Tryz.underlying3) Z cells3 (O2 (LG Tryz.underlying69 cells69 (Dj (EX Tryz.underlying3) Z cells3 (Dj (XB Tryz.underlying65 Tryz.underlying5 cells5 cells65) Z cells65 (O2 (MX Tryz.underlying67 cells65 Qqc (XB Tryz.underlying65 Tryz.underlying5 cells5 cells65)) Z cells67)))) Z cells69)))))))))))))) Z cells22)) (show DataW.trod enc Tryz.prog W _ _ _ _ _ cs0.toList = some _ by simpa[Value.cells]using hf0)
  obtain ⟨va0_0, e0, hva0_0⟩ := hl0
  obtain rfl : cs0 = #[va0_0] := by cases cs0; exact congrArg Array.mk e0
  obtain ⟨b1, len1, cap1, rfl⟩ := okWide_slice Tryz.underlying25 (hval 1 25 v1 Z Z)
  obtain ⟨fuel1, hf1⟩ := h1
  obtain ⟨a1, ⟨_, hv1, hl1⟩, ok1⟩ := QP.RB.use (QP.MY Tryz.underlying25 cells53 Qqc (QP.Akl Tryz.underlying53 cells53 Z Z Z Z cells27 cells51 Tryz.underlying27 Tryz.underlying5 cells5 (QP.AiI Tryz.underlying51 cells51 Z Z Z Z Z Tryz.underlying3 Tryz.underlying3 Z Z Z cells3 cells3 cells27 cells26 cells49 Tryz.underlying27 Tryz.underlying5 cells5 Tryz.underlying26 Tryz.underlying9 cells9 Tryz.underlying49 1048576 1048576 (Nat.le_refl _)))) (d := d1) (p := p1) U (show DataW.trod enc Tryz.prog W _ _ _ _ _ [.slice b1 len1 cap1] = some _ by simpa[Value.cells]using hf1)
  cases hv1
  obtain ⟨cs2, rfl, _⟩ := okWide_struct Tryz.underlying30 (hval 2 30 v2 Z Z)
  obtain ⟨fuel2, hf2⟩ := h2
  obtain ⟨a2, hl2, ok2⟩ := QP.RB.use (QP.Ahb Tryz.underlying30 cells30 Z Z Z Z Z Z Z Tryz.underlying3 Z Tryz.underlying9 Z Tryz.underlying3 Tryz.underlying3 Z cells3 cells26 cells9 cells27 cells3 cells3 cells28 Tryz.underlying26 Tryz.underlying9 cells9 Tryz.underlying27 Tryz.underlying5 cells5 Tryz.underlying28 1048576 1048576 (Nat.le_refl _)) (d := d2) (p := p2) U (show DataW.trod enc Tryz.prog W _ _ _ _ _ cs2.toList = some _ by simpa[Value.cells]using hf2)
  obtain ⟨_, _, e2, rfl, _, _, rfl, ⟨va2_1, rfl, hva2_1⟩, _, _, rfl, rfl, _, _, rfl, ⟨va2_3, rfl, hva2_3⟩, _, _, rfl, rfl, _, _, rfl, rfl, ⟨va2_6, rfl, hva2_6⟩⟩ := Rp.Ev hl2
  obtain rfl : cs2 = #[.int .i64 a2.f.1, va2_1, .string ⟨a2.f.2.2.1.toArray⟩, va2_3, .int .i64 a2.f.2.2.2.2.1, .int .i64 a2.f.2.2.2.2.2.1, va2_6] := by cases cs2; exact congrArg Array.mk e2
  obtain ⟨cs3, rfl, _⟩ := okWide_struct Tryz.underlying32 (hval 3 32 v3 Z Z)
  obtain ⟨fuel3, hf3⟩ := h3
  obtain ⟨a3, hl3, _⟩ := (LG Tryz.underlying32 cells32 (Dj (MX Tryz.underlying26 cells9 Qqc (Sx Tryz.underlying9)) Z cells26 (O2 (EX Tryz.underlying3) Z cells3))) (show DataW.trod enc Tryz.prog W _ _ _ _ _ cs3.toList = some _ by simpa[Value.cells]using hf3)
  obtain ⟨_, _, e3, ⟨va3_0, rfl, hva3_0⟩, rfl⟩ := hl3
  obtain rfl : cs3 = #[va3_0, .int .i64 a3.2] := by cases cs3; exact congrArg Array.mk e3
  obtain ⟨a4, rfl, rfl, rfl, _⟩ := open_int Tryz.underlying3 (hval 4 3 v4 Z Z) h4
  simp only[Rows.uptoBulkAll, List.cons_append, List.nil_append]at hbulk
  refine ((Q9 W (hp W) (Le.refl _) hU hva0_0 hl1 hva2_1 hva2_3 hva2_6 hva3_0 (Ac1 (fun d hd => ⟨(ok1.2 d hd).1, (ok1.2 d hd).2 10⟩) ok2)).2).mono fun e W' ⟨v, he, hx, hv⟩ => ?_
  subst he; subst hv
  exact ⟨_, Z, ⟨_, _, _, [], _, [], hW', trodAll_mk1 (shut_bool Tryz.underlying4 true), SS laidOut hx.toBelow readable hAk hlt, Z, hx.toBelow.frame _, fun h => by cases h⟩⟩

theorem and_tt {a b : Bool} (h : a = true) (k : b = true) : (a && b) = true := by rw[h, k]; rfl
set_option maxHeartbeats 4000000 in
theorem closed : joinedFacts Tryz.prog 3 Tryz.f3 (Rows.OpenSpec.upto Rows.topSearchRightsSpec).bare Rows.topSearchRightsUptoRow = true := by
  refine and_tt (and_tt (and_tt (and_tt (and_tt (and_tt (and_tt (and_tt (and_tt (and_tt (and_tt (and_tt (and_tt (and_tt (and_tt (and_tt (and_tt (and_tt (and_tt (and_tt (and_tt (and_tt (and_tt (and_tt (and_tt (and_tt (and_tt (and_tt (and_tt (and_tt (and_tt ?_ ?_) ?_) ?_) ?_) ?_) ?_) ?_) ?_) ?_) ?_) ?_) ?_) ?_) ?_) ?_) ?_) ?_) ?_) ?_) ?_) ?_) ?_) ?_) ?_) ?_) ?_) ?_) ?_) ?_) ?_) ?_
  all_goals as_aux_lemma => kernel_rfl
set_option maxHeartbeats 4000000 in
theorem proved : Rows.TopSearchRightsUptoSaid :=
  OpenClaim.holds_of_cond 3 Tryz.f3 Z Z Z Z Z Z Z ⟨Z, Z, Z, Z, Z⟩ Z Z Z Z Z (by as_aux_lemma => kernel_rfl) Tryz.func3 closed
    (of_decide_eq_true Qqb) (by unfold Func.isWrapper; first | (rw[if_pos (by decide +kernel)]; kernel_rfl) | (rw[if_neg (by decide +kernel)]; exact ⟨Z, Z⟩))
    (fun os started H enc _ F => by rw[OpenClaim.pre_eq_preRow]; exact lifted os started H enc F)
set_option maxHeartbeats 4000000 in
theorem card_holds : Rows.TopSearchRightsUptoCardSaid :=
  Claim7.holds_tied_plain_at .later [] [.data, .data, .data, .data, .pinned] true (true, "7f6f1dd5336f425c1df767e00b1252380e9b245443159fdd932b48d402ea1136") false
    proved (fun _ h => by cases h) (by as_aux_lemma => kernel_rfl) (fun _ h => by cases h) topSearchRightsUpto_row_tie Z ⟨Z, Z⟩ (by as_aux_lemma => kernel_rfl) Z
    (fun f fn hf hfn => by
      obtain rfl : f = 3 := Option.some.inj ((show Tryz.prog.funcNamed "scriptorium/scriptoriumtop.TopSearchRights" = some 3 by as_aux_lemma => kernel_rfl).symm.trans hf) |>.symm
      obtain rfl : fn = Tryz.f3 := (Option.some.inj (Tryz.func3.symm.trans hfn)).symm
      exact ⟨by as_aux_lemma => kernel_rfl, fun j t ht => by
        rw[Tryz.params3]at ht
        have hm : t ∈ [24, 25, 30, 32, 3] := by simpa using Array.mem_of_getElem? ht
        have hall : ([24, 25, 30, 32, 3].all fun u => !Tryz.prog.wantsStandIn u) = true := by as_aux_lemma => kernel_rfl
        exact (show Tryz.prog.wantsStandIn t = false by simpa using List.all_eq_true.1 hall t hm)⟩)
    (by as_aux_lemma => kernel_rfl)
#print axioms card_holds
end Go.Proofs.YtopocbcekabkoaaGreatDoor.topSearchRights
