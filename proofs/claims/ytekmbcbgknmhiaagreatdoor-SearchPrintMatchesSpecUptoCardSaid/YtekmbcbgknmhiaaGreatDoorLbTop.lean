/- The law SearchPrintMatchesSpec: for every input it returns true, and each argument reads behind the call as it read before. No condition. -/
import Derived.Test.YtekmbcbgknmhiaaGreatDoorLb7
import Derived.Test.YtekmbcbgknmhiaaGreatDoorTie
import Derived.Test.YtekmbcbgknmhiaaGreatDoorCards
import Derived.Test.YtekmbcbgknmhiaaGreatDoorRows
import Derived.WalkKit
import Derived.ProofKit
import Derived.OpenShut
import Derived.JoinedCond
import Derived.KernelRfl
import Derived.SevenTiedAt
import Derived.LaidLaws
import Derived.Handed
import Derived.Deep.DeepHandedRow
import Derived.Deep.DeepWitnessRowRef
set_option linter.unusedVariables false
set_option linter.unusedSimpArgs false
namespace Go.Proofs.YtekmbcbgknmhiaaGreatDoor.searchPrintMatchesSpec
open Go Go.E Go.ChangeShapes Go.WideShapes Go.ChangeAt Go.RowKit

theorem own : ownKnob Tryz.prog.godebug = none := by kernel_rfl
theorem laidOut : laidOutB Tryz.prog = true := by kernel_rfl
theorem cells3 : Tryz.prog.cellsOf 3 = 1 := by kernel_rfl
theorem cells5 : Tryz.prog.cellsOf 5 = 1 := by kernel_rfl
theorem cells9 : Tryz.prog.cellsOf 9 = 1 := by kernel_rfl
theorem cells22 : Tryz.prog.cellsOf 22 = 1 := by kernel_rfl
theorem cells23 : Tryz.prog.cellsOf 23 = 1 := by kernel_rfl
theorem cells24 : Tryz.prog.cellsOf 24 = 1 := by kernel_rfl
theorem cells26 : Tryz.prog.cellsOf 26 = 7 := by kernel_rfl
theorem readable : ∀ t ∈ [26], Tryz.prog.readableRec t = true ∧ t < Tryz.prog.types.size := by
  intro t ht
  simp only [List.mem_cons, List.not_mem_nil, or_false] at ht
  rcases ht with rfl <;> exact ⟨by kernel_rfl, of_decide_eq_true (by kernel_rfl)⟩

set_option maxRecDepth 100000 in
theorem lifted (os : Os) (started : os.Started) (H : Type) (enc : TypeId × Value → H) (F : Stop.Interp) :
    ReturnsInHanded {} Tryz.checked os 3 .any ((Rows.OpenSpec.upto Rows.searchPrintMatchesSpecSpec).preRow enc Tryz.prog Tryz.f3 Rows.searchPrintMatchesSpecUptoRow.domain false Rows.searchPrintMatchesSpecUptoRow.laid) (((Rows.OpenSpec.upto Rows.searchPrintMatchesSpecSpec).at F).post enc Tryz.prog Tryz.f3 false true false false) := by
  obtain ⟨places, hx⟩ : ∃ places, DataW.whole enc Tryz.prog ((Qd os).forCall (fun _ _ => 0) ⟨#[], #[.agg #[.int .i64 0, .slice none 0 0, .string .empty, .slice none 0 0, .int .i64 0, .int .i64 0, .slice none 0 0]], []⟩).memory Tryz.f3.params.toList Rows.searchPrintMatchesSpecSpec.vars false (#[.agg #[.int .i64 0, .slice none 0 0, .string .empty, .slice none 0 0, .int .i64 0, .int .i64 0, .slice none 0 0]] : Array Value).toList 8 = some ([.agg [.lit (.int .i64 0), .nil, .lit (.string []), .nil, .lit (.int .i64 0), .lit (.int .i64 0), .nil]], [], places) := ⟨[], by kernel_rfl⟩
  refine returnsInHanded_of_row (C := Tryz.checked) (s := Rows.OpenSpec.upto Rows.searchPrintMatchesSpecSpec) own started (by kernel_rfl) Tryz.func3
    (witness_row_atRef (enc := enc) (C := Tryz.checked) false (Qd os) #[.agg #[.int .i64 0, .slice none 0 0, .string .empty, .slice none 0 0, .int .i64 0, .int .i64 0, .slice none 0 0]] rfl (by kernel_rfl) (by kernel_rfl) (by kernel_rfl)
      (OpenSpec.preRow_of_cond 8 hx (by kernel_rfl) (fun k hk => by cases hk; kernel_rfl) (by kernel_rfl) (Zt os _))) ?_
  intro W base args ds gs before hval0 hW _ hcond _ hLd _ _
  have hbulk := Tf.bound (hcond _ rfl)
  have hU : D9 (hp W) := Ub hLd
  have hval : ∀ (j : Nat) t v, Tryz.f3.params[j]? = some t → args[j]? = some v → Value.okWide Tryz.prog W .any base t v := hval0
  have hW' := hW
  obtain ⟨p, q, hA0, hV, rfl, _, _⟩ := hW
  have hA : DataW.TrodAll enc Tryz.prog W 0 (fun _ => true) true Tryz.f3.params.toList args.toList ds p := hA0
  rw [Tryz.params3] at hA hval
  obtain ⟨rfl, rfl⟩ := trodVars_none hV
  simp only [List.append_nil] at hW'
  have hlt : ∀ x ∈ p, x.block < W.heap.size := fun x hx => by simpa using hW'.lt x hx
  have hAk := hA
  obtain ⟨v0, vs0, d0, ds0, p0, q0, hargs0, rfl, rfl, h0, r0⟩ := trodAll_cons hA
  obtain ⟨rfl, rfl, rfl⟩ := trodAll_nil r0
  obtain rfl : args = #[v0] := by cases args; simp_all
  have hb2 := hbulk
  simp only [Rows.uptoBulkAll, List.cons_append, List.nil_append, List.append_nil] at hb2
  obtain ⟨cs0, rfl, _⟩ := okWide_struct Tryz.underlying26 (hval 0 26 v0 rfl rfl)
  obtain ⟨fuel0, hf0⟩ := h0
  obtain ⟨a0, hl0, ok0⟩ := Tf.RB.use (Tf.Zq Tryz.underlying26 cells26 rfl rfl rfl rfl rfl rfl rfl Tryz.underlying3 rfl Tryz.underlying9 rfl Tryz.underlying3 Tryz.underlying3 rfl cells3 cells22 cells9 cells23 cells3 cells3 cells24 Tryz.underlying22 Tryz.underlying9 cells9 Tryz.underlying23 Tryz.underlying5 cells5 Tryz.underlying24 1048576 1048576 (Nat.le_refl _)) (d := d0) (p := p0) (by omega) (show DataW.trod enc Tryz.prog W _ _ _ _ _ cs0.toList = some _ by simpa [Value.cells] using hf0)
  obtain ⟨_, _, e0, rfl, _, _, rfl, ⟨va0_1, rfl, hva0_1⟩, _, _, rfl, rfl, _, _, rfl, ⟨va0_3, rfl, hva0_3⟩, _, _, rfl, rfl, _, _, rfl, rfl, ⟨va0_6, rfl, hva0_6⟩⟩ := Rp.CM hl0
  obtain rfl : cs0 = #[.int .i64 a0.f.1, va0_1, .string ⟨a0.f.2.2.1.toArray⟩, va0_3, .int .i64 a0.f.2.2.2.2.1, .int .i64 a0.f.2.2.2.2.2.1, va0_6] := by cases cs0; exact congrArg Array.mk e0
  simp only [Rows.uptoBulkAll, List.cons_append, List.nil_append] at hbulk
  refine ((JW W (hp W) (Le.refl _) hU hva0_1 hva0_3 hva0_6 (X3 ok0)).2).mono fun e W' ⟨v, he, hx, hv⟩ => ?_
  subst he; subst hv
  exact ⟨_, rfl, ⟨_, _, _, [], _, [], hW', trodAll_mk1 (shut_bool Tryz.underlying4 true), O3 laidOut hx.toBelow readable hAk hlt, rfl, hx.toBelow.frame _, fun h => by cases h⟩⟩

theorem and_tt {a b : Bool} (h : a = true) (k : b = true) : (a && b) = true := by rw [h, k]; rfl
set_option maxHeartbeats 4000000 in
theorem closed : joinedFacts Tryz.prog 3 Tryz.f3 (Rows.OpenSpec.upto Rows.searchPrintMatchesSpecSpec).bare Rows.searchPrintMatchesSpecUptoRow = true := by
  refine and_tt (and_tt (and_tt (and_tt (and_tt (and_tt (and_tt (and_tt (and_tt (and_tt (and_tt (and_tt (and_tt (and_tt (and_tt (and_tt (and_tt (and_tt (and_tt (and_tt (and_tt (and_tt (and_tt (and_tt (and_tt (and_tt (and_tt (and_tt (and_tt (and_tt (and_tt ?_ ?_) ?_) ?_) ?_) ?_) ?_) ?_) ?_) ?_) ?_) ?_) ?_) ?_) ?_) ?_) ?_) ?_) ?_) ?_) ?_) ?_) ?_) ?_) ?_) ?_) ?_) ?_) ?_) ?_) ?_) ?_
  all_goals as_aux_lemma => kernel_rfl
set_option maxHeartbeats 4000000 in
theorem proved : Rows.SearchPrintMatchesSpecUptoSaid :=
  OpenClaim.holds_of_cond 3 Tryz.f3 rfl rfl rfl rfl rfl rfl rfl ⟨rfl, rfl, rfl, rfl, rfl⟩ rfl rfl rfl rfl rfl (by as_aux_lemma => kernel_rfl) Tryz.func3 closed
    (of_decide_eq_true (by kernel_rfl)) (by unfold Func.isWrapper; first | (rw [if_pos (by decide +kernel)]; kernel_rfl) | (rw [if_neg (by decide +kernel)]; exact ⟨rfl, rfl⟩))
    (fun os started H enc _ F => by rw [OpenClaim.pre_eq_preRow]; exact lifted os started H enc F)
set_option maxHeartbeats 4000000 in
theorem card_holds : Rows.SearchPrintMatchesSpecUptoCardSaid :=
  Claim7.holds_tied_plain_at .later [] [.data, .data, .data, .data, .sentinel, .sentinel, .pinned] true (true, "bb28d5bab7c35a9b9d7b00c772b4e9890dfb41217e2c8bbe2440bd1cc94b2bbf") true
    proved (fun _ h => by cases h) (by as_aux_lemma => kernel_rfl) (fun _ h => by cases h) searchPrintMatchesSpecUpto_row_tie rfl ⟨rfl, rfl⟩ (by as_aux_lemma => kernel_rfl) rfl
    (fun f fn hf hfn => by
      obtain rfl : f = 3 := Option.some.inj ((show Tryz.prog.funcNamed "scriptorium/scriptoriumlaw4.SearchPrintMatchesSpec" = some 3 by as_aux_lemma => kernel_rfl).symm.trans hf) |>.symm
      obtain rfl : fn = Tryz.f3 := (Option.some.inj (Tryz.func3.symm.trans hfn)).symm
      exact ⟨by as_aux_lemma => kernel_rfl, fun j t ht => by
        rw [Tryz.params3] at ht
        have hm : t ∈ [26] := by simpa using Array.mem_of_getElem? ht
        have hall : ([26].all fun u => !Tryz.prog.wantsStandIn u) = true := by as_aux_lemma => kernel_rfl
        exact (show Tryz.prog.wantsStandIn t = false by simpa using List.all_eq_true.1 hall t hm)⟩)
    (by as_aux_lemma => kernel_rfl)
#print axioms card_holds
end Go.Proofs.YtekmbcbgknmhiaaGreatDoor.searchPrintMatchesSpec
