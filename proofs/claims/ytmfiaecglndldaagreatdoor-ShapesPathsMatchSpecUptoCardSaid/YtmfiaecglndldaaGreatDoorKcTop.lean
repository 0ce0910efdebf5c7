/- The law ShapesPathsMatchSpec: for every input it returns true, and each argument reads behind the call as it read before. No condition. -/
import Derived.Test.YtmfiaecglndldaaGreatDoorKc7
import Derived.Test.YtmfiaecglndldaaGreatDoorTie
import Derived.Test.YtmfiaecglndldaaGreatDoorCards
import Derived.Test.YtmfiaecglndldaaGreatDoorRows
import Derived.WalkKit
import Derived.ProofKit
import Derived.OpenShut
import Derived.JoinedCond
import Derived.KernelRfl
import Derived.SevenTiedAt
import Derived.LaidLaws
import Derived.Handed
import Derived.Deep.DeepHandedRow
import Derived.Deep.DeepWitnessRowRef
set_option linter.unusedVariables false
set_option linter.unusedSimpArgs false
namespace Go.Proofs.YtmfiaecglndldaaGreatDoor.shapesPathsMatchSpec
open Go Go.E Go.ChangeShapes Go.WideShapes Go.ChangeAt Go.RowKit

theorem own : ownKnob Tryz.prog.godebug = none := by kernel_rfl
theorem laidOut : laidOutB Tryz.prog = true := by kernel_rfl
theorem cells3 : Tryz.prog.cellsOf 3 = 1 := by kernel_rfl
theorem cells5 : Tryz.prog.cellsOf 5 = 1 := by kernel_rfl
theorem cells9 : Tryz.prog.cellsOf 9 = 1 := by kernel_rfl
theorem cells30 : Tryz.prog.cellsOf 30 = 1 := by kernel_rfl
theorem cells35 : Tryz.prog.cellsOf 35 = 1 := by kernel_rfl
theorem cells36 : Tryz.prog.cellsOf 36 = 1 := by kernel_rfl
theorem cells38 : Tryz.prog.cellsOf 38 = 5 := by kernel_rfl
theorem readable : ∀ t ∈ [38], Tryz.prog.readableRec t = true ∧ t < Tryz.prog.types.size := by
  intro t ht
  simp only [List.mem_cons, List.not_mem_nil, or_false] at ht
  rcases ht with rfl <;> exact ⟨by kernel_rfl, of_decide_eq_true (by kernel_rfl)⟩

set_option maxRecDepth 100000 in
theorem lifted (os : Os) (started : os.Started) (H : Type) (enc : TypeId × Value → H) (F : Stop.Interp) :
    ReturnsInHanded {} Tryz.checked os 5 .any ((Rows.OpenSpec.upto Rows.shapesPathsMatchSpecSpec).preRow enc Tryz.prog Tryz.f5 Rows.shapesPathsMatchSpecUptoRow.domain false Rows.shapesPathsMatchSpecUptoRow.laid) (((Rows.OpenSpec.upto Rows.shapesPathsMatchSpecSpec).at F).post enc Tryz.prog Tryz.f5 false true false false) := by
  obtain ⟨places, hx⟩ : ∃ places, DataW.whole enc Tryz.prog ((laidWorld os).forCall (fun _ _ => 0) ⟨#[], #[.agg #[.int .i64 0, .int .i64 0, .slice none 0 0, .slice none 0 0, .slice none 0 0]], []⟩).memory Tryz.f5.params.toList Rows.shapesPathsMatchSpecSpec.vars false (#[.agg #[.int .i64 0, .int .i64 0, .slice none 0 0, .slice none 0 0, .slice none 0 0]] : Array Value).toList 8 = some ([.agg [.lit (.int .i64 0), .lit (.int .i64 0), .nil, .nil, .nil]], [], places) := ⟨[], by kernel_rfl⟩
  refine returnsInHanded_of_row (C := Tryz.checked) (s := Rows.OpenSpec.upto Rows.shapesPathsMatchSpecSpec) own started (by kernel_rfl) Tryz.func5
    (witness_row_atRef (enc := enc) (C := Tryz.checked) false (laidWorld os) #[.agg #[.int .i64 0, .int .i64 0, .slice none 0 0, .slice none 0 0, .slice none 0 0]] rfl (by kernel_rfl) (by kernel_rfl) (by kernel_rfl)
      (OpenSpec.preRow_of_cond 8 hx (by kernel_rfl) (fun k hk => by cases hk; kernel_rfl) (by kernel_rfl) (door_met os _))) ?_
  intro W base args ds gs before hval0 hW _ hcond _ _ _ _
  have hbulk := bulks.bound (hcond _ rfl)
  have hval : ∀ (j : Nat) t v, Tryz.f5.params[j]? = some t → args[j]? = some v → Value.okWide Tryz.prog W .any base t v := hval0
  have hW' := hW
  obtain ⟨p, q, hA0, hV, rfl, _, _⟩ := hW
  have hA : DataW.TrodAll enc Tryz.prog W 0 (fun _ => true) true Tryz.f5.params.toList args.toList ds p := hA0
  rw [Tryz.params5] at hA hval
  obtain ⟨rfl, rfl⟩ := trodVars_none hV
  simp only [List.append_nil] at hW'
  have hlt : ∀ x ∈ p, x.block < W.heap.size := fun x hx => by simpa using hW'.lt x hx
  have hAk := hA
  obtain ⟨v0, vs0, d0, ds0, p0, q0, hargs0, rfl, rfl, h0, r0⟩ := trodAll_cons hA
  obtain ⟨rfl, rfl, rfl⟩ := trodAll_nil r0
  obtain rfl : args = #[v0] := by cases args; simp_all
  have hb2 := hbulk
  simp only [Rows.uptoBulkAll, List.cons_append, List.nil_append, List.append_nil] at hb2
  obtain ⟨cs0, rfl, _⟩ := okWide_struct Tryz.underlying38 (hval 0 38 v0 rfl rfl)
  obtain ⟨fuel0, hf0⟩ := h0
  obtain ⟨a0, hl0, ok0⟩ := bulks.RB.use (bulks.rb_tree Tryz.underlying38 cells38 rfl rfl rfl rfl rfl Tryz.underlying3 Tryz.underlying3 rfl rfl rfl cells3 cells3 cells35 cells30 cells36 Tryz.underlying35 Tryz.underlying5 cells5 Tryz.underlying30 Tryz.underlying9 cells9 Tryz.underlying36 1048576 1048576 (Nat.le_refl _)) (d := d0) (p := p0) (by omega) (show DataW.trod enc Tryz.prog W _ _ _ _ _ cs0.toList = some _ by simpa [Value.cells] using hf0)
  obtain ⟨_, _, e0, rfl, _, _, rfl, rfl, _, _, rfl, ⟨va0_2, rfl, hva0_2⟩, _, _, rfl, ⟨va0_3, rfl, hva0_3⟩, ⟨va0_4, rfl, hva0_4⟩⟩ := Rp.tree_open hl0
  obtain rfl : cs0 = #[.int .i64 a0.f.1, .int .i64 a0.f.2.1, va0_2, va0_3, va0_4] := by cases cs0; exact congrArg Array.mk e0
  simp only [Rows.uptoBulkAll, List.cons_append, List.nil_append] at hbulk
  refine ((law4_ShapesPathsMatchSpec_ok W (hp W) (Le.refl _) hva0_2 hva0_3 hva0_4 (paths_law (ok0 10))).2).mono fun e W' ⟨v, he, hx, hv⟩ => ?_
  subst he; subst hv
  exact ⟨_, rfl, ⟨_, _, _, [], _, [], hW', trodAll_mk1 (shut_bool Tryz.underlying4 true), trodAll_stays laidOut hx.toBelow readable hAk hlt, rfl, hx.toBelow.frame _, fun h => by cases h⟩⟩

theorem proved : Rows.ShapesPathsMatchSpecUptoSaid :=
  OpenClaim.holds_of_cond 5 Tryz.f5 rfl rfl rfl rfl rfl rfl rfl ⟨rfl, rfl, rfl, rfl, rfl⟩ rfl rfl rfl rfl rfl (by kernel_rfl) Tryz.func5 (by kernel_rfl)
    (of_decide_eq_true (by kernel_rfl)) (by unfold Func.isWrapper; first | (rw [if_pos (by decide +kernel)]; kernel_rfl) | (rw [if_neg (by decide +kernel)]; exact ⟨rfl, rfl⟩))
    (fun os started H enc _ F => by rw [OpenClaim.pre_eq_preRow]; exact lifted os started H enc F)
theorem card_holds : Rows.ShapesPathsMatchSpecUptoCardSaid :=
  Claim7.holds_tied_plain_at .later [] [.data, .pinned] true (true, "bb0fd5868a9d994e5910b44f43318f8f590b835eb1fecc8dba79a756a1917fc2") false
    proved (fun _ h => by cases h) (by kernel_rfl) (fun _ h => by cases h) shapesPathsMatchSpecUpto_row_tie rfl ⟨rfl, rfl⟩ (by kernel_rfl) rfl
    (fun f fn hf hfn => by
      obtain rfl : f = 5 := Option.some.inj ((show Tryz.prog.funcNamed "scriptorium/scriptoriumlaw4.ShapesPathsMatchSpec" = some 5 by kernel_rfl).symm.trans hf) |>.symm
      obtain rfl : fn = Tryz.f5 := (Option.some.inj (Tryz.func5.symm.trans hfn)).symm
      exact ⟨by kernel_rfl, fun j t ht => by
        rw [Tryz.params5] at ht
        have hm : t ∈ [38] := by simpa using Array.mem_of_getElem? ht
        have hall : ([38].all fun u => !Tryz.prog.wantsStandIn u) = true := by kernel_rfl
        exact (show Tryz.prog.wantsStandIn t = false by simpa using List.all_eq_true.1 hall t hm)⟩)
    (by kernel_rfl)
#print axioms card_holds
end Go.Proofs.YtmfiaecglndldaaGreatDoor.shapesPathsMatchSpec
