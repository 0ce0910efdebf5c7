/- The law ShapesOpenRefusesChanges: for every input it returns true, and each argument reads behind the call as it read before. No condition. -/
import Derived.Test.YtmfiaecglndldaaGreatDoorKf7
import Derived.Test.YtmfiaecglndldaaGreatDoorTie
import Derived.Test.YtmfiaecglndldaaGreatDoorCards
import Derived.Test.YtmfiaecglndldaaGreatDoorRows
import Derived.WalkKit
import Derived.ProofKit
import Derived.OpenShut
import Derived.JoinedCond
import Derived.KernelRfl
import Derived.SevenTiedAt
import Derived.LaidLaws
import Derived.Handed
import Derived.Deep.DeepHandedRow
import Derived.Deep.DeepWitnessRowRef
set_option linter.unusedVariables false
set_option linter.unusedSimpArgs false
namespace Go.Proofs.YtmfiaecglndldaaGreatDoor.shapesOpenRefusesChanges
open Go Go.E Go.ChangeShapes Go.WideShapes Go.ChangeAt Go.RowKit

theorem own : ownKnob Tryz.prog.godebug = none := by kernel_rfl
theorem laidOut : laidOutB Tryz.prog = true := by kernel_rfl
theorem cells3 : Tryz.prog.cellsOf 3 = 1 := by kernel_rfl
theorem cells5 : Tryz.prog.cellsOf 5 = 1 := by kernel_rfl
theorem cells9 : Tryz.prog.cellsOf 9 = 1 := by kernel_rfl
theorem cells30 : Tryz.prog.cellsOf 30 = 1 := by kernel_rfl
theorem cells35 : Tryz.prog.cellsOf 35 = 1 := by kernel_rfl
theorem cells36 : Tryz.prog.cellsOf 36 = 1 := by kernel_rfl
theorem cells38 : Tryz.prog.cellsOf 38 = 5 := by kernel_rfl
theorem readable : ∀ t ∈ [36, 3, 35], Tryz.prog.readableRec t = true ∧ t < Tryz.prog.types.size := by
  intro t ht
  simp only [List.mem_cons, List.not_mem_nil, or_false] at ht
  rcases ht with rfl | rfl | rfl <;> exact ⟨by kernel_rfl, of_decide_eq_true (by kernel_rfl)⟩

set_option maxRecDepth 100000 in
theorem lifted (os : Os) (started : os.Started) (H : Type) (enc : TypeId × Value → H) (F : Stop.Interp) :
    ReturnsInHanded {} Tryz.checked os 9 .any ((Rows.OpenSpec.upto Rows.shapesOpenRefusesChangesSpec).preRow enc Tryz.prog Tryz.f9 Rows.shapesOpenRefusesChangesUptoRow.domain false Rows.shapesOpenRefusesChangesUptoRow.laid) (((Rows.OpenSpec.upto Rows.shapesOpenRefusesChangesSpec).at F).post enc Tryz.prog Tryz.f9 false true false false) := by
  obtain ⟨places, hx⟩ : ∃ places, DataW.whole enc Tryz.prog ((laidWorld os).forCall (fun _ _ => 0) ⟨#[], #[.slice none 0 0, .int .i64 0, .slice none 0 0], []⟩).memory Tryz.f9.params.toList Rows.shapesOpenRefusesChangesSpec.vars false (#[.slice none 0 0, .int .i64 0, .slice none 0 0] : Array Value).toList 8 = some ([.nil, .lit (.int .i64 0), .nil], [], places) := ⟨[], by kernel_rfl⟩
  refine returnsInHanded_of_row (C := Tryz.checked) (s := Rows.OpenSpec.upto Rows.shapesOpenRefusesChangesSpec) own started (by kernel_rfl) Tryz.func9
    (witness_row_atRef (enc := enc) (C := Tryz.checked) false (laidWorld os) #[.slice none 0 0, .int .i64 0, .slice none 0 0] rfl (by kernel_rfl) (by kernel_rfl) (by kernel_rfl)
      (OpenSpec.preRow_of_cond 8 hx (by kernel_rfl) (fun k hk => by cases hk; kernel_rfl) (by kernel_rfl) (door_met os _))) ?_
  intro W base args ds gs before hval0 hW _ hcond _ _ _ _
  have hbulk := bulks.bound (hcond _ rfl)
  have hval : ∀ (j : Nat) t v, Tryz.f9.params[j]? = some t → args[j]? = some v → Value.okWide Tryz.prog W .any base t v := hval0
  have hW' := hW
  obtain ⟨p, q, hA0, hV, rfl, _, _⟩ := hW
  have hA : DataW.TrodAll enc Tryz.prog W 0 (fun _ => true) true Tryz.f9.params.toList args.toList ds p := hA0
  rw [Tryz.params9] at hA hval
  obtain ⟨rfl, rfl⟩ := trodVars_none hV
  simp only [List.append_nil] at hW'
  have hlt : ∀ x ∈ p, x.block < W.heap.size := fun x hx => by simpa using hW'.lt x hx
  have hAk := hA
  obtain ⟨v0, vs0, d0, ds0, p0, q0, hargs0, rfl, rfl, h0, r0⟩ := trodAll_cons hA
  obtain ⟨v1, vs1, d1, ds1, p1, q1, hargs1, rfl, rfl, h1, r1⟩ := trodAll_cons r0
  obtain ⟨v2, vs2, d2, ds2, p2, q2, hargs2, rfl, rfl, h2, r2⟩ := trodAll_cons r1
  obtain ⟨rfl, rfl, rfl⟩ := trodAll_nil r2
  subst hargs2
  subst hargs1
  obtain rfl : args = #[v0, v1, v2] := by cases args; simp_all
  have hb2 := hbulk
  simp only [Rows.uptoBulkAll, List.cons_append, List.nil_append, List.append_nil] at hb2
  obtain ⟨b0, len0, cap0, rfl⟩ := okWide_slice Tryz.underlying36 (hval 0 36 v0 rfl rfl)
  obtain ⟨fuel0, hf0⟩ := h0
  obtain ⟨a0, ⟨_, hv0, hl0⟩, ok0⟩ := bulks.RB.use (bulks.rb_slice Tryz.underlying36 cells38 (by decide) (bulks.rb_tree Tryz.underlying38 cells38 rfl rfl rfl rfl rfl Tryz.underlying3 Tryz.underlying3 rfl rfl rfl cells3 cells3 cells35 cells30 cells36 Tryz.underlying35 Tryz.underlying5 cells5 Tryz.underlying30 Tryz.underlying9 cells9 Tryz.underlying36 1048576 1048576 (Nat.le_refl _))) (d := d0) (p := p0) (by omega) (show DataW.trod enc Tryz.prog W _ _ _ _ _ [.slice b0 len0 cap0] = some _ by simpa [Value.cells] using hf0)
  cases hv0
  obtain ⟨a1, rfl, rfl, rfl, _⟩ := open_int Tryz.underlying3 (hval 1 3 v1 rfl rfl) h1
  obtain ⟨b2, len2, cap2, rfl⟩ := okWide_slice Tryz.underlying35 (hval 2 35 v2 rfl rfl)
  obtain ⟨fuel2, hf2⟩ := h2
  have hq2 : len2 + 1 ≤ Rows.uptoBulk d2 := bulks.slice_bulk Tryz.underlying35 (x := (d2, p2)) (by simpa [Value.cells] using hf2)
  obtain ⟨a2, ⟨_, hv2, hl2⟩, _⟩ := (reads_slice Tryz.underlying35 cells5 (by decide) (reads_byte Tryz.underlying5)) (show DataW.trod enc Tryz.prog W _ _ _ _ _ [.slice b2 len2 cap2] = some _ by simpa [Value.cells] using hf2)
  cases hv2
  have hz2 := bulks.vec_len hl2
  simp only [Rows.uptoBulkAll, List.cons_append, List.nil_append] at hbulk
  refine ((law4_ShapesOpenRefusesChanges_ok W (hp W) (Le.refl _) hl0 hl2 (refuse_law (fun v hv => ok0.2 v hv 10) (by omega))).2).mono fun e W' ⟨v, he, hx, hv⟩ => ?_
  subst he; subst hv
  exact ⟨_, rfl, ⟨_, _, _, [], _, [], hW', trodAll_mk1 (shut_bool Tryz.underlying4 true), trodAll_stays laidOut hx.toBelow readable hAk hlt, rfl, hx.toBelow.frame _, fun h => by cases h⟩⟩

theorem proved : Rows.ShapesOpenRefusesChangesUptoSaid :=
  OpenClaim.holds_of_cond 9 Tryz.f9 rfl rfl rfl rfl rfl rfl rfl ⟨rfl, rfl, rfl, rfl, rfl⟩ rfl rfl rfl rfl rfl (by kernel_rfl) Tryz.func9 (by kernel_rfl)
    (of_decide_eq_true (by kernel_rfl)) (by unfold Func.isWrapper; first | (rw [if_pos (by decide +kernel)]; kernel_rfl) | (rw [if_neg (by decide +kernel)]; exact ⟨rfl, rfl⟩))
    (fun os started H enc _ F => by rw [OpenClaim.pre_eq_preRow]; exact lifted os started H enc F)
theorem card_holds : Rows.ShapesOpenRefusesChangesUptoCardSaid :=
  Claim7.holds_tied_plain_at .later [] [.data, .pinned] true (true, "bb0fd5868a9d994e5910b44f43318f8f590b835eb1fecc8dba79a756a1917fc2") false
    proved (fun _ h => by cases h) (by kernel_rfl) (fun _ h => by cases h) shapesOpenRefusesChangesUpto_row_tie rfl ⟨rfl, rfl⟩ (by kernel_rfl) rfl
    (fun f fn hf hfn => by
      obtain rfl : f = 9 := Option.some.inj ((show Tryz.prog.funcNamed "scriptorium/scriptoriumlaw4.ShapesOpenRefusesChanges" = some 9 by kernel_rfl).symm.trans hf) |>.symm
      obtain rfl : fn = Tryz.f9 := (Option.some.inj (Tryz.func9.symm.trans hfn)).symm
      exact ⟨by kernel_rfl, fun j t ht => by
        rw [Tryz.params9] at ht
        have hm : t ∈ [36, 3, 35] := by simpa using Array.mem_of_getElem? ht
        have hall : ([36, 3, 35].all fun u => !Tryz.prog.wantsStandIn u) = true := by kernel_rfl
        exact (show Tryz.prog.wantsStandIn t = false by simpa using List.all_eq_true.1 hall t hm)⟩)
    (by kernel_rfl)
#print axioms card_holds
end Go.Proofs.YtmfiaecglndldaaGreatDoor.shapesOpenRefusesChanges
