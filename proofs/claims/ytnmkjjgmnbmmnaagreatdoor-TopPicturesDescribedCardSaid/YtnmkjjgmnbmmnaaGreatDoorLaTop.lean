/- The law TopPicturesDescribed: for every input it returns true, and each argument reads behind the call as it read before. No condition. -/
import Derived.Test.YtnmkjjgmnbmmnaaGreatDoorLa7
import Derived.Test.YtnmkjjgmnbmmnaaGreatDoorTie
import Derived.Test.YtnmkjjgmnbmmnaaGreatDoorCards
import Derived.Test.YtnmkjjgmnbmmnaaGreatDoorRows
import Derived.WalkKit
import Derived.ProofKit
import Derived.OpenShut
import Derived.JoinedCond
import Derived.KernelRfl
import Derived.SevenTiedAt
import Derived.LaidLaws
import Derived.Handed
set_option linter.unusedVariables false
set_option linter.unusedSimpArgs false
namespace Go.Proofs.YtnmkjjgmnbmmnaaGreatDoor.topPicturesDescribed
open Go Go.E Go.ChangeShapes Go.WideShapes Go.ChangeAt Go.RowKit

theorem own : ownKnob Tryz.prog.godebug = none := by kernel_rfl
theorem laidOut : laidOutB Tryz.prog = true := by kernel_rfl
theorem cells5 : Tryz.prog.cellsOf 5 = 1 := by kernel_rfl
theorem readable : ∀t ∈ [22], Tryz.prog.readableRec t = true ∧ t < Tryz.prog.types.size := by
  intro t ht
  simp only[List.mem_cons, List.not_mem_nil, or_false]at ht
  rcases ht with rfl <;> exact ⟨by kernel_rfl, of_decide_eq_true V⟩

set_option maxRecDepth 100000 in
theorem lifted (os : Os) (started : os.Started) (H : Type) (enc : TypeId × Value → H) :
    ReturnsInHanded {} Tryz.checked os 3 .any (fun w args => (Rows.topPicturesDescribedSpec.pre enc Tryz.prog Tryz.f3 [] false w args ∧ laidMetH Tryz.prog Rh w) ∧ sizedMet enc Tryz.prog Tryz.f3 (OpenSpec.ofChange Rows.topPicturesDescribedSpec) false w args) (Rows.topPicturesDescribedSpec.post enc Tryz.prog Tryz.f3 false true false false) := by
  refine returnsInHanded_of_change_and (C := Tryz.checked) (X := fun w _ => laidMetH Tryz.prog Rh w) (fun _ _ _ hh h => h.of_heap hh) own started V Tryz.func3
    (ChangeSpec.witness_shaped (enc := enc) (C := Tryz.checked) (os := os) (X := fun w _ => laidMetH Tryz.prog Rh w) false (Pb os) #[.slice none 0 0] 8 Z (World.shaped_of_RefB V V) V V V (VR os _)) ?_
  intro W base args ds gs before hval0 hW _ _ hLd _
  have hU : Jm (hp W) := RF hLd
  have hval : ∀(j : Nat) t v, Tryz.f3.params[j]? = some t → args[j]? = some v → Value.okWide Tryz.prog W .any base t v := hval0
  have hW' := hW
  obtain ⟨p, q, hA0, hV, rfl, _, _⟩ := hW
  have hA : DataW.TrodAll enc Tryz.prog W 0 (fun _ => true) true Tryz.f3.params.toList args.toList ds p := hA0
  rw[Tryz.params3]at hA hval
  obtain ⟨rfl, rfl⟩ := trodVars_none hV
  simp only[List.append_nil]at hW'
  have hlt : ∀x ∈ p, x.block < W.heap.size := fun x hx => by simpa using hW'.lt x hx
  have hAk := hA
  obtain ⟨v0, vs0, d0, ds0, p0, q0, hargs0, rfl, rfl, h0, r0⟩ := trodAll_cons hA
  obtain ⟨rfl, rfl, rfl⟩ := trodAll_nil r0
  obtain rfl : args = #[v0] := by cases args; simp_all
  obtain ⟨b0, len0, cap0, rfl⟩ := okWide_slice Tryz.underlying22 (hval 0 22 v0 Z Z)
  obtain ⟨fuel0, hf0⟩ := h0
  obtain ⟨a0, ⟨_, hv0, hl0⟩, _⟩ := (SA Tryz.underlying22 cells5 Qqb (Tk Tryz.underlying5)) (show DataW.trod enc Tryz.prog W _ _ _ _ _ [.slice b0 len0 cap0] = some _ by simpa[Value.cells]using hf0)
  cases hv0
  refine ((Li W (hp W) (Le.refl _) hU hl0 (RE a0)).2).mono fun e W' ⟨v, he, hx, hv⟩ => ?_
  subst he; subst hv
  exact ⟨_, Z, ⟨_, _, _, [], _, [], hW', trodAll_mk1 (shut_bool Tryz.underlying4 true), NQ laidOut hx.toBelow readable hAk hlt, Z, hx.toBelow.frame _, fun h => by cases h⟩⟩

theorem and_tt {a b : Bool} (h : a = true) (k : b = true) : (a && b) = true := by rw[h, k]; rfl
set_option maxHeartbeats 4000000 in
theorem closed : joinedFacts Tryz.prog 3 Tryz.f3 Rows.topPicturesDescribedSpec Rows.topPicturesDescribedRow = true := by
  refine and_tt (and_tt (and_tt (and_tt (and_tt (and_tt (and_tt (and_tt (and_tt (and_tt (and_tt (and_tt (and_tt (and_tt (and_tt (and_tt (and_tt (and_tt (and_tt (and_tt (and_tt (and_tt (and_tt (and_tt (and_tt (and_tt (and_tt (and_tt (and_tt (and_tt (and_tt ?_ ?_) ?_) ?_) ?_) ?_) ?_) ?_) ?_) ?_) ?_) ?_) ?_) ?_) ?_) ?_) ?_) ?_) ?_) ?_) ?_) ?_) ?_) ?_) ?_) ?_) ?_) ?_) ?_) ?_) ?_) ?_
  all_goals as_aux_lemma => kernel_rfl
set_option maxHeartbeats 4000000 in
theorem proved : Rows.TopPicturesDescribedSaid :=
  OpenClaim.holds_of_wide 3 Tryz.f3 Z Z Z Z Z Z Z ⟨Z, Z, Z, Z, Z⟩ Z Z Z Z Z (by as_aux_lemma => kernel_rfl) Tryz.func3 closed
    (of_decide_eq_true V) (by unfold Func.isWrapper; first | (rw[if_pos (by decide +kernel)]; kernel_rfl) | (rw[if_neg (by decide +kernel)]; exact ⟨Z, Z⟩))
    (fun os started H enc _ => lifted os started H enc)
set_option maxHeartbeats 4000000 in
theorem card_holds : Rows.TopPicturesDescribedCardSaid :=
  Claim7.holds_tied_plain_at .later [] [.data, .data, .data, .data, .sentinel, .sentinel, .listed, .data, .pinned] true (true, "ae40d24b29bcac1393a8d4625c8d9b60492621b03c048dc3a280a5f4863294e8") true
    proved (fun _ h => by cases h) (by as_aux_lemma => kernel_rfl) (fun _ h => by cases h) topPicturesDescribed_row_tie Z ⟨Z, Z⟩ (by as_aux_lemma => kernel_rfl) Z
    (fun f fn hf hfn => by
      obtain rfl : f = 3 := Option.some.inj ((show Tryz.prog.funcNamed "scriptorium/scriptoriumtop.TopPicturesDescribed" = some 3 by as_aux_lemma => kernel_rfl).symm.trans hf) |>.symm
      obtain rfl : fn = Tryz.f3 := (Option.some.inj (Tryz.func3.symm.trans hfn)).symm
      exact ⟨by as_aux_lemma => kernel_rfl, fun j t ht => by
        rw[Tryz.params3]at ht
        have hm : t ∈ [22] := by simpa using Array.mem_of_getElem? ht
        have hall : ([22].all fun u => !Tryz.prog.wantsStandIn u) = true := by as_aux_lemma => kernel_rfl
        exact (show Tryz.prog.wantsStandIn t = false by simpa using List.all_eq_true.1 hall t hm)⟩)
    (by as_aux_lemma => kernel_rfl)
#print axioms card_holds
end Go.Proofs.YtnmkjjgmnbmmnaaGreatDoor.topPicturesDescribed
