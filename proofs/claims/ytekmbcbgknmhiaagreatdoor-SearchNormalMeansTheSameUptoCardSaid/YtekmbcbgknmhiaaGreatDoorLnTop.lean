/- The law SearchNormalMeansTheSame: for every input it returns true, and each argument reads behind the call as it read before. No condition. -/
import Derived.Test.YtekmbcbgknmhiaaGreatDoorLn8
import Derived.Test.YtekmbcbgknmhiaaGreatDoorTie
import Derived.Test.YtekmbcbgknmhiaaGreatDoorCards
import Derived.Test.YtekmbcbgknmhiaaGreatDoorRows
import Derived.WalkKit
import Derived.ProofKit
import Derived.OpenShut
import Derived.JoinedCond
import Derived.KernelRfl
import Derived.SevenTiedAt
import Derived.LaidLaws
import Derived.Handed
import Derived.Deep.DeepHandedRow
import Derived.Deep.DeepWitnessRowRef
set_option linter.unusedVariables false
set_option linter.unusedSimpArgs false
namespace Go.Proofs.YtekmbcbgknmhiaaGreatDoor.searchNormalMeansTheSame
open Go Go.E Go.ChangeShapes Go.WideShapes Go.ChangeAt Go.RowKit

theorem own : ownKnob Tryz.prog.godebug = none := by kernel_rfl
theorem laidOut : laidOutB Tryz.prog = true := by kernel_rfl
theorem cells3 : Tryz.prog.cellsOf 3 = 1 := by kernel_rfl
theorem cells4 : Tryz.prog.cellsOf 4 = 1 := by kernel_rfl
theorem cells5 : Tryz.prog.cellsOf 5 = 1 := by kernel_rfl
theorem cells9 : Tryz.prog.cellsOf 9 = 1 := by kernel_rfl
theorem cells22 : Tryz.prog.cellsOf 22 = 1 := by kernel_rfl
theorem cells23 : Tryz.prog.cellsOf 23 = 1 := by kernel_rfl
theorem cells24 : Tryz.prog.cellsOf 24 = 1 := by kernel_rfl
theorem cells26 : Tryz.prog.cellsOf 26 = 7 := by kernel_rfl
theorem cells62 : Tryz.prog.cellsOf 62 = 1 := by kernel_rfl
theorem cells64 : Tryz.prog.cellsOf 64 = 5 := by kernel_rfl
theorem cells66 : Tryz.prog.cellsOf 66 = 6 := by kernel_rfl
theorem readable : ∀ t ∈ [42, 26, 43], Tryz.prog.readableRec t = true ∧ t < Tryz.prog.types.size := by
  intro t ht
  simp only [List.mem_cons, List.not_mem_nil, or_false] at ht
  rcases ht with rfl | rfl | rfl <;> exact ⟨by kernel_rfl, of_decide_eq_true Qqb⟩

set_option maxRecDepth 100000 in
theorem lifted (os : Os) (started : os.Started) (H : Type) (enc : TypeId × Value → H) (F : Stop.Interp) :
    ReturnsInHanded {} Tryz.checked os 9 .any ((Rows.OpenSpec.upto Rows.searchNormalMeansTheSameSpec).preRow enc Tryz.prog Tryz.f9 Rows.searchNormalMeansTheSameUptoRow.domain false Rows.searchNormalMeansTheSameUptoRow.laid) (((Rows.OpenSpec.upto Rows.searchNormalMeansTheSameSpec).at F).post enc Tryz.prog Tryz.f9 false true false false) := by
  obtain ⟨places, hx⟩ : ∃ places, DataW.whole enc Tryz.prog ((laidWorld os).forCall (fun _ _ => 0) ⟨#[], #[.slice none 0 0, .agg #[.int .i64 0, .slice none 0 0, .string .empty, .slice none 0 0, .int .i64 0, .int .i64 0, .slice none 0 0], .slice none 0 0], []⟩).memory Tryz.f9.params.toList Rows.searchNormalMeansTheSameSpec.vars false (#[.slice none 0 0, .agg #[.int .i64 0, .slice none 0 0, .string .empty, .slice none 0 0, .int .i64 0, .int .i64 0, .slice none 0 0], .slice none 0 0] : Array Value).toList 8 = some ([.nil, .agg [.lit (.int .i64 0), .nil, .lit (.string []), .nil, .lit (.int .i64 0), .lit (.int .i64 0), .nil], .nil], [], places) := ⟨[], by kernel_rfl⟩
  refine returnsInHanded_of_row (C := Tryz.checked) (s := Rows.OpenSpec.upto Rows.searchNormalMeansTheSameSpec) own started Qqb Tryz.func9
    (witness_row_atRef (enc := enc) (C := Tryz.checked) false (laidWorld os) #[.slice none 0 0, .agg #[.int .i64 0, .slice none 0 0, .string .empty, .slice none 0 0, .int .i64 0, .int .i64 0, .slice none 0 0], .slice none 0 0] Z Qqb Qqb Qqb
      (OpenSpec.preRow_of_cond 8 hx Qqb (fun k hk => by cases hk; kernel_rfl) Qqb (door_met os _))) ?_
  intro W base args ds gs before hval0 hW _ hcond _ hLd _ _
  have hbulk := O5.bound (hcond _ Z)
  have hU : Gq (hp W) := utab_of_laid hLd
  have hval : ∀ (j : Nat) t v, Tryz.f9.params[j]? = some t → args[j]? = some v → Value.okWide Tryz.prog W .any base t v := hval0
  have hW' := hW
  obtain ⟨p, q, hA0, hV, rfl, _, _⟩ := hW
  have hA : DataW.TrodAll enc Tryz.prog W 0 (fun _ => true) true Tryz.f9.params.toList args.toList ds p := hA0
  rw [Tryz.params9] at hA hval
  obtain ⟨rfl, rfl⟩ := trodVars_none hV
  simp only [List.append_nil] at hW'
  have hlt : ∀ x ∈ p, x.block < W.heap.size := fun x hx => by simpa using hW'.lt x hx
  have hAk := hA
  obtain ⟨v0, vs0, d0, ds0, p0, q0, hargs0, rfl, rfl, h0, r0⟩ := trodAll_cons hA
  obtain ⟨v1, vs1, d1, ds1, p1, q1, hargs1, rfl, rfl, h1, r1⟩ := trodAll_cons r0
  obtain ⟨v2, vs2, d2, ds2, p2, q2, hargs2, rfl, rfl, h2, r2⟩ := trodAll_cons r1
  obtain ⟨rfl, rfl, rfl⟩ := trodAll_nil r2
  subst hargs2
  subst hargs1
  obtain rfl : args = #[v0, v1, v2] := by cases args; simp_all
  have hb2 := hbulk
  simp only [Rows.uptoBulkAll, List.cons_append, List.nil_append, List.append_nil] at hb2
  obtain ⟨b0, len0, cap0, rfl⟩ := okWide_slice Tryz.underlying42 (hval 0 42 v0 Z Z)
  obtain ⟨fuel0, hf0⟩ := h0
  obtain ⟨a0, ⟨_, hv0, hl0⟩, ok0⟩ := O5.RB.use (O5.Np Tryz.underlying42 cells66 Qqc (O5.Ai3 Tryz.underlying66 cells66 Z Z Z Z cells23 cells64 Tryz.underlying23 Tryz.underlying5 cells5 (O5.Ahn Tryz.underlying64 cells64 Z Z Z Z Z Tryz.underlying3 Tryz.underlying3 Z Z Z cells3 cells3 cells23 cells22 cells62 Tryz.underlying23 Tryz.underlying5 cells5 Tryz.underlying22 Tryz.underlying9 cells9 Tryz.underlying62 1048576 1048576 (Nat.le_refl _)))) (d := d0) (p := p0) U (show DataW.trod enc Tryz.prog W _ _ _ _ _ [.slice b0 len0 cap0] = some _ by simpa [Value.cells] using hf0)
  cases hv0
  obtain ⟨cs1, rfl, _⟩ := okWide_struct Tryz.underlying26 (hval 1 26 v1 Z Z)
  obtain ⟨fuel1, hf1⟩ := h1
  obtain ⟨a1, hl1, ok1⟩ := O5.RB.use (O5.Af2 Tryz.underlying26 cells26 Z Z Z Z Z Z Z Tryz.underlying3 Z Tryz.underlying9 Z Tryz.underlying3 Tryz.underlying3 Z cells3 cells22 cells9 cells23 cells3 cells3 cells24 Tryz.underlying22 Tryz.underlying9 cells9 Tryz.underlying23 Tryz.underlying5 cells5 Tryz.underlying24 1048576 1048576 (Nat.le_refl _)) (d := d1) (p := p1) U (show DataW.trod enc Tryz.prog W _ _ _ _ _ cs1.toList = some _ by simpa [Value.cells] using hf1)
  obtain ⟨_, _, e1, rfl, _, _, rfl, ⟨va1_1, rfl, hva1_1⟩, _, _, rfl, rfl, _, _, rfl, ⟨va1_3, rfl, hva1_3⟩, _, _, rfl, rfl, _, _, rfl, rfl, ⟨va1_6, rfl, hva1_6⟩⟩ := Rp.HQ hl1
  obtain rfl : cs1 = #[.int .i64 a1.f.1, va1_1, .string ⟨a1.f.2.2.1.toArray⟩, va1_3, .int .i64 a1.f.2.2.2.2.1, .int .i64 a1.f.2.2.2.2.2.1, va1_6] := by cases cs1; exact congrArg Array.mk e1
  obtain ⟨b2, len2, cap2, rfl⟩ := okWide_slice Tryz.underlying43 (hval 2 43 v2 Z Z)
  obtain ⟨fuel2, hf2⟩ := h2
  have hq2 : len2 + 1 ≤ Rows.uptoBulk d2 := O5.AaQ Tryz.underlying43 (x := (d2, p2)) (by simpa [Value.cells] using hf2)
  obtain ⟨a2, ⟨_, hv2, hl2⟩, _⟩ := (ZQ Tryz.underlying43 cells4 Qqc (AaP Tryz.underlying4)) (show DataW.trod enc Tryz.prog W _ _ _ _ _ [.slice b2 len2 cap2] = some _ by simpa [Value.cells] using hf2)
  cases hv2
  have hz2 := O5.Ahm hl2
  simp only [Rows.uptoBulkAll, List.cons_append, List.nil_append] at hbulk
  refine ((Ms W (hp W) (Le.refl _) hU hl0 hva1_1 hva1_3 hva1_6 hl2 (AcW (fun d hd => ⟨(ok0.2 d hd).1, (ok0.2 d hd).2 10⟩) ok1)).2).mono fun e W' ⟨v, he, hx, hv⟩ => ?_
  subst he; subst hv
  exact ⟨_, Z, ⟨_, _, _, [], _, [], hW', trodAll_mk1 (shut_bool Tryz.underlying4 true), RQ laidOut hx.toBelow readable hAk hlt, Z, hx.toBelow.frame _, fun h => by cases h⟩⟩

theorem and_tt {a b : Bool} (h : a = true) (k : b = true) : (a && b) = true := by rw [h, k]; rfl
set_option maxHeartbeats 4000000 in
theorem closed : joinedFacts Tryz.prog 9 Tryz.f9 (Rows.OpenSpec.upto Rows.searchNormalMeansTheSameSpec).bare Rows.searchNormalMeansTheSameUptoRow = true := by
  refine and_tt (and_tt (and_tt (and_tt (and_tt (and_tt (and_tt (and_tt (and_tt (and_tt (and_tt (and_tt (and_tt (and_tt (and_tt (and_tt (and_tt (and_tt (and_tt (and_tt (and_tt (and_tt (and_tt (and_tt (and_tt (and_tt (and_tt (and_tt (and_tt (and_tt (and_tt ?_ ?_) ?_) ?_) ?_) ?_) ?_) ?_) ?_) ?_) ?_) ?_) ?_) ?_) ?_) ?_) ?_) ?_) ?_) ?_) ?_) ?_) ?_) ?_) ?_) ?_) ?_) ?_) ?_) ?_) ?_) ?_
  all_goals as_aux_lemma => kernel_rfl
set_option maxHeartbeats 4000000 in
theorem proved : Rows.SearchNormalMeansTheSameUptoSaid :=
  OpenClaim.holds_of_cond 9 Tryz.f9 Z Z Z Z Z Z Z ⟨Z, Z, Z, Z, Z⟩ Z Z Z Z Z (by as_aux_lemma => kernel_rfl) Tryz.func9 closed
    (of_decide_eq_true Qqb) (by unfold Func.isWrapper; first | (rw [if_pos (by decide +kernel)]; kernel_rfl) | (rw [if_neg (by decide +kernel)]; exact ⟨Z, Z⟩))
    (fun os started H enc _ F => by rw [OpenClaim.pre_eq_preRow]; exact lifted os started H enc F)
set_option maxHeartbeats 4000000 in
theorem card_holds : Rows.SearchNormalMeansTheSameUptoCardSaid :=
  Claim7.holds_tied_plain_at .later [] [.data, .data, .data, .data, .sentinel, .sentinel, .pinned] true (true, "bb28d5bab7c35a9b9d7b00c772b4e9890dfb41217e2c8bbe2440bd1cc94b2bbf") true
    proved (fun _ h => by cases h) (by as_aux_lemma => kernel_rfl) (fun _ h => by cases h) searchNormalMeansTheSameUpto_row_tie Z ⟨Z, Z⟩ (by as_aux_lemma => kernel_rfl) Z
    (fun f fn hf hfn => by
      obtain rfl : f = 9 := Option.some.inj ((show Tryz.prog.funcNamed "scriptorium/scriptoriumlaw4.SearchNormalMeansTheSame" = some 9 by as_aux_lemma => kernel_rfl).symm.trans hf) |>.symm
      obtain rfl : fn = Tryz.f9 := (Option.some.inj (Tryz.func9.symm.trans hfn)).symm
      exact ⟨by as_aux_lemma => kernel_rfl, fun j t ht => by
        rw [Tryz.params9] at ht
        have hm : t ∈ [42, 26, 43] := by simpa using Array.mem_of_getElem? ht
        have hall : ([42, 26, 43].all fun u => !Tryz.prog.wantsStandIn u) = true := by as_aux_lemma => kernel_rfl
        exact (show Tryz.prog.wantsStandIn t = false by simpa using List.all_eq_true.1 hall t hm)⟩)
    (by as_aux_lemma => kernel_rfl)
#print axioms card_holds
end Go.Proofs.YtekmbcbgknmhiaaGreatDoor.searchNormalMeansTheSame
