/- The law SearchRunMatchesSpec: for every input it returns true, and each argument reads behind the call as it read before. No condition. -/
import Derived.Test.YtgaljodghpgdmaaGreatDoorLa8
import Derived.Test.YtgaljodghpgdmaaGreatDoorTie
import Derived.Test.YtgaljodghpgdmaaGreatDoorCards
import Derived.Test.YtgaljodghpgdmaaGreatDoorRows
import Derived.WalkKit
import Derived.ProofKit
import Derived.OpenShut
import Derived.JoinedCond
import Derived.KernelRfl
import Derived.SevenTiedAt
import Derived.LaidLaws
import Derived.Handed
import Derived.Deep.DeepHandedRow
import Derived.Deep.DeepWitnessRowRef
open Option renaming some->TI
set_option linter.defProp false
set_option linter.unusedVariables false
set_option linter.unusedSimpArgs false
namespace Go.Proofs.YtgaljodghpgdmaaGreatDoor.searchRunMatchesSpec
open Go Go.E Go.ChangeShapes Go.WideShapes Go.ChangeAt Go.RowKit

def own : ownKnob Tryz.prog.godebug = none := by kernel_rfl
def laidOut : laidOutB Tryz.prog = true := by kernel_rfl
def cells3 : Tryz.prog.cellsOf 3 = 1 := by kernel_rfl
def cells4 : Tryz.prog.cellsOf 4 = 1 := by kernel_rfl
def cells5 : Tryz.prog.cellsOf 5 = 1 := by kernel_rfl
def cells9 : Tryz.prog.cellsOf 9 = 1 := by kernel_rfl
def cells23 : Tryz.prog.cellsOf 23 = 1 := by kernel_rfl
def cells24 : Tryz.prog.cellsOf 24 = 1 := by kernel_rfl
def cells25 : Tryz.prog.cellsOf 25 = 1 := by kernel_rfl
def cells27 : Tryz.prog.cellsOf 27 = 7 := by kernel_rfl
def cells52 : Tryz.prog.cellsOf 52 = 1 := by kernel_rfl
def cells54 : Tryz.prog.cellsOf 54 = 5 := by kernel_rfl
def cells56 : Tryz.prog.cellsOf 56 = 6 := by kernel_rfl
def readable : ∀t ∈ [22, 27, 28], Tryz.prog.readableRec t = true ∧ t < Tryz.prog.types.size := by
  intro t ht
  simp only[List.mem_cons, List.not_mem_nil, or_false]at ht
  rcases ht with rfl | rfl | rfl <;> exact ⟨by kernel_rfl, Z4 SF⟩

set_option maxRecDepth 100000 in
def lifted (os : Os) (started : os.Started) (H : Type) (enc : TypeId × Value → H) (F : Stop.Interp) :
    ReturnsInHanded {} Tryz.checked os 3 .any ((Rows.OpenSpec.upto Rows.searchRunMatchesSpecSpec).preRow enc Tryz.prog Tryz.f3 Rows.searchRunMatchesSpecUptoRow.domain false Rows.searchRunMatchesSpecUptoRow.laid) (((Rows.OpenSpec.upto Rows.searchRunMatchesSpecSpec).at F).post enc Tryz.prog Tryz.f3 false true false false) := by
  obtain ⟨places, hx⟩ : ∃places, DataW.whole enc Tryz.prog ((Ww os).forCall (λ_ _ => 0) ⟨#[], #[.slice none 0 0, .agg #[.int .i64 0, .slice none 0 0, .string .empty, .slice none 0 0, .int .i64 0, .int .i64 0, .slice none 0 0], .slice none 0 0], []⟩).memory Tryz.f3.params.toList Rows.searchRunMatchesSpecSpec.vars false (#[.slice none 0 0, .agg #[.int .i64 0, .slice none 0 0, .string .empty, .slice none 0 0, .int .i64 0, .int .i64 0, .slice none 0 0], .slice none 0 0] : Array Value).toList 8 = some ([.nil, .agg [.lit (.int .i64 0), .nil, .lit (.string []), .nil, .lit (.int .i64 0), .lit (.int .i64 0), .nil], .nil], [], places) := ⟨[], by kernel_rfl⟩
  refine returnsInHanded_of_row (C := Tryz.checked) (s := Rows.OpenSpec.upto Rows.searchRunMatchesSpecSpec) own started SF Tryz.func3
    (witness_row_atRef (enc := enc) (C := Tryz.checked) false (Ww os) #[.slice none 0 0, .agg #[.int .i64 0, .slice none 0 0, .string .empty, .slice none 0 0, .int .i64 0, .int .i64 0, .slice none 0 0], .slice none 0 0] Z SF SF SF
      (OpenSpec.preRow_of_cond 8 hx SF (λk hk => by cases hk; kernel_rfl) SF (Ajn os _))) ?_
  intro W base args ds gs before hval0 hW _ hcond _ hLd _ _
  have hbulk := P6.bound (hcond _ Z)
  have hU : E1 (hp W) := AbC hLd
  have hval : ∀(j : Nat) t v, Tryz.f3.params[j]? = TI t → args[j]? = TI v → Value.okWide Tryz.prog W .any base t v := hval0
  have hW' := hW
  obtain ⟨p, q, hA0, hV, rfl, _, _⟩ := hW
  have hA : DataW.TrodAll enc Tryz.prog W 0 (λ_ => true) true Tryz.f3.params.toList args.toList ds p := hA0
  rw[Tryz.params3]at hA hval
  obtain ⟨rfl, rfl⟩ := trodVars_none hV
  simp only[List.append_nil]at hW'
  have hlt : ∀x ∈ p, x.block < W.heap.size := λx hx => by simpa using hW'.lt x hx
  have hAk := hA
  obtain ⟨v0, vs0, d0, ds0, p0, q0, hargs0, rfl, rfl, h0, r0⟩ := trodAll_cons hA
  obtain ⟨v1, vs1, d1, ds1, p1, q1, hargs1, rfl, rfl, h1, r1⟩ := trodAll_cons r0
  obtain ⟨v2, vs2, d2, ds2, p2, q2, hargs2, rfl, rfl, h2, r2⟩ := trodAll_cons r1
  obtain ⟨rfl, rfl, rfl⟩ := trodAll_nil r2
  subst hargs2
  subst hargs1
  obtain rfl : args = #[v0, v1, v2] := by cases args; simp_all
  have hb2 := hbulk
  simp only[Rows.uptoBulkAll, List.cons_append, List.nil_append, List.append_nil]at hb2
  obtain ⟨b0, len0, cap0, rfl⟩ := okWide_slice Tryz.underlying22 (hval 0 22 v0 Z Z)
  obtain ⟨fuel0, hf0⟩ := h0
  obtain ⟨a0, ⟨_, hv0, hl0⟩, ok0⟩ := P6.RB.use (P6.Nt Tryz.underlying22 cells56 Y5 (P6.Am4 Tryz.underlying56 cells56 Z Z Z Z cells24 cells54 Tryz.underlying24 Tryz.underlying5 cells5 (P6.AkY Tryz.underlying54 cells54 Z Z Z Z Z Tryz.underlying3 Tryz.underlying3 Z Z Z cells3 cells3 cells24 cells23 cells52 Tryz.underlying24 Tryz.underlying5 cells5 Tryz.underlying23 Tryz.underlying9 cells9 Tryz.underlying52 1048576 1048576 (Nat.le_refl _)))) (d := d0) (p := p0) U (show DataW.trod enc Tryz.prog W _ _ _ _ _ [.slice b0 len0 cap0] = some _ by simpa[Value.cells]using hf0)
  cases hv0
  obtain ⟨cs1, rfl, _⟩ := okWide_struct Tryz.underlying27 (hval 1 27 v1 Z Z)
  obtain ⟨fuel1, hf1⟩ := h1
  obtain ⟨a1, hl1, ok1⟩ := P6.RB.use (P6.Ajl Tryz.underlying27 cells27 Z Z Z Z Z Z Z Tryz.underlying3 Z Tryz.underlying9 Z Tryz.underlying3 Tryz.underlying3 Z cells3 cells23 cells9 cells24 cells3 cells3 cells25 Tryz.underlying23 Tryz.underlying9 cells9 Tryz.underlying24 Tryz.underlying5 cells5 Tryz.underlying25 1048576 1048576 (Nat.le_refl _)) (d := d1) (p := p1) U (show DataW.trod enc Tryz.prog W _ _ _ _ _ cs1.toList = some _ by simpa[Value.cells]using hf1)
  obtain ⟨_, _, e1, rfl, _, _, rfl, ⟨va1_1, rfl, hva1_1⟩, _, _, rfl, rfl, _, _, rfl, ⟨va1_3, rfl, hva1_3⟩, _, _, rfl, rfl, _, _, rfl, rfl, ⟨va1_6, rfl, hva1_6⟩⟩ := Rp.C2 hl1
  obtain rfl : cs1 = #[.int .i64 a1.f.1, va1_1, .string ⟨a1.f.2.2.1.toArray⟩, va1_3, .int .i64 a1.f.2.2.2.2.1, .int .i64 a1.f.2.2.2.2.2.1, va1_6] := by cases cs1; exact congrArg Array.mk e1
  obtain ⟨b2, len2, cap2, rfl⟩ := okWide_slice Tryz.underlying28 (hval 2 28 v2 Z Z)
  obtain ⟨fuel2, hf2⟩ := h2
  have hq2 : len2 + 1 ≤ Rows.uptoBulk d2 := P6.Aep Tryz.underlying28 (x := (d2, p2)) (by simpa[Value.cells]using hf2)
  obtain ⟨a2, ⟨_, hv2, hl2⟩, _⟩ := (Ado Tryz.underlying28 cells4 Y5 (Aeo Tryz.underlying4)) (show DataW.trod enc Tryz.prog W _ _ _ _ _ [.slice b2 len2 cap2] = some _ by simpa[Value.cells]using hf2)
  cases hv2
  have hz2 := P6.AkX hl2
  simp only[Rows.uptoBulkAll, List.cons_append, List.nil_append]at hbulk
  refine ((QzE W (hp W) (Le.refl _) hU hl0 hva1_1 hva1_3 hva1_6 hl2 (AkW (λd hd => ⟨(ok0.2 d hd).1, (ok0.2 d hd).2 10⟩) ok1)).2).mono λe W' ⟨v, he, hx, hv⟩ => ?_
  subst he; subst hv
  exact ⟨_, Z, ⟨_, _, _, [], _, [], hW', trodAll_mk1 (shut_bool Tryz.underlying4 true), Uh laidOut hx.toBelow readable hAk hlt, Z, hx.toBelow.frame _, λh => by cases h⟩⟩

def and_tt {a b : Bool} (h : a = true) (k : b = true) : (a && b) = true := by rw[h, k]; rfl
set_option maxHeartbeats 4000000 in
def closed : joinedFacts Tryz.prog 3 Tryz.f3 (Rows.OpenSpec.upto Rows.searchRunMatchesSpecSpec).bare Rows.searchRunMatchesSpecUptoRow = true := by
  refine and_tt (and_tt (and_tt (and_tt (and_tt (and_tt (and_tt (and_tt (and_tt (and_tt (and_tt (and_tt (and_tt (and_tt (and_tt (and_tt (and_tt (and_tt (and_tt (and_tt (and_tt (and_tt (and_tt (and_tt (and_tt (and_tt (and_tt (and_tt (and_tt (and_tt (and_tt ?_ ?_) ?_) ?_) ?_) ?_) ?_) ?_) ?_) ?_) ?_) ?_) ?_) ?_) ?_) ?_) ?_) ?_) ?_) ?_) ?_) ?_) ?_) ?_) ?_) ?_) ?_) ?_) ?_) ?_) ?_) ?_
  all_goals as_aux_lemma => kernel_rfl
set_option maxHeartbeats 4000000 in
def proved : Rows.SearchRunMatchesSpecUptoSaid :=
  OpenClaim.holds_of_cond 3 Tryz.f3 Z Z Z Z Z Z Z ⟨Z, Z, Z, Z, Z⟩ Z Z Z Z Z (by as_aux_lemma => kernel_rfl) Tryz.func3 closed
    (Z4 SF) (by unfold Func.isWrapper; first | (rw[Xu (by decide +kernel)]; kernel_rfl) | (rw[Pb (by decide +kernel)]; exact ⟨Z, Z⟩))
    (λos started H enc _ F => by rw[OpenClaim.pre_eq_preRow]; exact lifted os started H enc F)
set_option maxHeartbeats 4000000 in
def card_holds : Rows.SearchRunMatchesSpecUptoCardSaid :=
  Claim7.holds_tied_plain_at .later [] [.data, .data, .data, .data, .sentinel, .sentinel, .pinned] true (true, "789f7a74421f54c4541d1935c9d1e4e888a1ba8e0ff352b14a42de003a2bb56b") true
    proved (λ_ h => by cases h) (by as_aux_lemma => kernel_rfl) (λ_ h => by cases h) searchRunMatchesSpecUpto_row_tie Z ⟨Z, Z⟩ (by as_aux_lemma => kernel_rfl) Z
    (λf fn hf hfn => by
      obtain rfl : f = 3 := Option.some.inj ((show Tryz.prog.funcNamed "scriptorium/scriptoriumlaw4.SearchRunMatchesSpec" = some 3 by as_aux_lemma => kernel_rfl).symm.trans hf) |>.symm
      obtain rfl : fn = Tryz.f3 := (Option.some.inj (Tryz.func3.symm.trans hfn)).symm
      exact ⟨by as_aux_lemma => kernel_rfl, λj t ht => by
        rw[Tryz.params3]at ht
        have hm : t ∈ [22, 27, 28] := by simpa using Array.mem_of_getElem? ht
        have hall : ([22, 27, 28].all λu => !Tryz.prog.wantsStandIn u) = true := by as_aux_lemma => kernel_rfl
        exact (show Tryz.prog.wantsStandIn t = false by simpa using List.all_eq_true.1 hall t hm)⟩)
    (by as_aux_lemma => kernel_rfl)
#print axioms card_holds
end Go.Proofs.YtgaljodghpgdmaaGreatDoor.searchRunMatchesSpec
