/- Texts of a claim, merged. -/
import Derived.Test.YtmfiaecglndldaaGreatDoorKa9
import Derived.KernelRfl
import Derived.ProofKit
import Derived.OpenShut
import Derived.Carry
import Derived.Deep.Slices
import Derived.Test.YtmfiaecglndldaaGreatDoorRows
import Derived.Lib.LaidU8T
import Derived.LaidMore
import Derived.MakeChecks
import Derived.LaidHandle
set_option linter.unusedVariables false
set_option linter.unusedSimpArgs false
section
namespace Go.Proofs.YtmfiaecglndldaaGreatDoor
open Go Go.E Go.RowKit Go.L
noncomputable instance (a b c d) : Mi (genSplitL a b c d) := ⟨_, apR _⟩
noncomputable instance (a b) : Mi (idxbL a b) := ⟨_, apR _⟩
noncomputable instance (a b) : Mi (joinL a b) := ⟨_, apR _⟩
noncomputable instance (a) : Mi (nameCF a) := ⟨_, apR _⟩
noncomputable instance (a0 : Int) (a1 : Int) : Mi (shapes_fault a0 a1) := by delta shapes_fault; infer_instance
noncomputable instance (a0 : List UInt8) (a1 : List UInt8) : Mi (strings_Split a0 a1) := by delta strings_Split; infer_instance
noncomputable instance (a0 : List UInt8) : Mi (shapes_steps a0) := by delta shapes_steps; infer_instance
noncomputable instance (a0 : List UInt8) : Mi (value_Name a0) := by delta value_Name; infer_instance
noncomputable instance  : Mi (shapes_Check_k1) := by delta shapes_Check_k1; infer_instance
noncomputable instance (x85 : (List (List UInt8))) (s) : Mi (shapes_Check_bl2 x85 s) := by obtain ⟨s3_122, s13_123⟩ := s; delta shapes_Check_bl2; dsimp only; repeat' first | (show Mi _; infer_instance) | refine @iB _ _ _ _ ?_ (fun _ => ?_) | refine @iC _ _ _ _ ?_ | refine @iI _ _ _ _ _ ?_ ?_
noncomputable instance (x85 : (List (List UInt8))) (s : Int × Int) : Mi (shapes_Check_l2 x85 s) := by delta shapes_Check_l2; infer_instance
noncomputable instance (a0 : List UInt8) : Mi (shapes_Check a0) := by delta shapes_Check; infer_instance
noncomputable instance (a0 : List UInt8) : Mi (shapes_isPath_1 a0) := by delta shapes_isPath_1; infer_instance
noncomputable instance  : Mi (idxf_isPath_1_k1) := by delta idxf_isPath_1_k1; infer_instance
noncomputable instance (a0 : List (List UInt8)) (s) : Mi (idxf_isPath_1_bl2 a0 s) := by delta idxf_isPath_1_bl2; infer_instance
noncomputable instance (a0 : List (List UInt8)) (s : Int) : Mi (idxf_isPath_1_l2 a0 s) := by delta idxf_isPath_1_l2; infer_instance
noncomputable instance (a0 : List (List UInt8)) : Mi (idxf_isPath_1 a0) := by delta idxf_isPath_1; infer_instance
noncomputable instance (a0 : List (List UInt8)) : Mi (conf_isPath_1 a0) := by delta conf_isPath_1; infer_instance
noncomputable instance (a0 : List UInt8) : Mi (shapes_isPath a0) := by delta shapes_isPath; infer_instance
noncomputable instance (a0 : List UInt8) (a1 : List UInt8) : Mi (shapes_matches_1 a0 a1) := by delta shapes_matches_1; infer_instance
noncomputable instance (l233 : List (List UInt8)) (s5_234 : Int) : Mi (slices_CompactFunc_string_string_k4 l233 s5_234) := by delta slices_CompactFunc_string_string_k4; infer_instance
noncomputable instance (s5_128 : Int) (s) : Mi (slices_CompactFunc_string_string_bl5 s5_128 s) := by obtain ⟨l263, s5_264, s7_265⟩ := s; delta slices_CompactFunc_string_string_bl5; dsimp only; infer_instance
noncomputable instance (s5_128 : Int) (s : (List (List UInt8)) × Int × Int) : Mi (slices_CompactFunc_string_string_l5 s5_128 s) := by delta slices_CompactFunc_string_string_l5; infer_instance
noncomputable instance (l127 : List (List UInt8)) (s5_186 : Int) : Mi (slices_CompactFunc_string_string_k3 l127 s5_186) := by delta slices_CompactFunc_string_string_k3; infer_instance
noncomputable instance (l65 : List (List UInt8)) : Mi (slices_CompactFunc_string_string_k1 l65) := by delta slices_CompactFunc_string_string_k1; infer_instance
noncomputable instance  (s) : Mi (slices_CompactFunc_string_string_bl2 s) := by obtain ⟨l127, s5_128⟩ := s; delta slices_CompactFunc_string_string_bl2; dsimp only; infer_instance
noncomputable instance (s : (List (List UInt8)) × Int) : Mi (slices_CompactFunc_string_string_l2 s) := by delta slices_CompactFunc_string_string_l2; infer_instance
noncomputable instance (a0 : List (List UInt8)) : Mi (slices_CompactFunc_string_string a0) := by delta slices_CompactFunc_string_string; infer_instance
noncomputable instance  : Mi (shapes_match_body_k2) := by delta shapes_match_body_k2; infer_instance
noncomputable instance (a0 : List (List UInt8)) (a1 : List (List UInt8)) (self : (List (List UInt8)) → (List (List UInt8)) → Option (Bool)) [∀ x0 x1, Mi (self x0 x1)] (s) : Mi (shapes_match_body_bl3 a0 a1 self s) := by delta shapes_match_body_bl3; infer_instance
noncomputable instance (a0 : List (List UInt8)) (a1 : List (List UInt8)) (self : (List (List UInt8)) → (List (List UInt8)) → Option (Bool)) [∀ x0 x1, Mi (self x0 x1)] (s : Int) : Mi (shapes_match_body_l3 a0 a1 self s) := by delta shapes_match_body_l3; infer_instance
noncomputable instance (a0 : List (List UInt8)) (a1 : List (List UInt8)) (self : (List (List UInt8)) → (List (List UInt8)) → Option (Bool)) [∀ x0 x1, Mi (self x0 x1)] : Mi (shapes_match_body_k1 a0 a1 self) := by delta shapes_match_body_k1; infer_instance
noncomputable instance (self : (List (List UInt8)) → (List (List UInt8)) → Option (Bool)) [∀ x0 x1, Mi (self x0 x1)] (a0 : List (List UInt8)) (a1 : List (List UInt8)) : Mi (shapes_match_body self a0 a1) := by delta shapes_match_body; infer_instance
noncomputable instance shapes_match_nMi  : ∀ (n : Nat) (y0) (y1), Mi (shapes_match_n n y0 y1)
 | 0, _, _ => ⟨none, fun _ h => by cases h⟩
 | n + 1, y0, y1 => by
  haveI := shapes_match_nMi n
  show Mi (shapes_match_body (shapes_match_n n) y0 y1)
  infer_instance
noncomputable instance  (y0) (y1) : Mi (shapes_match y0 y1) := by delta shapes_match; infer_instance
noncomputable instance (a0 : List UInt8) (a1 : List UInt8) : Mi (shapes_matches a0 a1) := by delta shapes_matches; infer_instance
noncomputable instance (a0 : List UInt8) (a1 : List UInt8) : Mi (shapes_Match a0 a1) := by delta shapes_Match; infer_instance
noncomputable instance (a0 : Int) : Mi (law4_number a0) := by delta law4_number; infer_instance
noncomputable instance (a0 : Int) : Mi (law4_record a0) := by delta law4_record; infer_instance
noncomputable instance (a0 : Int) (a1 : Int) : Mi (value_fault a0 a1) := by delta value_fault; infer_instance
noncomputable instance  : Mi (slices_Index_int_int_k1) := by delta slices_Index_int_int_k1; infer_instance
noncomputable instance (a0 : List Int) (a1 : Int) (s) : Mi (slices_Index_int_int_bl2 a0 a1 s) := by delta slices_Index_int_int_bl2; infer_instance
noncomputable instance (a0 : List Int) (a1 : Int) (s : Int) : Mi (slices_Index_int_int_l2 a0 a1 s) := by delta slices_Index_int_int_l2; infer_instance
noncomputable instance (a0 : List Int) (a1 : Int) : Mi (slices_Index_int_int a0 a1) := by delta slices_Index_int_int; infer_instance
noncomputable instance (a0 : List Int) (a1 : Int) : Mi (slices_Contains_int_int a0 a1) := by delta slices_Contains_int_int; infer_instance
noncomputable instance (a0 : List Int) (a1 : Go.L.Pv) : Mi (value_checkNode_1 a0 a1) := by delta value_checkNode_1; infer_instance
noncomputable instance (a0 : List UInt8) : Mi (value_checkNode_2 a0) := by delta value_checkNode_2; infer_instance
noncomputable instance  : Mi (idxf_checkNode_2_k1) := by delta idxf_checkNode_2_k1; infer_instance
noncomputable instance (a0 : List (List UInt8)) (s) : Mi (idxf_checkNode_2_bl2 a0 s) := by delta idxf_checkNode_2_bl2; infer_instance
noncomputable instance (a0 : List (List UInt8)) (s : Int) : Mi (idxf_checkNode_2_l2 a0 s) := by delta idxf_checkNode_2_l2; infer_instance
noncomputable instance (a0 : List (List UInt8)) : Mi (idxf_checkNode_2 a0) := by delta idxf_checkNode_2; infer_instance
noncomputable instance (a0 : List (List UInt8)) : Mi (conf_checkNode_2 a0) := by delta conf_checkNode_2; infer_instance
noncomputable instance  : Mi (slices_Index_string_string_k1) := by delta slices_Index_string_string_k1; infer_instance
noncomputable instance (a0 : List (List UInt8)) (a1 : List UInt8) (s) : Mi (slices_Index_string_string_bl2 a0 a1 s) := by delta slices_Index_string_string_bl2; infer_instance
noncomputable instance (a0 : List (List UInt8)) (a1 : List UInt8) (s : Int) : Mi (slices_Index_string_string_l2 a0 a1 s) := by delta slices_Index_string_string_l2; infer_instance
noncomputable instance (a0 : List (List UInt8)) (a1 : List UInt8) : Mi (slices_Index_string_string a0 a1) := by delta slices_Index_string_string; infer_instance
noncomputable instance (a0 : List (List UInt8)) (a1 : List UInt8) : Mi (slices_Contains_string_string a0 a1) := by delta slices_Contains_string_string; infer_instance
noncomputable instance  : Mi (value_checkNode_k2) := by delta value_checkNode_k2; infer_instance
noncomputable instance (c260 : List (List UInt8)) (s) : Mi (value_checkNode_bl3 c260 s) := by delta value_checkNode_bl3; infer_instance
noncomputable instance (c260 : List (List UInt8)) (s : Int) : Mi (value_checkNode_l3 c260 s) := by delta value_checkNode_l3; infer_instance
noncomputable instance (_c257 : Int) (_c258 : Int) (_c259 : List UInt8) (c260 : List (List UInt8)) (c261 : List Go.L.Pv) (s12_262 : Bool) : Mi (value_checkNode_k1 _c257 _c258 _c259 c260 c261 s12_262) := by delta value_checkNode_k1; infer_instance
noncomputable instance (a0 : Go.L.Pv) : Mi (value_checkNode a0) := by delta value_checkNode; repeat' first | (show Mi _; infer_instance) | refine @iB _ _ _ _ ?_ (fun _ => ?_) | refine @iC _ _ _ _ ?_ | refine @iI _ _ _ _ _ ?_ ?_
noncomputable instance (s9_65 : Int) : Mi (value_check_body_k1 s9_65) := by delta value_check_body_k1; infer_instance
noncomputable instance (a0 : Go.L.Pv) (a2 : Int) (self : Go.L.Pv → Int → Int → Option (Int × (Int × Int))) [∀ x0 x1 x2, Mi (self x0 x1 x2)] (s) : Mi (value_check_body_bl2 a0 a2 self s) := by obtain ⟨s9_90, s33_91⟩ := s; delta value_check_body_bl2; dsimp only; infer_instance
noncomputable instance (a0 : Go.L.Pv) (a2 : Int) (self : Go.L.Pv → Int → Int → Option (Int × (Int × Int))) [∀ x0 x1 x2, Mi (self x0 x1 x2)] (s : Int × Int) : Mi (value_check_body_l2 a0 a2 self s) := by delta value_check_body_l2; infer_instance
noncomputable instance (self : Go.L.Pv → Int → Int → Option (Int × (Int × Int))) [∀ x0 x1 x2, Mi (self x0 x1 x2)] (a0 : Go.L.Pv) (a1 : Int) (a2 : Int) : Mi (value_check_body self a0 a1 a2) := by delta value_check_body; infer_instance
noncomputable instance value_check_nMi  : ∀ (n : Nat) (y0) (y1) (y2), Mi (value_check_n n y0 y1 y2)
 | 0, _, _, _ => ⟨none, fun _ h => by cases h⟩
 | n + 1, y0, y1, y2 => by
  haveI := value_check_nMi n
  show Mi (value_check_body (value_check_n n) y0 y1 y2)
  infer_instance
noncomputable instance  (y0) (y1) (y2) : Mi (value_check y0 y1 y2) := by delta value_check; infer_instance
noncomputable instance (l12 : List UInt8) (s3_13 : Int) : Mi (wire_Number_k1 l12 s3_13) := by delta wire_Number_k1; infer_instance
noncomputable instance  (s) : Mi (wire_Number_bl2 s) := by obtain ⟨l23, s3_24⟩ := s; delta wire_Number_bl2; dsimp only; infer_instance
noncomputable instance (s : (List UInt8) × Int) : Mi (wire_Number_l2 s) := by delta wire_Number_l2; infer_instance
noncomputable instance (a0 : Int) : Mi (wire_Number a0) := by delta wire_Number; infer_instance
noncomputable instance (a0 : List UInt8) : Mi (wire_Chunk a0) := by delta wire_Chunk; infer_instance
noncomputable instance (a0 : Go.L.Pv) (s34_107 : Int) (self : Go.L.Pv → Option ((List UInt8))) [∀ x0, Mi (self x0)] (l128 : List UInt8) : Mi (value_encode_body_k3 a0 s34_107 self l128) := by delta value_encode_body_k3; infer_instance
noncomputable instance (l77 : List UInt8) : Mi (value_encode_body_k1 l77) := by delta value_encode_body_k1; infer_instance
noncomputable instance (a0 : Go.L.Pv) (self : Go.L.Pv → Option ((List UInt8))) [∀ x0, Mi (self x0)] (s) : Mi (value_encode_body_bl2 a0 self s) := by obtain ⟨l106, s34_107⟩ := s; delta value_encode_body_bl2; dsimp only; infer_instance
noncomputable instance (a0 : Go.L.Pv) (self : Go.L.Pv → Option ((List UInt8))) [∀ x0, Mi (self x0)] (s : (List UInt8) × Int) : Mi (value_encode_body_l2 a0 self s) := by delta value_encode_body_l2; infer_instance
noncomputable instance (self : Go.L.Pv → Option ((List UInt8))) [∀ x0, Mi (self x0)] (a0 : Go.L.Pv) : Mi (value_encode_body self a0) := by delta value_encode_body; infer_instance
noncomputable instance value_encode_nMi  : ∀ (n : Nat) (y0), Mi (value_encode_n n y0)
 | 0, _ => ⟨none, fun _ h => by cases h⟩
 | n + 1, y0 => by
  haveI := value_encode_nMi n
  show Mi (value_encode_body (value_encode_n n) y0)
  infer_instance
noncomputable instance  (y0) : Mi (value_encode y0) := by delta value_encode; infer_instance
noncomputable instance (a0 : Go.L.Pv) : Mi (value_Encode a0) := by delta value_Encode; infer_instance
noncomputable instance (a0 : Go.L.Pv) : Mi (value_Validate a0) := by delta value_Validate; infer_instance
noncomputable instance (a0 : List (List UInt8)) : Mi (slices_Clone_string_string a0) := by delta slices_Clone_string_string; infer_instance
noncomputable instance {σ : Type} (a0 : Go.L.Pv) (a1 : List (List UInt8)) (s24_45 : Int) (self : Go.L.Pv → (List (List UInt8)) → σ → Option σ) [∀ x0 x1 x2, Mi (self x0 x1 x2)] (s8_62 : List UInt8) (sJ63 : σ) : Mi (shapes_leaves_body_k2 a0 a1 s24_45 self s8_62 sJ63) := by delta shapes_leaves_body_k2; infer_instance
noncomputable instance {σ : Type} (a0 : Go.L.Pv) (a1 : List (List UInt8)) (self : Go.L.Pv → (List (List UInt8)) → σ → Option σ) [∀ x0 x1 x2, Mi (self x0 x1 x2)] (s) : Mi (shapes_leaves_body_bl1 a0 a1 self s) := by obtain ⟨s24_45, sJ46⟩ := s; delta shapes_leaves_body_bl1; dsimp only; infer_instance
noncomputable instance {σ : Type} (a0 : Go.L.Pv) (a1 : List (List UInt8)) (self : Go.L.Pv → (List (List UInt8)) → σ → Option σ) [∀ x0 x1 x2, Mi (self x0 x1 x2)] (s : Int × σ) : Mi (shapes_leaves_body_l1 a0 a1 self s) := by delta shapes_leaves_body_l1; infer_instance
noncomputable instance {σ : Type} (step : σ → ((List UInt8) × Int × Int × (List UInt8)) → Option σ) [∀ x0 x1, Mi (step x0 x1)] (self : Go.L.Pv → (List (List UInt8)) → σ → Option σ) [∀ x0 x1 x2, Mi (self x0 x1 x2)] (a0 : Go.L.Pv) (a1 : List (List UInt8)) (s : σ) : Mi (shapes_leaves_body step self a0 a1 s) := by delta shapes_leaves_body; infer_instance
noncomputable instance shapes_leaves_nMi {σ : Type} (step : σ → ((List UInt8) × Int × Int × (List UInt8)) → Option σ) [∀ x0 x1, Mi (step x0 x1)] : ∀ (n : Nat) (y0) (y1) (y2), Mi (shapes_leaves_n step n y0 y1 y2)
 | 0, _, _, _ => ⟨none, fun _ h => by cases h⟩
 | n + 1, y0, y1, y2 => by
  haveI := shapes_leaves_nMi step n
  show Mi (shapes_leaves_body step (shapes_leaves_n step n) y0 y1 y2)
  infer_instance
noncomputable instance {σ : Type} (step : σ → ((List UInt8) × Int × Int × (List UInt8)) → Option σ) [∀ x0 x1, Mi (step x0 x1)] (y0) (y1) (y2) : Mi (shapes_leaves step y0 y1 y2) := by delta shapes_leaves; infer_instance
noncomputable instance (a0 : (List UInt8) × Int × Int × (List UInt8)) (a1 : List (List UInt8)) : Mi (shapes_Paths_1 a0 a1) := by delta shapes_Paths_1; infer_instance
noncomputable instance (s : List (List UInt8)) (x : Lf) : Mi (pathStep s x) := by delta pathStep; infer_instance
noncomputable def shapes_Paths_is (a0 : Go.L.Pv) : Option ((List (List UInt8)) × (Int × Int)) := 
  Option.bind (value_Validate a0) (fun x3 => if x3.1 = (0 : Int) ∧ x3.2 = (0 : Int) then Option.bind (shapes_leaves pathStep a0 ([] : List (List UInt8)) ([] : List (List UInt8))) (fun x18 => Go.L.chk (x18.length < 4611686018427387904) (Go.L.chk ((isS x18).length ≤ 9223372036854775807) (some ((Lib.compact (isS x18)), ((0 : Int), (0 : Int)))))) else some ([], (x3.1, x3.2)))
theorem shapes_Paths_isE : @shapes_Paths_is = @shapes_Paths := by
  unfold shapes_Paths_is shapes_Paths
  simp only [isS_eq, isI_eq]
noncomputable instance (a0 : Go.L.Pv) : Mi (shapes_Paths_is a0) := by delta shapes_Paths_is; infer_instance
noncomputable instance (a0 : Go.L.Pv) : Mi (shapes_Paths a0) := ⟨(inferInstance : Mi (shapes_Paths_is a0)).c, by rw [← shapes_Paths_isE]; exact (inferInstance : Mi (shapes_Paths_is a0)).h⟩
noncomputable instance (i : Int) (l : List (Lf × List Int)) (x : Lf) : Mi (buildStep i l x) := by delta buildStep; infer_instance
noncomputable instance (a0 : List Int) : Mi (slices_Clone_int_int a0) := by delta slices_Clone_int_int; infer_instance
noncomputable instance (l16 : List UInt8) : Mi (wslice_Number_k1 l16) := by delta wslice_Number_k1; infer_instance
noncomputable instance (a0 : List Int) (s) : Mi (wslice_Number_bl2 a0 s) := by obtain ⟨l30, s13_31⟩ := s; delta wslice_Number_bl2; dsimp only; infer_instance
noncomputable instance (a0 : List Int) (s : (List UInt8) × Int) : Mi (wslice_Number_l2 a0 s) := by delta wslice_Number_l2; infer_instance
noncomputable instance (a0 : List Int) : Mi (wslice_Number a0) := by delta wslice_Number; infer_instance
noncomputable instance (a1 : Int) : Mi (slices_Grow_byte_byte_k1 a1) := by delta slices_Grow_byte_byte_k1; infer_instance
noncomputable instance (_a0 : List UInt8) (a1 : Int) : Mi (slices_Grow_byte_byte _a0 a1) := by delta slices_Grow_byte_byte; infer_instance
noncomputable instance (l57 : List UInt8) : Mi (slices_Concat_byte_byte_k3 l57) := by delta slices_Concat_byte_byte_k3; infer_instance
noncomputable instance (a0 : List (List UInt8)) (s) : Mi (slices_Concat_byte_byte_bl4 a0 s) := by obtain ⟨l69, s27_70⟩ := s; delta slices_Concat_byte_byte_bl4; dsimp only; infer_instance
noncomputable instance (a0 : List (List UInt8)) (s : (List UInt8) × Int) : Mi (slices_Concat_byte_byte_l4 a0 s) := by delta slices_Concat_byte_byte_l4; infer_instance
noncomputable instance (a0 : List (List UInt8)) (s3_15 : Int) : Mi (slices_Concat_byte_byte_k1 a0 s3_15) := by delta slices_Concat_byte_byte_k1; infer_instance
noncomputable instance (a0 : List (List UInt8)) (s) : Mi (slices_Concat_byte_byte_bl2 a0 s) := by obtain ⟨s3_29, s11_30⟩ := s; delta slices_Concat_byte_byte_bl2; dsimp only; infer_instance
noncomputable instance (a0 : List (List UInt8)) (s : Int × Int) : Mi (slices_Concat_byte_byte_l2 a0 s) := by delta slices_Concat_byte_byte_l2; infer_instance
noncomputable instance (a0 : List (List UInt8)) : Mi (slices_Concat_byte_byte a0) := by delta slices_Concat_byte_byte; infer_instance
noncomputable instance (l117 : List UInt8) : Mi (shapes_form_k1 l117) := by delta shapes_form_k1; infer_instance
noncomputable instance (a0 : ((List UInt8) × Int × Int × (List UInt8)) × (List Int)) : Mi (shapes_form a0) := by delta shapes_form; infer_instance
noncomputable instance (l18 : List UInt8) : Mi (wslice_form_k1 l18) := by delta wslice_form_k1; infer_instance
noncomputable instance (a0 : List (((List UInt8) × Int × Int × (List UInt8)) × (List Int))) (s) : Mi (wslice_form_bl2 a0 s) := by obtain ⟨l34, s13_35⟩ := s; delta wslice_form_bl2; dsimp only; infer_instance
noncomputable instance (a0 : List (((List UInt8) × Int × Int × (List UInt8)) × (List Int))) (s : (List UInt8) × Int) : Mi (wslice_form_l2 a0 s) := by delta wslice_form_l2; infer_instance
noncomputable instance (a0 : List (((List UInt8) × Int × Int × (List UInt8)) × (List Int))) : Mi (wslice_form a0) := by delta wslice_form; infer_instance
noncomputable instance (a0 : Int × (List (((List UInt8) × Int × Int × (List UInt8)) × (List Int)))) : Mi (shapes_Index_Bytes a0) := by delta shapes_Index_Bytes; infer_instance
noncomputable instance (a0 : Int) (l71 : List (((List UInt8) × Int × Int × (List UInt8)) × (List Int))) : Mi (shapes_build_k1 a0 l71) := by delta shapes_build_k1; infer_instance
noncomputable def shapes_build_bl2_is (a0 : Int) (a1 : List (((List UInt8) × Int × Int × (List UInt8)) × (List Int))) (x74 : (List ((List UInt8) × Int × Int × (List UInt8)))) : (List (((List UInt8) × Int × Int × (List UInt8)) × (List Int))) × Int → Option (((List (((List UInt8) × Int × Int × (List UInt8)) × (List Int))) × Int) ⊕ ((Int × (List (((List UInt8) × Int × Int × (List UInt8)) × (List Int)))) × (Int × Int))) := fun ⟨l102, s15_103⟩ =>
  if s15_103 < (x74.length : Int) then Go.L.chk (0 ≤ s15_103 ∧ s15_103 < (x74.length : Int)) (Option.bind (slices_Clone_int_int (Go.L.mget [] ((x74.getD s15_103.toNat default).1, (x74.getD s15_103.toNat default).2.1, (x74.getD s15_103.toNat default).2.2.1, (x74.getD s15_103.toNat default).2.2.2) a1)) (fun x114 => Go.L.chk (x114.length < 4611686018427387904) (Go.L.chk ((isI x114).length ≤ 9223372036854775807) (Go.L.chk (Go.E.Cap 72 (l102.length + ([(((x74.getD s15_103.toNat default).1, (x74.getD s15_103.toNat default).2.1, (x74.getD s15_103.toNat default).2.2.1, (x74.getD s15_103.toNat default).2.2.2), (Lib.compact (isI x114)))]).length)) (Go.L.chk (Go.L.I64 (s15_103 + (1 : Int))) (some (Sum.inl ((l102 ++ [(((x74.getD s15_103.toNat default).1, (x74.getD s15_103.toNat default).2.1, (x74.getD s15_103.toNat default).2.2.1, (x74.getD s15_103.toNat default).2.2.2), (Lib.compact (isI x114)))]), (s15_103 + (1 : Int)))))))))) else Option.map Sum.inr ((shapes_build_k1 a0) l102)
theorem shapes_build_bl2_isE : @shapes_build_bl2_is = @shapes_build_bl2 := by
  unfold shapes_build_bl2_is shapes_build_bl2
  simp only [isS_eq, isI_eq]
noncomputable instance (a0 : Int) (a1 : List (((List UInt8) × Int × Int × (List UInt8)) × (List Int))) (x74 : (List ((List UInt8) × Int × Int × (List UInt8)))) (s) : Mi (shapes_build_bl2_is a0 a1 x74 s) := by obtain ⟨l102, s15_103⟩ := s; delta shapes_build_bl2_is; dsimp only; infer_instance
noncomputable instance (a0 : Int) (a1 : List (((List UInt8) × Int × Int × (List UInt8)) × (List Int))) (x74 : (List ((List UInt8) × Int × Int × (List UInt8)))) (s) : Mi (shapes_build_bl2 a0 a1 x74 s) := ⟨(inferInstance : Mi (shapes_build_bl2_is a0 a1 x74 s)).c, by rw [← shapes_build_bl2_isE]; exact (inferInstance : Mi (shapes_build_bl2_is a0 a1 x74 s)).h⟩
noncomputable instance (a0 : Int) (a1 : List (((List UInt8) × Int × Int × (List UInt8)) × (List Int))) (x74 : (List ((List UInt8) × Int × Int × (List UInt8)))) (s : (List (((List UInt8) × Int × Int × (List UInt8)) × (List Int))) × Int) : Mi (shapes_build_l2 a0 a1 x74 s) := by delta shapes_build_l2; infer_instance
noncomputable instance (a0 : Int) (a1 : List (((List UInt8) × Int × Int × (List UInt8)) × (List Int))) : Mi (shapes_build a0 a1) := by delta shapes_build; infer_instance
noncomputable instance (a0 : List Go.L.Pv) (l68 : List (((List UInt8) × Int × Int × (List UInt8)) × (List Int))) : Mi (shapes_Build_k1 a0 l68) := by delta shapes_Build_k1; infer_instance
noncomputable instance (a0 : List Go.L.Pv) (s) : Mi (shapes_Build_bl2 a0 s) := by obtain ⟨l97, s16_98⟩ := s; delta shapes_Build_bl2; dsimp only; infer_instance
noncomputable instance (a0 : List Go.L.Pv) (s : (List (((List UInt8) × Int × Int × (List UInt8)) × (List Int))) × Int) : Mi (shapes_Build_l2 a0 s) := by delta shapes_Build_l2; infer_instance
noncomputable instance (a0 : List Go.L.Pv) : Mi (shapes_Build a0) := by delta shapes_Build; infer_instance
noncomputable instance (a0 : ((List UInt8) × Int × Int × (List UInt8)) × (List Int)) (a1 : Int) (a2 : Int) : Mi (shapes_Index_Number_1 a0 a1 a2) := by delta shapes_Index_Number_1; infer_instance
noncomputable def shapes_Index_collect_s2_k1_is (l58 : List Int) (c59 : Int) (c60 : Int) : Option ((List Int) × Int × Int) := 
  Go.L.chk (l58.length < 4611686018427387904) (Go.L.chk ((isI l58).length ≤ 9223372036854775807) (some ((Lib.compact (isI l58)), c59, c60)))
theorem shapes_Index_collect_s2_k1_isE : @shapes_Index_collect_s2_k1_is = @shapes_Index_collect_s2_k1 := by
  unfold shapes_Index_collect_s2_k1_is shapes_Index_collect_s2_k1
  simp only [isS_eq, isI_eq]
noncomputable instance (l58 : List Int) (c59 : Int) (c60 : Int) : Mi (shapes_Index_collect_s2_k1_is l58 c59 c60) := by delta shapes_Index_collect_s2_k1_is; infer_instance
noncomputable instance (l58 : List Int) (c59 : Int) (c60 : Int) : Mi (shapes_Index_collect_s2_k1 l58 c59 c60) := ⟨(inferInstance : Mi (shapes_Index_collect_s2_k1_is l58 c59 c60)).c, by rw [← shapes_Index_collect_s2_k1_isE]; exact (inferInstance : Mi (shapes_Index_collect_s2_k1_is l58 c59 c60)).h⟩
noncomputable instance (a0 : Int × (List (((List UInt8) × Int × Int × (List UInt8)) × (List Int)))) (a1 : List UInt8) (s) : Mi (shapes_Index_collect_s2_bl2 a0 a1 s) := by obtain ⟨l88, c89, c90, s13_91⟩ := s; delta shapes_Index_collect_s2_bl2; dsimp only; infer_instance
noncomputable instance (a0 : Int × (List (((List UInt8) × Int × Int × (List UInt8)) × (List Int)))) (a1 : List UInt8) (s : (List Int) × Int × Int × Int) : Mi (shapes_Index_collect_s2_l2 a0 a1 s) := by delta shapes_Index_collect_s2_l2; infer_instance
noncomputable instance (a0 : Int × (List (((List UInt8) × Int × Int × (List UInt8)) × (List Int)))) (a1 : List UInt8) (a2_c0 : Int) (a2_c1 : Int) : Mi (shapes_Index_collect_s2 a0 a1 a2_c0 a2_c1) := by delta shapes_Index_collect_s2; infer_instance
noncomputable instance (a0 : Int × (List (((List UInt8) × Int × Int × (List UInt8)) × (List Int)))) (a1 : List UInt8) (a2 : Int) (a3 : Int) : Mi (shapes_Index_Number a0 a1 a2 a3) := by delta shapes_Index_Number; infer_instance
noncomputable instance (_a0 : ((List UInt8) × Int × Int × (List UInt8)) × (List Int)) : Mi (shapes_Index_Find_1 _a0) := by delta shapes_Index_Find_1; infer_instance
noncomputable def shapes_Index_collect_k1_is (l54 : List Int) : Option ((List Int)) := 
  Go.L.chk (l54.length < 4611686018427387904) (Go.L.chk ((isI l54).length ≤ 9223372036854775807) (some ((Lib.compact (isI l54)))))
theorem shapes_Index_collect_k1_isE : @shapes_Index_collect_k1_is = @shapes_Index_collect_k1 := by
  unfold shapes_Index_collect_k1_is shapes_Index_collect_k1
  simp only [isS_eq, isI_eq]
noncomputable instance (l54 : List Int) : Mi (shapes_Index_collect_k1_is l54) := by delta shapes_Index_collect_k1_is; infer_instance
noncomputable instance (l54 : List Int) : Mi (shapes_Index_collect_k1 l54) := ⟨(inferInstance : Mi (shapes_Index_collect_k1_is l54)).c, by rw [← shapes_Index_collect_k1_isE]; exact (inferInstance : Mi (shapes_Index_collect_k1_is l54)).h⟩
noncomputable instance (a0 : Int × (List (((List UInt8) × Int × Int × (List UInt8)) × (List Int)))) (a1 : List UInt8) (s) : Mi (shapes_Index_collect_bl2 a0 a1 s) := by obtain ⟨l81, s13_82⟩ := s; delta shapes_Index_collect_bl2; dsimp only; infer_instance
noncomputable instance (a0 : Int × (List (((List UInt8) × Int × Int × (List UInt8)) × (List Int)))) (a1 : List UInt8) (s : (List Int) × Int) : Mi (shapes_Index_collect_l2 a0 a1 s) := by delta shapes_Index_collect_l2; infer_instance
noncomputable instance (a0 : Int × (List (((List UInt8) × Int × Int × (List UInt8)) × (List Int)))) (a1 : List UInt8) : Mi (shapes_Index_collect a0 a1) := by delta shapes_Index_collect; infer_instance
noncomputable instance (a0 : Int × (List (((List UInt8) × Int × Int × (List UInt8)) × (List Int)))) (a1 : List UInt8) : Mi (shapes_Index_Find a0 a1) := by delta shapes_Index_Find; infer_instance
noncomputable instance (a0 : ((List UInt8) × Int × Int × (List UInt8)) × (List Int)) (a1 : List UInt8) : Mi (shapes_Index_Text_1 a0 a1) := by delta shapes_Index_Text_1; infer_instance
noncomputable def shapes_Index_collect_s3_k1_is (l59 : List Int) (c60 : List UInt8) : Option ((List Int) × (List UInt8)) := 
  Go.L.chk (l59.length < 4611686018427387904) (Go.L.chk ((isI l59).length ≤ 9223372036854775807) (some ((Lib.compact (isI l59)), c60)))
theorem shapes_Index_collect_s3_k1_isE : @shapes_Index_collect_s3_k1_is = @shapes_Index_collect_s3_k1 := by
  unfold shapes_Index_collect_s3_k1_is shapes_Index_collect_s3_k1
  simp only [isS_eq, isI_eq]
noncomputable instance (l59 : List Int) (c60 : List UInt8) : Mi (shapes_Index_collect_s3_k1_is l59 c60) := by delta shapes_Index_collect_s3_k1_is; infer_instance
noncomputable instance (l59 : List Int) (c60 : List UInt8) : Mi (shapes_Index_collect_s3_k1 l59 c60) := ⟨(inferInstance : Mi (shapes_Index_collect_s3_k1_is l59 c60)).c, by rw [← shapes_Index_collect_s3_k1_isE]; exact (inferInstance : Mi (shapes_Index_collect_s3_k1_is l59 c60)).h⟩
noncomputable instance (a0 : Int × (List (((List UInt8) × Int × Int × (List UInt8)) × (List Int)))) (a1 : List UInt8) (s) : Mi (shapes_Index_collect_s3_bl2 a0 a1 s) := by obtain ⟨l89, c90, s13_91⟩ := s; delta shapes_Index_collect_s3_bl2; dsimp only; infer_instance
noncomputable instance (a0 : Int × (List (((List UInt8) × Int × Int × (List UInt8)) × (List Int)))) (a1 : List UInt8) (s : (List Int) × (List UInt8) × Int) : Mi (shapes_Index_collect_s3_l2 a0 a1 s) := by delta shapes_Index_collect_s3_l2; infer_instance
noncomputable instance (a0 : Int × (List (((List UInt8) × Int × Int × (List UInt8)) × (List Int)))) (a1 : List UInt8) (a2_c0 : List UInt8) : Mi (shapes_Index_collect_s3 a0 a1 a2_c0) := by delta shapes_Index_collect_s3; infer_instance
noncomputable instance (a0 : Int × (List (((List UInt8) × Int × Int × (List UInt8)) × (List Int)))) (a1 : List UInt8) (a2 : List UInt8) : Mi (shapes_Index_Text a0 a1 a2) := by delta shapes_Index_Text; infer_instance
noncomputable instance (a0 : Int) (a1 : Int) : Mi (wire_fault a0 a1) := by delta wire_fault; infer_instance
noncomputable instance (a1 : Int) : Mi (wire_ReadNumber_k1 a1) := by delta wire_ReadNumber_k1; infer_instance
noncomputable instance (a0 : List UInt8) (a1 : Int) (s) : Mi (wire_ReadNumber_bl2 a0 a1 s) := by obtain ⟨s7_166, s19_167⟩ := s; delta wire_ReadNumber_bl2; dsimp only; repeat' first | (show Mi _; infer_instance) | refine @iB _ _ _ _ ?_ (fun _ => ?_) | refine @iC _ _ _ _ ?_ | refine @iI _ _ _ _ _ ?_ ?_
noncomputable instance (a0 : List UInt8) (a1 : Int) (s : Int × Int) : Mi (wire_ReadNumber_l2 a0 a1 s) := by delta wire_ReadNumber_l2; infer_instance
noncomputable instance (a0 : List UInt8) (a1 : Int) : Mi (wire_ReadNumber a0 a1) := by delta wire_ReadNumber; infer_instance
noncomputable instance (c26 : Int) (c27 : Int) (c28 : Int) : Mi (shapes_Open_k1 c26 c27 c28) := by delta shapes_Open_k1; infer_instance
noncomputable instance (a0 : List UInt8) (a1 : Int) : Mi (wire_ReadChunk a0 a1) := by delta wire_ReadChunk; infer_instance
noncomputable instance (l65 : List Int) (s12_66 : Int) : Mi (wreads_Number_k1 l65 s12_66) := by delta wreads_Number_k1; infer_instance
noncomputable instance (a0 : List UInt8) (x2 : Int × Int × (Int × Int)) (s) : Mi (wreads_Number_bl2 a0 x2 s) := by obtain ⟨l89, s12_90, s41_91⟩ := s; delta wreads_Number_bl2; dsimp only; infer_instance
noncomputable instance (a0 : List UInt8) (x2 : Int × Int × (Int × Int)) (s : (List Int) × Int × Int) : Mi (wreads_Number_l2 a0 x2 s) := by delta wreads_Number_l2; infer_instance
noncomputable instance (a0 : List UInt8) (a1 : Int) (a2 : Int) : Mi (wreads_Number a0 a1 a2) := by delta wreads_Number; infer_instance
noncomputable instance (x111 : (List Int) × Int × (Int × Int)) (c123 : List UInt8) (c124 : Int) (c125 : Int) (c126 : List UInt8) (s5_128 : Int) : Mi (shapes_readEntry_k5 x111 c123 c124 c125 c126 s5_128) := by delta shapes_readEntry_k5; infer_instance
noncomputable instance (x84 : (List UInt8) × Int × (Int × Int)) (c95 : List UInt8) (c96 : Int) (c97 : Int) (c98 : List UInt8) (s5_100 : Int) : Mi (shapes_readEntry_k4 x84 c95 c96 c97 c98 s5_100) := by delta shapes_readEntry_k4; infer_instance
noncomputable instance (x57 : Int × Int × (Int × Int)) (c69 : List UInt8) (c70 : Int) (c71 : Int) (c72 : List UInt8) (s5_74 : Int) : Mi (shapes_readEntry_k3 x57 c69 c70 c71 c72 s5_74) := by delta shapes_readEntry_k3; infer_instance
noncomputable instance (x30 : Int × Int × (Int × Int)) (c42 : List UInt8) (c43 : Int) (c44 : Int) (c45 : List UInt8) (s5_47 : Int) : Mi (shapes_readEntry_k2 x30 c42 c43 c44 c45 s5_47) := by delta shapes_readEntry_k2; infer_instance
noncomputable instance (x3 : (List UInt8) × Int × (Int × Int)) (c14 : List UInt8) (c15 : Int) (c16 : Int) (c17 : List UInt8) (s5_19 : Int) : Mi (shapes_readEntry_k1 x3 c14 c15 c16 c17 s5_19) := by delta shapes_readEntry_k1; infer_instance
noncomputable instance (a0 : List UInt8) (a1 : Int) : Mi (shapes_readEntry a0 a1) := by delta shapes_readEntry; infer_instance
noncomputable instance (l69 : List (((List UInt8) × Int × Int × (List UInt8)) × (List Int))) (s12_70 : Int) : Mi (wreads_entry_k1 l69 s12_70) := by delta wreads_entry_k1; infer_instance
noncomputable instance (a0 : List UInt8) (x2 : Int × Int × (Int × Int)) (s) : Mi (wreads_entry_bl2 a0 x2 s) := by obtain ⟨l95, s12_96, s41_97⟩ := s; delta wreads_entry_bl2; dsimp only; infer_instance
noncomputable instance (a0 : List UInt8) (x2 : Int × Int × (Int × Int)) (s : (List (((List UInt8) × Int × Int × (List UInt8)) × (List Int))) × Int × Int) : Mi (wreads_entry_l2 a0 x2 s) := by delta wreads_entry_l2; infer_instance
noncomputable instance (a0 : List UInt8) (a1 : Int) (a2 : Int) : Mi (wreads_entry a0 a1 a2) := by delta wreads_entry; infer_instance
noncomputable instance  : Mi (shapes_entry_valid_k1) := by delta shapes_entry_valid_k1; infer_instance
noncomputable instance (a0 : ((List UInt8) × Int × Int × (List UInt8)) × (List Int)) (a1 : Int) (s) : Mi (shapes_entry_valid_bl2 a0 a1 s) := by delta shapes_entry_valid_bl2; infer_instance
noncomputable instance (a0 : ((List UInt8) × Int × Int × (List UInt8)) × (List Int)) (a1 : Int) (s : Int) : Mi (shapes_entry_valid_l2 a0 a1 s) := by delta shapes_entry_valid_l2; infer_instance
noncomputable instance  : Mi (shapes_entry_valid_k3) := by delta shapes_entry_valid_k3; infer_instance
noncomputable instance (a0 : ((List UInt8) × Int × Int × (List UInt8)) × (List Int)) (a1 : Int) (s) : Mi (shapes_entry_valid_bl4 a0 a1 s) := by delta shapes_entry_valid_bl4; infer_instance
noncomputable instance (a0 : ((List UInt8) × Int × Int × (List UInt8)) × (List Int)) (a1 : Int) (s : Int) : Mi (shapes_entry_valid_l4 a0 a1 s) := by delta shapes_entry_valid_l4; infer_instance
noncomputable instance  : Mi (shapes_entry_valid_k5) := by delta shapes_entry_valid_k5; infer_instance
noncomputable instance (a0 : ((List UInt8) × Int × Int × (List UInt8)) × (List Int)) (a1 : Int) (s) : Mi (shapes_entry_valid_bl6 a0 a1 s) := by delta shapes_entry_valid_bl6; infer_instance
noncomputable instance (a0 : ((List UInt8) × Int × Int × (List UInt8)) × (List Int)) (a1 : Int) (s : Int) : Mi (shapes_entry_valid_l6 a0 a1 s) := by delta shapes_entry_valid_l6; infer_instance
noncomputable instance  : Mi (shapes_entry_valid_k19) := by delta shapes_entry_valid_k19; infer_instance
noncomputable instance (a0 : ((List UInt8) × Int × Int × (List UInt8)) × (List Int)) (a1 : Int) (s) : Mi (shapes_entry_valid_bl20 a0 a1 s) := by delta shapes_entry_valid_bl20; infer_instance
noncomputable instance (a0 : ((List UInt8) × Int × Int × (List UInt8)) × (List Int)) (a1 : Int) (s : Int) : Mi (shapes_entry_valid_l20 a0 a1 s) := by delta shapes_entry_valid_l20; infer_instance
noncomputable instance  : Mi (shapes_entry_valid_k17) := by delta shapes_entry_valid_k17; infer_instance
noncomputable instance (a0 : ((List UInt8) × Int × Int × (List UInt8)) × (List Int)) (a1 : Int) (s) : Mi (shapes_entry_valid_bl18 a0 a1 s) := by delta shapes_entry_valid_bl18; infer_instance
noncomputable instance (a0 : ((List UInt8) × Int × Int × (List UInt8)) × (List Int)) (a1 : Int) (s : Int) : Mi (shapes_entry_valid_l18 a0 a1 s) := by delta shapes_entry_valid_l18; infer_instance
noncomputable instance  : Mi (shapes_entry_valid_k15) := by delta shapes_entry_valid_k15; infer_instance
noncomputable instance (a0 : ((List UInt8) × Int × Int × (List UInt8)) × (List Int)) (a1 : Int) (s) : Mi (shapes_entry_valid_bl16 a0 a1 s) := by delta shapes_entry_valid_bl16; infer_instance
noncomputable instance (a0 : ((List UInt8) × Int × Int × (List UInt8)) × (List Int)) (a1 : Int) (s : Int) : Mi (shapes_entry_valid_l16 a0 a1 s) := by delta shapes_entry_valid_l16; infer_instance
noncomputable instance  : Mi (shapes_entry_valid_k13) := by delta shapes_entry_valid_k13; infer_instance
noncomputable instance (a0 : ((List UInt8) × Int × Int × (List UInt8)) × (List Int)) (a1 : Int) (s) : Mi (shapes_entry_valid_bl14 a0 a1 s) := by delta shapes_entry_valid_bl14; infer_instance
noncomputable instance (a0 : ((List UInt8) × Int × Int × (List UInt8)) × (List Int)) (a1 : Int) (s : Int) : Mi (shapes_entry_valid_l14 a0 a1 s) := by delta shapes_entry_valid_l14; infer_instance
noncomputable instance  : Mi (shapes_entry_valid_k11) := by delta shapes_entry_valid_k11; infer_instance
noncomputable instance (a0 : ((List UInt8) × Int × Int × (List UInt8)) × (List Int)) (a1 : Int) (s) : Mi (shapes_entry_valid_bl12 a0 a1 s) := by delta shapes_entry_valid_bl12; infer_instance
noncomputable instance (a0 : ((List UInt8) × Int × Int × (List UInt8)) × (List Int)) (a1 : Int) (s : Int) : Mi (shapes_entry_valid_l12 a0 a1 s) := by delta shapes_entry_valid_l12; infer_instance
noncomputable instance  : Mi (shapes_entry_valid_k9) := by delta shapes_entry_valid_k9; infer_instance
noncomputable instance (a0 : ((List UInt8) × Int × Int × (List UInt8)) × (List Int)) (a1 : Int) (s) : Mi (shapes_entry_valid_bl10 a0 a1 s) := by delta shapes_entry_valid_bl10; infer_instance
noncomputable instance (a0 : ((List UInt8) × Int × Int × (List UInt8)) × (List Int)) (a1 : Int) (s : Int) : Mi (shapes_entry_valid_l10 a0 a1 s) := by delta shapes_entry_valid_l10; infer_instance
noncomputable instance  : Mi (shapes_entry_valid_k7) := by delta shapes_entry_valid_k7; infer_instance
noncomputable instance (a0 : ((List UInt8) × Int × Int × (List UInt8)) × (List Int)) (a1 : Int) (s) : Mi (shapes_entry_valid_bl8 a0 a1 s) := by delta shapes_entry_valid_bl8; infer_instance
noncomputable instance (a0 : ((List UInt8) × Int × Int × (List UInt8)) × (List Int)) (a1 : Int) (s : Int) : Mi (shapes_entry_valid_l8 a0 a1 s) := by delta shapes_entry_valid_l8; infer_instance
noncomputable instance (a0 : ((List UInt8) × Int × Int × (List UInt8)) × (List Int)) (a1 : Int) : Mi (shapes_entry_valid a0 a1) := by delta shapes_entry_valid; infer_instance
noncomputable instance (c255 : Int) (c256 : Int) (c257 : Int) : Mi (shapes_Open_k5 c255 c256 c257) := by delta shapes_Open_k5; infer_instance
noncomputable instance (a0 : List UInt8) (a1 : List UInt8) : Mi (internal_bytealg_CompareString a0 a1) := by delta internal_bytealg_CompareString; infer_instance
noncomputable instance (a0 : List UInt8) (a1 : List UInt8) : Mi (strings_Compare a0 a1) := by delta strings_Compare; infer_instance
noncomputable instance (a0 : Int) : Mi (cmp_isNaN_int a0) := by delta cmp_isNaN_int; infer_instance
noncomputable instance (a0 : Int) (a1 : Int) : Mi (cmp_Compare_int a0 a1) := by delta cmp_Compare_int; infer_instance
noncomputable instance  : Mi (cmp_Or_int_k1) := by delta cmp_Or_int_k1; infer_instance
noncomputable instance (a0 : List Int) (s) : Mi (cmp_Or_int_bl2 a0 s) := by delta cmp_Or_int_bl2; infer_instance
noncomputable instance (a0 : List Int) (s : Int) : Mi (cmp_Or_int_l2 a0 s) := by delta cmp_Or_int_l2; infer_instance
noncomputable instance (a0 : List Int) : Mi (cmp_Or_int a0) := by delta cmp_Or_int; infer_instance
noncomputable instance (a0 : (List UInt8) × Int × Int × (List UInt8)) (a1 : (List UInt8) × Int × Int × (List UInt8)) : Mi (shapes_leaf_compare a0 a1) := by delta shapes_leaf_compare; infer_instance
noncomputable instance (c286 : Int) (c287 : Int) (c288 : Int) : Mi (shapes_Open_k6 c286 c287 c288) := by delta shapes_Open_k6; infer_instance
noncomputable instance (a0 : List UInt8) (a1 : List UInt8) : Mi (bytes_Equal a0 a1) := by delta bytes_Equal; infer_instance
noncomputable instance (c322 : Int) (c323 : Int) (c324 : Int) : Mi (shapes_Open_k7 c322 c323 c324) := by delta shapes_Open_k7; infer_instance
noncomputable instance (a0 : List UInt8) (x10 : (Int × Int)) (x14 : Int × Int × (Int × Int)) (x39 : (List (((List UInt8) × Int × Int × (List UInt8)) × (List Int))) × Int × (Int × Int)) : Mi (shapes_Open_k3 a0 x10 x14 x39) := by delta shapes_Open_k3; infer_instance
noncomputable instance (a0 : List UInt8) (x10 : (Int × Int)) (x14 : Int × Int × (Int × Int)) (x39 : (List (((List UInt8) × Int × Int × (List UInt8)) × (List Int))) × Int × (Int × Int)) (s) : Mi (shapes_Open_bl4 a0 x10 x14 x39 s) := by delta shapes_Open_bl4; infer_instance
noncomputable instance (a0 : List UInt8) (x10 : (Int × Int)) (x14 : Int × Int × (Int × Int)) (x39 : (List (((List UInt8) × Int × Int × (List UInt8)) × (List Int))) × Int × (Int × Int)) (s : Int) : Mi (shapes_Open_l4 a0 x10 x14 x39 s) := by delta shapes_Open_l4; infer_instance
noncomputable instance (c50 : Int) (c51 : Int) (c52 : Int) : Mi (shapes_Open_k2 c50 c51 c52) := by delta shapes_Open_k2; infer_instance
noncomputable instance (a0 : List UInt8) : Mi (shapes_Open a0) := by delta shapes_Open; infer_instance
noncomputable instance  : Mi (ref4_Texts_k1) := by delta ref4_Texts_k1; infer_instance
noncomputable instance (a0 : List (List UInt8)) (a1 : List (List UInt8)) (s) : Mi (ref4_Texts_bl2 a0 a1 s) := by delta ref4_Texts_bl2; infer_instance
noncomputable instance (a0 : List (List UInt8)) (a1 : List (List UInt8)) (s : Int) : Mi (ref4_Texts_l2 a0 a1 s) := by delta ref4_Texts_l2; infer_instance
noncomputable instance (a0 : List (List UInt8)) (a1 : List (List UInt8)) : Mi (ref4_Texts a0 a1) := by delta ref4_Texts; infer_instance
noncomputable instance  : Mi (ref3_Ints_k1) := by delta ref3_Ints_k1; infer_instance
noncomputable instance (a0 : List Int) (a1 : List Int) (s) : Mi (ref3_Ints_bl2 a0 a1 s) := by delta ref3_Ints_bl2; infer_instance
noncomputable instance (a0 : List Int) (a1 : List Int) (s : Int) : Mi (ref3_Ints_l2 a0 a1 s) := by delta ref3_Ints_l2; infer_instance
noncomputable instance (a0 : List Int) (a1 : List Int) : Mi (ref3_Ints a0 a1) := by delta ref3_Ints; infer_instance
noncomputable instance (a0 : Int × (List (((List UInt8) × Int × Int × (List UInt8)) × (List Int)))) : Mi (shapes_Index_Items a0) := by delta shapes_Index_Items; infer_instance
noncomputable instance (a0 : Int) (a1 : Int) : Mi (ref3_At a0 a1) := by delta ref3_At; infer_instance
noncomputable instance  : Mi (law4_shaped) := by delta law4_shaped; repeat' first | (show Mi _; infer_instance) | refine @iB _ _ _ _ ?_ (fun _ => ?_) | refine @iC _ _ _ _ ?_ | refine @iI _ _ _ _ _ ?_ ?_
theorem shaped_true : law4_shaped = some true := (inferInstance : Mi law4_shaped).h true (by kernel_rfl)
end Go.Proofs.YtmfiaecglndldaaGreatDoor
end
section
namespace Go.Proofs.YtmfiaecglndldaaGreatDoor
open Go Go.E Go.RowKit
set_option maxHeartbeats 1000000
set_option maxRecDepth 10000
open _root_.Go.Proofs.Tryz
noncomputable def law4_ShapesMatchMatchesSpec_k1 (a0 : List UInt8) (a1 : List UInt8) (x1 : Bool × (Int × Int)) (c57 : Int) (c58 : Int) : Option (Bool) :=
 if c57 = (0 : Int) then (if x1.2.1 = (0 : Int) then Option.bind (ref4_Steps a1) (fun x98 => if (12 : Int) < (x98.length : Int) then some (true) else Option.bind (ref4_Matches a0 a1) (fun x103 => some ((x1.1 == x103)))) else some (false)) else some ((bif decide (x1.2.1 = c57 ∧ x1.2.2 = c58) then !x1.1 else false))
noncomputable def law4_ShapesMatchMatchesSpec (a0 : List UInt8) (a1 : List UInt8) : Option (Bool) :=
 Option.bind (shapes_Match a0 a1) (fun x1 => Option.bind (ref4_PatternFault a0) (fun x5 => Option.bind (law4_shaped) (fun x11 => if !x11 then some (false) else Option.bind (shapes_Check a0) (fun x18 => if x18.1 = x5.1 ∧ x18.2 = x5.2 then (if x5.1 = (0 : Int) then if (330 : Int) < (a1.length : Int) then Option.bind (ref3_At (3 : Int) (-2 : Int)) (fun x65 => (law4_ShapesMatchMatchesSpec_k1 a0 a1 x1) x65.1 x65.2) else (if x5.1 = (0 : Int) then Option.bind (ref4_Wrong a1 false) (fun x71 => if (0 : Int) ≤ x71 then Option.bind (ref3_At (6 : Int) (-2 : Int)) (fun x75 => (law4_ShapesMatchMatchesSpec_k1 a0 a1 x1) x75.1 x75.2) else (law4_ShapesMatchMatchesSpec_k1 a0 a1 x1) x5.1 x5.2) else (law4_ShapesMatchMatchesSpec_k1 a0 a1 x1) x5.1 x5.2) else if x5.1 = (0 : Int) then Option.bind (ref4_Wrong a1 false) (fun x83 => if (0 : Int) ≤ x83 then Option.bind (ref3_At (6 : Int) (-2 : Int)) (fun x87 => (law4_ShapesMatchMatchesSpec_k1 a0 a1 x1) x87.1 x87.2) else (law4_ShapesMatchMatchesSpec_k1 a0 a1 x1) x5.1 x5.2) else (law4_ShapesMatchMatchesSpec_k1 a0 a1 x1) x5.1 x5.2) else some (false)))))
theorem law4_ShapesMatchMatchesSpec_ok (w : World) (H : PH) (hH : Le H (hp w)) {a0 : List UInt8} {a1 : List UInt8}   {r : Bool} (h : law4_ShapesMatchMatchesSpec a0 a1 = some r) :
  Ok Tryz.prog 3 [.string ⟨(a0).toArray⟩, .string ⟨(a1).toArray⟩] w (fun v w' => Ext w w' ∧ v = .bool r) := by
 refine Ok_enter (n := 68) [(0, .string ⟨(a0).toArray⟩), (1, .string ⟨(a1).toArray⟩)] func3 rfl rfl rfl rfl rfl ?_
 have hL := Lcl.start w
 refine W_pz 1 rfl ?_
 refine W_p 2 rfl ?_
 obtain ⟨x1, hb1, h⟩ := Go.L.bind_some h
 refine S_callL rfl rfl hL (shapes_Match_ok _ _ (gz_le hH hL) hb1) ?_
 rintro _ w2 rfl hx2 hL2 hle2
 refine S_pu 3 rfl ?_
 refine S_alloc zr23 rfl rfl hL2 ?_
 intro w3 b3 hL3 hle3 _
 refine S_pu 1 rfl ?_
 refine S_storeBN 0 rfl rfl rfl zr23 hL3 rfl rfl (onc rfl (onc rfl on0)) ?_
 intro w4 hL4 hle4
 refine S_seqnil ?_
 refine W_p 1 rfl ?_
 obtain ⟨x5, hb5, h⟩ := Go.L.bind_some h
 refine S_callL rfl rfl hL4 (ref4_PatternFault_ok _ _ (gz_le hH hL4) hb5) ?_
 rintro _ w6 rfl hx6 hL6 hle6
 refine S_alloc zr23 rfl rfl hL6 ?_
 intro w7 b7 hL7 hle7 _
 refine S_storeBN 0 rfl rfl rfl zr23 hL7 rfl rfl (onc rfl (onc rfl on0)) ?_
 intro w8 hL8 hle8
 refine S_seqnil ?_
 refine W_seq ?_
 refine W_seqd (.q 0 (.q 1 (.q 2 (.q 3 (.q 4 (.q 5 (.q 6 (.q 7 (.tail 8))))))))) mixed (by kernel_rfl) (fun w9 hx9 => ?_)
 have hL10 := hL8.call hx9
 obtain ⟨x11, hb11, h⟩ := Go.L.bind_some h
 refine D_call rfl rfl rfl (fun w12 hx12 => law4_shaped_ok _ _ (Le.refl _) hb11) ?_
 refine D_pu 2 rfl ?_
 refine D_split (s := 18) rfl (fun hg13 => ?_) (fun hg13 => ?_)
 ·replace h := Go.L.ite_t hg13 h
  iterate 4 refine D_no rfl rfl rfl rfl hg13 rfl ?_
  refine D_v (r_pickT rfl hg13 rfl) rfl rfl ?_
  refine D_tail (fun w15 hx15 => ?_)
  have hL16 := hL10.call hx15
  refine S_seqnil ?_
  refine W_true rfl ?_
  refine W_pz 1 rfl ?_
  refine W_ret ?_
  refine At_seq_ret ?_
  obtain rfl := Option.some.inj h
  refine At_body rfl rfl ?_
  exact ⟨hL16.ext, rfl⟩
 ·replace h := Go.L.ite_f hg13 h
  refine D_vg (RunsAt_pu rfl) rfl rfl rfl rfl hg13 rfl ?_
  obtain ⟨x18, hb18, h⟩ := Go.L.bind_some h
  refine D_callg rfl rfl rfl rfl hg13 rfl rfl (fun w19 hx19 => shapes_Check_ok _ _ (Le.refl _) hb18) ?_
  refine D_vg (r_loadBN 0 rfl underlying23 rfl zr23 hL10 rfl) rfl rfl rfl rfl hg13 rfl ?_
  refine D_vg (r_neA rfl rfl eqg23 (eq23 _ _ _ _ )) rfl rfl rfl rfl hg13 rfl ?_
  refine D_v (r_pickF rfl hg13 rfl) rfl rfl ?_
  refine D_tail (fun w20 hx20 => ?_)
  have hL21 := hL10.call hx20
  refine S_seqnil ?_
  refine W_ifn rfl (fun hc22 => ?_) (fun hc22 => ?_)
  ·replace h := Go.L.ite_n hc22 h
   refine W_pz 1 rfl ?_
   refine W_ret ?_
   refine At_seq_ret ?_
   obtain rfl := Option.some.inj h
   refine At_body rfl rfl ?_
   exact ⟨hL21.ext, rfl⟩
  ·replace h := Go.L.ite_p hc22 h
   refine W_skip ?_
   refine At_seq ?_
   refine W_cut (σ := Int × Int) (fun ⟨c57, c58⟩ => [(0, .string ⟨(a0).toArray⟩), (1, .string ⟨(a1).toArray⟩), (5, .bool x1.1), (6, .pointer (some ⟨b3, 0, none⟩)), (7, .pointer (some ⟨b7, 0, none⟩))]) (fun ⟨c57, c58⟩ wr => Lcl w [.box b7 [.int .i64 c57, .int .i64 c58] 23, .box b3 [.int .i64 x1.2.1, .int .i64 x1.2.2] 23] wr ∧ (law4_ShapesMatchMatchesSpec_k1 a0 a1 x1) c57 c58 = some r) ?_ ?_
   ·refine W_seqr ?_
    refine S_v (r_field rfl underlying23 rfl zr3 (by decide)) rfl ?_
    refine S_v (r_loadB1 0 rfl underlying3 rfl hL21 rfl rfl) rfl ?_
    refine S_pu 2 rfl ?_
    refine S_split (s := 27) rfl (fun hg61 => ?_) (fun hg61 => ?_)
    ·replace h := Go.L.ite_p (of_decide_eq_true hg61) h
     refine S_guarded rfl rfl hg61 ?_
     refine S_v (RunsAt_pu rfl) rfl ?_
     refine S_guarded rfl rfl hg61 ?_
     refine S_v (r_lenS rfl underlying9) rfl ?_
     refine S_guarded rfl rfl hg61 ?_
     refine S_v (RunsAt_pu rfl) rfl ?_
     refine S_v (r_pickT rfl hg61 rfl) rfl ?_
     refine S_seqnil ?_
     refine W_if rfl (fun hc63 => ?_) (fun hc63 => ?_)
     ·replace h := Go.L.ite_p hc63 h
      refine W_region ?_
      obtain ⟨x65, hb65, h⟩ := Go.L.bind_some h
      refine S_callL rfl rfl hL21 (ref3_At_ok _ _ (gz_le hH hL21) hb65) ?_
      rintro _ w66 rfl hx66 hL66 hle66
      refine S_storeBN 0 rfl rfl rfl zr23 hL66 rfl rfl (onc rfl (onc rfl on0)) ?_
      intro w67 hL67 hle67
      refine S_nil ?_
      refine At_cut (x65.1, x65.2) (.cons rfl (.cons rfl (.cons rfl (.cons rfl (.cons rfl (Sub.nil _)))))) ⟨hL67, h⟩
     ·replace h := Go.L.ite_n hc63 h
      refine W_seqr ?_
      refine S_v (r_field rfl underlying23 rfl zr3 (by decide)) rfl ?_
      refine S_v (r_loadB1 0 rfl underlying3 rfl hL21 rfl rfl) rfl ?_
      refine S_pu 2 rfl ?_
      refine S_split (s := 36) rfl (fun hg69 => ?_) (fun hg69 => ?_)
      ·replace h := Go.L.ite_p (of_decide_eq_true hg69) h
       refine S_guarded rfl rfl hg69 ?_
       refine S_v (RunsAt_pu rfl) rfl ?_
       refine S_guarded rfl rfl hg69 ?_
       obtain ⟨x71, hb71, h⟩ := Go.L.bind_some h
       refine S_callL rfl rfl hL21 (ref4_Wrong_ok _ _ (gz_le hH hL21) hb71) ?_
       rintro _ w72 rfl hx72 hL72 hle72
       refine S_guarded rfl rfl hg69 ?_
       refine S_v (RunsAt_pu rfl) rfl ?_
       refine S_v (r_pickT rfl hg69 rfl) rfl ?_
       refine S_seqnil ?_
       refine W_if rfl (fun hc73 => ?_) (fun hc73 => ?_)
       ·replace h := Go.L.ite_p hc73 h
        refine W_region ?_
        obtain ⟨x75, hb75, h⟩ := Go.L.bind_some h
        refine S_callL rfl rfl hL72 (ref3_At_ok _ _ (gz_le hH hL72) hb75) ?_
        rintro _ w76 rfl hx76 hL76 hle76
        refine S_storeBN 0 rfl rfl rfl zr23 hL76 rfl rfl (onc rfl (onc rfl on0)) ?_
        intro w77 hL77 hle77
        refine S_nil ?_
        refine At_cut (x75.1, x75.2) (.cons rfl (.cons rfl (.cons rfl (.cons rfl (.cons rfl (Sub.nil _)))))) ⟨hL77, h⟩
       ·replace h := Go.L.ite_n hc73 h
        refine W_skip ?_
        refine At_cut (x5.1, x5.2) (.cons rfl (.cons rfl (.cons rfl (.cons rfl (.cons rfl (Sub.nil _)))))) ⟨hL72, h⟩
      ·replace h := Go.L.ite_n (of_decide_eq_false hg69) h
       iterate 3 refine S_unwanted rfl rfl hg69 rfl ?_
       refine S_v (r_pickF rfl hg69 rfl) rfl ?_
       refine S_seqnil ?_
       refine W_false rfl ?_
       refine W_skip ?_
       refine At_cut (x5.1, x5.2) (.cons rfl (.cons rfl (.cons rfl (.cons rfl (.cons rfl (Sub.nil _)))))) ⟨hL21, h⟩
    ·replace h := Go.L.ite_n (of_decide_eq_false hg61) h
     iterate 3 refine S_unwanted rfl rfl hg61 rfl ?_
     refine S_v (r_pickF rfl hg61 rfl) rfl ?_
     refine S_seqnil ?_
     refine W_false rfl ?_
     refine W_seqr ?_
     refine S_v (r_field rfl underlying23 rfl zr3 (by decide)) rfl ?_
     refine S_v (r_loadB1 0 rfl underlying3 rfl hL21 rfl rfl) rfl ?_
     refine S_pu 2 rfl ?_
     refine S_split (s := 36) rfl (fun hg81 => ?_) (fun hg81 => ?_)
     ·replace h := Go.L.ite_p (of_decide_eq_true hg81) h
      refine S_guarded rfl rfl hg81 ?_
      refine S_v (RunsAt_pu rfl) rfl ?_
      refine S_guarded rfl rfl hg81 ?_
      obtain ⟨x83, hb83, h⟩ := Go.L.bind_some h
      refine S_callL rfl rfl hL21 (ref4_Wrong_ok _ _ (gz_le hH hL21) hb83) ?_
      rintro _ w84 rfl hx84 hL84 hle84
      refine S_guarded rfl rfl hg81 ?_
      refine S_v (RunsAt_pu rfl) rfl ?_
      refine S_v (r_pickT rfl hg81 rfl) rfl ?_
      refine S_seqnil ?_
      refine W_if rfl (fun hc85 => ?_) (fun hc85 => ?_)
      ·replace h := Go.L.ite_p hc85 h
       refine W_region ?_
       obtain ⟨x87, hb87, h⟩ := Go.L.bind_some h
       refine S_callL rfl rfl hL84 (ref3_At_ok _ _ (gz_le hH hL84) hb87) ?_
       rintro _ w88 rfl hx88 hL88 hle88
       refine S_storeBN 0 rfl rfl rfl zr23 hL88 rfl rfl (onc rfl (onc rfl on0)) ?_
       intro w89 hL89 hle89
       refine S_nil ?_
       refine At_cut (x87.1, x87.2) (.cons rfl (.cons rfl (.cons rfl (.cons rfl (.cons rfl (Sub.nil _)))))) ⟨hL89, h⟩
      ·replace h := Go.L.ite_n hc85 h
       refine W_skip ?_
       refine At_cut (x5.1, x5.2) (.cons rfl (.cons rfl (.cons rfl (.cons rfl (.cons rfl (Sub.nil _)))))) ⟨hL84, h⟩
     ·replace h := Go.L.ite_n (of_decide_eq_false hg81) h
      iterate 3 refine S_unwanted rfl rfl hg81 rfl ?_
      refine S_v (r_pickF rfl hg81 rfl) rfl ?_
      refine S_seqnil ?_
      refine W_false rfl ?_
      refine W_skip ?_
      refine At_cut (x5.1, x5.2) (.cons rfl (.cons rfl (.cons rfl (.cons rfl (.cons rfl (Sub.nil _)))))) ⟨hL21, h⟩
   ·rintro ⟨c57, c58⟩ wr59 ⟨hL59, h⟩
    refine W_seq ?_
    refine W_seqr ?_
    refine S_v (r_field rfl underlying23 rfl zr3 (by decide)) rfl ?_
    refine S_v (r_loadB1 0 rfl underlying3 rfl hL59 rfl rfl) rfl ?_
    refine S_pz 1 rfl ?_
    refine W_ifn rfl (fun hc93 => ?_) (fun hc93 => ?_)
    ·replace h := Go.L.ite_n hc93 h
     refine W_seqr ?_
     refine S_v (r_loadBN 1 rfl underlying23 rfl zr23 hL59 rfl) rfl ?_
     refine S_v (r_loadBN 0 rfl underlying23 rfl zr23 hL59 rfl) rfl ?_
     refine S_v (r_eqA rfl rfl eqg23 (eq23 _ _ _ _ )) rfl ?_
     refine S_pu 1 rfl ?_
     refine S_pickT 2 3 rfl rfl rfl rfl rfl rfl rfl ?_
     refine S_pz 1 rfl ?_
     refine W_ret ?_
     refine At_seq_ret ?_
     obtain rfl := Option.some.inj h
     refine At_body rfl rfl ?_
     exact ⟨hL59.ext, rfl⟩
    ·replace h := Go.L.ite_p hc93 h
     refine W_skip ?_
     refine At_seq ?_
     refine W_seqr ?_
     refine S_v (r_field rfl underlying23 rfl zr3 (by decide)) rfl ?_
     refine S_v (r_loadB1 1 rfl underlying3 rfl hL59 rfl rfl) rfl ?_
     refine S_pu 2 rfl ?_
     refine S_split (s := 55) rfl (fun hg96 => ?_) (fun hg96 => ?_)
     ·replace h := Go.L.ite_p (of_decide_eq_true hg96) h
      refine S_guarded rfl rfl hg96 ?_
      refine S_v (RunsAt_pu rfl) rfl ?_
      refine S_guarded rfl rfl hg96 ?_
      obtain ⟨x98, hb98, h⟩ := Go.L.bind_some h
      refine S_callL rfl rfl hL59 (ref4_Steps_ok _ _ (gz_le hH hL59) hb98) ?_
      rintro u99_0 w99 ⟨_, rfl, hR99_0⟩ hx99 hL99 hle99
      have hv99_0 := hR99_0.vecG hH hL59 hx99
      refine S_guarded rfl rfl hg96 ?_
      refine S_v (r_len rfl underlying30 hv99_0) rfl ?_
      refine S_guarded rfl rfl hg96 ?_
      refine S_v (RunsAt_pu rfl) rfl ?_
      refine S_guarded rfl rfl hg96 ?_
      refine S_v (RunsAt_pu rfl) rfl ?_
      refine S_split (s := 60) rfl (fun hg100 => ?_) (fun hg100 => ?_)
      ·replace h := Go.L.ite_p (of_decide_eq_true hg100) h
       iterate 5 refine S_unwanted rfl rfl hg100 rfl ?_
       refine S_guarded rfl rfl hg96 ?_
       refine S_v (r_pickT rfl hg100 rfl) rfl ?_
       refine S_v (r_pickT rfl hg96 rfl) rfl ?_
       refine S_pz 1 rfl ?_
       refine W_ret ?_
       obtain rfl := Option.some.inj h
       refine At_body rfl rfl ?_
       exact ⟨hL99.ext, rfl⟩
      ·replace h := Go.L.ite_n (of_decide_eq_false hg100) h
       refine S_guarded rfl rfl hg100 ?_
       refine S_v (RunsAt_pu rfl) rfl ?_
       refine S_guarded rfl rfl hg100 ?_
       refine S_v (RunsAt_pu rfl) rfl ?_
       refine S_guarded rfl rfl hg100 ?_
       refine S_v (RunsAt_pu rfl) rfl ?_
       refine S_guarded rfl rfl hg100 ?_
       obtain ⟨x103, hb103, h⟩ := Go.L.bind_some h
       refine S_callL rfl rfl hL99 (ref4_Matches_ok _ _ (gz_le hH hL99) hb103) ?_
       rintro _ w104 rfl hx104 hL104 hle104
       replace hv99_0 := hv99_0.mono (gz_mono hH hle104)
       refine S_guarded rfl rfl hg100 ?_
       refine S_v (r_beq rfl rfl underlying4) rfl ?_
       refine S_guarded rfl rfl hg96 ?_
       refine S_v (r_pickF rfl hg100 rfl) rfl ?_
       refine S_v (r_pickT rfl hg96 rfl) rfl ?_
       refine S_pz 1 rfl ?_
       refine W_ret ?_
       obtain rfl := Option.some.inj h
       refine At_body rfl rfl ?_
       exact ⟨hL104.ext, rfl⟩
     ·replace h := Go.L.ite_n (of_decide_eq_false hg96) h
      iterate 5 refine S_unwanted rfl rfl hg96 rfl ?_
      iterate 5 refine S_unwanted2 rfl rfl rfl ?_
      refine S_unwanted rfl rfl hg96 rfl ?_
      refine S_v (r_pickF rfl hg96 rfl) rfl ?_
      refine S_pz 1 rfl ?_
      refine W_ret ?_
      obtain rfl := Option.some.inj h
      refine At_body rfl rfl ?_
      exact ⟨hL59.ext, rfl⟩
end Go.Proofs.YtmfiaecglndldaaGreatDoor
end
section
namespace Go.Proofs.YtmfiaecglndldaaGreatDoor
open Go Go.L
theorem match_law (a b : List UInt8) : law4_ShapesMatchMatchesSpec a b = some true := by
  unfold law4_ShapesMatchMatchesSpec
  rw [match_eq, Option.bind_some, pfault_eq, Option.bind_some, shaped_true, Option.bind_some, if_neg (by decide), check_eq, Option.bind_some, if_pos ⟨rfl, rfl⟩]
  unfold mres
  by_cases h : (pf a).1 = 0
  · obtain ⟨h1, h2⟩ := pf_zero a h
    rw [if_pos h, if_pos h]
    by_cases h3 : 330 < b.length
    · rw [if_pos (by omega), if_pos h3]
      rfl
    · rw [if_neg (by omega), if_neg h3, if_pos h, wrong_eq (by omega), Option.bind_some]
      by_cases h4 : 0 ≤ wr false 0 (sl b)
      · rw [if_pos h4, if_pos h4]
        rfl
      · rw [if_neg h4, if_neg h4, h1]
        unfold law4_ShapesMatchMatchesSpec_k1
        rw [if_pos rfl, if_pos rfl, ref_steps (by omega), Option.bind_some]
        split
        · rfl
        · rw [rmatch_eq (by omega) (by omega)]
          simp
  · rw [if_neg h, if_neg h, if_neg h]
    unfold law4_ShapesMatchMatchesSpec_k1
    rw [if_neg h]
    simp
end Go.Proofs.YtmfiaecglndldaaGreatDoor
end
section
namespace Go.E
open Go Go.RowKit Go.ChangeShapes Go.WideShapes
section
variable {H : Type} {enc : TypeId × Value → H} {P : Program} {w : World} {base : Nat} {spare : Nat → Bool} {held : Bool}
/-- Arguments read, behind a call that leaves old memory as it was, as they read before. -/
theorem trodAll_stays (hl : laidOutB P = true) {W W' : World} (hb : Below W.heap.size W W') : ∀ {ts : List TypeId} {vs : List Value} {ds : List (DataW H)} {ps : List MemPlace}, (∀ t ∈ ts, P.readableRec t = true ∧ t < P.types.size) →
    DataW.TrodAll enc P W 0 (fun _ => true) true ts vs ds ps → (∀ x ∈ ps, x.block < W.heap.size) → DataW.TrodAll enc P W' 0 (fun b => decide (b < W.heap.size)) true ts vs ds ps
  | [], [], [], ps, _, h, _ => h
  | t :: ts, v :: vs, d :: ds, ps, ht, h, hlt => by
    obtain ⟨p, q, h1, h2, rfl⟩ := h
    have ht0 := ht t (.head _)
    exact ⟨p, q, Below.trod hl ht0.1 ht0.2 h1 hb (fun x hx => hlt x (List.mem_append.2 (.inl hx))), trodAll_stays hl hb (fun t' h' => ht t' (.tail _ h')) h2 (fun x hx => hlt x (List.mem_append.2 (.inr hx))), rfl⟩
  | [], [], _ :: _, _, _, h, _ => by cases h
  | [], _ :: _, _, _, _, h, _ => by cases h
  | _ :: _, [], _, _, _, h, _ => by cases h
  | _ :: _, _ :: _, [], _, _, h, _ => by cases h
end
end Go.E
namespace Go.E
open Go Go.RowKit Go.ChangeShapes Go.WideShapes Go.Deep
section
variable {P : Program} {t e : TypeId}
end
end Go.E
end
section
namespace Go.Proofs.YtmfiaecglndldaaGreatDoor
open Go Go.E Go.Lib
def laidU : List (String × DataW Unit) := [("unicode/utf8.acceptRanges", Rows.laid_unicode_utf8_acceptRanges), ("unicode/utf8.first", Rows.laid_unicode_utf8_first)]
noncomputable def laidWorld (os : Os) : World :=
  let w0 := World.holding Tryz.prog os ⟨#[], #[], []⟩
  let put (h : Array Obj) (g : Nat) (cs : Array Value) : Array Obj := h.modify g fun
    | .cells _ t frozen => .cells cs t frozen
    | o => o
  let h1 := put w0.heap 1 (Lib.firstTab.map fun z => Value.int .u8 z).toArray
  let h2 := put h1 2 ((List.range 16).flatMap fun i => [Value.int .u8 (Lib.accLo i), Value.int .u8 (Lib.accHi i)]).toArray
  { w0 with heap := h2 }
theorem door_met (os : Os) (args : Array Value) : laidMetH Tryz.prog laidU ((laidWorld os).forCall (fun _ _ => 0) ⟨#[], args, []⟩).memory :=
  laidMetH_of_parts3 (fuel := 8) (laidMet_of_run' 8 (by kernel_rfl) (by kernel_rfl)) (by kernel_rfl) (by kernel_rfl)
end Go.Proofs.YtmfiaecglndldaaGreatDoor
namespace Go.Proofs.YtmfiaecglndldaaGreatDoor.bulks
open Go Go.E
theorem bound {H : Type} {l : List (DataW H)} (hk : Rows.uptoSmall H l = true) : Rows.uptoBulkAll l ≤ 1048576 := of_decide_eq_true hk
end Go.Proofs.YtmfiaecglndldaaGreatDoor.bulks
end
