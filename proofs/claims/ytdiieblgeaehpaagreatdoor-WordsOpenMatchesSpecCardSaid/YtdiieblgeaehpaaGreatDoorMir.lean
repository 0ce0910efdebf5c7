/- Closed examples, evaluated: loops cut off by instances. -/
import Derived.Test.YtdiieblgeaehpaaGreatDoorP8
import Derived.Test.YtdiieblgeaehpaaGreatDoorApx
import Derived.KernelRfl
namespace Go.Proofs.YtdiieblgeaehpaaGreatDoor
open Go Go.E Go.RowKit Go.L
noncomputable instance (a) : Mi (decL a) := ⟨_, apR _⟩
noncomputable instance (a0 a1) : Mi (words_fault a0 a1) := by delta words_fault; infer_instance
noncomputable instance (a0) : Mi (words_letter a0) := by delta words_letter; repeat' first | (show Mi _; infer_instance) | refine @iB _ _ _ _ ?_ (fun _ => ?_) | refine @iC _ _ _ _ ?_ | refine @iI _ _ _ _ _ ?_ ?_
noncomputable instance (s3_67 c125 l126 s3_127) : Mi (words_split_1_k2 s3_67 c125 l126 s3_127) := by delta words_split_1_k2; infer_instance
noncomputable instance (a1 l66 s3_67 s) : Mi (words_split_1_bl3 a1 l66 s3_67 s) := by obtain ⟨c153, s3_154⟩ := s; delta words_split_1_bl3; dsimp only; infer_instance
noncomputable instance (a1 l66 s3_67 s) : Mi (words_split_1_l3 a1 l66 s3_67 s) := by delta words_split_1_l3; infer_instance
noncomputable instance (a1 s) : Mi (words_split_1_bl1 a1 s) := by obtain ⟨l66, s3_67⟩ := s; delta words_split_1_bl1; dsimp only; infer_instance
noncomputable instance (a1 s) : Mi (words_split_1_l1 a1 s) := by delta words_split_1_l1; infer_instance
noncomputable instance (a0 a1) : Mi (words_split_1 a0 a1) := by delta words_split_1; infer_instance
noncomputable instance (l) : Mi (collectW l) := by delta collectW; infer_instance
noncomputable instance (a0) : Mi (words_Split a0) := by delta words_Split; infer_instance
noncomputable instance (s19_192 l249) : Mi (words_Build_k3 s19_192 l249) := by delta words_Build_k3; infer_instance
noncomputable instance (s19_192 x254 s) : Mi (words_Build_bl4 s19_192 x254 s) := by obtain ⟨l283, s39_284⟩ := s; delta words_Build_bl4; dsimp only; infer_instance
noncomputable instance (s19_192 x254 s) : Mi (words_Build_l4 s19_192 x254 s) := by delta words_Build_l4; infer_instance
noncomputable instance (s0_32 s2_33) : Mi (math_bits_Len64_k3 s0_32 s2_33) := by delta math_bits_Len64_k3; repeat' first | (show Mi _; infer_instance) | refine @iB _ _ _ _ ?_ (fun _ => ?_) | refine @iC _ _ _ _ ?_ | refine @iI _ _ _ _ _ ?_ ?_
noncomputable instance (s0_18 s2_19) : Mi (math_bits_Len64_k2 s0_18 s2_19) := by delta math_bits_Len64_k2; infer_instance
noncomputable instance (s0_5 s2_6) : Mi (math_bits_Len64_k1 s0_5 s2_6) := by delta math_bits_Len64_k1; infer_instance
noncomputable instance (a0) : Mi (math_bits_Len64 a0) := by delta math_bits_Len64; infer_instance
noncomputable instance (a0) : Mi (math_bits_Len a0) := by delta math_bits_Len; infer_instance
noncomputable instance (a0) : Mi (bits_GammaSize a0) := by delta bits_GammaSize; infer_instance
noncomputable instance (a0 a1) : Mi (words_build_1 a0 a1) := by delta words_build_1; infer_instance
noncomputable instance (s25_118 c225) : Mi (words_Index_numbers_k2 s25_118 c225) := by delta words_Index_numbers_k2; infer_instance
noncomputable instance (a0 s25_118 s) : Mi (words_Index_numbers_bl5 a0 s25_118 s) := by obtain ⟨c326, c327, c328, s57_329⟩ := s; delta words_Index_numbers_bl5; dsimp only; repeat' first | (show Mi _; infer_instance) | refine @iB _ _ _ _ ?_ (fun _ => ?_) | refine @iC _ _ _ _ ?_ | refine @iI _ _ _ _ _ ?_ ?_
noncomputable instance (a0 s25_118 s) : Mi (words_Index_numbers_l5 a0 s25_118 s) := by delta words_Index_numbers_l5; infer_instance
noncomputable instance (a0 s25_118 c262) : Mi (words_Index_numbers_k3 a0 s25_118 c262) := by delta words_Index_numbers_k3; infer_instance
noncomputable instance (a0 s25_118 s) : Mi (words_Index_numbers_bl4 a0 s25_118 s) := by obtain ⟨c278, s38_279⟩ := s; delta words_Index_numbers_bl4; dsimp only; infer_instance
noncomputable instance (a0 s25_118 s) : Mi (words_Index_numbers_l4 a0 s25_118 s) := by delta words_Index_numbers_l4; infer_instance
noncomputable instance (a0 s) : Mi (words_Index_numbers_bl1 a0 s) := by obtain ⟨c117, s25_118⟩ := s; delta words_Index_numbers_bl1; dsimp only; infer_instance
noncomputable instance (a0 s) : Mi (words_Index_numbers_l1 a0 s) := by delta words_Index_numbers_l1; infer_instance
noncomputable instance (a0 a1_c0) : Mi (words_Index_numbers a0 a1_c0) := by delta words_Index_numbers; infer_instance
noncomputable instance (a0 l38) : Mi (words_build_k1 a0 l38) := by delta words_build_k1; infer_instance
noncomputable instance (a0 a1 x42 s) : Mi (words_build_bl2 a0 a1 x42 s) := by obtain ⟨l58, s16_59⟩ := s; delta words_build_bl2; dsimp only; infer_instance
noncomputable instance (a0 a1 x42 s) : Mi (words_build_l2 a0 a1 x42 s) := by delta words_build_l2; infer_instance
noncomputable instance (a0 a1) : Mi (words_build a0 a1) := by delta words_build; infer_instance
noncomputable instance (a0 l130) : Mi (words_Build_k1 a0 l130) := by delta words_Build_k1; infer_instance
noncomputable instance (a0 s) : Mi (words_Build_bl2 a0 s) := by obtain ⟨l191, s19_192⟩ := s; delta words_Build_bl2; dsimp only; infer_instance
noncomputable instance (a0 s) : Mi (words_Build_l2 a0 s) := by delta words_Build_l2; infer_instance
noncomputable instance (a0) : Mi (words_Build a0) := by delta words_Build; infer_instance
noncomputable instance (a0) : Mi (words_isWord a0) := by delta words_isWord; infer_instance
noncomputable instance (a0) : Mi (words_Check a0) := by delta words_Check; infer_instance
noncomputable instance (a0 a1) : Mi (internal_bytealg_CompareString a0 a1) := by delta internal_bytealg_CompareString; infer_instance
noncomputable instance (a0 a1) : Mi (strings_Compare a0 a1) := by delta strings_Compare; infer_instance
noncomputable instance (a0 a1) : Mi (words_Index_hits_1 a0 a1) := by delta words_Index_hits_1; infer_instance
noncomputable instance (a0 a1 s9_17) : Mi (slices_BinarySearchFunc_words_entry_words_entry_string_k1 a0 a1 s9_17) := by delta slices_BinarySearchFunc_words_entry_words_entry_string_k1; infer_instance
noncomputable instance (a0 a1 s) : Mi (slices_BinarySearchFunc_words_entry_words_entry_string_bl2 a0 a1 s) := by obtain ⟨s9_33, s10_34⟩ := s; delta slices_BinarySearchFunc_words_entry_words_entry_string_bl2; dsimp only; infer_instance
noncomputable instance (a0 a1 s) : Mi (slices_BinarySearchFunc_words_entry_words_entry_string_l2 a0 a1 s) := by delta slices_BinarySearchFunc_words_entry_words_entry_string_l2; infer_instance
noncomputable instance (a0 a1) : Mi (slices_BinarySearchFunc_words_entry_words_entry_string a0 a1) := by delta slices_BinarySearchFunc_words_entry_words_entry_string; infer_instance
noncomputable instance (a0 a1) : Mi (words_Index_hits a0 a1) := by delta words_Index_hits; infer_instance
noncomputable instance : Mi (slices_Index_api_Hit_api_Hit_k1) := by delta slices_Index_api_Hit_api_Hit_k1; infer_instance
noncomputable instance (a0 a1 s) : Mi (slices_Index_api_Hit_api_Hit_bl2 a0 a1 s) := by delta slices_Index_api_Hit_api_Hit_bl2; infer_instance
noncomputable instance (a0 a1 s) : Mi (slices_Index_api_Hit_api_Hit_l2 a0 a1 s) := by delta slices_Index_api_Hit_api_Hit_l2; infer_instance
noncomputable instance (a0 a1) : Mi (slices_Index_api_Hit_api_Hit a0 a1) := by delta slices_Index_api_Hit_api_Hit; infer_instance
noncomputable instance (a0 a1) : Mi (slices_Contains_api_Hit_api_Hit a0 a1) := by delta slices_Contains_api_Hit_api_Hit; infer_instance
noncomputable instance (s45_293 l350) : Mi (words_Index_Phrase_k5 s45_293 l350) := by delta words_Index_Phrase_k5; infer_instance
noncomputable instance (l292 s45_293 x228) : Mi (words_Index_Phrase_k6 l292 s45_293 x228) := by delta words_Index_Phrase_k6; infer_instance
noncomputable instance (a0 a1 l292 s45_293 x228 s) : Mi (words_Index_Phrase_bl7 a0 a1 l292 s45_293 x228 s) := by delta words_Index_Phrase_bl7; infer_instance
noncomputable instance (a0 a1 l292 s45_293 x228 s) : Mi (words_Index_Phrase_l7 a0 a1 l292 s45_293 x228 s) := by delta words_Index_Phrase_l7; infer_instance
noncomputable instance (l221) : Mi (words_Index_Phrase_k3 l221) := by delta words_Index_Phrase_k3; infer_instance
noncomputable instance (a0 a1 x228 s) : Mi (words_Index_Phrase_bl4 a0 a1 x228 s) := by obtain ⟨l292, s45_293⟩ := s; delta words_Index_Phrase_bl4; dsimp only; infer_instance
noncomputable instance (a0 a1 x228 s) : Mi (words_Index_Phrase_l4 a0 a1 x228 s) := by delta words_Index_Phrase_l4; infer_instance
noncomputable instance (a0 a1) : Mi (words_Index_Phrase_k1 a0 a1) := by delta words_Index_Phrase_k1; infer_instance
noncomputable instance (a0 a1 s) : Mi (words_Index_Phrase_bl2 a0 a1 s) := by delta words_Index_Phrase_bl2; infer_instance
noncomputable instance (a0 a1 s) : Mi (words_Index_Phrase_l2 a0 a1 s) := by delta words_Index_Phrase_l2; infer_instance
noncomputable instance (a0 a1) : Mi (words_Index_Phrase a0 a1) := by delta words_Index_Phrase; infer_instance
noncomputable instance (a0 a1 a2) : Mi (words_Index_Near_1 a0 a1 a2) := by delta words_Index_Near_1; infer_instance
noncomputable instance (c30 c31 c32) : Mi (slices_IndexFunc_api_Hit_api_Hit_k1 c30 c31 c32) := by delta slices_IndexFunc_api_Hit_api_Hit_k1; infer_instance
noncomputable instance (a0 s) : Mi (slices_IndexFunc_api_Hit_api_Hit_bl2 a0 s) := by obtain ⟨c47, c48, c49, s8_50⟩ := s; delta slices_IndexFunc_api_Hit_api_Hit_bl2; dsimp only; infer_instance
noncomputable instance (a0 s) : Mi (slices_IndexFunc_api_Hit_api_Hit_l2 a0 s) := by delta slices_IndexFunc_api_Hit_api_Hit_l2; infer_instance
noncomputable instance (a0 a1_c0 a1_c1) : Mi (slices_IndexFunc_api_Hit_api_Hit a0 a1_c0 a1_c1) := by delta slices_IndexFunc_api_Hit_api_Hit; infer_instance
noncomputable instance (a0 a1_c0 a1_c1) : Mi (slices_ContainsFunc_api_Hit_api_Hit a0 a1_c0 a1_c1) := by delta slices_ContainsFunc_api_Hit_api_Hit; infer_instance
noncomputable instance : Mi (slices_Index_int_int_k1) := by delta slices_Index_int_int_k1; infer_instance
noncomputable instance (a0 a1 s) : Mi (slices_Index_int_int_bl2 a0 a1 s) := by delta slices_Index_int_int_bl2; infer_instance
noncomputable instance (a0 a1 s) : Mi (slices_Index_int_int_l2 a0 a1 s) := by delta slices_Index_int_int_l2; infer_instance
noncomputable instance (a0 a1) : Mi (slices_Index_int_int a0 a1) := by delta slices_Index_int_int; infer_instance
noncomputable instance (a0 a1) : Mi (slices_Contains_int_int a0 a1) := by delta slices_Contains_int_int; infer_instance
noncomputable instance (l99 _c100) : Mi (words_Index_Near_k1 l99 _c100) := by delta words_Index_Near_k1; infer_instance
noncomputable instance (a0 a2 x103 s) : Mi (words_Index_Near_bl2 a0 a2 x103 s) := by obtain ⟨l132, c133, s41_134⟩ := s; delta words_Index_Near_bl2; dsimp only; infer_instance
noncomputable instance (a0 a2 x103 s) : Mi (words_Index_Near_l2 a0 a2 x103 s) := by delta words_Index_Near_l2; infer_instance
noncomputable instance (a0 a1 a2 a3) : Mi (words_Index_Near a0 a1 a2 a3) := by delta words_Index_Near; infer_instance
noncomputable instance (a0) : Mi (slices_Clone_byte_byte a0) := by delta slices_Clone_byte_byte; infer_instance
noncomputable instance (a0) : Mi (bits_Valid a0) := by delta bits_Valid; infer_instance
noncomputable instance (a0 a1) : Mi (bits_fault a0 a1) := by delta bits_fault; infer_instance
noncomputable instance (a0 a1) : Mi (bits_at a0 a1) := by delta bits_at; infer_instance
noncomputable instance (s7_25) : Mi (bits_number_k1 s7_25) := by delta bits_number_k1; infer_instance
noncomputable instance (a0 a1 a2 s) : Mi (bits_number_bl2 a0 a1 a2 s) := by obtain ⟨s7_38, s10_39⟩ := s; delta bits_number_bl2; dsimp only; infer_instance
noncomputable instance (a0 a1 a2 s) : Mi (bits_number_l2 a0 a1 a2 s) := by delta bits_number_l2; infer_instance
noncomputable instance (a0 a1 a2) : Mi (bits_number a0 a1 a2) := by delta bits_number; infer_instance
noncomputable instance (a0 a1 s7_61) : Mi (bits_ReadGamma_k1 a0 a1 s7_61) := by delta bits_ReadGamma_k1; infer_instance
noncomputable instance (a0 a1 s) : Mi (bits_ReadGamma_bl2 a0 a1 s) := by delta bits_ReadGamma_bl2; infer_instance
noncomputable instance (a0 a1 s) : Mi (bits_ReadGamma_l2 a0 a1 s) := by delta bits_ReadGamma_l2; infer_instance
noncomputable instance (a0 a1) : Mi (bits_ReadGamma a0 a1) := by delta bits_ReadGamma; infer_instance
noncomputable instance (a0 x3) : Mi (words_reader_number_k1 a0 x3) := by delta words_reader_number_k1; infer_instance
noncomputable instance (a0 a1) : Mi (words_reader_number a0 a1) := by delta words_reader_number; infer_instance
noncomputable instance (c1530 c1601 c1602 c1603 c1604 l1498 s9_1499 _s87_1638 _s88_1639) : Mi (words_reader_index_k11 c1530 c1601 c1602 c1603 c1604 l1498 s9_1499 _s87_1638 _s88_1639) := by delta words_reader_index_k11; infer_instance
noncomputable instance (c1530 l1498 s9_1499 y8 c1601 c1602 c1603 c1604) : Mi (words_reader_index_k10 c1530 l1498 s9_1499 y8 c1601 c1602 c1603 c1604) := by delta words_reader_index_k10; infer_instance
noncomputable instance (c1526 c1527 c1528 c1530 l1498 s9_1499 y8 c1578) : Mi (words_reader_index_k9 c1526 c1527 c1528 c1530 l1498 s9_1499 y8 c1578) := by delta words_reader_index_k9; infer_instance
noncomputable instance (c1495 c1496 l1498 s9_1499 y8 c1526 c1527 c1528 c1530 _c1531) : Mi (words_reader_index_k8 c1495 c1496 l1498 s9_1499 y8 c1526 c1527 c1528 c1530 _c1531) := by delta words_reader_index_k8; infer_instance
noncomputable instance (s4_854 l1118 c1119 c1120 c1121 _s107_1122 _s108_1123 _s109_1124 _s120_1125) : Mi (words_reader_index_k3 s4_854 l1118 c1119 c1120 c1121 _s107_1122 _s108_1123 _s109_1124 _s120_1125) := by delta words_reader_index_k3; infer_instance
noncomputable instance (c1400 c1401 c1402 l1171 l1403 l853 s4_854 s107_1706 s108_1707 s109_1708 s120_1709) : Mi (words_reader_index_k12 c1400 c1401 c1402 l1171 l1403 l853 s4_854 s107_1706 s108_1707 s109_1708 s120_1709) := by delta words_reader_index_k12; infer_instance
noncomputable instance (l1171 l853 s4_854 _c1397 _c1398 c1400 c1401 c1402 l1403) : Mi (words_reader_index_k6 l1171 l853 s4_854 _c1397 _c1398 c1400 c1401 c1402 l1403) := by delta words_reader_index_k6; infer_instance
noncomputable instance (l1171 l853 s4_854 y8 s) : Mi (words_reader_index_bl7 l1171 l853 s4_854 y8 s) := by obtain ⟨c1492, c1493, c1494, c1495, c1496, l1498, s9_1499⟩ := s; delta words_reader_index_bl7; dsimp only; infer_instance
noncomputable instance (l1171 l853 s4_854 y8 s) : Mi (words_reader_index_l7 l1171 l853 s4_854 y8 s) := by delta words_reader_index_l7; infer_instance
noncomputable instance (l853 s4_854 y8 l1171 c1172 c1173 c1174) : Mi (words_reader_index_k4 l853 s4_854 y8 l1171 c1172 c1173 c1174) := by delta words_reader_index_k4; infer_instance
noncomputable instance (l853 s4_854 y8 s) : Mi (words_reader_index_bl5 l853 s4_854 y8 s) := by obtain ⟨c1202, c1203, c1204, l1205, s6_1206⟩ := s; delta words_reader_index_bl5; dsimp only; infer_instance
noncomputable instance (l853 s4_854 y8 s) : Mi (words_reader_index_l5 l853 s4_854 y8 s) := by delta words_reader_index_l5; infer_instance
noncomputable instance (y8 c566 c567 c568 l569) : Mi (words_reader_index_k1 y8 c566 c567 c568 l569) := by delta words_reader_index_k1; infer_instance
noncomputable instance (y8 s) : Mi (words_reader_index_bl2 y8 s) := by obtain ⟨c849, c850, c851, l853, s4_854⟩ := s; delta words_reader_index_bl2; dsimp only; infer_instance
noncomputable instance (y8 s) : Mi (words_reader_index_l2 y8 s) := by delta words_reader_index_l2; infer_instance
noncomputable instance (a0) : Mi (words_reader_index a0) := by delta words_reader_index; infer_instance
noncomputable instance (_a0 _a1) : Mi (words_Open_1_yes _a0 _a1) := by delta words_Open_1_yes; infer_instance
noncomputable instance (s30_155 l195) : Mi (words_Open_k3 s30_155 l195) := by delta words_Open_k3; infer_instance
noncomputable instance (s30_155 y22 s) : Mi (words_Open_bl4 s30_155 y22 s) := by obtain ⟨l216, s37_217⟩ := s; delta words_Open_bl4; dsimp only; infer_instance
noncomputable instance (s30_155 y22 s) : Mi (words_Open_l4 s30_155 y22 s) := by delta words_Open_l4; infer_instance
noncomputable instance (a0 s) : Mi (words_Index_Bytes_1_bl1 a0 s) := by obtain ⟨l14, s4_15⟩ := s; delta words_Index_Bytes_1_bl1; dsimp only; infer_instance
noncomputable instance (a0 s) : Mi (words_Index_Bytes_1_l1 a0 s) := by delta words_Index_Bytes_1_l1; infer_instance
noncomputable instance (a0 a1) : Mi (words_Index_Bytes_1 a0 a1) := by delta words_Index_Bytes_1; infer_instance
noncomputable instance (s25_132 l252) : Mi (words_Index_numbers_s2_k2 s25_132 l252) := by delta words_Index_numbers_s2_k2; infer_instance
noncomputable instance (a0 s25_132 s) : Mi (words_Index_numbers_s2_bl5 a0 s25_132 s) := by obtain ⟨c364, c365, l368, s57_369⟩ := s; delta words_Index_numbers_s2_bl5; dsimp only; repeat' first | (show Mi _; infer_instance) | refine @iB _ _ _ _ ?_ (fun _ => ?_) | refine @iC _ _ _ _ ?_ | refine @iI _ _ _ _ _ ?_ ?_
noncomputable instance (a0 s25_132 s) : Mi (words_Index_numbers_s2_l5 a0 s25_132 s) := by delta words_Index_numbers_s2_l5; infer_instance
noncomputable instance (a0 s25_132 l294) : Mi (words_Index_numbers_s2_k3 a0 s25_132 l294) := by delta words_Index_numbers_s2_k3; infer_instance
noncomputable instance (a0 s25_132 s) : Mi (words_Index_numbers_s2_bl4 a0 s25_132 s) := by obtain ⟨l311, s38_312⟩ := s; delta words_Index_numbers_s2_bl4; dsimp only; infer_instance
noncomputable instance (a0 s25_132 s) : Mi (words_Index_numbers_s2_l4 a0 s25_132 s) := by delta words_Index_numbers_s2_l4; infer_instance
noncomputable instance (a0 s) : Mi (words_Index_numbers_s2_bl1 a0 s) := by obtain ⟨l131, s25_132⟩ := s; delta words_Index_numbers_s2_bl1; dsimp only; infer_instance
noncomputable instance (a0 s) : Mi (words_Index_numbers_s2_l1 a0 s) := by delta words_Index_numbers_s2_l1; infer_instance
noncomputable instance (a0 a1_c0) : Mi (words_Index_numbers_s2 a0 a1_c0) := by delta words_Index_numbers_s2; infer_instance
noncomputable instance (a0 a1 l12) : Mi (bits_put_k1 a0 a1 l12) := by delta bits_put_k1; infer_instance
noncomputable instance (a0 a1) : Mi (bits_put a0 a1) := by delta bits_put; infer_instance
noncomputable instance (c87 l88) : Mi (bits_Make_k1 c87 l88) := by delta bits_Make_k1; infer_instance
noncomputable instance (a0 s) : Mi (bits_Make_bl2 a0 s) := by obtain ⟨c128, l129, s13_130⟩ := s; delta bits_Make_bl2; dsimp only; infer_instance
noncomputable instance (a0 s) : Mi (bits_Make_l2 a0 s) := by delta bits_Make_l2; infer_instance
noncomputable instance (a0) : Mi (bits_Make a0) := by delta bits_Make; infer_instance
noncomputable instance (a0) : Mi (words_Index_Bytes a0) := by delta words_Index_Bytes; infer_instance
noncomputable instance (a0 a1) : Mi (bytes_Equal a0 a1) := by delta bytes_Equal; infer_instance
noncomputable instance (_a0 _a1) : Mi (words_Open_1_yes_s2 _a0 _a1) := by delta words_Open_1_yes_s2; infer_instance
noncomputable instance (a0 a1) : Mi (words_Open_1_no a0 a1) := by delta words_Open_1_no; infer_instance
noncomputable instance (y22 l252) : Mi (words_Open_k5 y22 l252) := by delta words_Open_k5; infer_instance
noncomputable instance (a0 y22 _l110) : Mi (words_Open_k1 a0 y22 _l110) := by delta words_Open_k1; infer_instance
noncomputable instance (a0 y22 s) : Mi (words_Open_bl2 a0 y22 s) := by obtain ⟨l154, s30_155⟩ := s; delta words_Open_bl2; dsimp only; infer_instance
noncomputable instance (a0 y22 s) : Mi (words_Open_l2 a0 y22 s) := by delta words_Open_l2; infer_instance
noncomputable instance (a0) : Mi (words_Open a0) := by delta words_Open; infer_instance
noncomputable instance : Mi (ref4_SameHits_k1) := by delta ref4_SameHits_k1; infer_instance
noncomputable instance (a0 a1 s) : Mi (ref4_SameHits_bl2 a0 a1 s) := by delta ref4_SameHits_bl2; infer_instance
noncomputable instance (a0 a1 s) : Mi (ref4_SameHits_l2 a0 a1 s) := by delta ref4_SameHits_l2; infer_instance
noncomputable instance (a0 a1) : Mi (ref4_SameHits a0 a1) := by delta ref4_SameHits; infer_instance
noncomputable instance : Mi (ref3_Ints_k1) := by delta ref3_Ints_k1; infer_instance
noncomputable instance (a0 a1 s) : Mi (ref3_Ints_bl2 a0 a1 s) := by delta ref3_Ints_bl2; infer_instance
noncomputable instance (a0 a1 s) : Mi (ref3_Ints_l2 a0 a1 s) := by delta ref3_Ints_l2; infer_instance
noncomputable instance (a0 a1) : Mi (ref3_Ints a0 a1) := by delta ref3_Ints; infer_instance
noncomputable instance (l30) : Mi (words_Index_Words_k1 l30) := by delta words_Index_Words_k1; infer_instance
noncomputable instance (a0 s) : Mi (words_Index_Words_bl2 a0 s) := by obtain ⟨l45, s9_46⟩ := s; delta words_Index_Words_bl2; dsimp only; infer_instance
noncomputable instance (a0 s) : Mi (words_Index_Words_l2 a0 s) := by delta words_Index_Words_l2; infer_instance
noncomputable instance (a0) : Mi (words_Index_Words a0) := by delta words_Index_Words; infer_instance
noncomputable instance : Mi (ref4_Texts_k1) := by delta ref4_Texts_k1; infer_instance
noncomputable instance (a0 a1 s) : Mi (ref4_Texts_bl2 a0 a1 s) := by delta ref4_Texts_bl2; infer_instance
noncomputable instance (a0 a1 s) : Mi (ref4_Texts_l2 a0 a1 s) := by delta ref4_Texts_l2; infer_instance
noncomputable instance (a0 a1) : Mi (ref4_Texts a0 a1) := by delta ref4_Texts; infer_instance
noncomputable instance (a0) : Mi (words_Index_Items a0) := by delta words_Index_Items; infer_instance
noncomputable instance (a0 a1) : Mi (ref3_At a0 a1) := by delta ref3_At; infer_instance
noncomputable instance : Mi (law4_speaks) := by delta law4_speaks; repeat' first | (show Mi _; infer_instance) | refine @iB _ _ _ _ ?_ (fun _ => ?_) | refine @iC _ _ _ _ ?_ | refine @iI _ _ _ _ _ ?_ ?_
theorem speaks_true : law4_speaks = some true := (inferInstance : Mi law4_speaks).h true (by kernel_rfl)
end Go.Proofs.YtdiieblgeaehpaaGreatDoor
