/- Closed examples, evaluated: generated from the plain functions. -/
import Derived.Test.YtdiieblgeaehpaaDoorP8
import Derived.Test.YtdiieblgeaehpaaDoorApx
import Derived.KernelRfl
namespace Go.Proofs.YtdiieblgeaehpaaDoor
open Go Go.E Go.RowKit
open Go.L (apR apB apC apI apM apO)
noncomputable def words_faultC : type_of% @words_fault := fun a0 a1 => 
 some ((a0, a1))
theorem words_fault_ap : ∀ a0 a1, Go.L.Ap (words_faultC a0 a1) (words_fault a0 a1) := by
 intro a0 a1
 unfold words_faultC words_fault
 with_reducible repeat (first | exact apR _ | refine apB ?_ fun _ => ?_ | refine apC ?_ | refine apI ?_ ?_ | refine apM ?_ | refine apO ?_ fun _ => ?_)
noncomputable def words_letterC : type_of% @words_letter := fun a0 => 
 Go.L.chk (0 ≤ (0 : Int) ∧ (0 : Int) < (a0.length : Int)) (if (48 ≤ ((a0.getD ((0 : Int).toNat) default).toNat : Int)) ∧ (((a0.getD ((0 : Int).toNat) default).toNat : Int) ≤ 57) then Go.L.chk ((a0.getD ((0 : Int).toNat) default).toNat < 128) (some ([a0.getD ((0 : Int).toNat) default], (1 : Int))) else if 97 ≤ ((a0.getD ((0 : Int).toNat) default).toNat : Int) then if ((a0.getD ((0 : Int).toNat) default).toNat : Int) ≤ 122 then Go.L.chk ((a0.getD ((0 : Int).toNat) default).toNat < 128) (some ([a0.getD ((0 : Int).toNat) default], (1 : Int))) else (if (65 ≤ ((a0.getD ((0 : Int).toNat) default).toNat : Int)) ∧ (((a0.getD ((0 : Int).toNat) default).toNat : Int) ≤ 90) then Go.L.chk (((a0.getD ((0 : Int).toNat) default - (65 : UInt8)) + (97 : UInt8)).toNat < 128) (some ([((a0.getD ((0 : Int).toNat) default - (65 : UInt8)) + (97 : UInt8))], (1 : Int))) else (if ((a0.getD ((0 : Int).toNat) default).toNat : Int) < 128 then some (([] : List UInt8), (1 : Int)) else Option.bind (decL a0) (fun x20 => if (x20.1 = (65533 : Int)) ∧ (x20.2 = (1 : Int)) then some (([] : List UInt8), (1 : Int)) else Go.L.chk (0 ≤ x20.2 ∧ x20.2 ≤ (a0.length : Int)) (some ((a0.take x20.2.toNat), x20.2))))) else if (65 ≤ ((a0.getD ((0 : Int).toNat) default).toNat : Int)) ∧ (((a0.getD ((0 : Int).toNat) default).toNat : Int) ≤ 90) then Go.L.chk (((a0.getD ((0 : Int).toNat) default - (65 : UInt8)) + (97 : UInt8)).toNat < 128) (some ([((a0.getD ((0 : Int).toNat) default - (65 : UInt8)) + (97 : UInt8))], (1 : Int))) else (if ((a0.getD ((0 : Int).toNat) default).toNat : Int) < 128 then some (([] : List UInt8), (1 : Int)) else Option.bind (decL a0) (fun x35 => if (x35.1 = (65533 : Int)) ∧ (x35.2 = (1 : Int)) then some (([] : List UInt8), (1 : Int)) else Go.L.chk (0 ≤ x35.2 ∧ x35.2 ≤ (a0.length : Int)) (some ((a0.take x35.2.toNat), x35.2)))))
theorem words_letter_ap : ∀ a0, Go.L.Ap (words_letterC a0) (words_letter a0) := by
 intro a0
 unfold words_letterC words_letter
 with_reducible repeat (first | exact apR _ | refine apB ?_ fun _ => ?_ | refine apC ?_ | refine apI ?_ ?_ | refine apM ?_ | refine apO ?_ fun _ => ?_)
noncomputable def words_split_1_k2C : type_of% @words_split_1_k2 := fun s3_67 c125 l126 s3_127 => 
 Go.L.chk (Go.E.Cap 32 (l126.length + 1)) (Option.map Sum.inr (some ((l126 ++ [(c125, s3_67, s3_127)]))))
theorem words_split_1_k2_ap : ∀ s3_67 c125 l126 s3_127, Go.L.Ap (words_split_1_k2C s3_67 c125 l126 s3_127) (words_split_1_k2 s3_67 c125 l126 s3_127) := by
 intro s3_67 c125 l126 s3_127
 unfold words_split_1_k2C words_split_1_k2
 with_reducible repeat (first | exact apR _ | refine apB ?_ fun _ => ?_ | refine apC ?_ | refine apI ?_ ?_ | refine apM ?_ | refine apO ?_ fun _ => ?_)
noncomputable def words_split_1_bl3C : type_of% @words_split_1_bl3 := fun a1 l66 s3_67 => fun ⟨c153, s3_154⟩ =>
 if s3_154 < (a1.length : Int) then Go.L.chk (0 ≤ s3_154 ∧ s3_154 ≤ (a1.length : Int)) (Option.bind (words_letterC (a1.drop s3_154.toNat)) (fun x162 => if x162.1 = ([] : List UInt8) then Go.L.chk (Go.L.I64 (s3_154 + x162.2)) (if c153 = ([] : List UInt8) then Option.map Sum.inr (some (Sum.inl (l66, (s3_154 + x162.2)))) else Go.L.chk (Go.E.Cap 32 (l66.length + 1)) (Option.map Sum.inr (some (Sum.inl ((l66 ++ [(c153, s3_67, s3_154)]), (s3_154 + x162.2)))))) else Go.L.chk (c153.length + x162.1.length ≤ 9223372036854775807) (Go.L.chk (Go.L.I64 (s3_154 + x162.2)) (some (Sum.inl ((c153 ++ x162.1), (s3_154 + x162.2))))))) else Option.map Sum.inr ((words_split_1_k2C s3_67) c153 l66 s3_154)
theorem words_split_1_bl3_ap : ∀ a1 l66 s3_67, ∀ s, Go.L.Ap (words_split_1_bl3C a1 l66 s3_67 s) (words_split_1_bl3 a1 l66 s3_67 s) := by
 intro a1 l66 s3_67 s
 obtain ⟨c153, s3_154⟩ := s
 unfold words_split_1_bl3C words_split_1_bl3
 with_reducible repeat (first | exact apR _ | refine apB ?_ fun _ => ?_ | refine apC ?_ | refine apI ?_ ?_ | refine apM ?_ | refine apO ?_ fun _ => ?_ | exact words_letter_ap _ | exact words_split_1_k2_ap _ _ _ _)
noncomputable def words_split_1_l3C : type_of% @words_split_1_l3 := fun a1 l66 s3_67 s => Go.L.itr (words_split_1_bl3C a1 l66 s3_67) 200 s
theorem words_split_1_l3_ap : ∀ a1 l66 s3_67 s, Go.L.Ap (words_split_1_l3C a1 l66 s3_67 s) (words_split_1_l3 a1 l66 s3_67 s) := fun a1 l66 s3_67 s => Go.L.Ap.run (fun s => words_split_1_bl3_ap a1 l66 s3_67 s) 200 s
noncomputable def words_split_1_bl1C : type_of% @words_split_1_bl1 := fun a1 => fun ⟨l66, s3_67⟩ =>
 if s3_67 < (a1.length : Int) then (words_split_1_l3C a1 l66 s3_67) (([] : List UInt8), s3_67) else Option.map Sum.inr (some (l66))
theorem words_split_1_bl1_ap : ∀ a1, ∀ s, Go.L.Ap (words_split_1_bl1C a1 s) (words_split_1_bl1 a1 s) := by
 intro a1 s
 obtain ⟨l66, s3_67⟩ := s
 unfold words_split_1_bl1C words_split_1_bl1
 with_reducible repeat (first | exact apR _ | refine apB ?_ fun _ => ?_ | refine apC ?_ | refine apI ?_ ?_ | refine apM ?_ | refine apO ?_ fun _ => ?_ | exact words_split_1_l3_ap _ _ _ _)
noncomputable def words_split_1_l1C : type_of% @words_split_1_l1 := fun a1 s => Go.L.itr (words_split_1_bl1C a1) 200 s
theorem words_split_1_l1_ap : ∀ a1 s, Go.L.Ap (words_split_1_l1C a1 s) (words_split_1_l1 a1 s) := fun a1 s => Go.L.Ap.run (fun s => words_split_1_bl1_ap a1 s) 200 s
noncomputable def words_split_1C : type_of% @words_split_1 := fun a0 a1 => 
 (words_split_1_l1C a1) (a0, (0 : Int))
theorem words_split_1_ap : ∀ a0 a1, Go.L.Ap (words_split_1C a0 a1) (words_split_1 a0 a1) := by
 intro a0 a1
 unfold words_split_1C words_split_1
 with_reducible repeat (first | exact apR _ | refine apB ?_ fun _ => ?_ | refine apC ?_ | refine apI ?_ ?_ | refine apM ?_ | refine apO ?_ fun _ => ?_ | exact words_split_1_l1_ap _ _)
noncomputable def collectWC : type_of% @collectW := fun l => 
 words_split_1C [] l
theorem collectW_ap : ∀ l, Go.L.Ap (collectWC l) (collectW l) := by
 intro l
 unfold collectWC collectW
 with_reducible repeat (first | exact apR _ | refine apB ?_ fun _ => ?_ | refine apC ?_ | refine apI ?_ ?_ | refine apM ?_ | refine apO ?_ fun _ => ?_ | exact words_split_1_ap _ _)
noncomputable def words_SplitC : type_of% @words_Split := fun a0 => 
 if (2048 : Int) < (a0.length : Int) then Option.bind (words_faultC (3 : Int) (-1 : Int)) (fun x4 => some ([], (x4.1, x4.2))) else Option.bind (collectWC a0) (fun x9 => some (x9, ((0 : Int), (0 : Int))))
theorem words_Split_ap : ∀ a0, Go.L.Ap (words_SplitC a0) (words_Split a0) := by
 intro a0
 unfold words_SplitC words_Split
 with_reducible repeat (first | exact apR _ | refine apB ?_ fun _ => ?_ | refine apC ?_ | refine apI ?_ ?_ | refine apM ?_ | refine apO ?_ fun _ => ?_ | exact collectW_ap _ | exact words_fault_ap _ _)
noncomputable def words_Build_k3C : type_of% @words_Build_k3 := fun s19_192 l249 => 
 Go.L.chk (Go.L.I64 (s19_192 + (1 : Int))) (some (Sum.inl (l249, (s19_192 + (1 : Int)))))
theorem words_Build_k3_ap : ∀ s19_192 l249, Go.L.Ap (words_Build_k3C s19_192 l249) (words_Build_k3 s19_192 l249) := by
 intro s19_192 l249
 unfold words_Build_k3C words_Build_k3
 with_reducible repeat (first | exact apR _ | refine apB ?_ fun _ => ?_ | refine apC ?_ | refine apI ?_ ?_ | refine apM ?_ | refine apO ?_ fun _ => ?_)
noncomputable def words_Build_bl4C : type_of% @words_Build_bl4 := fun s19_192 x254 => fun ⟨l283, s39_284⟩ =>
 if s39_284 < (x254.1.length : Int) then Go.L.chk (0 ≤ s39_284 ∧ s39_284 < (x254.1.length : Int)) (Go.L.chk (Go.E.Cap 16 ((Go.L.mget [] ((x254.1.getD s39_284.toNat default).1) l283).length + 1)) (Go.L.chk (Go.L.I64 (s39_284 + (1 : Int))) (some (Sum.inl ((Go.L.mput ((x254.1.getD s39_284.toNat default).1) ((Go.L.mget [] ((x254.1.getD s39_284.toNat default).1) l283) ++ [(s19_192, s39_284)]) l283), (s39_284 + (1 : Int))))))) else Option.map Sum.inr ((words_Build_k3C s19_192) l283)
theorem words_Build_bl4_ap : ∀ s19_192 x254, ∀ s, Go.L.Ap (words_Build_bl4C s19_192 x254 s) (words_Build_bl4 s19_192 x254 s) := by
 intro s19_192 x254 s
 obtain ⟨l283, s39_284⟩ := s
 unfold words_Build_bl4C words_Build_bl4
 with_reducible repeat (first | exact apR _ | refine apB ?_ fun _ => ?_ | refine apC ?_ | refine apI ?_ ?_ | refine apM ?_ | refine apO ?_ fun _ => ?_ | exact words_Build_k3_ap _ _)
noncomputable def words_Build_l4C : type_of% @words_Build_l4 := fun s19_192 x254 s => Go.L.itr (words_Build_bl4C s19_192 x254) 200 s
theorem words_Build_l4_ap : ∀ s19_192 x254 s, Go.L.Ap (words_Build_l4C s19_192 x254 s) (words_Build_l4 s19_192 x254 s) := fun s19_192 x254 s => Go.L.Ap.run (fun s => words_Build_bl4_ap s19_192 x254 s) 200 s
noncomputable def math_bits_Len64_k3C : type_of% @math_bits_Len64_k3 := fun s0_32 s2_33 => 
 Go.L.chk (0 ≤ ((Go.L.u8 s0_32).toNat : Int) ∧ ((Go.L.u8 s0_32).toNat : Int) < (([0, 1, 2, 2, 3, 3, 3, 3, 4, 4, 4, 4, 4, 4, 4, 4, 5, 5, 5, 5, 5, 5, 5, 5, 5, 5, 5, 5, 5, 5, 5, 5, 6, 6, 6, 6, 6, 6, 6, 6, 6, 6, 6, 6, 6, 6, 6, 6, 6, 6, 6, 6, 6, 6, 6, 6, 6, 6, 6, 6, 6, 6, 6, 6, 7, 7, 7, 7, 7, 7, 7, 7, 7, 7, 7, 7, 7, 7, 7, 7, 7, 7, 7, 7, 7, 7, 7, 7, 7, 7, 7, 7, 7, 7, 7, 7, 7, 7, 7, 7, 7, 7, 7, 7, 7, 7, 7, 7, 7, 7, 7, 7, 7, 7, 7, 7, 7, 7, 7, 7, 7, 7, 7, 7, 7, 7, 7, 7, 8, 8, 8, 8, 8, 8, 8, 8, 8, 8, 8, 8, 8, 8, 8, 8, 8, 8, 8, 8, 8, 8, 8, 8, 8, 8, 8, 8, 8, 8, 8, 8, 8, 8, 8, 8, 8, 8, 8, 8, 8, 8, 8, 8, 8, 8, 8, 8, 8, 8, 8, 8, 8, 8, 8, 8, 8, 8, 8, 8, 8, 8, 8, 8, 8, 8, 8, 8, 8, 8, 8, 8, 8, 8, 8, 8, 8, 8, 8, 8, 8, 8, 8, 8, 8, 8, 8, 8, 8, 8, 8, 8, 8, 8, 8, 8, 8, 8, 8, 8, 8, 8, 8, 8, 8, 8, 8, 8, 8, 8, 8, 8, 8, 8, 8, 8, 8, 8, 8, 8, 8, 8, 8, 8, 8, 8, 8, 8] : List UInt8).length : Int)) (Go.L.chk (Go.L.I64 (s2_33 + ((([0, 1, 2, 2, 3, 3, 3, 3, 4, 4, 4, 4, 4, 4, 4, 4, 5, 5, 5, 5, 5, 5, 5, 5, 5, 5, 5, 5, 5, 5, 5, 5, 6, 6, 6, 6, 6, 6, 6, 6, 6, 6, 6, 6, 6, 6, 6, 6, 6, 6, 6, 6, 6, 6, 6, 6, 6, 6, 6, 6, 6, 6, 6, 6, 7, 7, 7, 7, 7, 7, 7, 7, 7, 7, 7, 7, 7, 7, 7, 7, 7, 7, 7, 7, 7, 7, 7, 7, 7, 7, 7, 7, 7, 7, 7, 7, 7, 7, 7, 7, 7, 7, 7, 7, 7, 7, 7, 7, 7, 7, 7, 7, 7, 7, 7, 7, 7, 7, 7, 7, 7, 7, 7, 7, 7, 7, 7, 7, 8, 8, 8, 8, 8, 8, 8, 8, 8, 8, 8, 8, 8, 8, 8, 8, 8, 8, 8, 8, 8, 8, 8, 8, 8, 8, 8, 8, 8, 8, 8, 8, 8, 8, 8, 8, 8, 8, 8, 8, 8, 8, 8, 8, 8, 8, 8, 8, 8, 8, 8, 8, 8, 8, 8, 8, 8, 8, 8, 8, 8, 8, 8, 8, 8, 8, 8, 8, 8, 8, 8, 8, 8, 8, 8, 8, 8, 8, 8, 8, 8, 8, 8, 8, 8, 8, 8, 8, 8, 8, 8, 8, 8, 8, 8, 8, 8, 8, 8, 8, 8, 8, 8, 8, 8, 8, 8, 8, 8, 8, 8, 8, 8, 8, 8, 8, 8, 8, 8, 8, 8, 8, 8, 8, 8, 8, 8, 8] : List UInt8).getD ((Go.L.u8 s0_32).toNat : Int).toNat default).toNat : Int))) (some ((s2_33 + ((([0, 1, 2, 2, 3, 3, 3, 3, 4, 4, 4, 4, 4, 4, 4, 4, 5, 5, 5, 5, 5, 5, 5, 5, 5, 5, 5, 5, 5, 5, 5, 5, 6, 6, 6, 6, 6, 6, 6, 6, 6, 6, 6, 6, 6, 6, 6, 6, 6, 6, 6, 6, 6, 6, 6, 6, 6, 6, 6, 6, 6, 6, 6, 6, 7, 7, 7, 7, 7, 7, 7, 7, 7, 7, 7, 7, 7, 7, 7, 7, 7, 7, 7, 7, 7, 7, 7, 7, 7, 7, 7, 7, 7, 7, 7, 7, 7, 7, 7, 7, 7, 7, 7, 7, 7, 7, 7, 7, 7, 7, 7, 7, 7, 7, 7, 7, 7, 7, 7, 7, 7, 7, 7, 7, 7, 7, 7, 7, 8, 8, 8, 8, 8, 8, 8, 8, 8, 8, 8, 8, 8, 8, 8, 8, 8, 8, 8, 8, 8, 8, 8, 8, 8, 8, 8, 8, 8, 8, 8, 8, 8, 8, 8, 8, 8, 8, 8, 8, 8, 8, 8, 8, 8, 8, 8, 8, 8, 8, 8, 8, 8, 8, 8, 8, 8, 8, 8, 8, 8, 8, 8, 8, 8, 8, 8, 8, 8, 8, 8, 8, 8, 8, 8, 8, 8, 8, 8, 8, 8, 8, 8, 8, 8, 8, 8, 8, 8, 8, 8, 8, 8, 8, 8, 8, 8, 8, 8, 8, 8, 8, 8, 8, 8, 8, 8, 8, 8, 8, 8, 8, 8, 8, 8, 8, 8, 8, 8, 8, 8, 8, 8, 8, 8, 8, 8, 8] : List UInt8).getD ((Go.L.u8 s0_32).toNat : Int).toNat default).toNat : Int)))))
theorem math_bits_Len64_k3_ap : ∀ s0_32 s2_33, Go.L.Ap (math_bits_Len64_k3C s0_32 s2_33) (math_bits_Len64_k3 s0_32 s2_33) := by
 intro s0_32 s2_33
 unfold math_bits_Len64_k3C math_bits_Len64_k3
 with_reducible repeat (first | exact apR _ | refine apB ?_ fun _ => ?_ | refine apC ?_ | refine apI ?_ ?_ | refine apM ?_ | refine apO ?_ fun _ => ?_)
noncomputable def math_bits_Len64_k2C : type_of% @math_bits_Len64_k2 := fun s0_18 s2_19 => 
 if (256 : Int) ≤ s0_18 then Go.L.chk (Go.L.I64 (s2_19 + (8 : Int))) (math_bits_Len64_k3C (s0_18 / 256) (s2_19 + (8 : Int))) else math_bits_Len64_k3C s0_18 s2_19
theorem math_bits_Len64_k2_ap : ∀ s0_18 s2_19, Go.L.Ap (math_bits_Len64_k2C s0_18 s2_19) (math_bits_Len64_k2 s0_18 s2_19) := by
 intro s0_18 s2_19
 unfold math_bits_Len64_k2C math_bits_Len64_k2
 with_reducible repeat (first | exact apR _ | refine apB ?_ fun _ => ?_ | refine apC ?_ | refine apI ?_ ?_ | refine apM ?_ | refine apO ?_ fun _ => ?_ | exact math_bits_Len64_k3_ap _ _)
noncomputable def math_bits_Len64_k1C : type_of% @math_bits_Len64_k1 := fun s0_5 s2_6 => 
 if (65536 : Int) ≤ s0_5 then Go.L.chk (Go.L.I64 (s2_6 + (16 : Int))) (math_bits_Len64_k2C (s0_5 / 65536) (s2_6 + (16 : Int))) else math_bits_Len64_k2C s0_5 s2_6
theorem math_bits_Len64_k1_ap : ∀ s0_5 s2_6, Go.L.Ap (math_bits_Len64_k1C s0_5 s2_6) (math_bits_Len64_k1 s0_5 s2_6) := by
 intro s0_5 s2_6
 unfold math_bits_Len64_k1C math_bits_Len64_k1
 with_reducible repeat (first | exact apR _ | refine apB ?_ fun _ => ?_ | refine apC ?_ | refine apI ?_ ?_ | refine apM ?_ | refine apO ?_ fun _ => ?_ | exact math_bits_Len64_k2_ap _ _)
noncomputable def math_bits_Len64C : type_of% @math_bits_Len64 := fun a0 => 
 if (4294967296 : Int) ≤ a0 then math_bits_Len64_k1C (a0 / 4294967296) (32 : Int) else math_bits_Len64_k1C a0 (0 : Int)
theorem math_bits_Len64_ap : ∀ a0, Go.L.Ap (math_bits_Len64C a0) (math_bits_Len64 a0) := by
 intro a0
 unfold math_bits_Len64C math_bits_Len64
 with_reducible repeat (first | exact apR _ | refine apB ?_ fun _ => ?_ | refine apC ?_ | refine apI ?_ ?_ | refine apM ?_ | refine apO ?_ fun _ => ?_ | exact math_bits_Len64_k1_ap _ _)
noncomputable def math_bits_LenC : type_of% @math_bits_Len := fun a0 => 
 Option.bind (math_bits_Len64C a0) (fun x1 => some (x1))
theorem math_bits_Len_ap : ∀ a0, Go.L.Ap (math_bits_LenC a0) (math_bits_Len a0) := by
 intro a0
 unfold math_bits_LenC math_bits_Len
 with_reducible repeat (first | exact apR _ | refine apB ?_ fun _ => ?_ | refine apC ?_ | refine apI ?_ ?_ | refine apM ?_ | refine apO ?_ fun _ => ?_ | exact math_bits_Len64_ap _)
noncomputable def bits_GammaSizeC : type_of% @bits_GammaSize := fun a0 => 
 if a0 < (1 : Int) then some ((0 : Int)) else Option.bind (math_bits_LenC (IntKind.u64.wrap a0)) (fun x4 => Go.L.chk (Go.L.I64 ((2 : Int) * x4)) (Go.L.chk (Go.L.I64 (((2 : Int) * x4) - (1 : Int))) (some ((((2 : Int) * x4) - (1 : Int))))))
theorem bits_GammaSize_ap : ∀ a0, Go.L.Ap (bits_GammaSizeC a0) (bits_GammaSize a0) := by
 intro a0
 unfold bits_GammaSizeC bits_GammaSize
 with_reducible repeat (first | exact apR _ | refine apB ?_ fun _ => ?_ | refine apC ?_ | refine apI ?_ ?_ | refine apM ?_ | refine apO ?_ fun _ => ?_ | exact math_bits_Len_ap _)
noncomputable def words_build_1C : type_of% @words_build_1 := fun a0 a1 => 
 Option.bind (bits_GammaSizeC a0) (fun x3 => Go.L.chk (Go.L.I64 (a1 + x3)) (some ((a1 + x3))))
theorem words_build_1_ap : ∀ a0 a1, Go.L.Ap (words_build_1C a0 a1) (words_build_1 a0 a1) := by
 intro a0 a1
 unfold words_build_1C words_build_1
 with_reducible repeat (first | exact apR _ | refine apB ?_ fun _ => ?_ | refine apC ?_ | refine apI ?_ ?_ | refine apM ?_ | refine apO ?_ fun _ => ?_ | exact bits_GammaSize_ap _)
noncomputable def words_Index_numbers_k2C : type_of% @words_Index_numbers_k2 := fun s25_118 c225 => 
 Go.L.chk (Go.L.I64 (s25_118 + (1 : Int))) (some (Sum.inl (c225, (s25_118 + (1 : Int)))))
theorem words_Index_numbers_k2_ap : ∀ s25_118 c225, Go.L.Ap (words_Index_numbers_k2C s25_118 c225) (words_Index_numbers_k2 s25_118 c225) := by
 intro s25_118 c225
 unfold words_Index_numbers_k2C words_Index_numbers_k2
 with_reducible repeat (first | exact apR _ | refine apB ?_ fun _ => ?_ | refine apC ?_ | refine apI ?_ ?_ | refine apM ?_ | refine apO ?_ fun _ => ?_)
noncomputable def words_Index_numbers_bl5C : type_of% @words_Index_numbers_bl5 := fun a0 s25_118 => fun ⟨c326, c327, c328, s57_329⟩ =>
 if s57_329 < (((a0.2.getD s25_118.toNat default).2).length : Int) then Go.L.chk (0 ≤ s57_329 ∧ s57_329 < (((a0.2.getD s25_118.toNat default).2).length : Int)) (if (((a0.2.getD s25_118.toNat default).2).getD s57_329.toNat default).1 = c326 then Option.bind (words_build_1C (1 : Int) c328) (fun x354 => Go.L.chk (Go.L.I64 ((((a0.2.getD s25_118.toNat default).2).getD s57_329.toNat default).2 - c327)) (Option.bind (words_build_1C ((((a0.2.getD s25_118.toNat default).2).getD s57_329.toNat default).2 - c327) x354) (fun x357 => Go.L.chk (Go.L.I64 (s57_329 + (1 : Int))) (some (Sum.inl ((((a0.2.getD s25_118.toNat default).2).getD s57_329.toNat default).1, (((a0.2.getD s25_118.toNat default).2).getD s57_329.toNat default).2, x357, (s57_329 + (1 : Int)))))))) else Go.L.chk (Go.L.I64 ((1 : Int) + (((a0.2.getD s25_118.toNat default).2).getD s57_329.toNat default).1)) (Go.L.chk (Go.L.I64 (((1 : Int) + (((a0.2.getD s25_118.toNat default).2).getD s57_329.toNat default).1) - c326)) (Option.bind (words_build_1C (((1 : Int) + (((a0.2.getD s25_118.toNat default).2).getD s57_329.toNat default).1) - c326) c328) (fun x343 => Go.L.chk (Go.L.I64 ((((a0.2.getD s25_118.toNat default).2).getD s57_329.toNat default).2 + (1 : Int))) (Option.bind (words_build_1C ((((a0.2.getD s25_118.toNat default).2).getD s57_329.toNat default).2 + (1 : Int)) x343) (fun x346 => Go.L.chk (Go.L.I64 (s57_329 + (1 : Int))) (some (Sum.inl ((((a0.2.getD s25_118.toNat default).2).getD s57_329.toNat default).1, (((a0.2.getD s25_118.toNat default).2).getD s57_329.toNat default).2, x346, (s57_329 + (1 : Int))))))))))) else Option.map Sum.inr ((words_Index_numbers_k2C s25_118) c328)
theorem words_Index_numbers_bl5_ap : ∀ a0 s25_118, ∀ s, Go.L.Ap (words_Index_numbers_bl5C a0 s25_118 s) (words_Index_numbers_bl5 a0 s25_118 s) := by
 intro a0 s25_118 s
 obtain ⟨c326, c327, c328, s57_329⟩ := s
 unfold words_Index_numbers_bl5C words_Index_numbers_bl5
 with_reducible repeat (first | exact apR _ | refine apB ?_ fun _ => ?_ | refine apC ?_ | refine apI ?_ ?_ | refine apM ?_ | refine apO ?_ fun _ => ?_ | exact words_Index_numbers_k2_ap _ _ | exact words_build_1_ap _ _)
noncomputable def words_Index_numbers_l5C : type_of% @words_Index_numbers_l5 := fun a0 s25_118 s => Go.L.itr (words_Index_numbers_bl5C a0 s25_118) 200 s
theorem words_Index_numbers_l5_ap : ∀ a0 s25_118 s, Go.L.Ap (words_Index_numbers_l5C a0 s25_118 s) (words_Index_numbers_l5 a0 s25_118 s) := fun a0 s25_118 s => Go.L.Ap.run (fun s => words_Index_numbers_bl5_ap a0 s25_118 s) 200 s
noncomputable def words_Index_numbers_k3C : type_of% @words_Index_numbers_k3 := fun a0 s25_118 c262 => 
 Option.bind (words_build_1C (((a0.2.getD s25_118.toNat default).2).length : Int) c262) (fun x293 => (words_Index_numbers_l5C a0 s25_118) ((0 : Int), (-1 : Int), x293, (0 : Int)))
theorem words_Index_numbers_k3_ap : ∀ a0 s25_118 c262, Go.L.Ap (words_Index_numbers_k3C a0 s25_118 c262) (words_Index_numbers_k3 a0 s25_118 c262) := by
 intro a0 s25_118 c262
 unfold words_Index_numbers_k3C words_Index_numbers_k3
 with_reducible repeat (first | exact apR _ | refine apB ?_ fun _ => ?_ | refine apC ?_ | refine apI ?_ ?_ | refine apM ?_ | refine apO ?_ fun _ => ?_ | exact words_Index_numbers_l5_ap _ _ _ | exact words_build_1_ap _ _)
noncomputable def words_Index_numbers_bl4C : type_of% @words_Index_numbers_bl4 := fun a0 s25_118 => fun ⟨c278, s38_279⟩ =>
 if s38_279 < (((a0.2.getD s25_118.toNat default).1).length : Int) then Go.L.chk (0 ≤ s38_279 ∧ s38_279 < (((a0.2.getD s25_118.toNat default).1).length : Int)) (Go.L.chk (Go.L.I64 (((((a0.2.getD s25_118.toNat default).1).getD s38_279.toNat default).toNat : Int) + (1 : Int))) (Option.bind (words_build_1C (((((a0.2.getD s25_118.toNat default).1).getD s38_279.toNat default).toNat : Int) + (1 : Int)) c278) (fun x288 => Go.L.chk (Go.L.I64 (s38_279 + (1 : Int))) (some (Sum.inl (x288, (s38_279 + (1 : Int)))))))) else Option.map Sum.inr ((words_Index_numbers_k3C a0 s25_118) c278)
theorem words_Index_numbers_bl4_ap : ∀ a0 s25_118, ∀ s, Go.L.Ap (words_Index_numbers_bl4C a0 s25_118 s) (words_Index_numbers_bl4 a0 s25_118 s) := by
 intro a0 s25_118 s
 obtain ⟨c278, s38_279⟩ := s
 unfold words_Index_numbers_bl4C words_Index_numbers_bl4
 with_reducible repeat (first | exact apR _ | refine apB ?_ fun _ => ?_ | refine apC ?_ | refine apI ?_ ?_ | refine apM ?_ | refine apO ?_ fun _ => ?_ | exact words_Index_numbers_k3_ap _ _ _ | exact words_build_1_ap _ _)
noncomputable def words_Index_numbers_l4C : type_of% @words_Index_numbers_l4 := fun a0 s25_118 s => Go.L.itr (words_Index_numbers_bl4C a0 s25_118) 200 s
theorem words_Index_numbers_l4_ap : ∀ a0 s25_118 s, Go.L.Ap (words_Index_numbers_l4C a0 s25_118 s) (words_Index_numbers_l4 a0 s25_118 s) := fun a0 s25_118 s => Go.L.Ap.run (fun s => words_Index_numbers_bl4_ap a0 s25_118 s) 200 s
noncomputable def words_Index_numbers_bl1C : type_of% @words_Index_numbers_bl1 := fun a0 => fun ⟨c117, s25_118⟩ =>
 if s25_118 < (a0.2.length : Int) then Go.L.chk (0 ≤ s25_118 ∧ s25_118 < (a0.2.length : Int)) (Option.bind (words_build_1C (((a0.2.getD s25_118.toNat default).1).length : Int) c117) (fun x233 => Go.L.chk (((a0.2.getD s25_118.toNat default).1).length ≤ 9223372036854775807) ((words_Index_numbers_l4C a0 s25_118) (x233, (0 : Int))))) else Option.map Sum.inr (some (c117))
theorem words_Index_numbers_bl1_ap : ∀ a0, ∀ s, Go.L.Ap (words_Index_numbers_bl1C a0 s) (words_Index_numbers_bl1 a0 s) := by
 intro a0 s
 obtain ⟨c117, s25_118⟩ := s
 unfold words_Index_numbers_bl1C words_Index_numbers_bl1
 with_reducible repeat (first | exact apR _ | refine apB ?_ fun _ => ?_ | refine apC ?_ | refine apI ?_ ?_ | refine apM ?_ | refine apO ?_ fun _ => ?_ | exact words_Index_numbers_l4_ap _ _ _ | exact words_build_1_ap _ _)
noncomputable def words_Index_numbers_l1C : type_of% @words_Index_numbers_l1 := fun a0 s => Go.L.itr (words_Index_numbers_bl1C a0) 200 s
theorem words_Index_numbers_l1_ap : ∀ a0 s, Go.L.Ap (words_Index_numbers_l1C a0 s) (words_Index_numbers_l1 a0 s) := fun a0 s => Go.L.Ap.run (fun s => words_Index_numbers_bl1_ap a0 s) 200 s
noncomputable def words_Index_numbersC : type_of% @words_Index_numbers := fun a0 a1_c0 => 
 Go.L.chk (Go.L.I64 (a0.1 + (1 : Int))) (Option.bind (words_build_1C (a0.1 + (1 : Int)) a1_c0) (fun x4 => Go.L.chk (Go.L.I64 ((a0.2.length : Int) + (1 : Int))) (Option.bind (words_build_1C ((a0.2.length : Int) + (1 : Int)) x4) (fun x7 => (words_Index_numbers_l1C a0) (x7, (0 : Int))))))
theorem words_Index_numbers_ap : ∀ a0 a1_c0, Go.L.Ap (words_Index_numbersC a0 a1_c0) (words_Index_numbers a0 a1_c0) := by
 intro a0 a1_c0
 unfold words_Index_numbersC words_Index_numbers
 with_reducible repeat (first | exact apR _ | refine apB ?_ fun _ => ?_ | refine apC ?_ | refine apI ?_ ?_ | refine apM ?_ | refine apO ?_ fun _ => ?_ | exact words_Index_numbers_l1_ap _ _ | exact words_build_1_ap _ _)
noncomputable def words_build_k1C : type_of% @words_build_k1 := fun a0 l38 => 
 Option.bind (words_Index_numbersC (a0, l38) (0 : Int)) (fun x78 => if (131072 : Int) < x78 then Option.bind (words_faultC (14 : Int) (-1 : Int)) (fun x82 => some (((0 : Int), []), (x82.1, x82.2))) else some ((a0, l38), ((0 : Int), (0 : Int))))
theorem words_build_k1_ap : ∀ a0 l38, Go.L.Ap (words_build_k1C a0 l38) (words_build_k1 a0 l38) := by
 intro a0 l38
 unfold words_build_k1C words_build_k1
 with_reducible repeat (first | exact apR _ | refine apB ?_ fun _ => ?_ | refine apC ?_ | refine apI ?_ ?_ | refine apM ?_ | refine apO ?_ fun _ => ?_ | exact words_Index_numbers_ap _ _ | exact words_fault_ap _ _)
noncomputable def words_build_bl2C : type_of% @words_build_bl2 := fun a0 a1 x42 => fun ⟨l58, s16_59⟩ =>
 if s16_59 < (x42.length : Int) then Go.L.chk (0 ≤ s16_59 ∧ s16_59 < (x42.length : Int)) (Go.L.chk (Go.E.Cap 40 (l58.length + ([(x42.getD s16_59.toNat default, (Go.L.mget [] (x42.getD s16_59.toNat default) a1))]).length)) (Go.L.chk (Go.L.I64 (s16_59 + (1 : Int))) (some (Sum.inl ((l58 ++ [(x42.getD s16_59.toNat default, (Go.L.mget [] (x42.getD s16_59.toNat default) a1))]), (s16_59 + (1 : Int))))))) else Option.map Sum.inr ((words_build_k1C a0) l58)
theorem words_build_bl2_ap : ∀ a0 a1 x42, ∀ s, Go.L.Ap (words_build_bl2C a0 a1 x42 s) (words_build_bl2 a0 a1 x42 s) := by
 intro a0 a1 x42 s
 obtain ⟨l58, s16_59⟩ := s
 unfold words_build_bl2C words_build_bl2
 with_reducible repeat (first | exact apR _ | refine apB ?_ fun _ => ?_ | refine apC ?_ | refine apI ?_ ?_ | refine apM ?_ | refine apO ?_ fun _ => ?_ | exact words_build_k1_ap _ _)
noncomputable def words_build_l2C : type_of% @words_build_l2 := fun a0 a1 x42 s => Go.L.itr (words_build_bl2C a0 a1 x42) 200 s
theorem words_build_l2_ap : ∀ a0 a1 x42 s, Go.L.Ap (words_build_l2C a0 a1 x42 s) (words_build_l2 a0 a1 x42 s) := fun a0 a1 x42 s => Go.L.Ap.run (fun s => words_build_bl2_ap a0 a1 x42 s) 200 s
noncomputable def words_buildC : type_of% @words_build := fun a0 a1 => 
 Option.bind (sortedKeysC a1) (fun x42 => (words_build_l2C a0 a1 x42) (([] : List ((List UInt8) × (List (Int × Int)))), (0 : Int)))
theorem words_build_ap : ∀ a0 a1, Go.L.Ap (words_buildC a0 a1) (words_build a0 a1) := by
 intro a0 a1
 unfold words_buildC words_build
 with_reducible repeat (first | exact apR _ | refine apB ?_ fun _ => ?_ | refine apC ?_ | refine apI ?_ ?_ | refine apM ?_ | refine apO ?_ fun _ => ?_ | exact sortedKeys_ap _ | exact words_build_l2_ap _ _ _ _)
noncomputable def words_Build_k1C : type_of% @words_Build_k1 := fun a0 l130 => 
 Option.bind (words_buildC (a0.length : Int) l130) (fun x311 => some ((x311.1.1, x311.1.2), (x311.2.1, x311.2.2)))
theorem words_Build_k1_ap : ∀ a0 l130, Go.L.Ap (words_Build_k1C a0 l130) (words_Build_k1 a0 l130) := by
 intro a0 l130
 unfold words_Build_k1C words_Build_k1
 with_reducible repeat (first | exact apR _ | refine apB ?_ fun _ => ?_ | refine apC ?_ | refine apI ?_ ?_ | refine apM ?_ | refine apO ?_ fun _ => ?_ | exact words_build_ap _ _)
noncomputable def words_Build_bl2C : type_of% @words_Build_bl2 := fun a0 => fun ⟨l191, s19_192⟩ =>
 if s19_192 < (a0.length : Int) then Go.L.chk (0 ≤ s19_192 ∧ s19_192 < (a0.length : Int)) (Option.bind (words_SplitC (a0.getD s19_192.toNat default)) (fun x254 => if x254.2.1 = (0 : Int) ∧ x254.2.2 = (0 : Int) then (words_Build_l4C s19_192 x254) (l191, (0 : Int)) else Option.bind (words_faultC x254.2.1 s19_192) (fun x260 => Option.map Sum.inr (some (((0 : Int), []), (x260.1, x260.2)))))) else Option.map Sum.inr ((words_Build_k1C a0) l191)
theorem words_Build_bl2_ap : ∀ a0, ∀ s, Go.L.Ap (words_Build_bl2C a0 s) (words_Build_bl2 a0 s) := by
 intro a0 s
 obtain ⟨l191, s19_192⟩ := s
 unfold words_Build_bl2C words_Build_bl2
 with_reducible repeat (first | exact apR _ | refine apB ?_ fun _ => ?_ | refine apC ?_ | refine apI ?_ ?_ | refine apM ?_ | refine apO ?_ fun _ => ?_ | exact words_Build_k1_ap _ _ | exact words_Build_l4_ap _ _ _ | exact words_Split_ap _ | exact words_fault_ap _ _)
noncomputable def words_Build_l2C : type_of% @words_Build_l2 := fun a0 s => Go.L.itr (words_Build_bl2C a0) 200 s
theorem words_Build_l2_ap : ∀ a0 s, Go.L.Ap (words_Build_l2C a0 s) (words_Build_l2 a0 s) := fun a0 s => Go.L.Ap.run (fun s => words_Build_bl2_ap a0 s) 200 s
noncomputable def words_BuildC : type_of% @words_Build := fun a0 => 
 if (64 : Int) < (a0.length : Int) then Option.bind (words_faultC (2 : Int) (-1 : Int)) (fun x5 => some (((0 : Int), []), (x5.1, x5.2))) else (words_Build_l2C a0) (([] : List ((List UInt8) × (List (Int × Int)))), (0 : Int))
theorem words_Build_ap : ∀ a0, Go.L.Ap (words_BuildC a0) (words_Build a0) := by
 intro a0
 unfold words_BuildC words_Build
 with_reducible repeat (first | exact apR _ | refine apB ?_ fun _ => ?_ | refine apC ?_ | refine apI ?_ ?_ | refine apM ?_ | refine apO ?_ fun _ => ?_ | exact words_Build_l2_ap _ _ | exact words_fault_ap _ _)
noncomputable def words_isWordC : type_of% @words_isWord := fun a0 => 
 Go.L.chk (a0.length ≤ 9223372036854775807) (Option.bind (collectWC a0) (fun x4 => if (x4.length : Int) = (1 : Int) then Go.L.chk (0 ≤ (0 : Int) ∧ (0 : Int) < (x4.length : Int)) (some (decide ((x4.getD ((0 : Int).toNat) default).1 = a0))) else some (false)))
theorem words_isWord_ap : ∀ a0, Go.L.Ap (words_isWordC a0) (words_isWord a0) := by
 intro a0
 unfold words_isWordC words_isWord
 with_reducible repeat (first | exact apR _ | refine apB ?_ fun _ => ?_ | refine apC ?_ | refine apI ?_ ?_ | refine apM ?_ | refine apO ?_ fun _ => ?_ | exact collectW_ap _)
noncomputable def words_CheckC : type_of% @words_Check := fun a0 => 
 if (64 : Int) < (a0.length : Int) then Option.bind (words_faultC (3 : Int) (-1 : Int)) (fun x4 => some ((x4.1, x4.2))) else Option.bind (words_isWordC a0) (fun x8 => if !x8 then Option.bind (words_faultC (6 : Int) (-1 : Int)) (fun x12 => some ((x12.1, x12.2))) else some (((0 : Int), (0 : Int))))
theorem words_Check_ap : ∀ a0, Go.L.Ap (words_CheckC a0) (words_Check a0) := by
 intro a0
 unfold words_CheckC words_Check
 with_reducible repeat (first | exact apR _ | refine apB ?_ fun _ => ?_ | refine apC ?_ | refine apI ?_ ?_ | refine apM ?_ | refine apO ?_ fun _ => ?_ | exact words_fault_ap _ _ | exact words_isWord_ap _)
noncomputable def internal_bytealg_CompareStringC : type_of% @internal_bytealg_CompareString := fun a0 a1 => 
 some ((Lib.compareBytes a0 a1))
theorem internal_bytealg_CompareString_ap : ∀ a0 a1, Go.L.Ap (internal_bytealg_CompareStringC a0 a1) (internal_bytealg_CompareString a0 a1) := by
 intro a0 a1
 unfold internal_bytealg_CompareStringC internal_bytealg_CompareString
 with_reducible repeat (first | exact apR _ | refine apB ?_ fun _ => ?_ | refine apC ?_ | refine apI ?_ ?_ | refine apM ?_ | refine apO ?_ fun _ => ?_)
noncomputable def strings_CompareC : type_of% @strings_Compare := fun a0 a1 => 
 Option.bind (internal_bytealg_CompareStringC a0 a1) (fun x1 => some (x1))
theorem strings_Compare_ap : ∀ a0 a1, Go.L.Ap (strings_CompareC a0 a1) (strings_Compare a0 a1) := by
 intro a0 a1
 unfold strings_CompareC strings_Compare
 with_reducible repeat (first | exact apR _ | refine apB ?_ fun _ => ?_ | refine apC ?_ | refine apI ?_ ?_ | refine apM ?_ | refine apO ?_ fun _ => ?_ | exact internal_bytealg_CompareString_ap _ _)
noncomputable def words_Index_hits_1C : type_of% @words_Index_hits_1 := fun a0 a1 => 
 Option.bind (strings_CompareC a0.1 a1) (fun x2 => some (x2))
theorem words_Index_hits_1_ap : ∀ a0 a1, Go.L.Ap (words_Index_hits_1C a0 a1) (words_Index_hits_1 a0 a1) := by
 intro a0 a1
 unfold words_Index_hits_1C words_Index_hits_1
 with_reducible repeat (first | exact apR _ | refine apB ?_ fun _ => ?_ | refine apC ?_ | refine apI ?_ ?_ | refine apM ?_ | refine apO ?_ fun _ => ?_ | exact strings_Compare_ap _ _)
noncomputable def slices_BinarySearchFunc_words_entry_words_entry_string_k1C : type_of% @slices_BinarySearchFunc_words_entry_words_entry_string_k1 := fun a0 a1 s9_17 => 
 if s9_17 < (a0.length : Int) then Go.L.chk (0 ≤ s9_17 ∧ s9_17 < (a0.length : Int)) (Option.bind (words_Index_hits_1C ((a0.getD s9_17.toNat default).1, (a0.getD s9_17.toNat default).2) a1) (fun x54 => some (s9_17, decide (x54 = (0 : Int))))) else some (s9_17, false)
theorem slices_BinarySearchFunc_words_entry_words_entry_string_k1_ap : ∀ a0 a1 s9_17, Go.L.Ap (slices_BinarySearchFunc_words_entry_words_entry_string_k1C a0 a1 s9_17) (slices_BinarySearchFunc_words_entry_words_entry_string_k1 a0 a1 s9_17) := by
 intro a0 a1 s9_17
 unfold slices_BinarySearchFunc_words_entry_words_entry_string_k1C slices_BinarySearchFunc_words_entry_words_entry_string_k1
 with_reducible repeat (first | exact apR _ | refine apB ?_ fun _ => ?_ | refine apC ?_ | refine apI ?_ ?_ | refine apM ?_ | refine apO ?_ fun _ => ?_ | exact words_Index_hits_1_ap _ _)
noncomputable def slices_BinarySearchFunc_words_entry_words_entry_string_bl2C : type_of% @slices_BinarySearchFunc_words_entry_words_entry_string_bl2 := fun a0 a1 => fun ⟨s9_33, s10_34⟩ =>
 if s9_33 < s10_34 then Go.L.chk (Go.L.I64 (s9_33 + s10_34)) (Go.L.chk (0 ≤ (IntKind.i64.wrap ((IntKind.u64.wrap (s9_33 + s10_34)) / 2)) ∧ (IntKind.i64.wrap ((IntKind.u64.wrap (s9_33 + s10_34)) / 2)) < (a0.length : Int)) (Option.bind (words_Index_hits_1C ((a0.getD ((IntKind.i64.wrap ((IntKind.u64.wrap (s9_33 + s10_34)) / 2)).toNat) default).1, (a0.getD ((IntKind.i64.wrap ((IntKind.u64.wrap (s9_33 + s10_34)) / 2)).toNat) default).2) a1) (fun x42 => if x42 < (0 : Int) then Go.L.chk (Go.L.I64 ((IntKind.i64.wrap ((IntKind.u64.wrap (s9_33 + s10_34)) / 2)) + (1 : Int))) (some (Sum.inl (((IntKind.i64.wrap ((IntKind.u64.wrap (s9_33 + s10_34)) / 2)) + (1 : Int)), s10_34))) else some (Sum.inl (s9_33, (IntKind.i64.wrap ((IntKind.u64.wrap (s9_33 + s10_34)) / 2))))))) else Option.map Sum.inr ((slices_BinarySearchFunc_words_entry_words_entry_string_k1C a0 a1) s9_33)
theorem slices_BinarySearchFunc_words_entry_words_entry_string_bl2_ap : ∀ a0 a1, ∀ s, Go.L.Ap (slices_BinarySearchFunc_words_entry_words_entry_string_bl2C a0 a1 s) (slices_BinarySearchFunc_words_entry_words_entry_string_bl2 a0 a1 s) := by
 intro a0 a1 s
 obtain ⟨s9_33, s10_34⟩ := s
 unfold slices_BinarySearchFunc_words_entry_words_entry_string_bl2C slices_BinarySearchFunc_words_entry_words_entry_string_bl2
 with_reducible repeat (first | exact apR _ | refine apB ?_ fun _ => ?_ | refine apC ?_ | refine apI ?_ ?_ | refine apM ?_ | refine apO ?_ fun _ => ?_ | exact slices_BinarySearchFunc_words_entry_words_entry_string_k1_ap _ _ _ | exact words_Index_hits_1_ap _ _)
noncomputable def slices_BinarySearchFunc_words_entry_words_entry_string_l2C : type_of% @slices_BinarySearchFunc_words_entry_words_entry_string_l2 := fun a0 a1 s => Go.L.itr (slices_BinarySearchFunc_words_entry_words_entry_string_bl2C a0 a1) 200 s
theorem slices_BinarySearchFunc_words_entry_words_entry_string_l2_ap : ∀ a0 a1 s, Go.L.Ap (slices_BinarySearchFunc_words_entry_words_entry_string_l2C a0 a1 s) (slices_BinarySearchFunc_words_entry_words_entry_string_l2 a0 a1 s) := fun a0 a1 s => Go.L.Ap.run (fun s => slices_BinarySearchFunc_words_entry_words_entry_string_bl2_ap a0 a1 s) 200 s
noncomputable def slices_BinarySearchFunc_words_entry_words_entry_stringC : type_of% @slices_BinarySearchFunc_words_entry_words_entry_string := fun a0 a1 => 
 (slices_BinarySearchFunc_words_entry_words_entry_string_l2C a0 a1) ((0 : Int), (a0.length : Int))
theorem slices_BinarySearchFunc_words_entry_words_entry_string_ap : ∀ a0 a1, Go.L.Ap (slices_BinarySearchFunc_words_entry_words_entry_stringC a0 a1) (slices_BinarySearchFunc_words_entry_words_entry_string a0 a1) := by
 intro a0 a1
 unfold slices_BinarySearchFunc_words_entry_words_entry_stringC slices_BinarySearchFunc_words_entry_words_entry_string
 with_reducible repeat (first | exact apR _ | refine apB ?_ fun _ => ?_ | refine apC ?_ | refine apI ?_ ?_ | refine apM ?_ | refine apO ?_ fun _ => ?_ | exact slices_BinarySearchFunc_words_entry_words_entry_string_l2_ap _ _ _)
noncomputable def words_Index_hitsC : type_of% @words_Index_hits := fun a0 a1 => 
 Option.bind (slices_BinarySearchFunc_words_entry_words_entry_stringC a0.2 a1) (fun x2 => if !x2.2 then some ([]) else Go.L.chk (0 ≤ x2.1 ∧ x2.1 < (a0.2.length : Int)) (some ((a0.2.getD x2.1.toNat default).2)))
theorem words_Index_hits_ap : ∀ a0 a1, Go.L.Ap (words_Index_hitsC a0 a1) (words_Index_hits a0 a1) := by
 intro a0 a1
 unfold words_Index_hitsC words_Index_hits
 with_reducible repeat (first | exact apR _ | refine apB ?_ fun _ => ?_ | refine apC ?_ | refine apI ?_ ?_ | refine apM ?_ | refine apO ?_ fun _ => ?_ | exact slices_BinarySearchFunc_words_entry_words_entry_string_ap _ _)
noncomputable def slices_Index_api_Hit_api_Hit_k1C : type_of% @slices_Index_api_Hit_api_Hit_k1 := 
 some ((-1 : Int))
theorem slices_Index_api_Hit_api_Hit_k1_ap : Go.L.Ap (slices_Index_api_Hit_api_Hit_k1C) (slices_Index_api_Hit_api_Hit_k1) := by
 unfold slices_Index_api_Hit_api_Hit_k1C slices_Index_api_Hit_api_Hit_k1
 with_reducible repeat (first | exact apR _ | refine apB ?_ fun _ => ?_ | refine apC ?_ | refine apI ?_ ?_ | refine apM ?_ | refine apO ?_ fun _ => ?_)
noncomputable def slices_Index_api_Hit_api_Hit_bl2C : type_of% @slices_Index_api_Hit_api_Hit_bl2 := fun a0 a1 => fun s8_48 =>
 if s8_48 < (a0.length : Int) then Go.L.chk (0 ≤ s8_48 ∧ s8_48 < (a0.length : Int)) (if a1.1 = (a0.getD s8_48.toNat default).1 ∧ a1.2 = (a0.getD s8_48.toNat default).2 then Option.map Sum.inr (some (s8_48)) else Go.L.chk (Go.L.I64 (s8_48 + (1 : Int))) (some (Sum.inl (s8_48 + (1 : Int))))) else Option.map Sum.inr (slices_Index_api_Hit_api_Hit_k1C)
theorem slices_Index_api_Hit_api_Hit_bl2_ap : ∀ a0 a1, ∀ s, Go.L.Ap (slices_Index_api_Hit_api_Hit_bl2C a0 a1 s) (slices_Index_api_Hit_api_Hit_bl2 a0 a1 s) := by
 intro a0 a1 s
 unfold slices_Index_api_Hit_api_Hit_bl2C slices_Index_api_Hit_api_Hit_bl2
 with_reducible repeat (first | exact apR _ | refine apB ?_ fun _ => ?_ | refine apC ?_ | refine apI ?_ ?_ | refine apM ?_ | refine apO ?_ fun _ => ?_ | exact slices_Index_api_Hit_api_Hit_k1_ap)
noncomputable def slices_Index_api_Hit_api_Hit_l2C : type_of% @slices_Index_api_Hit_api_Hit_l2 := fun a0 a1 s => Go.L.itr (slices_Index_api_Hit_api_Hit_bl2C a0 a1) 200 s
theorem slices_Index_api_Hit_api_Hit_l2_ap : ∀ a0 a1 s, Go.L.Ap (slices_Index_api_Hit_api_Hit_l2C a0 a1 s) (slices_Index_api_Hit_api_Hit_l2 a0 a1 s) := fun a0 a1 s => Go.L.Ap.run (fun s => slices_Index_api_Hit_api_Hit_bl2_ap a0 a1 s) 200 s
noncomputable def slices_Index_api_Hit_api_HitC : type_of% @slices_Index_api_Hit_api_Hit := fun a0 a1 => 
 (slices_Index_api_Hit_api_Hit_l2C a0 a1) (0 : Int)
theorem slices_Index_api_Hit_api_Hit_ap : ∀ a0 a1, Go.L.Ap (slices_Index_api_Hit_api_HitC a0 a1) (slices_Index_api_Hit_api_Hit a0 a1) := by
 intro a0 a1
 unfold slices_Index_api_Hit_api_HitC slices_Index_api_Hit_api_Hit
 with_reducible repeat (first | exact apR _ | refine apB ?_ fun _ => ?_ | refine apC ?_ | refine apI ?_ ?_ | refine apM ?_ | refine apO ?_ fun _ => ?_ | exact slices_Index_api_Hit_api_Hit_l2_ap _ _ _)
noncomputable def slices_Contains_api_Hit_api_HitC : type_of% @slices_Contains_api_Hit_api_Hit := fun a0 a1 => 
 Option.bind (slices_Index_api_Hit_api_HitC a0 (a1.1, a1.2)) (fun x2 => some (decide ((0 : Int) ≤ x2)))
theorem slices_Contains_api_Hit_api_Hit_ap : ∀ a0 a1, Go.L.Ap (slices_Contains_api_Hit_api_HitC a0 a1) (slices_Contains_api_Hit_api_Hit a0 a1) := by
 intro a0 a1
 unfold slices_Contains_api_Hit_api_HitC slices_Contains_api_Hit_api_Hit
 with_reducible repeat (first | exact apR _ | refine apB ?_ fun _ => ?_ | refine apC ?_ | refine apI ?_ ?_ | refine apM ?_ | refine apO ?_ fun _ => ?_ | exact slices_Index_api_Hit_api_Hit_ap _ _)
noncomputable def words_Index_Phrase_k5C : type_of% @words_Index_Phrase_k5 := fun s45_293 l350 => 
 Go.L.chk (Go.L.I64 (s45_293 + (1 : Int))) (some (Sum.inl (l350, (s45_293 + (1 : Int)))))
theorem words_Index_Phrase_k5_ap : ∀ s45_293 l350, Go.L.Ap (words_Index_Phrase_k5C s45_293 l350) (words_Index_Phrase_k5 s45_293 l350) := by
 intro s45_293 l350
 unfold words_Index_Phrase_k5C words_Index_Phrase_k5
 with_reducible repeat (first | exact apR _ | refine apB ?_ fun _ => ?_ | refine apC ?_ | refine apI ?_ ?_ | refine apM ?_ | refine apO ?_ fun _ => ?_)
noncomputable def words_Index_Phrase_k6C : type_of% @words_Index_Phrase_k6 := fun l292 s45_293 x228 => 
 Go.L.chk (Go.E.Cap 16 (l292.length + ([((x228.getD s45_293.toNat default).1, (x228.getD s45_293.toNat default).2)]).length)) ((words_Index_Phrase_k5C s45_293) (l292 ++ [((x228.getD s45_293.toNat default).1, (x228.getD s45_293.toNat default).2)]))
theorem words_Index_Phrase_k6_ap : ∀ l292 s45_293 x228, Go.L.Ap (words_Index_Phrase_k6C l292 s45_293 x228) (words_Index_Phrase_k6 l292 s45_293 x228) := by
 intro l292 s45_293 x228
 unfold words_Index_Phrase_k6C words_Index_Phrase_k6
 with_reducible repeat (first | exact apR _ | refine apB ?_ fun _ => ?_ | refine apC ?_ | refine apI ?_ ?_ | refine apM ?_ | refine apO ?_ fun _ => ?_ | exact words_Index_Phrase_k5_ap _ _)
noncomputable def words_Index_Phrase_bl7C : type_of% @words_Index_Phrase_bl7 := fun a0 a1 l292 s45_293 x228 => fun s51_424 =>
 if s51_424 < (a1.length : Int) then Go.L.chk (0 ≤ s51_424 ∧ s51_424 < (a1.length : Int)) (Go.L.chk (Go.L.I64 ((x228.getD s45_293.toNat default).2 + s51_424)) (Option.bind (words_Index_hitsC (a0.1, a0.2) (a1.getD s51_424.toNat default)) (fun x434 => Option.bind (slices_Contains_api_Hit_api_HitC x434 ((x228.getD s45_293.toNat default).1, ((x228.getD s45_293.toNat default).2 + s51_424))) (fun x438 => if !x438 then Option.map Sum.inr ((words_Index_Phrase_k5C s45_293) l292) else Go.L.chk (Go.L.I64 (s51_424 + (1 : Int))) (some (Sum.inl (s51_424 + (1 : Int)))))))) else Option.map Sum.inr ((words_Index_Phrase_k6C l292 s45_293 x228))
theorem words_Index_Phrase_bl7_ap : ∀ a0 a1 l292 s45_293 x228, ∀ s, Go.L.Ap (words_Index_Phrase_bl7C a0 a1 l292 s45_293 x228 s) (words_Index_Phrase_bl7 a0 a1 l292 s45_293 x228 s) := by
 intro a0 a1 l292 s45_293 x228 s
 unfold words_Index_Phrase_bl7C words_Index_Phrase_bl7
 with_reducible repeat (first | exact apR _ | refine apB ?_ fun _ => ?_ | refine apC ?_ | refine apI ?_ ?_ | refine apM ?_ | refine apO ?_ fun _ => ?_ | exact slices_Contains_api_Hit_api_Hit_ap _ _ | exact words_Index_Phrase_k5_ap _ _ | exact words_Index_Phrase_k6_ap _ _ _ | exact words_Index_hits_ap _ _)
noncomputable def words_Index_Phrase_l7C : type_of% @words_Index_Phrase_l7 := fun a0 a1 l292 s45_293 x228 s => Go.L.itr (words_Index_Phrase_bl7C a0 a1 l292 s45_293 x228) 200 s
theorem words_Index_Phrase_l7_ap : ∀ a0 a1 l292 s45_293 x228 s, Go.L.Ap (words_Index_Phrase_l7C a0 a1 l292 s45_293 x228 s) (words_Index_Phrase_l7 a0 a1 l292 s45_293 x228 s) := fun a0 a1 l292 s45_293 x228 s => Go.L.Ap.run (fun s => words_Index_Phrase_bl7_ap a0 a1 l292 s45_293 x228 s) 200 s
noncomputable def words_Index_Phrase_k3C : type_of% @words_Index_Phrase_k3 := fun l221 => 
 some (l221, ((0 : Int), (0 : Int)))
theorem words_Index_Phrase_k3_ap : ∀ l221, Go.L.Ap (words_Index_Phrase_k3C l221) (words_Index_Phrase_k3 l221) := by
 intro l221
 unfold words_Index_Phrase_k3C words_Index_Phrase_k3
 with_reducible repeat (first | exact apR _ | refine apB ?_ fun _ => ?_ | refine apC ?_ | refine apI ?_ ?_ | refine apM ?_ | refine apO ?_ fun _ => ?_)
noncomputable def words_Index_Phrase_bl4C : type_of% @words_Index_Phrase_bl4 := fun a0 a1 x228 => fun ⟨l292, s45_293⟩ =>
 if s45_293 < (x228.length : Int) then Go.L.chk (0 ≤ s45_293 ∧ s45_293 < (x228.length : Int)) ((words_Index_Phrase_l7C a0 a1 l292 s45_293 x228) (0 : Int)) else Option.map Sum.inr (words_Index_Phrase_k3C l292)
theorem words_Index_Phrase_bl4_ap : ∀ a0 a1 x228, ∀ s, Go.L.Ap (words_Index_Phrase_bl4C a0 a1 x228 s) (words_Index_Phrase_bl4 a0 a1 x228 s) := by
 intro a0 a1 x228 s
 obtain ⟨l292, s45_293⟩ := s
 unfold words_Index_Phrase_bl4C words_Index_Phrase_bl4
 with_reducible repeat (first | exact apR _ | refine apB ?_ fun _ => ?_ | refine apC ?_ | refine apI ?_ ?_ | refine apM ?_ | refine apO ?_ fun _ => ?_ | exact words_Index_Phrase_k3_ap _ | exact words_Index_Phrase_l7_ap _ _ _ _ _ _)
noncomputable def words_Index_Phrase_l4C : type_of% @words_Index_Phrase_l4 := fun a0 a1 x228 s => Go.L.itr (words_Index_Phrase_bl4C a0 a1 x228) 200 s
theorem words_Index_Phrase_l4_ap : ∀ a0 a1 x228 s, Go.L.Ap (words_Index_Phrase_l4C a0 a1 x228 s) (words_Index_Phrase_l4 a0 a1 x228 s) := fun a0 a1 x228 s => Go.L.Ap.run (fun s => words_Index_Phrase_bl4_ap a0 a1 x228 s) 200 s
noncomputable def words_Index_Phrase_k1C : type_of% @words_Index_Phrase_k1 := fun a0 a1 => 
 Go.L.chk (0 ≤ (0 : Int) ∧ (0 : Int) < (a1.length : Int)) (Option.bind (words_Index_hitsC (a0.1, a0.2) (a1.getD ((0 : Int).toNat) default)) (fun x228 => (words_Index_Phrase_l4C a0 a1 x228) (([] : List (Int × Int)), (0 : Int))))
theorem words_Index_Phrase_k1_ap : ∀ a0 a1, Go.L.Ap (words_Index_Phrase_k1C a0 a1) (words_Index_Phrase_k1 a0 a1) := by
 intro a0 a1
 unfold words_Index_Phrase_k1C words_Index_Phrase_k1
 with_reducible repeat (first | exact apR _ | refine apB ?_ fun _ => ?_ | refine apC ?_ | refine apI ?_ ?_ | refine apM ?_ | refine apO ?_ fun _ => ?_ | exact words_Index_Phrase_l4_ap _ _ _ _ | exact words_Index_hits_ap _ _)
noncomputable def words_Index_Phrase_bl2C : type_of% @words_Index_Phrase_bl2 := fun a0 a1 => fun s24_70 =>
 if s24_70 < (a1.length : Int) then Go.L.chk (0 ≤ s24_70 ∧ s24_70 < (a1.length : Int)) (Option.bind (words_CheckC (a1.getD s24_70.toNat default)) (fun x77 => if x77.1 = (0 : Int) ∧ x77.2 = (0 : Int) then Go.L.chk (Go.L.I64 (s24_70 + (1 : Int))) (some (Sum.inl (s24_70 + (1 : Int)))) else Option.bind (words_faultC x77.1 s24_70) (fun x83 => Option.map Sum.inr (some ([], (x83.1, x83.2)))))) else Option.map Sum.inr ((words_Index_Phrase_k1C a0 a1))
theorem words_Index_Phrase_bl2_ap : ∀ a0 a1, ∀ s, Go.L.Ap (words_Index_Phrase_bl2C a0 a1 s) (words_Index_Phrase_bl2 a0 a1 s) := by
 intro a0 a1 s
 unfold words_Index_Phrase_bl2C words_Index_Phrase_bl2
 with_reducible repeat (first | exact apR _ | refine apB ?_ fun _ => ?_ | refine apC ?_ | refine apI ?_ ?_ | refine apM ?_ | refine apO ?_ fun _ => ?_ | exact words_Check_ap _ | exact words_Index_Phrase_k1_ap _ _ | exact words_fault_ap _ _)
noncomputable def words_Index_Phrase_l2C : type_of% @words_Index_Phrase_l2 := fun a0 a1 s => Go.L.itr (words_Index_Phrase_bl2C a0 a1) 200 s
theorem words_Index_Phrase_l2_ap : ∀ a0 a1 s, Go.L.Ap (words_Index_Phrase_l2C a0 a1 s) (words_Index_Phrase_l2 a0 a1 s) := fun a0 a1 s => Go.L.Ap.run (fun s => words_Index_Phrase_bl2_ap a0 a1 s) 200 s
noncomputable def words_Index_PhraseC : type_of% @words_Index_Phrase := fun a0 a1 => 
 if (a1.length : Int) = (0 : Int) then Option.bind (words_faultC (10 : Int) (-1 : Int)) (fun x5 => some ([], (x5.1, x5.2))) else (if (16 : Int) < (a1.length : Int) then Option.bind (words_faultC (2 : Int) (-1 : Int)) (fun x11 => some ([], (x11.1, x11.2))) else (words_Index_Phrase_l2C a0 a1) (0 : Int))
theorem words_Index_Phrase_ap : ∀ a0 a1, Go.L.Ap (words_Index_PhraseC a0 a1) (words_Index_Phrase a0 a1) := by
 intro a0 a1
 unfold words_Index_PhraseC words_Index_Phrase
 with_reducible repeat (first | exact apR _ | refine apB ?_ fun _ => ?_ | refine apC ?_ | refine apI ?_ ?_ | refine apM ?_ | refine apO ?_ fun _ => ?_ | exact words_Index_Phrase_l2_ap _ _ _ | exact words_fault_ap _ _)
noncomputable def words_Index_Near_1C : type_of% @words_Index_Near_1 := fun a0 a1 a2 => 
 Go.L.chk (Go.L.I64 (a1.2 - a0.2)) (Go.L.chk (Go.L.I64 (a0.2 - a1.2)) (if (a1.1 = a0.1) ∧ ((0 : Int) < (max (a1.2 - a0.2) (a0.2 - a1.2))) then some (decide ((max (a1.2 - a0.2) (a0.2 - a1.2)) ≤ a2), (a1.1, a1.2), a2) else some (false, (a1.1, a1.2), a2)))
theorem words_Index_Near_1_ap : ∀ a0 a1 a2, Go.L.Ap (words_Index_Near_1C a0 a1 a2) (words_Index_Near_1 a0 a1 a2) := by
 intro a0 a1 a2
 unfold words_Index_Near_1C words_Index_Near_1
 with_reducible repeat (first | exact apR _ | refine apB ?_ fun _ => ?_ | refine apC ?_ | refine apI ?_ ?_ | refine apM ?_ | refine apO ?_ fun _ => ?_)
noncomputable def slices_IndexFunc_api_Hit_api_Hit_k1C : type_of% @slices_IndexFunc_api_Hit_api_Hit_k1 := fun c30 c31 c32 => 
 some ((-1 : Int), (c30, c31), c32)
theorem slices_IndexFunc_api_Hit_api_Hit_k1_ap : ∀ c30 c31 c32, Go.L.Ap (slices_IndexFunc_api_Hit_api_Hit_k1C c30 c31 c32) (slices_IndexFunc_api_Hit_api_Hit_k1 c30 c31 c32) := by
 intro c30 c31 c32
 unfold slices_IndexFunc_api_Hit_api_Hit_k1C slices_IndexFunc_api_Hit_api_Hit_k1
 with_reducible repeat (first | exact apR _ | refine apB ?_ fun _ => ?_ | refine apC ?_ | refine apI ?_ ?_ | refine apM ?_ | refine apO ?_ fun _ => ?_)
noncomputable def slices_IndexFunc_api_Hit_api_Hit_bl2C : type_of% @slices_IndexFunc_api_Hit_api_Hit_bl2 := fun a0 => fun ⟨c47, c48, c49, s8_50⟩ =>
 if s8_50 < (a0.length : Int) then Go.L.chk (0 ≤ s8_50 ∧ s8_50 < (a0.length : Int)) (Option.bind (words_Index_Near_1C ((a0.getD s8_50.toNat default).1, (a0.getD s8_50.toNat default).2) (c47, c48) c49) (fun x57 => if x57.1 then Option.map Sum.inr (some (s8_50, (x57.2.1.1, x57.2.1.2), x57.2.2)) else Go.L.chk (Go.L.I64 (s8_50 + (1 : Int))) (some (Sum.inl (x57.2.1.1, x57.2.1.2, x57.2.2, (s8_50 + (1 : Int))))))) else Option.map Sum.inr (slices_IndexFunc_api_Hit_api_Hit_k1C c47 c48 c49)
theorem slices_IndexFunc_api_Hit_api_Hit_bl2_ap : ∀ a0, ∀ s, Go.L.Ap (slices_IndexFunc_api_Hit_api_Hit_bl2C a0 s) (slices_IndexFunc_api_Hit_api_Hit_bl2 a0 s) := by
 intro a0 s
 obtain ⟨c47, c48, c49, s8_50⟩ := s
 unfold slices_IndexFunc_api_Hit_api_Hit_bl2C slices_IndexFunc_api_Hit_api_Hit_bl2
 with_reducible repeat (first | exact apR _ | refine apB ?_ fun _ => ?_ | refine apC ?_ | refine apI ?_ ?_ | refine apM ?_ | refine apO ?_ fun _ => ?_ | exact slices_IndexFunc_api_Hit_api_Hit_k1_ap _ _ _ | exact words_Index_Near_1_ap _ _ _)
noncomputable def slices_IndexFunc_api_Hit_api_Hit_l2C : type_of% @slices_IndexFunc_api_Hit_api_Hit_l2 := fun a0 s => Go.L.itr (slices_IndexFunc_api_Hit_api_Hit_bl2C a0) 200 s
theorem slices_IndexFunc_api_Hit_api_Hit_l2_ap : ∀ a0 s, Go.L.Ap (slices_IndexFunc_api_Hit_api_Hit_l2C a0 s) (slices_IndexFunc_api_Hit_api_Hit_l2 a0 s) := fun a0 s => Go.L.Ap.run (fun s => slices_IndexFunc_api_Hit_api_Hit_bl2_ap a0 s) 200 s
noncomputable def slices_IndexFunc_api_Hit_api_HitC : type_of% @slices_IndexFunc_api_Hit_api_Hit := fun a0 a1_c0 a1_c1 => 
 (slices_IndexFunc_api_Hit_api_Hit_l2C a0) (a1_c0.1, a1_c0.2, a1_c1, (0 : Int))
theorem slices_IndexFunc_api_Hit_api_Hit_ap : ∀ a0 a1_c0 a1_c1, Go.L.Ap (slices_IndexFunc_api_Hit_api_HitC a0 a1_c0 a1_c1) (slices_IndexFunc_api_Hit_api_Hit a0 a1_c0 a1_c1) := by
 intro a0 a1_c0 a1_c1
 unfold slices_IndexFunc_api_Hit_api_HitC slices_IndexFunc_api_Hit_api_Hit
 with_reducible repeat (first | exact apR _ | refine apB ?_ fun _ => ?_ | refine apC ?_ | refine apI ?_ ?_ | refine apM ?_ | refine apO ?_ fun _ => ?_ | exact slices_IndexFunc_api_Hit_api_Hit_l2_ap _ _)
noncomputable def slices_ContainsFunc_api_Hit_api_HitC : type_of% @slices_ContainsFunc_api_Hit_api_Hit := fun a0 a1_c0 a1_c1 => 
 Option.bind (slices_IndexFunc_api_Hit_api_HitC a0 (a1_c0.1, a1_c0.2) a1_c1) (fun x1 => some (decide ((0 : Int) ≤ x1.1), (x1.2.1.1, x1.2.1.2), x1.2.2))
theorem slices_ContainsFunc_api_Hit_api_Hit_ap : ∀ a0 a1_c0 a1_c1, Go.L.Ap (slices_ContainsFunc_api_Hit_api_HitC a0 a1_c0 a1_c1) (slices_ContainsFunc_api_Hit_api_Hit a0 a1_c0 a1_c1) := by
 intro a0 a1_c0 a1_c1
 unfold slices_ContainsFunc_api_Hit_api_HitC slices_ContainsFunc_api_Hit_api_Hit
 with_reducible repeat (first | exact apR _ | refine apB ?_ fun _ => ?_ | refine apC ?_ | refine apI ?_ ?_ | refine apM ?_ | refine apO ?_ fun _ => ?_ | exact slices_IndexFunc_api_Hit_api_Hit_ap _ _ _)
noncomputable def slices_Index_int_int_k1C : type_of% @slices_Index_int_int_k1 := 
 some ((-1 : Int))
theorem slices_Index_int_int_k1_ap : Go.L.Ap (slices_Index_int_int_k1C) (slices_Index_int_int_k1) := by
 unfold slices_Index_int_int_k1C slices_Index_int_int_k1
 with_reducible repeat (first | exact apR _ | refine apB ?_ fun _ => ?_ | refine apC ?_ | refine apI ?_ ?_ | refine apM ?_ | refine apO ?_ fun _ => ?_)
noncomputable def slices_Index_int_int_bl2C : type_of% @slices_Index_int_int_bl2 := fun a0 a1 => fun s8_25 =>
 if s8_25 < (a0.length : Int) then Go.L.chk (0 ≤ s8_25 ∧ s8_25 < (a0.length : Int)) (if a1 = a0.getD s8_25.toNat default then Option.map Sum.inr (some (s8_25)) else Go.L.chk (Go.L.I64 (s8_25 + (1 : Int))) (some (Sum.inl (s8_25 + (1 : Int))))) else Option.map Sum.inr (slices_Index_int_int_k1C)
theorem slices_Index_int_int_bl2_ap : ∀ a0 a1, ∀ s, Go.L.Ap (slices_Index_int_int_bl2C a0 a1 s) (slices_Index_int_int_bl2 a0 a1 s) := by
 intro a0 a1 s
 unfold slices_Index_int_int_bl2C slices_Index_int_int_bl2
 with_reducible repeat (first | exact apR _ | refine apB ?_ fun _ => ?_ | refine apC ?_ | refine apI ?_ ?_ | refine apM ?_ | refine apO ?_ fun _ => ?_ | exact slices_Index_int_int_k1_ap)
noncomputable def slices_Index_int_int_l2C : type_of% @slices_Index_int_int_l2 := fun a0 a1 s => Go.L.itr (slices_Index_int_int_bl2C a0 a1) 200 s
theorem slices_Index_int_int_l2_ap : ∀ a0 a1 s, Go.L.Ap (slices_Index_int_int_l2C a0 a1 s) (slices_Index_int_int_l2 a0 a1 s) := fun a0 a1 s => Go.L.Ap.run (fun s => slices_Index_int_int_bl2_ap a0 a1 s) 200 s
noncomputable def slices_Index_int_intC : type_of% @slices_Index_int_int := fun a0 a1 => 
 (slices_Index_int_int_l2C a0 a1) (0 : Int)
theorem slices_Index_int_int_ap : ∀ a0 a1, Go.L.Ap (slices_Index_int_intC a0 a1) (slices_Index_int_int a0 a1) := by
 intro a0 a1
 unfold slices_Index_int_intC slices_Index_int_int
 with_reducible repeat (first | exact apR _ | refine apB ?_ fun _ => ?_ | refine apC ?_ | refine apI ?_ ?_ | refine apM ?_ | refine apO ?_ fun _ => ?_ | exact slices_Index_int_int_l2_ap _ _ _)
noncomputable def slices_Contains_int_intC : type_of% @slices_Contains_int_int := fun a0 a1 => 
 Option.bind (slices_Index_int_intC a0 a1) (fun x1 => some (decide ((0 : Int) ≤ x1)))
theorem slices_Contains_int_int_ap : ∀ a0 a1, Go.L.Ap (slices_Contains_int_intC a0 a1) (slices_Contains_int_int a0 a1) := by
 intro a0 a1
 unfold slices_Contains_int_intC slices_Contains_int_int
 with_reducible repeat (first | exact apR _ | refine apB ?_ fun _ => ?_ | refine apC ?_ | refine apI ?_ ?_ | refine apM ?_ | refine apO ?_ fun _ => ?_ | exact slices_Index_int_int_ap _ _)
noncomputable def words_Index_Near_k1C : type_of% @words_Index_Near_k1 := fun l99 _c100 => 
 some (l99, ((0 : Int), (0 : Int)))
theorem words_Index_Near_k1_ap : ∀ l99 _c100, Go.L.Ap (words_Index_Near_k1C l99 _c100) (words_Index_Near_k1 l99 _c100) := by
 intro l99 _c100
 unfold words_Index_Near_k1C words_Index_Near_k1
 with_reducible repeat (first | exact apR _ | refine apB ?_ fun _ => ?_ | refine apC ?_ | refine apI ?_ ?_ | refine apM ?_ | refine apO ?_ fun _ => ?_)
noncomputable def words_Index_Near_bl2C : type_of% @words_Index_Near_bl2 := fun a0 a2 x103 => fun ⟨l132, c133, s41_134⟩ =>
 if s41_134 < (x103.length : Int) then Go.L.chk (0 ≤ s41_134 ∧ s41_134 < (x103.length : Int)) (Option.bind (words_Index_hitsC (a0.1, a0.2) a2) (fun x143 => Option.bind (slices_ContainsFunc_api_Hit_api_HitC x143 ((x103.getD s41_134.toNat default).1, (x103.getD s41_134.toNat default).2) c133) (fun x146 => if x146.1 then Option.bind (slices_Contains_int_intC l132 x146.2.1.1) (fun x150 => if !x150 then Go.L.chk (Go.E.Cap 8 (l132.length + ([x146.2.1.1]).length)) (Go.L.chk (Go.L.I64 (s41_134 + (1 : Int))) (some (Sum.inl ((l132 ++ [x146.2.1.1]), x146.2.2, (s41_134 + (1 : Int)))))) else Go.L.chk (Go.L.I64 (s41_134 + (1 : Int))) (some (Sum.inl (l132, x146.2.2, (s41_134 + (1 : Int)))))) else Go.L.chk (Go.L.I64 (s41_134 + (1 : Int))) (some (Sum.inl (l132, x146.2.2, (s41_134 + (1 : Int)))))))) else Option.map Sum.inr (words_Index_Near_k1C l132 c133)
theorem words_Index_Near_bl2_ap : ∀ a0 a2 x103, ∀ s, Go.L.Ap (words_Index_Near_bl2C a0 a2 x103 s) (words_Index_Near_bl2 a0 a2 x103 s) := by
 intro a0 a2 x103 s
 obtain ⟨l132, c133, s41_134⟩ := s
 unfold words_Index_Near_bl2C words_Index_Near_bl2
 with_reducible repeat (first | exact apR _ | refine apB ?_ fun _ => ?_ | refine apC ?_ | refine apI ?_ ?_ | refine apM ?_ | refine apO ?_ fun _ => ?_ | exact slices_ContainsFunc_api_Hit_api_Hit_ap _ _ _ | exact slices_Contains_int_int_ap _ _ | exact words_Index_Near_k1_ap _ _ | exact words_Index_hits_ap _ _)
noncomputable def words_Index_Near_l2C : type_of% @words_Index_Near_l2 := fun a0 a2 x103 s => Go.L.itr (words_Index_Near_bl2C a0 a2 x103) 200 s
theorem words_Index_Near_l2_ap : ∀ a0 a2 x103 s, Go.L.Ap (words_Index_Near_l2C a0 a2 x103 s) (words_Index_Near_l2 a0 a2 x103 s) := fun a0 a2 x103 s => Go.L.Ap.run (fun s => words_Index_Near_bl2_ap a0 a2 x103 s) 200 s
noncomputable def words_Index_NearC : type_of% @words_Index_Near := fun a0 a1 a2 a3 => 
 Option.bind (words_CheckC a1) (fun x4 => if x4.1 = (0 : Int) ∧ x4.2 = (0 : Int) then Option.bind (words_CheckC a2) (fun x16 => if x16.1 = (0 : Int) ∧ x16.2 = (0 : Int) then (if a3 < (1 : Int) then Option.bind (words_faultC (4 : Int) (-3 : Int)) (fun x28 => some ([], (x28.1, x28.2))) else if (2048 : Int) < a3 then Option.bind (words_faultC (4 : Int) (-3 : Int)) (fun x34 => some ([], (x34.1, x34.2))) else Option.bind (words_Index_hitsC (a0.1, a0.2) a1) (fun x103 => (words_Index_Near_l2C a0 a2 x103) (([] : List Int), a3, (0 : Int)))) else Option.bind (words_faultC x16.1 (-2 : Int)) (fun x22 => some ([], (x22.1, x22.2)))) else some ([], (x4.1, x4.2)))
theorem words_Index_Near_ap : ∀ a0 a1 a2 a3, Go.L.Ap (words_Index_NearC a0 a1 a2 a3) (words_Index_Near a0 a1 a2 a3) := by
 intro a0 a1 a2 a3
 unfold words_Index_NearC words_Index_Near
 with_reducible repeat (first | exact apR _ | refine apB ?_ fun _ => ?_ | refine apC ?_ | refine apI ?_ ?_ | refine apM ?_ | refine apO ?_ fun _ => ?_ | exact words_Check_ap _ | exact words_Index_Near_l2_ap _ _ _ _ | exact words_Index_hits_ap _ _ | exact words_fault_ap _ _)
noncomputable def slices_Clone_byte_byteC : type_of% @slices_Clone_byte_byte := fun a0 => 
 Go.L.chk (Go.E.Cap 1 (([] : List UInt8).length + a0.length)) (some ((([] : List UInt8) ++ a0)))
theorem slices_Clone_byte_byte_ap : ∀ a0, Go.L.Ap (slices_Clone_byte_byteC a0) (slices_Clone_byte_byte a0) := by
 intro a0
 unfold slices_Clone_byte_byteC slices_Clone_byte_byte
 with_reducible repeat (first | exact apR _ | refine apB ?_ fun _ => ?_ | refine apC ?_ | refine apI ?_ ?_ | refine apM ?_ | refine apO ?_ fun _ => ?_)
noncomputable def bits_ValidC : type_of% @bits_Valid := fun a0 => 
 if a0.2 < (0 : Int) then some (false) else if (131072 : Int) < a0.2 then some (false) else Go.L.chk (Go.L.I64 (a0.2 + (7 : Int))) (Go.L.chk (0 ≤ (a0.2 + (7 : Int)) ∧ (a0.2 + (7 : Int)) ≤ 9223372036854775807 ∧ 0 < (8 : Int)) (if (a0.1.length : Int) = ((a0.2 + (7 : Int)) / (8 : Int)) then Go.L.chk (0 ≤ a0.2 ∧ a0.2 ≤ 9223372036854775807 ∧ 0 < (8 : Int)) (if (a0.2 % (8 : Int)) = (0 : Int) then some (true) else Go.L.chk (Go.L.I64 ((a0.1.length : Int) - (1 : Int))) (Go.L.chk (0 ≤ ((a0.1.length : Int) - (1 : Int)) ∧ ((a0.1.length : Int) - (1 : Int)) < (a0.1.length : Int)) (Go.L.chk (0 ≤ (a0.2 % (8 : Int)) ∧ (a0.2 % (8 : Int)) < 8) (some (decide (((a0.1.getD (((a0.1.length : Int) - (1 : Int)).toNat) default <<< (UInt8.ofNat (a0.2 % (8 : Int)).toNat)).toNat : Int) = 0)))))) else some (false)))
theorem bits_Valid_ap : ∀ a0, Go.L.Ap (bits_ValidC a0) (bits_Valid a0) := by
 intro a0
 unfold bits_ValidC bits_Valid
 with_reducible repeat (first | exact apR _ | refine apB ?_ fun _ => ?_ | refine apC ?_ | refine apI ?_ ?_ | refine apM ?_ | refine apO ?_ fun _ => ?_)
noncomputable def bits_faultC : type_of% @bits_fault := fun a0 a1 => 
 some ((a0, a1))
theorem bits_fault_ap : ∀ a0 a1, Go.L.Ap (bits_faultC a0 a1) (bits_fault a0 a1) := by
 intro a0 a1
 unfold bits_faultC bits_fault
 with_reducible repeat (first | exact apR _ | refine apB ?_ fun _ => ?_ | refine apC ?_ | refine apI ?_ ?_ | refine apM ?_ | refine apO ?_ fun _ => ?_)
noncomputable def bits_atC : type_of% @bits_at := fun a0 a1 => 
 Go.L.chk (0 ≤ a1 ∧ a1 ≤ 9223372036854775807 ∧ 0 < (8 : Int)) (Go.L.chk (0 ≤ (a1 / (8 : Int)) ∧ (a1 / (8 : Int)) < (a0.1.length : Int)) (Go.L.chk (0 ≤ a1 ∧ a1 ≤ 9223372036854775807 ∧ 0 < (8 : Int)) (Go.L.chk (Go.L.I64 ((7 : Int) - (a1 % (8 : Int)))) (Go.L.chk (0 ≤ ((7 : Int) - (a1 % (8 : Int))) ∧ ((7 : Int) - (a1 % (8 : Int))) < 8) (some ((((a0.1.getD ((a1 / (8 : Int)).toNat) default >>> (UInt8.ofNat ((7 : Int) - (a1 % (8 : Int))).toNat)) &&& (1 : UInt8)).toNat : Int)))))))
theorem bits_at_ap : ∀ a0 a1, Go.L.Ap (bits_atC a0 a1) (bits_at a0 a1) := by
 intro a0 a1
 unfold bits_atC bits_at
 with_reducible repeat (first | exact apR _ | refine apB ?_ fun _ => ?_ | refine apC ?_ | refine apI ?_ ?_ | refine apM ?_ | refine apO ?_ fun _ => ?_)
noncomputable def bits_number_k1C : type_of% @bits_number_k1 := fun s7_25 => 
 some (s7_25)
theorem bits_number_k1_ap : ∀ s7_25, Go.L.Ap (bits_number_k1C s7_25) (bits_number_k1 s7_25) := by
 intro s7_25
 unfold bits_number_k1C bits_number_k1
 with_reducible repeat (first | exact apR _ | refine apB ?_ fun _ => ?_ | refine apC ?_ | refine apI ?_ ?_ | refine apM ?_ | refine apO ?_ fun _ => ?_)
noncomputable def bits_number_bl2C : type_of% @bits_number_bl2 := fun a0 a1 a2 => fun ⟨s7_38, s10_39⟩ =>
 if s10_39 < a2 then Go.L.chk (Go.L.I64 (s7_38 * 2)) (Go.L.chk (Go.L.I64 (a1 + s10_39)) (Option.bind (bits_atC (a0.1, a0.2) (a1 + s10_39)) (fun x46 => Go.L.chk ((0 ≤ (s7_38 * 2) ∧ (s7_38 * 2) < 2 ^ 63) ∧ (0 ≤ x46 ∧ x46 < 2 ^ 63)) (Go.L.chk (Go.L.I64 (s10_39 + (1 : Int))) (some (Sum.inl ((((s7_38 * 2).toNat ||| x46.toNat : Nat) : Int), (s10_39 + (1 : Int))))))))) else Option.map Sum.inr (bits_number_k1C s7_38)
theorem bits_number_bl2_ap : ∀ a0 a1 a2, ∀ s, Go.L.Ap (bits_number_bl2C a0 a1 a2 s) (bits_number_bl2 a0 a1 a2 s) := by
 intro a0 a1 a2 s
 obtain ⟨s7_38, s10_39⟩ := s
 unfold bits_number_bl2C bits_number_bl2
 with_reducible repeat (first | exact apR _ | refine apB ?_ fun _ => ?_ | refine apC ?_ | refine apI ?_ ?_ | refine apM ?_ | refine apO ?_ fun _ => ?_ | exact bits_at_ap _ _ | exact bits_number_k1_ap _)
noncomputable def bits_number_l2C : type_of% @bits_number_l2 := fun a0 a1 a2 s => Go.L.itr (bits_number_bl2C a0 a1 a2) 200 s
theorem bits_number_l2_ap : ∀ a0 a1 a2 s, Go.L.Ap (bits_number_l2C a0 a1 a2 s) (bits_number_l2 a0 a1 a2 s) := fun a0 a1 a2 s => Go.L.Ap.run (fun s => bits_number_bl2_ap a0 a1 a2 s) 200 s
noncomputable def bits_numberC : type_of% @bits_number := fun a0 a1 a2 => 
 (bits_number_l2C a0 a1 a2) ((0 : Int), (0 : Int))
theorem bits_number_ap : ∀ a0 a1 a2, Go.L.Ap (bits_numberC a0 a1 a2) (bits_number a0 a1 a2) := by
 intro a0 a1 a2
 unfold bits_numberC bits_number
 with_reducible repeat (first | exact apR _ | refine apB ?_ fun _ => ?_ | refine apC ?_ | refine apI ?_ ?_ | refine apM ?_ | refine apO ?_ fun _ => ?_ | exact bits_number_l2_ap _ _ _ _)
noncomputable def bits_ReadGamma_k1C : type_of% @bits_ReadGamma_k1 := fun a0 a1 s7_61 => 
 Go.L.chk (Go.L.I64 ((2 : Int) * s7_61)) (Go.L.chk (Go.L.I64 (a1 + ((2 : Int) * s7_61))) (Go.L.chk (Go.L.I64 ((a1 + ((2 : Int) * s7_61)) + (1 : Int))) (if a0.2 < ((a1 + ((2 : Int) * s7_61)) + (1 : Int)) then Option.bind (bits_faultC (15 : Int) (-2 : Int)) (fun x108 => some ((0 : Int), (0 : Int), (x108.1, x108.2))) else Go.L.chk (Go.L.I64 (a1 + s7_61)) (Go.L.chk (Go.L.I64 (s7_61 + (1 : Int))) (Option.bind (bits_numberC (a0.1, a0.2) (a1 + s7_61) (s7_61 + (1 : Int))) (fun x114 => Go.L.chk (Go.L.I64 ((2 : Int) * s7_61)) (Go.L.chk (Go.L.I64 (a1 + ((2 : Int) * s7_61))) (Go.L.chk (Go.L.I64 ((a1 + ((2 : Int) * s7_61)) + (1 : Int))) (some (x114, ((a1 + ((2 : Int) * s7_61)) + (1 : Int)), ((0 : Int), (0 : Int))))))))))))
theorem bits_ReadGamma_k1_ap : ∀ a0 a1 s7_61, Go.L.Ap (bits_ReadGamma_k1C a0 a1 s7_61) (bits_ReadGamma_k1 a0 a1 s7_61) := by
 intro a0 a1 s7_61
 unfold bits_ReadGamma_k1C bits_ReadGamma_k1
 with_reducible repeat (first | exact apR _ | refine apB ?_ fun _ => ?_ | refine apC ?_ | refine apI ?_ ?_ | refine apM ?_ | refine apO ?_ fun _ => ?_ | exact bits_fault_ap _ _ | exact bits_number_ap _ _ _)
noncomputable def bits_ReadGamma_bl2C : type_of% @bits_ReadGamma_bl2 := fun a0 a1 => fun s7_82 =>
 Go.L.chk (Go.L.I64 (a1 + s7_82)) (if (a1 + s7_82) < a0.2 then Go.L.chk (Go.L.I64 (a1 + s7_82)) (Option.bind (bits_atC (a0.1, a0.2) (a1 + s7_82)) (fun x89 => if x89 = (0 : Int) then Go.L.chk (Go.L.I64 (s7_82 + (1 : Int))) (if (30 : Int) < (s7_82 + (1 : Int)) then Option.bind (bits_faultC (16 : Int) (-2 : Int)) (fun x96 => Option.map Sum.inr (some ((0 : Int), (0 : Int), (x96.1, x96.2)))) else some (Sum.inl (s7_82 + (1 : Int)))) else Option.map Sum.inr ((bits_ReadGamma_k1C a0 a1) s7_82))) else Option.map Sum.inr ((bits_ReadGamma_k1C a0 a1) s7_82))
theorem bits_ReadGamma_bl2_ap : ∀ a0 a1, ∀ s, Go.L.Ap (bits_ReadGamma_bl2C a0 a1 s) (bits_ReadGamma_bl2 a0 a1 s) := by
 intro a0 a1 s
 unfold bits_ReadGamma_bl2C bits_ReadGamma_bl2
 with_reducible repeat (first | exact apR _ | refine apB ?_ fun _ => ?_ | refine apC ?_ | refine apI ?_ ?_ | refine apM ?_ | refine apO ?_ fun _ => ?_ | exact bits_ReadGamma_k1_ap _ _ _ | exact bits_at_ap _ _ | exact bits_fault_ap _ _)
noncomputable def bits_ReadGamma_l2C : type_of% @bits_ReadGamma_l2 := fun a0 a1 s => Go.L.itr (bits_ReadGamma_bl2C a0 a1) 200 s
theorem bits_ReadGamma_l2_ap : ∀ a0 a1 s, Go.L.Ap (bits_ReadGamma_l2C a0 a1 s) (bits_ReadGamma_l2 a0 a1 s) := fun a0 a1 s => Go.L.Ap.run (fun s => bits_ReadGamma_bl2_ap a0 a1 s) 200 s
noncomputable def bits_ReadGammaC : type_of% @bits_ReadGamma := fun a0 a1 => 
 Option.bind (bits_ValidC (a0.1, a0.2)) (fun x3 => if !x3 then Option.bind (bits_faultC (6 : Int) (-1 : Int)) (fun x7 => some ((0 : Int), (0 : Int), (x7.1, x7.2))) else (if a1 < (0 : Int) then Option.bind (bits_faultC (4 : Int) (-2 : Int)) (fun x13 => some ((0 : Int), (0 : Int), (x13.1, x13.2))) else if a0.2 < a1 then Option.bind (bits_faultC (4 : Int) (-2 : Int)) (fun x19 => some ((0 : Int), (0 : Int), (x19.1, x19.2))) else (bits_ReadGamma_l2C a0 a1) (0 : Int)))
theorem bits_ReadGamma_ap : ∀ a0 a1, Go.L.Ap (bits_ReadGammaC a0 a1) (bits_ReadGamma a0 a1) := by
 intro a0 a1
 unfold bits_ReadGammaC bits_ReadGamma
 with_reducible repeat (first | exact apR _ | refine apB ?_ fun _ => ?_ | refine apC ?_ | refine apI ?_ ?_ | refine apM ?_ | refine apO ?_ fun _ => ?_ | exact bits_ReadGamma_l2_ap _ _ _ | exact bits_Valid_ap _ | exact bits_fault_ap _ _)
noncomputable def words_reader_number_k1C : type_of% @words_reader_number_k1 := fun a0 x3 => 
 some (some (x3.1, ((a0.1.1, a0.1.2), x3.2.1)))
theorem words_reader_number_k1_ap : ∀ a0 x3, Go.L.Ap (words_reader_number_k1C a0 x3) (words_reader_number_k1 a0 x3) := by
 intro a0 x3
 unfold words_reader_number_k1C words_reader_number_k1
 with_reducible repeat (first | exact apR _ | refine apB ?_ fun _ => ?_ | refine apC ?_ | refine apI ?_ ?_ | refine apM ?_ | refine apO ?_ fun _ => ?_)
noncomputable def words_reader_numberC : type_of% @words_reader_number := fun a0 a1 => 
 Option.bind (bits_ReadGammaC (a0.1.1, a0.1.2) a0.2) (fun x3 => if (bif !decide (x3.2.2.1 = (0 : Int) ∧ x3.2.2.2 = (0 : Int)) then true else decide (a1 < x3.1)) then some none else (words_reader_number_k1C a0 x3))
theorem words_reader_number_ap : ∀ a0 a1, Go.L.Ap (words_reader_numberC a0 a1) (words_reader_number a0 a1) := by
 intro a0 a1
 unfold words_reader_numberC words_reader_number
 with_reducible repeat (first | exact apR _ | refine apB ?_ fun _ => ?_ | refine apC ?_ | refine apI ?_ ?_ | refine apM ?_ | refine apO ?_ fun _ => ?_ | exact bits_ReadGamma_ap _ _ | exact words_reader_number_k1_ap _ _)
noncomputable def words_reader_index_k11C : type_of% @words_reader_index_k11 := fun c1530 c1601 c1602 c1603 c1604 l1498 s9_1499 _s87_1638 _s88_1639 => 
 Go.L.chk (Go.E.Cap 16 (l1498.length + ([(c1530, c1601)]).length)) (Go.L.chk (Go.L.I64 (s9_1499 - (1 : Int))) (some (Sum.inl (c1602, c1603, c1604, c1530, c1601, (l1498 ++ [(c1530, c1601)]), (s9_1499 - (1 : Int))))))
theorem words_reader_index_k11_ap : ∀ c1530 c1601 c1602 c1603 c1604 l1498 s9_1499 _s87_1638 _s88_1639, Go.L.Ap (words_reader_index_k11C c1530 c1601 c1602 c1603 c1604 l1498 s9_1499 _s87_1638 _s88_1639) (words_reader_index_k11 c1530 c1601 c1602 c1603 c1604 l1498 s9_1499 _s87_1638 _s88_1639) := by
 intro c1530 c1601 c1602 c1603 c1604 l1498 s9_1499 _s87_1638 _s88_1639
 unfold words_reader_index_k11C words_reader_index_k11
 with_reducible repeat (first | exact apR _ | refine apB ?_ fun _ => ?_ | refine apC ?_ | refine apI ?_ ?_ | refine apM ?_ | refine apO ?_ fun _ => ?_)
noncomputable def words_reader_index_k10C : type_of% @words_reader_index_k10 := fun c1530 l1498 s9_1499 y8 c1601 c1602 c1603 c1604 => 
 if (y8.1 - (1 : Int)) ≤ c1530 then Option.map Sum.inr (Option.map Sum.inr (some none)) else if (2048 : Int) ≤ c1601 then Option.map Sum.inr (Option.map Sum.inr (some none)) else (words_reader_index_k11C c1530 c1601 c1602 c1603 c1604 l1498 s9_1499) c1601 (decide ((2048 : Int) ≤ c1601))
theorem words_reader_index_k10_ap : ∀ c1530 l1498 s9_1499 y8 c1601 c1602 c1603 c1604, Go.L.Ap (words_reader_index_k10C c1530 l1498 s9_1499 y8 c1601 c1602 c1603 c1604) (words_reader_index_k10 c1530 l1498 s9_1499 y8 c1601 c1602 c1603 c1604) := by
 intro c1530 l1498 s9_1499 y8 c1601 c1602 c1603 c1604
 unfold words_reader_index_k10C words_reader_index_k10
 with_reducible repeat (first | exact apR _ | refine apB ?_ fun _ => ?_ | refine apC ?_ | refine apI ?_ ?_ | refine apM ?_ | refine apO ?_ fun _ => ?_ | exact words_reader_index_k11_ap _ _ _ _ _ _ _ _ _)
noncomputable def words_reader_index_k9C : type_of% @words_reader_index_k9 := fun c1526 c1527 c1528 c1530 l1498 s9_1499 y8 c1578 => 
 Option.bind (words_reader_numberC ((c1526, c1527), c1528) (2048 : Int)) (fun x1612 => Go.L.onX x1612 (Option.map Sum.inr (Option.map Sum.inr (some none))) (fun y1624 => Go.L.chk (Go.L.I64 (c1578 + y1624.1)) ((words_reader_index_k10C c1530 l1498 s9_1499 y8) (c1578 + y1624.1) y1624.2.1.1 y1624.2.1.2 y1624.2.2)))
theorem words_reader_index_k9_ap : ∀ c1526 c1527 c1528 c1530 l1498 s9_1499 y8 c1578, Go.L.Ap (words_reader_index_k9C c1526 c1527 c1528 c1530 l1498 s9_1499 y8 c1578) (words_reader_index_k9 c1526 c1527 c1528 c1530 l1498 s9_1499 y8 c1578) := by
 intro c1526 c1527 c1528 c1530 l1498 s9_1499 y8 c1578
 unfold words_reader_index_k9C words_reader_index_k9
 with_reducible repeat (first | exact apR _ | refine apB ?_ fun _ => ?_ | refine apC ?_ | refine apI ?_ ?_ | refine apM ?_ | refine apO ?_ fun _ => ?_ | exact words_reader_index_k10_ap _ _ _ _ _ _ _ _ | exact words_reader_number_ap _ _)
noncomputable def words_reader_index_k8C : type_of% @words_reader_index_k8 := fun c1495 c1496 l1498 s9_1499 y8 c1526 c1527 c1528 c1530 _c1531 => 
 if c1530 = c1495 then (words_reader_index_k9C c1526 c1527 c1528 c1530 l1498 s9_1499 y8) c1496 else (words_reader_index_k9C c1526 c1527 c1528 c1530 l1498 s9_1499 y8) (-1 : Int)
theorem words_reader_index_k8_ap : ∀ c1495 c1496 l1498 s9_1499 y8 c1526 c1527 c1528 c1530 _c1531, Go.L.Ap (words_reader_index_k8C c1495 c1496 l1498 s9_1499 y8 c1526 c1527 c1528 c1530 _c1531) (words_reader_index_k8 c1495 c1496 l1498 s9_1499 y8 c1526 c1527 c1528 c1530 _c1531) := by
 intro c1495 c1496 l1498 s9_1499 y8 c1526 c1527 c1528 c1530 _c1531
 unfold words_reader_index_k8C words_reader_index_k8
 with_reducible repeat (first | exact apR _ | refine apB ?_ fun _ => ?_ | refine apC ?_ | refine apI ?_ ?_ | refine apM ?_ | refine apO ?_ fun _ => ?_ | exact words_reader_index_k9_ap _ _ _ _ _ _ _ _)
noncomputable def words_reader_index_k3C : type_of% @words_reader_index_k3 := fun s4_854 l1118 c1119 c1120 c1121 _s107_1122 _s108_1123 _s109_1124 _s120_1125 => 
 Go.L.chk (Go.L.I64 (s4_854 - (1 : Int))) (some (Sum.inl (c1119, c1120, c1121, l1118, (s4_854 - (1 : Int)))))
theorem words_reader_index_k3_ap : ∀ s4_854 l1118 c1119 c1120 c1121 _s107_1122 _s108_1123 _s109_1124 _s120_1125, Go.L.Ap (words_reader_index_k3C s4_854 l1118 c1119 c1120 c1121 _s107_1122 _s108_1123 _s109_1124 _s120_1125) (words_reader_index_k3 s4_854 l1118 c1119 c1120 c1121 _s107_1122 _s108_1123 _s109_1124 _s120_1125) := by
 intro s4_854 l1118 c1119 c1120 c1121 _s107_1122 _s108_1123 _s109_1124 _s120_1125
 unfold words_reader_index_k3C words_reader_index_k3
 with_reducible repeat (first | exact apR _ | refine apB ?_ fun _ => ?_ | refine apC ?_ | refine apI ?_ ?_ | refine apM ?_ | refine apO ?_ fun _ => ?_)
noncomputable def words_reader_index_k12C : type_of% @words_reader_index_k12 := fun c1400 c1401 c1402 l1171 l1403 l853 s4_854 s107_1706 s108_1707 s109_1708 s120_1709 => 
 Go.L.chk (Go.E.Cap 40 (l853.length + ([(l1171, l1403)]).length)) ((words_reader_index_k3C s4_854) (l853 ++ [(l1171, l1403)]) c1400 c1401 c1402 s107_1706 s108_1707 s109_1708 s120_1709)
theorem words_reader_index_k12_ap : ∀ c1400 c1401 c1402 l1171 l1403 l853 s4_854 s107_1706 s108_1707 s109_1708 s120_1709, Go.L.Ap (words_reader_index_k12C c1400 c1401 c1402 l1171 l1403 l853 s4_854 s107_1706 s108_1707 s109_1708 s120_1709) (words_reader_index_k12 c1400 c1401 c1402 l1171 l1403 l853 s4_854 s107_1706 s108_1707 s109_1708 s120_1709) := by
 intro c1400 c1401 c1402 l1171 l1403 l853 s4_854 s107_1706 s108_1707 s109_1708 s120_1709
 unfold words_reader_index_k12C words_reader_index_k12
 with_reducible repeat (first | exact apR _ | refine apB ?_ fun _ => ?_ | refine apC ?_ | refine apI ?_ ?_ | refine apM ?_ | refine apO ?_ fun _ => ?_ | exact words_reader_index_k3_ap _ _ _ _ _ _ _ _ _)
noncomputable def words_reader_index_k6C : type_of% @words_reader_index_k6 := fun l1171 l853 s4_854 _c1397 _c1398 c1400 c1401 c1402 l1403 => 
 Option.bind (words_isWordC l1171) (fun x1715 => if !x1715 then Option.map Sum.inr (some none) else if (0 : Int) < (l853.length : Int) then Go.L.chk (Go.L.I64 ((l853.length : Int) - (1 : Int))) (Go.L.chk (0 ≤ ((l853.length : Int) - (1 : Int)) ∧ ((l853.length : Int) - (1 : Int)) < (l853.length : Int)) (if (Op.bytesLess l1171 ((l853.getD (((l853.length : Int) - (1 : Int)).toNat) default).1) || decide (l1171 = (l853.getD (((l853.length : Int) - (1 : Int)).toNat) default).1)) then Option.map Sum.inr (some none) else (words_reader_index_k12C c1400 c1401 c1402 l1171 l1403 l853 s4_854) (l853.length : Int) (decide ((0 : Int) < (l853.length : Int))) (decide ((0 : Int) < (l853.length : Int))) (Op.bytesLess l1171 ((l853.getD (((l853.length : Int) - (1 : Int)).toNat) default).1) || decide (l1171 = (l853.getD (((l853.length : Int) - (1 : Int)).toNat) default).1)))) else (words_reader_index_k12C c1400 c1401 c1402 l1171 l1403 l853 s4_854) (l853.length : Int) (decide ((0 : Int) < (l853.length : Int))) (decide ((0 : Int) < (l853.length : Int))) false)
theorem words_reader_index_k6_ap : ∀ l1171 l853 s4_854 _c1397 _c1398 c1400 c1401 c1402 l1403, Go.L.Ap (words_reader_index_k6C l1171 l853 s4_854 _c1397 _c1398 c1400 c1401 c1402 l1403) (words_reader_index_k6 l1171 l853 s4_854 _c1397 _c1398 c1400 c1401 c1402 l1403) := by
 intro l1171 l853 s4_854 _c1397 _c1398 c1400 c1401 c1402 l1403
 unfold words_reader_index_k6C words_reader_index_k6
 with_reducible repeat (first | exact apR _ | refine apB ?_ fun _ => ?_ | refine apC ?_ | refine apI ?_ ?_ | refine apM ?_ | refine apO ?_ fun _ => ?_ | exact words_isWord_ap _ | exact words_reader_index_k12_ap _ _ _ _ _ _ _ _ _ _ _)
noncomputable def words_reader_index_bl7C : type_of% @words_reader_index_bl7 := fun l1171 l853 s4_854 y8 => fun ⟨c1492, c1493, c1494, c1495, c1496, l1498, s9_1499⟩ =>
 if (0 : Int) < s9_1499 then Option.bind (words_reader_numberC ((c1492, c1493), c1494) (64 : Int)) (fun x1538 => Go.L.onX x1538 (Option.map Sum.inr (Option.map Sum.inr (some none))) (fun y1549 => Go.L.chk (Go.L.I64 (c1495 + y1549.1)) (Go.L.chk (Go.L.I64 ((c1495 + y1549.1) - (1 : Int))) ((words_reader_index_k8C c1495 c1496 l1498 s9_1499 y8) y1549.2.1.1 y1549.2.1.2 y1549.2.2 ((c1495 + y1549.1) - (1 : Int)) (0 : Int))))) else Option.map Sum.inr ((words_reader_index_k6C l1171 l853 s4_854) c1495 c1496 c1492 c1493 c1494 l1498)
theorem words_reader_index_bl7_ap : ∀ l1171 l853 s4_854 y8, ∀ s, Go.L.Ap (words_reader_index_bl7C l1171 l853 s4_854 y8 s) (words_reader_index_bl7 l1171 l853 s4_854 y8 s) := by
 intro l1171 l853 s4_854 y8 s
 obtain ⟨c1492, c1493, c1494, c1495, c1496, l1498, s9_1499⟩ := s
 unfold words_reader_index_bl7C words_reader_index_bl7
 with_reducible repeat (first | exact apR _ | refine apB ?_ fun _ => ?_ | refine apC ?_ | refine apI ?_ ?_ | refine apM ?_ | refine apO ?_ fun _ => ?_ | exact words_reader_index_k6_ap _ _ _ _ _ _ _ _ _ | exact words_reader_index_k8_ap _ _ _ _ _ _ _ _ _ _ | exact words_reader_number_ap _ _)
noncomputable def words_reader_index_l7C : type_of% @words_reader_index_l7 := fun l1171 l853 s4_854 y8 s => Go.L.itr (words_reader_index_bl7C l1171 l853 s4_854 y8) 200 s
theorem words_reader_index_l7_ap : ∀ l1171 l853 s4_854 y8 s, Go.L.Ap (words_reader_index_l7C l1171 l853 s4_854 y8 s) (words_reader_index_l7 l1171 l853 s4_854 y8 s) := fun l1171 l853 s4_854 y8 s => Go.L.Ap.run (fun s => words_reader_index_bl7_ap l1171 l853 s4_854 y8 s) 200 s
noncomputable def words_reader_index_k4C : type_of% @words_reader_index_k4 := fun l853 s4_854 y8 l1171 c1172 c1173 c1174 => 
 Go.L.chk (Go.L.I64 (c1173 + (1 : Int))) (Option.bind (words_reader_numberC ((c1172, c1173), c1174) (c1173 + (1 : Int))) (fun x1408 => Go.L.onX x1408 (Option.map Sum.inr (some none)) (fun y1418 => (words_reader_index_l7C l1171 l853 s4_854 y8) (y1418.2.1.1, y1418.2.1.2, y1418.2.2, (0 : Int), (-1 : Int), ([] : List (Int × Int)), y1418.1))))
theorem words_reader_index_k4_ap : ∀ l853 s4_854 y8 l1171 c1172 c1173 c1174, Go.L.Ap (words_reader_index_k4C l853 s4_854 y8 l1171 c1172 c1173 c1174) (words_reader_index_k4 l853 s4_854 y8 l1171 c1172 c1173 c1174) := by
 intro l853 s4_854 y8 l1171 c1172 c1173 c1174
 unfold words_reader_index_k4C words_reader_index_k4
 with_reducible repeat (first | exact apR _ | refine apB ?_ fun _ => ?_ | refine apC ?_ | refine apI ?_ ?_ | refine apM ?_ | refine apO ?_ fun _ => ?_ | exact words_reader_index_l7_ap _ _ _ _ _ | exact words_reader_number_ap _ _)
noncomputable def words_reader_index_bl5C : type_of% @words_reader_index_bl5 := fun l853 s4_854 y8 => fun ⟨c1202, c1203, c1204, l1205, s6_1206⟩ =>
 if (0 : Int) < s6_1206 then Option.bind (words_reader_numberC ((c1202, c1203), c1204) (256 : Int)) (fun x1212 => Go.L.onX x1212 (Option.map Sum.inr (Option.map Sum.inr (some none))) (fun y1220 => Go.L.chk (Go.L.I64 (y1220.1 - (1 : Int))) (Go.L.chk (Go.E.Cap 1 (l1205.length + ([(Go.L.u8 (y1220.1 - (1 : Int)))]).length)) (Go.L.chk (Go.L.I64 (s6_1206 - (1 : Int))) (some (Sum.inl (y1220.2.1.1, y1220.2.1.2, y1220.2.2, (l1205 ++ [(Go.L.u8 (y1220.1 - (1 : Int)))]), (s6_1206 - (1 : Int))))))))) else Option.map Sum.inr ((words_reader_index_k4C l853 s4_854 y8) l1205 c1202 c1203 c1204)
theorem words_reader_index_bl5_ap : ∀ l853 s4_854 y8, ∀ s, Go.L.Ap (words_reader_index_bl5C l853 s4_854 y8 s) (words_reader_index_bl5 l853 s4_854 y8 s) := by
 intro l853 s4_854 y8 s
 obtain ⟨c1202, c1203, c1204, l1205, s6_1206⟩ := s
 unfold words_reader_index_bl5C words_reader_index_bl5
 with_reducible repeat (first | exact apR _ | refine apB ?_ fun _ => ?_ | refine apC ?_ | refine apI ?_ ?_ | refine apM ?_ | refine apO ?_ fun _ => ?_ | exact words_reader_index_k4_ap _ _ _ _ _ _ _ | exact words_reader_number_ap _ _)
noncomputable def words_reader_index_l5C : type_of% @words_reader_index_l5 := fun l853 s4_854 y8 s => Go.L.itr (words_reader_index_bl5C l853 s4_854 y8) 200 s
theorem words_reader_index_l5_ap : ∀ l853 s4_854 y8 s, Go.L.Ap (words_reader_index_l5C l853 s4_854 y8 s) (words_reader_index_l5 l853 s4_854 y8 s) := fun l853 s4_854 y8 s => Go.L.Ap.run (fun s => words_reader_index_bl5_ap l853 s4_854 y8 s) 200 s
noncomputable def words_reader_index_k1C : type_of% @words_reader_index_k1 := fun y8 c566 c567 c568 l569 => 
 some (some (((y8.1 - (1 : Int)), l569), ((c566, c567), c568)))
theorem words_reader_index_k1_ap : ∀ y8 c566 c567 c568 l569, Go.L.Ap (words_reader_index_k1C y8 c566 c567 c568 l569) (words_reader_index_k1 y8 c566 c567 c568 l569) := by
 intro y8 c566 c567 c568 l569
 unfold words_reader_index_k1C words_reader_index_k1
 with_reducible repeat (first | exact apR _ | refine apB ?_ fun _ => ?_ | refine apC ?_ | refine apI ?_ ?_ | refine apM ?_ | refine apO ?_ fun _ => ?_)
noncomputable def words_reader_index_bl2C : type_of% @words_reader_index_bl2 := fun y8 => fun ⟨c849, c850, c851, l853, s4_854⟩ =>
 if (0 : Int) < s4_854 then Option.bind (words_reader_numberC ((c849, c850), c851) (2048 : Int)) (fun x1179 => Go.L.onX x1179 (Option.map Sum.inr (some none)) (fun y1187 => (words_reader_index_l5C l853 s4_854 y8) (y1187.2.1.1, y1187.2.1.2, y1187.2.2, ([] : List UInt8), y1187.1))) else Option.map Sum.inr ((words_reader_index_k1C y8) c849 c850 c851 l853)
theorem words_reader_index_bl2_ap : ∀ y8, ∀ s, Go.L.Ap (words_reader_index_bl2C y8 s) (words_reader_index_bl2 y8 s) := by
 intro y8 s
 obtain ⟨c849, c850, c851, l853, s4_854⟩ := s
 unfold words_reader_index_bl2C words_reader_index_bl2
 with_reducible repeat (first | exact apR _ | refine apB ?_ fun _ => ?_ | refine apC ?_ | refine apI ?_ ?_ | refine apM ?_ | refine apO ?_ fun _ => ?_ | exact words_reader_index_k1_ap _ _ _ _ _ | exact words_reader_index_l5_ap _ _ _ _ | exact words_reader_number_ap _ _)
noncomputable def words_reader_index_l2C : type_of% @words_reader_index_l2 := fun y8 s => Go.L.itr (words_reader_index_bl2C y8) 200 s
theorem words_reader_index_l2_ap : ∀ y8 s, Go.L.Ap (words_reader_index_l2C y8 s) (words_reader_index_l2 y8 s) := fun y8 s => Go.L.Ap.run (fun s => words_reader_index_bl2_ap y8 s) 200 s
noncomputable def words_reader_indexC : type_of% @words_reader_index := fun a0 => 
 Option.bind (words_reader_numberC ((a0.1.1, a0.1.2), a0.2) (65 : Int)) (fun x3 => Go.L.onX x3 (some none) (fun y8 => Go.L.chk (Go.L.I64 (y8.1 - (1 : Int))) (Go.L.chk (Go.L.I64 (y8.2.1.2 + (1 : Int))) (Option.bind (words_reader_numberC ((y8.2.1.1, y8.2.1.2), y8.2.2) (y8.2.1.2 + (1 : Int))) (fun x574 => Go.L.onX x574 (some none) (fun y580 => Go.L.chk (Go.L.I64 (y580.1 - (1 : Int))) ((words_reader_index_l2C y8) (y580.2.1.1, y580.2.1.2, y580.2.2, ([] : List ((List UInt8) × (List (Int × Int)))), (y580.1 - (1 : Int))))))))))
theorem words_reader_index_ap : ∀ a0, Go.L.Ap (words_reader_indexC a0) (words_reader_index a0) := by
 intro a0
 unfold words_reader_indexC words_reader_index
 with_reducible repeat (first | exact apR _ | refine apB ?_ fun _ => ?_ | refine apC ?_ | refine apI ?_ ?_ | refine apM ?_ | refine apO ?_ fun _ => ?_ | exact words_reader_index_l2_ap _ _ | exact words_reader_number_ap _ _)
noncomputable def words_Open_1_yesC : type_of% @words_Open_1_yes := fun _a0 _a1 => 
 Option.bind (words_faultC (16 : Int) (-1 : Int)) (fun x1 => some (((0 : Int), []), (x1.1, x1.2)))
theorem words_Open_1_yes_ap : ∀ _a0 _a1, Go.L.Ap (words_Open_1_yesC _a0 _a1) (words_Open_1_yes _a0 _a1) := by
 intro _a0 _a1
 unfold words_Open_1_yesC words_Open_1_yes
 with_reducible repeat (first | exact apR _ | refine apB ?_ fun _ => ?_ | refine apC ?_ | refine apI ?_ ?_ | refine apM ?_ | refine apO ?_ fun _ => ?_ | exact words_fault_ap _ _)
noncomputable def words_Open_k3C : type_of% @words_Open_k3 := fun s30_155 l195 => 
 Go.L.chk (Go.L.I64 (s30_155 + (1 : Int))) (some (Sum.inl (l195, (s30_155 + (1 : Int)))))
theorem words_Open_k3_ap : ∀ s30_155 l195, Go.L.Ap (words_Open_k3C s30_155 l195) (words_Open_k3 s30_155 l195) := by
 intro s30_155 l195
 unfold words_Open_k3C words_Open_k3
 with_reducible repeat (first | exact apR _ | refine apB ?_ fun _ => ?_ | refine apC ?_ | refine apI ?_ ?_ | refine apM ?_ | refine apO ?_ fun _ => ?_)
noncomputable def words_Open_bl4C : type_of% @words_Open_bl4 := fun s30_155 y22 => fun ⟨l216, s37_217⟩ =>
 if s37_217 < (((y22.1.2.getD s30_155.toNat default).2).length : Int) then Go.L.chk (0 ≤ s37_217 ∧ s37_217 < (((y22.1.2.getD s30_155.toNat default).2).length : Int)) (if (Go.L.mget false ((((y22.1.2.getD s30_155.toNat default).2).getD s37_217.toNat default).1, (((y22.1.2.getD s30_155.toNat default).2).getD s37_217.toNat default).2) l216) then Option.map Sum.inr (Option.map Sum.inr (Option.bind (words_Open_1_yesC (y22.1.1, y22.1.2) ((0 : Int), (0 : Int))) (fun x231 => some ((x231.1.1, x231.1.2), (x231.2.1, x231.2.2))))) else Go.L.chk (Go.L.I64 (s37_217 + (1 : Int))) (some (Sum.inl ((Go.L.mput ((((y22.1.2.getD s30_155.toNat default).2).getD s37_217.toNat default).1, (((y22.1.2.getD s30_155.toNat default).2).getD s37_217.toNat default).2) true l216), (s37_217 + (1 : Int)))))) else Option.map Sum.inr ((words_Open_k3C s30_155) l216)
theorem words_Open_bl4_ap : ∀ s30_155 y22, ∀ s, Go.L.Ap (words_Open_bl4C s30_155 y22 s) (words_Open_bl4 s30_155 y22 s) := by
 intro s30_155 y22 s
 obtain ⟨l216, s37_217⟩ := s
 unfold words_Open_bl4C words_Open_bl4
 with_reducible repeat (first | exact apR _ | refine apB ?_ fun _ => ?_ | refine apC ?_ | refine apI ?_ ?_ | refine apM ?_ | refine apO ?_ fun _ => ?_ | exact words_Open_1_yes_ap _ _ | exact words_Open_k3_ap _ _)
noncomputable def words_Open_l4C : type_of% @words_Open_l4 := fun s30_155 y22 s => Go.L.itr (words_Open_bl4C s30_155 y22) 200 s
theorem words_Open_l4_ap : ∀ s30_155 y22 s, Go.L.Ap (words_Open_l4C s30_155 y22 s) (words_Open_l4 s30_155 y22 s) := fun s30_155 y22 s => Go.L.Ap.run (fun s => words_Open_bl4_ap s30_155 y22 s) 200 s
noncomputable def words_Index_Bytes_1_bl1C : type_of% @words_Index_Bytes_1_bl1 := fun a0 => fun ⟨l14, s4_15⟩ =>
 if (0 : Int) ≤ s4_15 then Go.L.chk (0 ≤ s4_15 ∧ s4_15 ≤ 63) (Go.L.chk ((0 ≤ (a0 / 2 ^ s4_15.toNat) ∧ (a0 / 2 ^ s4_15.toNat) < 2 ^ 63) ∧ (0 ≤ (1 : Int) ∧ (1 : Int) < 2 ^ 63)) (Go.L.chk (Go.E.Cap 1 (l14.length + 1)) (Go.L.chk (Go.L.I64 (s4_15 - (1 : Int))) (some (Sum.inl ((l14 ++ [((48 : UInt8) + (Go.L.u8 (((a0 / 2 ^ s4_15.toNat).toNat &&& (1 : Int).toNat : Nat) : Int)))]), (s4_15 - (1 : Int)))))))) else Option.map Sum.inr (some (((), l14)))
theorem words_Index_Bytes_1_bl1_ap : ∀ a0, ∀ s, Go.L.Ap (words_Index_Bytes_1_bl1C a0 s) (words_Index_Bytes_1_bl1 a0 s) := by
 intro a0 s
 obtain ⟨l14, s4_15⟩ := s
 unfold words_Index_Bytes_1_bl1C words_Index_Bytes_1_bl1
 with_reducible repeat (first | exact apR _ | refine apB ?_ fun _ => ?_ | refine apC ?_ | refine apI ?_ ?_ | refine apM ?_ | refine apO ?_ fun _ => ?_)
noncomputable def words_Index_Bytes_1_l1C : type_of% @words_Index_Bytes_1_l1 := fun a0 s => Go.L.itr (words_Index_Bytes_1_bl1C a0) 200 s
theorem words_Index_Bytes_1_l1_ap : ∀ a0 s, Go.L.Ap (words_Index_Bytes_1_l1C a0 s) (words_Index_Bytes_1_l1 a0 s) := fun a0 s => Go.L.Ap.run (fun s => words_Index_Bytes_1_bl1_ap a0 s) 200 s
noncomputable def words_Index_Bytes_1C : type_of% @words_Index_Bytes_1 := fun a0 a1 => 
 Option.bind (bits_GammaSizeC a0) (fun x1 => Go.L.chk (Go.L.I64 (x1 - (1 : Int))) ((words_Index_Bytes_1_l1C a0) (a1.2, (x1 - (1 : Int)))))
theorem words_Index_Bytes_1_ap : ∀ a0 a1, Go.L.Ap (words_Index_Bytes_1C a0 a1) (words_Index_Bytes_1 a0 a1) := by
 intro a0 a1
 unfold words_Index_Bytes_1C words_Index_Bytes_1
 with_reducible repeat (first | exact apR _ | refine apB ?_ fun _ => ?_ | refine apC ?_ | refine apI ?_ ?_ | refine apM ?_ | refine apO ?_ fun _ => ?_ | exact bits_GammaSize_ap _ | exact words_Index_Bytes_1_l1_ap _ _)
noncomputable def words_Index_numbers_s2_k2C : type_of% @words_Index_numbers_s2_k2 := fun s25_132 l252 => 
 Go.L.chk (Go.L.I64 (s25_132 + (1 : Int))) (some (Sum.inl (l252, (s25_132 + (1 : Int)))))
theorem words_Index_numbers_s2_k2_ap : ∀ s25_132 l252, Go.L.Ap (words_Index_numbers_s2_k2C s25_132 l252) (words_Index_numbers_s2_k2 s25_132 l252) := by
 intro s25_132 l252
 unfold words_Index_numbers_s2_k2C words_Index_numbers_s2_k2
 with_reducible repeat (first | exact apR _ | refine apB ?_ fun _ => ?_ | refine apC ?_ | refine apI ?_ ?_ | refine apM ?_ | refine apO ?_ fun _ => ?_)
noncomputable def words_Index_numbers_s2_bl5C : type_of% @words_Index_numbers_s2_bl5 := fun a0 s25_132 => fun ⟨c364, c365, l368, s57_369⟩ =>
 if s57_369 < (((a0.2.getD s25_132.toNat default).2).length : Int) then Go.L.chk (0 ≤ s57_369 ∧ s57_369 < (((a0.2.getD s25_132.toNat default).2).length : Int)) (if (((a0.2.getD s25_132.toNat default).2).getD s57_369.toNat default).1 = c364 then Option.bind (words_Index_Bytes_1C (1 : Int) ((), l368)) (fun x396 => Go.L.chk (Go.L.I64 ((((a0.2.getD s25_132.toNat default).2).getD s57_369.toNat default).2 - c365)) (Option.bind (words_Index_Bytes_1C ((((a0.2.getD s25_132.toNat default).2).getD s57_369.toNat default).2 - c365) ((), x396.2)) (fun x399 => Go.L.chk (Go.L.I64 (s57_369 + (1 : Int))) (some (Sum.inl ((((a0.2.getD s25_132.toNat default).2).getD s57_369.toNat default).1, (((a0.2.getD s25_132.toNat default).2).getD s57_369.toNat default).2, x399.2, (s57_369 + (1 : Int)))))))) else Go.L.chk (Go.L.I64 ((1 : Int) + (((a0.2.getD s25_132.toNat default).2).getD s57_369.toNat default).1)) (Go.L.chk (Go.L.I64 (((1 : Int) + (((a0.2.getD s25_132.toNat default).2).getD s57_369.toNat default).1) - c364)) (Option.bind (words_Index_Bytes_1C (((1 : Int) + (((a0.2.getD s25_132.toNat default).2).getD s57_369.toNat default).1) - c364) ((), l368)) (fun x385 => Go.L.chk (Go.L.I64 ((((a0.2.getD s25_132.toNat default).2).getD s57_369.toNat default).2 + (1 : Int))) (Option.bind (words_Index_Bytes_1C ((((a0.2.getD s25_132.toNat default).2).getD s57_369.toNat default).2 + (1 : Int)) ((), x385.2)) (fun x388 => Go.L.chk (Go.L.I64 (s57_369 + (1 : Int))) (some (Sum.inl ((((a0.2.getD s25_132.toNat default).2).getD s57_369.toNat default).1, (((a0.2.getD s25_132.toNat default).2).getD s57_369.toNat default).2, x388.2, (s57_369 + (1 : Int))))))))))) else Option.map Sum.inr ((words_Index_numbers_s2_k2C s25_132) l368)
theorem words_Index_numbers_s2_bl5_ap : ∀ a0 s25_132, ∀ s, Go.L.Ap (words_Index_numbers_s2_bl5C a0 s25_132 s) (words_Index_numbers_s2_bl5 a0 s25_132 s) := by
 intro a0 s25_132 s
 obtain ⟨c364, c365, l368, s57_369⟩ := s
 unfold words_Index_numbers_s2_bl5C words_Index_numbers_s2_bl5
 with_reducible repeat (first | exact apR _ | refine apB ?_ fun _ => ?_ | refine apC ?_ | refine apI ?_ ?_ | refine apM ?_ | refine apO ?_ fun _ => ?_ | exact words_Index_Bytes_1_ap _ _ | exact words_Index_numbers_s2_k2_ap _ _)
noncomputable def words_Index_numbers_s2_l5C : type_of% @words_Index_numbers_s2_l5 := fun a0 s25_132 s => Go.L.itr (words_Index_numbers_s2_bl5C a0 s25_132) 200 s
theorem words_Index_numbers_s2_l5_ap : ∀ a0 s25_132 s, Go.L.Ap (words_Index_numbers_s2_l5C a0 s25_132 s) (words_Index_numbers_s2_l5 a0 s25_132 s) := fun a0 s25_132 s => Go.L.Ap.run (fun s => words_Index_numbers_s2_bl5_ap a0 s25_132 s) 200 s
noncomputable def words_Index_numbers_s2_k3C : type_of% @words_Index_numbers_s2_k3 := fun a0 s25_132 l294 => 
 Option.bind (words_Index_Bytes_1C (((a0.2.getD s25_132.toNat default).2).length : Int) ((), l294)) (fun x331 => (words_Index_numbers_s2_l5C a0 s25_132) ((0 : Int), (-1 : Int), x331.2, (0 : Int)))
theorem words_Index_numbers_s2_k3_ap : ∀ a0 s25_132 l294, Go.L.Ap (words_Index_numbers_s2_k3C a0 s25_132 l294) (words_Index_numbers_s2_k3 a0 s25_132 l294) := by
 intro a0 s25_132 l294
 unfold words_Index_numbers_s2_k3C words_Index_numbers_s2_k3
 with_reducible repeat (first | exact apR _ | refine apB ?_ fun _ => ?_ | refine apC ?_ | refine apI ?_ ?_ | refine apM ?_ | refine apO ?_ fun _ => ?_ | exact words_Index_Bytes_1_ap _ _ | exact words_Index_numbers_s2_l5_ap _ _ _)
noncomputable def words_Index_numbers_s2_bl4C : type_of% @words_Index_numbers_s2_bl4 := fun a0 s25_132 => fun ⟨l311, s38_312⟩ =>
 if s38_312 < (((a0.2.getD s25_132.toNat default).1).length : Int) then Go.L.chk (0 ≤ s38_312 ∧ s38_312 < (((a0.2.getD s25_132.toNat default).1).length : Int)) (Go.L.chk (Go.L.I64 (((((a0.2.getD s25_132.toNat default).1).getD s38_312.toNat default).toNat : Int) + (1 : Int))) (Option.bind (words_Index_Bytes_1C (((((a0.2.getD s25_132.toNat default).1).getD s38_312.toNat default).toNat : Int) + (1 : Int)) ((), l311)) (fun x323 => Go.L.chk (Go.L.I64 (s38_312 + (1 : Int))) (some (Sum.inl (x323.2, (s38_312 + (1 : Int)))))))) else Option.map Sum.inr ((words_Index_numbers_s2_k3C a0 s25_132) l311)
theorem words_Index_numbers_s2_bl4_ap : ∀ a0 s25_132, ∀ s, Go.L.Ap (words_Index_numbers_s2_bl4C a0 s25_132 s) (words_Index_numbers_s2_bl4 a0 s25_132 s) := by
 intro a0 s25_132 s
 obtain ⟨l311, s38_312⟩ := s
 unfold words_Index_numbers_s2_bl4C words_Index_numbers_s2_bl4
 with_reducible repeat (first | exact apR _ | refine apB ?_ fun _ => ?_ | refine apC ?_ | refine apI ?_ ?_ | refine apM ?_ | refine apO ?_ fun _ => ?_ | exact words_Index_Bytes_1_ap _ _ | exact words_Index_numbers_s2_k3_ap _ _ _)
noncomputable def words_Index_numbers_s2_l4C : type_of% @words_Index_numbers_s2_l4 := fun a0 s25_132 s => Go.L.itr (words_Index_numbers_s2_bl4C a0 s25_132) 200 s
theorem words_Index_numbers_s2_l4_ap : ∀ a0 s25_132 s, Go.L.Ap (words_Index_numbers_s2_l4C a0 s25_132 s) (words_Index_numbers_s2_l4 a0 s25_132 s) := fun a0 s25_132 s => Go.L.Ap.run (fun s => words_Index_numbers_s2_bl4_ap a0 s25_132 s) 200 s
noncomputable def words_Index_numbers_s2_bl1C : type_of% @words_Index_numbers_s2_bl1 := fun a0 => fun ⟨l131, s25_132⟩ =>
 if s25_132 < (a0.2.length : Int) then Go.L.chk (0 ≤ s25_132 ∧ s25_132 < (a0.2.length : Int)) (Option.bind (words_Index_Bytes_1C (((a0.2.getD s25_132.toNat default).1).length : Int) ((), l131)) (fun x261 => Go.L.chk (((a0.2.getD s25_132.toNat default).1).length ≤ 9223372036854775807) ((words_Index_numbers_s2_l4C a0 s25_132) (x261.2, (0 : Int))))) else Option.map Sum.inr (some (((), l131)))
theorem words_Index_numbers_s2_bl1_ap : ∀ a0, ∀ s, Go.L.Ap (words_Index_numbers_s2_bl1C a0 s) (words_Index_numbers_s2_bl1 a0 s) := by
 intro a0 s
 obtain ⟨l131, s25_132⟩ := s
 unfold words_Index_numbers_s2_bl1C words_Index_numbers_s2_bl1
 with_reducible repeat (first | exact apR _ | refine apB ?_ fun _ => ?_ | refine apC ?_ | refine apI ?_ ?_ | refine apM ?_ | refine apO ?_ fun _ => ?_ | exact words_Index_Bytes_1_ap _ _ | exact words_Index_numbers_s2_l4_ap _ _ _)
noncomputable def words_Index_numbers_s2_l1C : type_of% @words_Index_numbers_s2_l1 := fun a0 s => Go.L.itr (words_Index_numbers_s2_bl1C a0) 200 s
theorem words_Index_numbers_s2_l1_ap : ∀ a0 s, Go.L.Ap (words_Index_numbers_s2_l1C a0 s) (words_Index_numbers_s2_l1 a0 s) := fun a0 s => Go.L.Ap.run (fun s => words_Index_numbers_s2_bl1_ap a0 s) 200 s
noncomputable def words_Index_numbers_s2C : type_of% @words_Index_numbers_s2 := fun a0 a1_c0 => 
 Go.L.chk (Go.L.I64 (a0.1 + (1 : Int))) (Option.bind (words_Index_Bytes_1C (a0.1 + (1 : Int)) ((), a1_c0.2)) (fun x4 => Go.L.chk (Go.L.I64 ((a0.2.length : Int) + (1 : Int))) (Option.bind (words_Index_Bytes_1C ((a0.2.length : Int) + (1 : Int)) ((), x4.2)) (fun x7 => (words_Index_numbers_s2_l1C a0) (x7.2, (0 : Int))))))
theorem words_Index_numbers_s2_ap : ∀ a0 a1_c0, Go.L.Ap (words_Index_numbers_s2C a0 a1_c0) (words_Index_numbers_s2 a0 a1_c0) := by
 intro a0 a1_c0
 unfold words_Index_numbers_s2C words_Index_numbers_s2
 with_reducible repeat (first | exact apR _ | refine apB ?_ fun _ => ?_ | refine apC ?_ | refine apI ?_ ?_ | refine apM ?_ | refine apO ?_ fun _ => ?_ | exact words_Index_Bytes_1_ap _ _ | exact words_Index_numbers_s2_l1_ap _ _)
noncomputable def bits_put_k1C : type_of% @bits_put_k1 := fun a0 a1 l12 => 
 Go.L.chk (0 ≤ a0.2 ∧ a0.2 ≤ 9223372036854775807 ∧ 0 < (8 : Int)) (Go.L.chk (0 ≤ (a0.2 / (8 : Int)) ∧ (a0.2 / (8 : Int)) < (l12.length : Int)) (Go.L.chk (0 ≤ a0.2 ∧ a0.2 ≤ 9223372036854775807 ∧ 0 < (8 : Int)) (Go.L.chk (Go.L.I64 ((7 : Int) - (a0.2 % (8 : Int)))) (Go.L.chk ((0 ≤ ((7 : Int) - (a0.2 % (8 : Int))) ∧ ((7 : Int) - (a0.2 % (8 : Int))) ≤ 63) ∧ Go.L.I64 (a1 * 2 ^ ((7 : Int) - (a0.2 % (8 : Int))).toNat)) (Go.L.chk (0 ≤ (a0.2 / (8 : Int)) ∧ (a0.2 / (8 : Int)) < (l12.length : Int)) (Go.L.chk (Go.L.I64 (a0.2 + (1 : Int))) (some (((l12.set ((a0.2 / (8 : Int)).toNat) (l12.getD ((a0.2 / (8 : Int)).toNat) default ||| (Go.L.u8 (a1 * 2 ^ ((7 : Int) - (a0.2 % (8 : Int))).toNat)))), (a0.2 + (1 : Int)))))))))))
theorem bits_put_k1_ap : ∀ a0 a1 l12, Go.L.Ap (bits_put_k1C a0 a1 l12) (bits_put_k1 a0 a1 l12) := by
 intro a0 a1 l12
 unfold bits_put_k1C bits_put_k1
 with_reducible repeat (first | exact apR _ | refine apB ?_ fun _ => ?_ | refine apC ?_ | refine apI ?_ ?_ | refine apM ?_ | refine apO ?_ fun _ => ?_)
noncomputable def bits_putC : type_of% @bits_put := fun a0 a1 => 
 Go.L.chk (0 ≤ a0.2 ∧ a0.2 ≤ 9223372036854775807 ∧ 0 < (8 : Int)) (if (a0.2 % (8 : Int)) = (0 : Int) then Go.L.chk (Go.E.Cap 1 (a0.1.length + ([(0 : UInt8)]).length)) ((bits_put_k1C a0 a1) (a0.1 ++ [(0 : UInt8)])) else (bits_put_k1C a0 a1) a0.1)
theorem bits_put_ap : ∀ a0 a1, Go.L.Ap (bits_putC a0 a1) (bits_put a0 a1) := by
 intro a0 a1
 unfold bits_putC bits_put
 with_reducible repeat (first | exact apR _ | refine apB ?_ fun _ => ?_ | refine apC ?_ | refine apI ?_ ?_ | refine apM ?_ | refine apO ?_ fun _ => ?_ | exact bits_put_k1_ap _ _ _)
noncomputable def bits_Make_k1C : type_of% @bits_Make_k1 := fun c87 l88 => 
 some ((l88, c87), ((0 : Int), (0 : Int)))
theorem bits_Make_k1_ap : ∀ c87 l88, Go.L.Ap (bits_Make_k1C c87 l88) (bits_Make_k1 c87 l88) := by
 intro c87 l88
 unfold bits_Make_k1C bits_Make_k1
 with_reducible repeat (first | exact apR _ | refine apB ?_ fun _ => ?_ | refine apC ?_ | refine apI ?_ ?_ | refine apM ?_ | refine apO ?_ fun _ => ?_)
noncomputable def bits_Make_bl2C : type_of% @bits_Make_bl2 := fun a0 => fun ⟨c128, l129, s13_130⟩ =>
 if s13_130 < (a0.length : Int) then Go.L.chk (0 ≤ s13_130 ∧ s13_130 < (a0.length : Int)) (if ((a0.getD s13_130.toNat default).toNat : Int) = 48 then Go.L.chk (0 ≤ s13_130 ∧ s13_130 < (a0.length : Int)) (Option.bind (bits_putC (l129, c128) (((a0.getD s13_130.toNat default) - (48 : UInt8)).toNat : Int)) (fun x162 => Go.L.chk (Go.L.I64 (s13_130 + (1 : Int))) (some (Sum.inl (x162.2, x162.1, (s13_130 + (1 : Int))))))) else Go.L.chk (0 ≤ s13_130 ∧ s13_130 < (a0.length : Int)) (if ((a0.getD s13_130.toNat default).toNat : Int) = 49 then Go.L.chk (0 ≤ s13_130 ∧ s13_130 < (a0.length : Int)) (Option.bind (bits_putC (l129, c128) (((a0.getD s13_130.toNat default) - (48 : UInt8)).toNat : Int)) (fun x152 => Go.L.chk (Go.L.I64 (s13_130 + (1 : Int))) (some (Sum.inl (x152.2, x152.1, (s13_130 + (1 : Int))))))) else Option.bind (bits_faultC (6 : Int) s13_130) (fun x142 => Option.map Sum.inr (some (([], (0 : Int)), (x142.1, x142.2)))))) else Option.map Sum.inr (bits_Make_k1C c128 l129)
theorem bits_Make_bl2_ap : ∀ a0, ∀ s, Go.L.Ap (bits_Make_bl2C a0 s) (bits_Make_bl2 a0 s) := by
 intro a0 s
 obtain ⟨c128, l129, s13_130⟩ := s
 unfold bits_Make_bl2C bits_Make_bl2
 with_reducible repeat (first | exact apR _ | refine apB ?_ fun _ => ?_ | refine apC ?_ | refine apI ?_ ?_ | refine apM ?_ | refine apO ?_ fun _ => ?_ | exact bits_Make_k1_ap _ _ | exact bits_fault_ap _ _ | exact bits_put_ap _ _)
noncomputable def bits_Make_l2C : type_of% @bits_Make_l2 := fun a0 s => Go.L.itr (bits_Make_bl2C a0) 200 s
theorem bits_Make_l2_ap : ∀ a0 s, Go.L.Ap (bits_Make_l2C a0 s) (bits_Make_l2 a0 s) := fun a0 s => Go.L.Ap.run (fun s => bits_Make_bl2_ap a0 s) 200 s
noncomputable def bits_MakeC : type_of% @bits_Make := fun a0 => 
 if (131072 : Int) < (a0.length : Int) then Option.bind (bits_faultC (3 : Int) (-1 : Int)) (fun x5 => some (([], (0 : Int)), (x5.1, x5.2))) else (bits_Make_l2C a0) ((0 : Int), ([] : List UInt8), (0 : Int))
theorem bits_Make_ap : ∀ a0, Go.L.Ap (bits_MakeC a0) (bits_Make a0) := by
 intro a0
 unfold bits_MakeC bits_Make
 with_reducible repeat (first | exact apR _ | refine apB ?_ fun _ => ?_ | refine apC ?_ | refine apI ?_ ?_ | refine apM ?_ | refine apO ?_ fun _ => ?_ | exact bits_Make_l2_ap _ _ | exact bits_fault_ap _ _)
noncomputable def words_Index_BytesC : type_of% @words_Index_Bytes := fun a0 => 
 Option.bind (words_Index_numbers_s2C (a0.1, a0.2) ((), ([] : List UInt8))) (fun x5 => Go.L.chk (x5.2 ≠ []) (Option.bind (bits_MakeC x5.2) (fun x9 => some (x9.1.1))))
theorem words_Index_Bytes_ap : ∀ a0, Go.L.Ap (words_Index_BytesC a0) (words_Index_Bytes a0) := by
 intro a0
 unfold words_Index_BytesC words_Index_Bytes
 with_reducible repeat (first | exact apR _ | refine apB ?_ fun _ => ?_ | refine apC ?_ | refine apI ?_ ?_ | refine apM ?_ | refine apO ?_ fun _ => ?_ | exact bits_Make_ap _ | exact words_Index_numbers_s2_ap _ _)
noncomputable def bytes_EqualC : type_of% @bytes_Equal := fun a0 a1 => 
 some (decide (a0 = a1))
theorem bytes_Equal_ap : ∀ a0 a1, Go.L.Ap (bytes_EqualC a0 a1) (bytes_Equal a0 a1) := by
 intro a0 a1
 unfold bytes_EqualC bytes_Equal
 with_reducible repeat (first | exact apR _ | refine apB ?_ fun _ => ?_ | refine apC ?_ | refine apI ?_ ?_ | refine apM ?_ | refine apO ?_ fun _ => ?_)
noncomputable def words_Open_1_yes_s2C : type_of% @words_Open_1_yes_s2 := fun _a0 _a1 => 
 Option.bind (words_faultC (16 : Int) (-1 : Int)) (fun x1 => some (((0 : Int), []), (x1.1, x1.2)))
theorem words_Open_1_yes_s2_ap : ∀ _a0 _a1, Go.L.Ap (words_Open_1_yes_s2C _a0 _a1) (words_Open_1_yes_s2 _a0 _a1) := by
 intro _a0 _a1
 unfold words_Open_1_yes_s2C words_Open_1_yes_s2
 with_reducible repeat (first | exact apR _ | refine apB ?_ fun _ => ?_ | refine apC ?_ | refine apI ?_ ?_ | refine apM ?_ | refine apO ?_ fun _ => ?_ | exact words_fault_ap _ _)
noncomputable def words_Open_1_noC : type_of% @words_Open_1_no := fun a0 a1 => 
 some ((a0.1, a0.2), (a1.1, a1.2))
theorem words_Open_1_no_ap : ∀ a0 a1, Go.L.Ap (words_Open_1_noC a0 a1) (words_Open_1_no a0 a1) := by
 intro a0 a1
 unfold words_Open_1_noC words_Open_1_no
 with_reducible repeat (first | exact apR _ | refine apB ?_ fun _ => ?_ | refine apC ?_ | refine apI ?_ ?_ | refine apM ?_ | refine apO ?_ fun _ => ?_)
noncomputable def words_Open_k5C : type_of% @words_Open_k5 := fun y22 l252 => 
 Option.bind (words_Open_1_noC (y22.1.1, l252) ((0 : Int), (0 : Int))) (fun x270 => some ((x270.1.1, x270.1.2), (x270.2.1, x270.2.2)))
theorem words_Open_k5_ap : ∀ y22 l252, Go.L.Ap (words_Open_k5C y22 l252) (words_Open_k5 y22 l252) := by
 intro y22 l252
 unfold words_Open_k5C words_Open_k5
 with_reducible repeat (first | exact apR _ | refine apB ?_ fun _ => ?_ | refine apC ?_ | refine apI ?_ ?_ | refine apM ?_ | refine apO ?_ fun _ => ?_ | exact words_Open_1_no_ap _ _)
noncomputable def words_Open_k1C : type_of% @words_Open_k1 := fun a0 y22 _l110 => 
 Option.bind (words_Index_BytesC (y22.1.1, y22.1.2)) (fun x256 => Option.bind (bytes_EqualC x256 a0) (fun x258 => if !x258 then Option.bind (words_Open_1_yes_s2C (y22.1.1, y22.1.2) ((0 : Int), (0 : Int))) (fun x263 => some ((x263.1.1, x263.1.2), (x263.2.1, x263.2.2))) else (words_Open_k5C y22) y22.1.2))
theorem words_Open_k1_ap : ∀ a0 y22 _l110, Go.L.Ap (words_Open_k1C a0 y22 _l110) (words_Open_k1 a0 y22 _l110) := by
 intro a0 y22 _l110
 unfold words_Open_k1C words_Open_k1
 with_reducible repeat (first | exact apR _ | refine apB ?_ fun _ => ?_ | refine apC ?_ | refine apI ?_ ?_ | refine apM ?_ | refine apO ?_ fun _ => ?_ | exact bytes_Equal_ap _ _ | exact words_Index_Bytes_ap _ | exact words_Open_1_yes_s2_ap _ _ | exact words_Open_k5_ap _ _)
noncomputable def words_Open_bl2C : type_of% @words_Open_bl2 := fun a0 y22 => fun ⟨l154, s30_155⟩ =>
 if s30_155 < (y22.1.2.length : Int) then Go.L.chk (0 ≤ s30_155 ∧ s30_155 < (y22.1.2.length : Int)) ((words_Open_l4C s30_155 y22) (l154, (0 : Int))) else Option.map Sum.inr ((words_Open_k1C a0 y22) l154)
theorem words_Open_bl2_ap : ∀ a0 y22, ∀ s, Go.L.Ap (words_Open_bl2C a0 y22 s) (words_Open_bl2 a0 y22 s) := by
 intro a0 y22 s
 obtain ⟨l154, s30_155⟩ := s
 unfold words_Open_bl2C words_Open_bl2
 with_reducible repeat (first | exact apR _ | refine apB ?_ fun _ => ?_ | refine apC ?_ | refine apI ?_ ?_ | refine apM ?_ | refine apO ?_ fun _ => ?_ | exact words_Open_k1_ap _ _ _ | exact words_Open_l4_ap _ _ _)
noncomputable def words_Open_l2C : type_of% @words_Open_l2 := fun a0 y22 s => Go.L.itr (words_Open_bl2C a0 y22) 200 s
theorem words_Open_l2_ap : ∀ a0 y22 s, Go.L.Ap (words_Open_l2C a0 y22 s) (words_Open_l2 a0 y22 s) := fun a0 y22 s => Go.L.Ap.run (fun s => words_Open_bl2_ap a0 y22 s) 200 s
noncomputable def words_OpenC : type_of% @words_Open := fun a0 => 
 if (16384 : Int) < (a0.length : Int) then Option.bind (words_faultC (3 : Int) (-1 : Int)) (fun x5 => some (((0 : Int), []), (x5.1, x5.2))) else Option.bind (slices_Clone_byte_byteC a0) (fun x10 => Go.L.chk (Go.L.I64 ((8 : Int) * (a0.length : Int))) (Option.bind (words_reader_indexC ((x10, ((8 : Int) * (a0.length : Int))), (0 : Int))) (fun x14 => Go.L.onX x14 (Option.bind (words_Open_1_yesC ((0 : Int), ([] : List ((List UInt8) × (List (Int × Int))))) ((0 : Int), (0 : Int))) (fun x20 => some ((x20.1.1, x20.1.2), (x20.2.1, x20.2.2)))) (fun y22 => (words_Open_l2C a0 y22) (([] : List ((Int × Int) × Bool)), (0 : Int))))))
theorem words_Open_ap : ∀ a0, Go.L.Ap (words_OpenC a0) (words_Open a0) := by
 intro a0
 unfold words_OpenC words_Open
 with_reducible repeat (first | exact apR _ | refine apB ?_ fun _ => ?_ | refine apC ?_ | refine apI ?_ ?_ | refine apM ?_ | refine apO ?_ fun _ => ?_ | exact slices_Clone_byte_byte_ap _ | exact words_Open_1_yes_ap _ _ | exact words_Open_l2_ap _ _ _ | exact words_fault_ap _ _ | exact words_reader_index_ap _)
noncomputable def ref4_SameHits_k1C : type_of% @ref4_SameHits_k1 := 
 some (true)
theorem ref4_SameHits_k1_ap : Go.L.Ap (ref4_SameHits_k1C) (ref4_SameHits_k1) := by
 unfold ref4_SameHits_k1C ref4_SameHits_k1
 with_reducible repeat (first | exact apR _ | refine apB ?_ fun _ => ?_ | refine apC ?_ | refine apI ?_ ?_ | refine apM ?_ | refine apO ?_ fun _ => ?_)
noncomputable def ref4_SameHits_bl2C : type_of% @ref4_SameHits_bl2 := fun a0 a1 => fun s5_40 =>
 if s5_40 < (a0.length : Int) then Go.L.chk (0 ≤ s5_40 ∧ s5_40 < (a0.length : Int)) (Go.L.chk (0 ≤ s5_40 ∧ s5_40 < (a1.length : Int)) (if (a0.getD s5_40.toNat default).1 = (a1.getD s5_40.toNat default).1 ∧ (a0.getD s5_40.toNat default).2 = (a1.getD s5_40.toNat default).2 then Go.L.chk (Go.L.I64 (s5_40 + (1 : Int))) (some (Sum.inl (s5_40 + (1 : Int)))) else Option.map Sum.inr (some (false)))) else Option.map Sum.inr (ref4_SameHits_k1C)
theorem ref4_SameHits_bl2_ap : ∀ a0 a1, ∀ s, Go.L.Ap (ref4_SameHits_bl2C a0 a1 s) (ref4_SameHits_bl2 a0 a1 s) := by
 intro a0 a1 s
 unfold ref4_SameHits_bl2C ref4_SameHits_bl2
 with_reducible repeat (first | exact apR _ | refine apB ?_ fun _ => ?_ | refine apC ?_ | refine apI ?_ ?_ | refine apM ?_ | refine apO ?_ fun _ => ?_ | exact ref4_SameHits_k1_ap)
noncomputable def ref4_SameHits_l2C : type_of% @ref4_SameHits_l2 := fun a0 a1 s => Go.L.itr (ref4_SameHits_bl2C a0 a1) 200 s
theorem ref4_SameHits_l2_ap : ∀ a0 a1 s, Go.L.Ap (ref4_SameHits_l2C a0 a1 s) (ref4_SameHits_l2 a0 a1 s) := fun a0 a1 s => Go.L.Ap.run (fun s => ref4_SameHits_bl2_ap a0 a1 s) 200 s
noncomputable def ref4_SameHitsC : type_of% @ref4_SameHits := fun a0 a1 => 
 if (a0.length : Int) = (a1.length : Int) then (ref4_SameHits_l2C a0 a1) (0 : Int) else some (false)
theorem ref4_SameHits_ap : ∀ a0 a1, Go.L.Ap (ref4_SameHitsC a0 a1) (ref4_SameHits a0 a1) := by
 intro a0 a1
 unfold ref4_SameHitsC ref4_SameHits
 with_reducible repeat (first | exact apR _ | refine apB ?_ fun _ => ?_ | refine apC ?_ | refine apI ?_ ?_ | refine apM ?_ | refine apO ?_ fun _ => ?_ | exact ref4_SameHits_l2_ap _ _ _)
noncomputable def ref3_Ints_k1C : type_of% @ref3_Ints_k1 := 
 some (true)
theorem ref3_Ints_k1_ap : Go.L.Ap (ref3_Ints_k1C) (ref3_Ints_k1) := by
 unfold ref3_Ints_k1C ref3_Ints_k1
 with_reducible repeat (first | exact apR _ | refine apB ?_ fun _ => ?_ | refine apC ?_ | refine apI ?_ ?_ | refine apM ?_ | refine apO ?_ fun _ => ?_)
noncomputable def ref3_Ints_bl2C : type_of% @ref3_Ints_bl2 := fun a0 a1 => fun s5_40 =>
 if s5_40 < (a0.length : Int) then Go.L.chk (0 ≤ s5_40 ∧ s5_40 < (a0.length : Int)) (Go.L.chk (0 ≤ s5_40 ∧ s5_40 < (a1.length : Int)) (if a0.getD s5_40.toNat default = a1.getD s5_40.toNat default then Go.L.chk (Go.L.I64 (s5_40 + (1 : Int))) (some (Sum.inl (s5_40 + (1 : Int)))) else Option.map Sum.inr (some (false)))) else Option.map Sum.inr (ref3_Ints_k1C)
theorem ref3_Ints_bl2_ap : ∀ a0 a1, ∀ s, Go.L.Ap (ref3_Ints_bl2C a0 a1 s) (ref3_Ints_bl2 a0 a1 s) := by
 intro a0 a1 s
 unfold ref3_Ints_bl2C ref3_Ints_bl2
 with_reducible repeat (first | exact apR _ | refine apB ?_ fun _ => ?_ | refine apC ?_ | refine apI ?_ ?_ | refine apM ?_ | refine apO ?_ fun _ => ?_ | exact ref3_Ints_k1_ap)
noncomputable def ref3_Ints_l2C : type_of% @ref3_Ints_l2 := fun a0 a1 s => Go.L.itr (ref3_Ints_bl2C a0 a1) 200 s
theorem ref3_Ints_l2_ap : ∀ a0 a1 s, Go.L.Ap (ref3_Ints_l2C a0 a1 s) (ref3_Ints_l2 a0 a1 s) := fun a0 a1 s => Go.L.Ap.run (fun s => ref3_Ints_bl2_ap a0 a1 s) 200 s
noncomputable def ref3_IntsC : type_of% @ref3_Ints := fun a0 a1 => 
 if (a0.length : Int) = (a1.length : Int) then (ref3_Ints_l2C a0 a1) (0 : Int) else some (false)
theorem ref3_Ints_ap : ∀ a0 a1, Go.L.Ap (ref3_IntsC a0 a1) (ref3_Ints a0 a1) := by
 intro a0 a1
 unfold ref3_IntsC ref3_Ints
 with_reducible repeat (first | exact apR _ | refine apB ?_ fun _ => ?_ | refine apC ?_ | refine apI ?_ ?_ | refine apM ?_ | refine apO ?_ fun _ => ?_ | exact ref3_Ints_l2_ap _ _ _)
noncomputable def words_Index_Words_k1C : type_of% @words_Index_Words_k1 := fun l30 => 
 some (l30)
theorem words_Index_Words_k1_ap : ∀ l30, Go.L.Ap (words_Index_Words_k1C l30) (words_Index_Words_k1 l30) := by
 intro l30
 unfold words_Index_Words_k1C words_Index_Words_k1
 with_reducible repeat (first | exact apR _ | refine apB ?_ fun _ => ?_ | refine apC ?_ | refine apI ?_ ?_ | refine apM ?_ | refine apO ?_ fun _ => ?_)
noncomputable def words_Index_Words_bl2C : type_of% @words_Index_Words_bl2 := fun a0 => fun ⟨l45, s9_46⟩ =>
 if s9_46 < (a0.2.length : Int) then Go.L.chk (0 ≤ s9_46 ∧ s9_46 < (a0.2.length : Int)) (Go.L.chk (Go.E.Cap 16 (l45.length + ([(a0.2.getD s9_46.toNat default).1]).length)) (Go.L.chk (Go.L.I64 (s9_46 + (1 : Int))) (some (Sum.inl ((l45 ++ [(a0.2.getD s9_46.toNat default).1]), (s9_46 + (1 : Int))))))) else Option.map Sum.inr (words_Index_Words_k1C l45)
theorem words_Index_Words_bl2_ap : ∀ a0, ∀ s, Go.L.Ap (words_Index_Words_bl2C a0 s) (words_Index_Words_bl2 a0 s) := by
 intro a0 s
 obtain ⟨l45, s9_46⟩ := s
 unfold words_Index_Words_bl2C words_Index_Words_bl2
 with_reducible repeat (first | exact apR _ | refine apB ?_ fun _ => ?_ | refine apC ?_ | refine apI ?_ ?_ | refine apM ?_ | refine apO ?_ fun _ => ?_ | exact words_Index_Words_k1_ap _)
noncomputable def words_Index_Words_l2C : type_of% @words_Index_Words_l2 := fun a0 s => Go.L.itr (words_Index_Words_bl2C a0) 200 s
theorem words_Index_Words_l2_ap : ∀ a0 s, Go.L.Ap (words_Index_Words_l2C a0 s) (words_Index_Words_l2 a0 s) := fun a0 s => Go.L.Ap.run (fun s => words_Index_Words_bl2_ap a0 s) 200 s
noncomputable def words_Index_WordsC : type_of% @words_Index_Words := fun a0 => 
 (words_Index_Words_l2C a0) (([] : List (List UInt8)), (0 : Int))
theorem words_Index_Words_ap : ∀ a0, Go.L.Ap (words_Index_WordsC a0) (words_Index_Words a0) := by
 intro a0
 unfold words_Index_WordsC words_Index_Words
 with_reducible repeat (first | exact apR _ | refine apB ?_ fun _ => ?_ | refine apC ?_ | refine apI ?_ ?_ | refine apM ?_ | refine apO ?_ fun _ => ?_ | exact words_Index_Words_l2_ap _ _)
noncomputable def ref4_Texts_k1C : type_of% @ref4_Texts_k1 := 
 some (true)
theorem ref4_Texts_k1_ap : Go.L.Ap (ref4_Texts_k1C) (ref4_Texts_k1) := by
 unfold ref4_Texts_k1C ref4_Texts_k1
 with_reducible repeat (first | exact apR _ | refine apB ?_ fun _ => ?_ | refine apC ?_ | refine apI ?_ ?_ | refine apM ?_ | refine apO ?_ fun _ => ?_)
noncomputable def ref4_Texts_bl2C : type_of% @ref4_Texts_bl2 := fun a0 a1 => fun s5_40 =>
 if s5_40 < (a0.length : Int) then Go.L.chk (0 ≤ s5_40 ∧ s5_40 < (a0.length : Int)) (Go.L.chk (0 ≤ s5_40 ∧ s5_40 < (a1.length : Int)) (if a0.getD s5_40.toNat default = a1.getD s5_40.toNat default then Go.L.chk (Go.L.I64 (s5_40 + (1 : Int))) (some (Sum.inl (s5_40 + (1 : Int)))) else Option.map Sum.inr (some (false)))) else Option.map Sum.inr (ref4_Texts_k1C)
theorem ref4_Texts_bl2_ap : ∀ a0 a1, ∀ s, Go.L.Ap (ref4_Texts_bl2C a0 a1 s) (ref4_Texts_bl2 a0 a1 s) := by
 intro a0 a1 s
 unfold ref4_Texts_bl2C ref4_Texts_bl2
 with_reducible repeat (first | exact apR _ | refine apB ?_ fun _ => ?_ | refine apC ?_ | refine apI ?_ ?_ | refine apM ?_ | refine apO ?_ fun _ => ?_ | exact ref4_Texts_k1_ap)
noncomputable def ref4_Texts_l2C : type_of% @ref4_Texts_l2 := fun a0 a1 s => Go.L.itr (ref4_Texts_bl2C a0 a1) 200 s
theorem ref4_Texts_l2_ap : ∀ a0 a1 s, Go.L.Ap (ref4_Texts_l2C a0 a1 s) (ref4_Texts_l2 a0 a1 s) := fun a0 a1 s => Go.L.Ap.run (fun s => ref4_Texts_bl2_ap a0 a1 s) 200 s
noncomputable def ref4_TextsC : type_of% @ref4_Texts := fun a0 a1 => 
 if (a0.length : Int) = (a1.length : Int) then (ref4_Texts_l2C a0 a1) (0 : Int) else some (false)
theorem ref4_Texts_ap : ∀ a0 a1, Go.L.Ap (ref4_TextsC a0 a1) (ref4_Texts a0 a1) := by
 intro a0 a1
 unfold ref4_TextsC ref4_Texts
 with_reducible repeat (first | exact apR _ | refine apB ?_ fun _ => ?_ | refine apC ?_ | refine apI ?_ ?_ | refine apM ?_ | refine apO ?_ fun _ => ?_ | exact ref4_Texts_l2_ap _ _ _)
noncomputable def words_Index_ItemsC : type_of% @words_Index_Items := fun a0 => 
 some (a0.1)
theorem words_Index_Items_ap : ∀ a0, Go.L.Ap (words_Index_ItemsC a0) (words_Index_Items a0) := by
 intro a0
 unfold words_Index_ItemsC words_Index_Items
 with_reducible repeat (first | exact apR _ | refine apB ?_ fun _ => ?_ | refine apC ?_ | refine apI ?_ ?_ | refine apM ?_ | refine apO ?_ fun _ => ?_)
noncomputable def ref3_AtC : type_of% @ref3_At := fun a0 a1 => 
 some ((a0, a1))
theorem ref3_At_ap : ∀ a0 a1, Go.L.Ap (ref3_AtC a0 a1) (ref3_At a0 a1) := by
 intro a0 a1
 unfold ref3_AtC ref3_At
 with_reducible repeat (first | exact apR _ | refine apB ?_ fun _ => ?_ | refine apC ?_ | refine apI ?_ ?_ | refine apM ?_ | refine apO ?_ fun _ => ?_)
noncomputable def law4_speaksC : type_of% @law4_speaks := 
 Go.L.chk ([(84 : UInt8), (104 : UInt8), (101 : UInt8), (32 : UInt8), (50 : UInt8), (110 : UInt8), (100 : UInt8), (45 : UInt8), (100 : UInt8), (97 : UInt8), (121 : UInt8)] ≠ []) (Option.bind (words_SplitC ([(84 : UInt8), (104 : UInt8), (101 : UInt8), (32 : UInt8), (50 : UInt8), (110 : UInt8), (100 : UInt8), (45 : UInt8), (100 : UInt8), (97 : UInt8), (121 : UInt8)])) (fun x4 => Go.L.chk ([(97 : UInt8), (32 : UInt8), (98 : UInt8), (32 : UInt8), (65 : UInt8), (32 : UInt8), (98 : UInt8)] ≠ []) (Go.L.chk ([(98 : UInt8), (32 : UInt8), (97 : UInt8)] ≠ []) (Option.bind (words_BuildC ([[(97 : UInt8), (32 : UInt8), (98 : UInt8), (32 : UInt8), (65 : UInt8), (32 : UInt8), (98 : UInt8)], [(98 : UInt8), (32 : UInt8), (97 : UInt8)]])) (fun x15 => Option.bind (words_Index_PhraseC (x15.1.1, x15.1.2) ([([97] : List UInt8), ([98] : List UInt8)])) (fun x22 => Option.bind (words_Index_NearC (x15.1.1, x15.1.2) ([98] : List UInt8) ([98] : List UInt8) (2 : Int)) (fun x27 => Option.bind (words_Index_NearC (x15.1.1, x15.1.2) ([98] : List UInt8) ([98] : List UInt8) (1 : Int)) (fun x31 => Option.bind (words_OpenC ([(192 : UInt8)])) (fun x36 => if x4.2.1 = (0 : Int) then if x15.2.1 = (0 : Int) then if x22.2.1 = (0 : Int) then if x27.2.1 = (0 : Int) then if x31.2.1 = (0 : Int) then if x36.2.1 = (0 : Int) then if (x4.1.length : Int) = (3 : Int) then Go.L.chk (0 ≤ (1 : Int) ∧ (1 : Int) < (x4.1.length : Int)) (if (x4.1.getD ((1 : Int).toNat) default).1 = ([50, 110, 100] : List UInt8) ∧ (x4.1.getD ((1 : Int).toNat) default).2.1 = (4 : Int) ∧ (x4.1.getD ((1 : Int).toNat) default).2.2 = (7 : Int) then Option.bind (ref4_SameHitsC x22.1 ([((0 : Int), (0 : Int)), ((0 : Int), (2 : Int))])) (fun x69 => if x69 then Option.bind (ref3_IntsC x27.1 ([(0 : Int)])) (fun x74 => if x74 then if (x31.1.length : Int) = (0 : Int) then Option.bind (words_Index_WordsC (x15.1.1, x15.1.2)) (fun x80 => Option.bind (ref4_TextsC x80 ([([97] : List UInt8), ([98] : List UInt8)])) (fun x83 => if x83 then Option.bind (words_Index_ItemsC (x36.1.1, x36.1.2)) (fun x87 => if x87 = (0 : Int) then Option.bind (words_CheckC ([65] : List UInt8)) (fun x91 => Option.bind (ref3_AtC (6 : Int) (-1 : Int)) (fun x93 => some (decide (x91.1 = x93.1 ∧ x91.2 = x93.2)))) else some (false)) else some (false))) else some (false) else some (false)) else some (false)) else some (false)) else some (false) else some (false) else some (false) else some (false) else some (false) else some (false) else some (false))))))))))
theorem law4_speaks_ap : Go.L.Ap (law4_speaksC) (law4_speaks) := by
 unfold law4_speaksC law4_speaks
 with_reducible repeat (first | exact apR _ | refine apB ?_ fun _ => ?_ | refine apC ?_ | refine apI ?_ ?_ | refine apM ?_ | refine apO ?_ fun _ => ?_ | exact ref3_At_ap _ _ | exact ref3_Ints_ap _ _ | exact ref4_SameHits_ap _ _ | exact ref4_Texts_ap _ _ | exact words_Build_ap _ | exact words_Check_ap _ | exact words_Index_Items_ap _ | exact words_Index_Near_ap _ _ _ _ | exact words_Index_Phrase_ap _ _ | exact words_Index_Words_ap _ | exact words_Open_ap _ | exact words_Split_ap _)
theorem speaks_true : law4_speaks = some true := law4_speaks_ap true (by kernel_rfl)
end Go.Proofs.YtdiieblgeaehpaaDoor
