/- Texts of a claim, merged. -/
import Derived.Test.YtmfiaecglndldaaGreatDoorKb6
import Derived.KernelRfl
set_option linter.unusedVariables false
set_option linter.unusedSimpArgs false
section
namespace Go.Proofs.YtmfiaecglndldaaGreatDoor
open Go Go.E Go.RowKit
set_option maxHeartbeats 1000000
set_option maxRecDepth 10000
open _root_.Go.Proofs.Tryz
noncomputable def shapes_entry_valid_k1 : Option (Bool) :=
 some (true)
noncomputable def shapes_entry_valid_bl2 (a0 : ((List UInt8) × Int × Int × (List UInt8)) × (List Int)) (a1 : Int) : Int → Option ((Int) ⊕ (Bool)) := fun s48_73 =>
 if s48_73 < (a0.2.length : Int) then Go.L.chk (0 ≤ s48_73 ∧ s48_73 < (a0.2.length : Int)) (if (a0.2.getD s48_73.toNat default < (0 : Int)) ∨ (a1 ≤ a0.2.getD s48_73.toNat default) then Option.map Sum.inr (some (false)) else if (0 : Int) < s48_73 then Go.L.chk (Go.L.I64 (s48_73 - (1 : Int))) (Go.L.chk (0 ≤ (s48_73 - (1 : Int)) ∧ (s48_73 - (1 : Int)) < (a0.2.length : Int)) (if a0.2.getD s48_73.toNat default ≤ a0.2.getD ((s48_73 - (1 : Int)).toNat) default then Option.map Sum.inr (some (false)) else Go.L.chk (Go.L.I64 (s48_73 + (1 : Int))) (some (Sum.inl (s48_73 + (1 : Int)))))) else Go.L.chk (Go.L.I64 (s48_73 + (1 : Int))) (some (Sum.inl (s48_73 + (1 : Int))))) else Option.map Sum.inr (shapes_entry_valid_k1)
noncomputable def shapes_entry_valid_l2 (a0 : ((List UInt8) × Int × Int × (List UInt8)) × (List Int)) (a1 : Int) (s : Int) : Option (Bool) := Go.L.run (shapes_entry_valid_bl2 a0 a1) s
noncomputable def shapes_entry_valid_k3 : Option (Bool) :=
 some (true)
noncomputable def shapes_entry_valid_bl4 (a0 : ((List UInt8) × Int × Int × (List UInt8)) × (List Int)) (a1 : Int) : Int → Option ((Int) ⊕ (Bool)) := fun s48_166 =>
 if s48_166 < (a0.2.length : Int) then Go.L.chk (0 ≤ s48_166 ∧ s48_166 < (a0.2.length : Int)) (if (a0.2.getD s48_166.toNat default < (0 : Int)) ∨ (a1 ≤ a0.2.getD s48_166.toNat default) then Option.map Sum.inr (some (false)) else if (0 : Int) < s48_166 then Go.L.chk (Go.L.I64 (s48_166 - (1 : Int))) (Go.L.chk (0 ≤ (s48_166 - (1 : Int)) ∧ (s48_166 - (1 : Int)) < (a0.2.length : Int)) (if a0.2.getD s48_166.toNat default ≤ a0.2.getD ((s48_166 - (1 : Int)).toNat) default then Option.map Sum.inr (some (false)) else Go.L.chk (Go.L.I64 (s48_166 + (1 : Int))) (some (Sum.inl (s48_166 + (1 : Int)))))) else Go.L.chk (Go.L.I64 (s48_166 + (1 : Int))) (some (Sum.inl (s48_166 + (1 : Int))))) else Option.map Sum.inr (shapes_entry_valid_k3)
noncomputable def shapes_entry_valid_l4 (a0 : ((List UInt8) × Int × Int × (List UInt8)) × (List Int)) (a1 : Int) (s : Int) : Option (Bool) := Go.L.run (shapes_entry_valid_bl4 a0 a1) s
noncomputable def shapes_entry_valid_k5 : Option (Bool) :=
 some (true)
noncomputable def shapes_entry_valid_bl6 (a0 : ((List UInt8) × Int × Int × (List UInt8)) × (List Int)) (a1 : Int) : Int → Option ((Int) ⊕ (Bool)) := fun s48_259 =>
 if s48_259 < (a0.2.length : Int) then Go.L.chk (0 ≤ s48_259 ∧ s48_259 < (a0.2.length : Int)) (if (a0.2.getD s48_259.toNat default < (0 : Int)) ∨ (a1 ≤ a0.2.getD s48_259.toNat default) then Option.map Sum.inr (some (false)) else if (0 : Int) < s48_259 then Go.L.chk (Go.L.I64 (s48_259 - (1 : Int))) (Go.L.chk (0 ≤ (s48_259 - (1 : Int)) ∧ (s48_259 - (1 : Int)) < (a0.2.length : Int)) (if a0.2.getD s48_259.toNat default ≤ a0.2.getD ((s48_259 - (1 : Int)).toNat) default then Option.map Sum.inr (some (false)) else Go.L.chk (Go.L.I64 (s48_259 + (1 : Int))) (some (Sum.inl (s48_259 + (1 : Int)))))) else Go.L.chk (Go.L.I64 (s48_259 + (1 : Int))) (some (Sum.inl (s48_259 + (1 : Int))))) else Option.map Sum.inr (shapes_entry_valid_k5)
noncomputable def shapes_entry_valid_l6 (a0 : ((List UInt8) × Int × Int × (List UInt8)) × (List Int)) (a1 : Int) (s : Int) : Option (Bool) := Go.L.run (shapes_entry_valid_bl6 a0 a1) s
noncomputable def shapes_entry_valid_k7 : Option (Bool) :=
 some (true)
noncomputable def shapes_entry_valid_bl8 (a0 : ((List UInt8) × Int × Int × (List UInt8)) × (List Int)) (a1 : Int) : Int → Option ((Int) ⊕ (Bool)) := fun s48_354 =>
 if s48_354 < (a0.2.length : Int) then Go.L.chk (0 ≤ s48_354 ∧ s48_354 < (a0.2.length : Int)) (if (a0.2.getD s48_354.toNat default < (0 : Int)) ∨ (a1 ≤ a0.2.getD s48_354.toNat default) then Option.map Sum.inr (some (false)) else if (0 : Int) < s48_354 then Go.L.chk (Go.L.I64 (s48_354 - (1 : Int))) (Go.L.chk (0 ≤ (s48_354 - (1 : Int)) ∧ (s48_354 - (1 : Int)) < (a0.2.length : Int)) (if a0.2.getD s48_354.toNat default ≤ a0.2.getD ((s48_354 - (1 : Int)).toNat) default then Option.map Sum.inr (some (false)) else Go.L.chk (Go.L.I64 (s48_354 + (1 : Int))) (some (Sum.inl (s48_354 + (1 : Int)))))) else Go.L.chk (Go.L.I64 (s48_354 + (1 : Int))) (some (Sum.inl (s48_354 + (1 : Int))))) else Option.map Sum.inr (shapes_entry_valid_k7)
noncomputable def shapes_entry_valid_l8 (a0 : ((List UInt8) × Int × Int × (List UInt8)) × (List Int)) (a1 : Int) (s : Int) : Option (Bool) := Go.L.run (shapes_entry_valid_bl8 a0 a1) s
noncomputable def shapes_entry_valid_k9 : Option (Bool) :=
 some (true)
noncomputable def shapes_entry_valid_bl10 (a0 : ((List UInt8) × Int × Int × (List UInt8)) × (List Int)) (a1 : Int) : Int → Option ((Int) ⊕ (Bool)) := fun s48_449 =>
 if s48_449 < (a0.2.length : Int) then Go.L.chk (0 ≤ s48_449 ∧ s48_449 < (a0.2.length : Int)) (if (a0.2.getD s48_449.toNat default < (0 : Int)) ∨ (a1 ≤ a0.2.getD s48_449.toNat default) then Option.map Sum.inr (some (false)) else if (0 : Int) < s48_449 then Go.L.chk (Go.L.I64 (s48_449 - (1 : Int))) (Go.L.chk (0 ≤ (s48_449 - (1 : Int)) ∧ (s48_449 - (1 : Int)) < (a0.2.length : Int)) (if a0.2.getD s48_449.toNat default ≤ a0.2.getD ((s48_449 - (1 : Int)).toNat) default then Option.map Sum.inr (some (false)) else Go.L.chk (Go.L.I64 (s48_449 + (1 : Int))) (some (Sum.inl (s48_449 + (1 : Int)))))) else Go.L.chk (Go.L.I64 (s48_449 + (1 : Int))) (some (Sum.inl (s48_449 + (1 : Int))))) else Option.map Sum.inr (shapes_entry_valid_k9)
noncomputable def shapes_entry_valid_l10 (a0 : ((List UInt8) × Int × Int × (List UInt8)) × (List Int)) (a1 : Int) (s : Int) : Option (Bool) := Go.L.run (shapes_entry_valid_bl10 a0 a1) s
noncomputable def shapes_entry_valid_k11 : Option (Bool) :=
 some (true)
noncomputable def shapes_entry_valid_bl12 (a0 : ((List UInt8) × Int × Int × (List UInt8)) × (List Int)) (a1 : Int) : Int → Option ((Int) ⊕ (Bool)) := fun s48_540 =>
 if s48_540 < (a0.2.length : Int) then Go.L.chk (0 ≤ s48_540 ∧ s48_540 < (a0.2.length : Int)) (if (a0.2.getD s48_540.toNat default < (0 : Int)) ∨ (a1 ≤ a0.2.getD s48_540.toNat default) then Option.map Sum.inr (some (false)) else if (0 : Int) < s48_540 then Go.L.chk (Go.L.I64 (s48_540 - (1 : Int))) (Go.L.chk (0 ≤ (s48_540 - (1 : Int)) ∧ (s48_540 - (1 : Int)) < (a0.2.length : Int)) (if a0.2.getD s48_540.toNat default ≤ a0.2.getD ((s48_540 - (1 : Int)).toNat) default then Option.map Sum.inr (some (false)) else Go.L.chk (Go.L.I64 (s48_540 + (1 : Int))) (some (Sum.inl (s48_540 + (1 : Int)))))) else Go.L.chk (Go.L.I64 (s48_540 + (1 : Int))) (some (Sum.inl (s48_540 + (1 : Int))))) else Option.map Sum.inr (shapes_entry_valid_k11)
noncomputable def shapes_entry_valid_l12 (a0 : ((List UInt8) × Int × Int × (List UInt8)) × (List Int)) (a1 : Int) (s : Int) : Option (Bool) := Go.L.run (shapes_entry_valid_bl12 a0 a1) s
noncomputable def shapes_entry_valid_k13 : Option (Bool) :=
 some (true)
noncomputable def shapes_entry_valid_bl14 (a0 : ((List UInt8) × Int × Int × (List UInt8)) × (List Int)) (a1 : Int) : Int → Option ((Int) ⊕ (Bool)) := fun s48_631 =>
 if s48_631 < (a0.2.length : Int) then Go.L.chk (0 ≤ s48_631 ∧ s48_631 < (a0.2.length : Int)) (if (a0.2.getD s48_631.toNat default < (0 : Int)) ∨ (a1 ≤ a0.2.getD s48_631.toNat default) then Option.map Sum.inr (some (false)) else if (0 : Int) < s48_631 then Go.L.chk (Go.L.I64 (s48_631 - (1 : Int))) (Go.L.chk (0 ≤ (s48_631 - (1 : Int)) ∧ (s48_631 - (1 : Int)) < (a0.2.length : Int)) (if a0.2.getD s48_631.toNat default ≤ a0.2.getD ((s48_631 - (1 : Int)).toNat) default then Option.map Sum.inr (some (false)) else Go.L.chk (Go.L.I64 (s48_631 + (1 : Int))) (some (Sum.inl (s48_631 + (1 : Int)))))) else Go.L.chk (Go.L.I64 (s48_631 + (1 : Int))) (some (Sum.inl (s48_631 + (1 : Int))))) else Option.map Sum.inr (shapes_entry_valid_k13)
noncomputable def shapes_entry_valid_l14 (a0 : ((List UInt8) × Int × Int × (List UInt8)) × (List Int)) (a1 : Int) (s : Int) : Option (Bool) := Go.L.run (shapes_entry_valid_bl14 a0 a1) s
noncomputable def shapes_entry_valid_k15 : Option (Bool) :=
 some (true)
noncomputable def shapes_entry_valid_bl16 (a0 : ((List UInt8) × Int × Int × (List UInt8)) × (List Int)) (a1 : Int) : Int → Option ((Int) ⊕ (Bool)) := fun s48_726 =>
 if s48_726 < (a0.2.length : Int) then Go.L.chk (0 ≤ s48_726 ∧ s48_726 < (a0.2.length : Int)) (if (a0.2.getD s48_726.toNat default < (0 : Int)) ∨ (a1 ≤ a0.2.getD s48_726.toNat default) then Option.map Sum.inr (some (false)) else if (0 : Int) < s48_726 then Go.L.chk (Go.L.I64 (s48_726 - (1 : Int))) (Go.L.chk (0 ≤ (s48_726 - (1 : Int)) ∧ (s48_726 - (1 : Int)) < (a0.2.length : Int)) (if a0.2.getD s48_726.toNat default ≤ a0.2.getD ((s48_726 - (1 : Int)).toNat) default then Option.map Sum.inr (some (false)) else Go.L.chk (Go.L.I64 (s48_726 + (1 : Int))) (some (Sum.inl (s48_726 + (1 : Int)))))) else Go.L.chk (Go.L.I64 (s48_726 + (1 : Int))) (some (Sum.inl (s48_726 + (1 : Int))))) else Option.map Sum.inr (shapes_entry_valid_k15)
noncomputable def shapes_entry_valid_l16 (a0 : ((List UInt8) × Int × Int × (List UInt8)) × (List Int)) (a1 : Int) (s : Int) : Option (Bool) := Go.L.run (shapes_entry_valid_bl16 a0 a1) s
noncomputable def shapes_entry_valid_k17 : Option (Bool) :=
 some (true)
noncomputable def shapes_entry_valid_bl18 (a0 : ((List UInt8) × Int × Int × (List UInt8)) × (List Int)) (a1 : Int) : Int → Option ((Int) ⊕ (Bool)) := fun s48_817 =>
 if s48_817 < (a0.2.length : Int) then Go.L.chk (0 ≤ s48_817 ∧ s48_817 < (a0.2.length : Int)) (if (a0.2.getD s48_817.toNat default < (0 : Int)) ∨ (a1 ≤ a0.2.getD s48_817.toNat default) then Option.map Sum.inr (some (false)) else if (0 : Int) < s48_817 then Go.L.chk (Go.L.I64 (s48_817 - (1 : Int))) (Go.L.chk (0 ≤ (s48_817 - (1 : Int)) ∧ (s48_817 - (1 : Int)) < (a0.2.length : Int)) (if a0.2.getD s48_817.toNat default ≤ a0.2.getD ((s48_817 - (1 : Int)).toNat) default then Option.map Sum.inr (some (false)) else Go.L.chk (Go.L.I64 (s48_817 + (1 : Int))) (some (Sum.inl (s48_817 + (1 : Int)))))) else Go.L.chk (Go.L.I64 (s48_817 + (1 : Int))) (some (Sum.inl (s48_817 + (1 : Int))))) else Option.map Sum.inr (shapes_entry_valid_k17)
noncomputable def shapes_entry_valid_l18 (a0 : ((List UInt8) × Int × Int × (List UInt8)) × (List Int)) (a1 : Int) (s : Int) : Option (Bool) := Go.L.run (shapes_entry_valid_bl18 a0 a1) s
noncomputable def shapes_entry_valid_k19 : Option (Bool) :=
 some (true)
noncomputable def shapes_entry_valid_bl20 (a0 : ((List UInt8) × Int × Int × (List UInt8)) × (List Int)) (a1 : Int) : Int → Option ((Int) ⊕ (Bool)) := fun s48_908 =>
 if s48_908 < (a0.2.length : Int) then Go.L.chk (0 ≤ s48_908 ∧ s48_908 < (a0.2.length : Int)) (if (a0.2.getD s48_908.toNat default < (0 : Int)) ∨ (a1 ≤ a0.2.getD s48_908.toNat default) then Option.map Sum.inr (some (false)) else if (0 : Int) < s48_908 then Go.L.chk (Go.L.I64 (s48_908 - (1 : Int))) (Go.L.chk (0 ≤ (s48_908 - (1 : Int)) ∧ (s48_908 - (1 : Int)) < (a0.2.length : Int)) (if a0.2.getD s48_908.toNat default ≤ a0.2.getD ((s48_908 - (1 : Int)).toNat) default then Option.map Sum.inr (some (false)) else Go.L.chk (Go.L.I64 (s48_908 + (1 : Int))) (some (Sum.inl (s48_908 + (1 : Int)))))) else Go.L.chk (Go.L.I64 (s48_908 + (1 : Int))) (some (Sum.inl (s48_908 + (1 : Int))))) else Option.map Sum.inr (shapes_entry_valid_k19)
noncomputable def shapes_entry_valid_l20 (a0 : ((List UInt8) × Int × Int × (List UInt8)) × (List Int)) (a1 : Int) (s : Int) : Option (Bool) := Go.L.run (shapes_entry_valid_bl20 a0 a1) s
noncomputable def shapes_entry_valid (a0 : ((List UInt8) × Int × Int × (List UInt8)) × (List Int)) (a1 : Int) : Option (Bool) :=
 Option.bind (shapes_isPath a0.1.1) (fun x2 => if !x2 then (if !x2 then some (false) else (shapes_entry_valid_l2 a0 a1) (0 : Int)) else (if a0.1.2.1 < (1 : Int) then (if a0.1.2.1 < (1 : Int) then some (false) else (shapes_entry_valid_l4 a0 a1) (0 : Int)) else (if (4 : Int) < a0.1.2.1 then (if (4 : Int) < a0.1.2.1 then some (false) else (shapes_entry_valid_l6 a0 a1) (0 : Int)) else (if a0.1.2.2.1 = (0 : Int) then if a0.1.2.2.2 = ([] : List UInt8) then if (a0.2.length : Int) = (0 : Int) then some (false) else (shapes_entry_valid_l20 a0 a1) (0 : Int) else if a0.1.2.1 = (2 : Int) then (if (a0.2.length : Int) = (0 : Int) then some (false) else (shapes_entry_valid_l18 a0 a1) (0 : Int)) else (if a0.1.2.1 = (2 : Int) then (shapes_entry_valid_l16 a0 a1) (0 : Int) else some (false)) else if a0.1.2.1 = (1 : Int) then (if a0.1.2.2.2 = ([] : List UInt8) then if (a0.2.length : Int) = (0 : Int) then some (false) else (shapes_entry_valid_l14 a0 a1) (0 : Int) else if a0.1.2.1 = (2 : Int) then (if (a0.2.length : Int) = (0 : Int) then some (false) else (shapes_entry_valid_l12 a0 a1) (0 : Int)) else (if a0.1.2.1 = (2 : Int) then (shapes_entry_valid_l10 a0 a1) (0 : Int) else some (false))) else (if a0.1.2.1 = (1 : Int) then (shapes_entry_valid_l8 a0 a1) (0 : Int) else some (false))))))
theorem shapes_entry_valid_ok (w : World) (H : PH) (hH : Le H (hp w)) {a0 : ((List UInt8) × Int × Int × (List UInt8)) × (List Int)} {a1 : Int} {v0_0 : Value} (h0_0 : Vec (.int .i64) H v0_0 (a0.2)) {r : Bool} (h : shapes_entry_valid a0 a1 = some r) :
  Ok Tryz.prog 71 [.agg #[.string ⟨(a0.1.1).toArray⟩, .int .i64 a0.1.2.1, .int .i64 a0.1.2.2.1, .string ⟨(a0.1.2.2.2).toArray⟩, v0_0], .int .i64 a1] w (fun v w' => Ext w w' ∧ v = .bool r) := by
 refine Ok_enter (n := 75) [(0, .agg #[.string ⟨(a0.1.1).toArray⟩, .int .i64 a0.1.2.1, .int .i64 a0.1.2.2.1, .string ⟨(a0.1.2.2.2).toArray⟩, v0_0]), (1, .int .i64 a1)] func71 rfl rfl rfl rfl rfl ?_
 have hL := Lcl.start w
 refine W_seqr ?_
 refine S_box (t := 96) rfl rfl rfl hL ?_
 intro w1 b1 hL1 hle1 _
 refine S_pz 1 rfl ?_
 refine W_seq ?_
 refine W_block ?_
 refine W_seq ?_
 refine W_seqr ?_
 refine S_v (r_field rfl underlying96 rfl zr84 (by decide)) rfl ?_
 refine S_v (r_field rfl underlying84 rfl zr9 (by decide)) rfl ?_
 refine S_v (r_loadB1 0 rfl underlying9 rfl hL1 rfl rfl) rfl ?_
 obtain ⟨x2, hb2, h⟩ := Go.L.bind_some h
 refine S_callL rfl rfl hL1 (shapes_isPath_ok _ _ (gz_le hH hL1) hb2) ?_
 rintro _ w3 rfl hx3 hL3 hle3
 refine S_pz 2 rfl ?_
 refine W_cond rfl (fun hc4 => ?_) (fun hc4 => ?_)
 ·replace h := Go.L.ite_t hc4 h
  refine W_skip ?_
  refine At_seq ?_
  refine W_cond rfl (fun hc6 => ?_) (fun hc6 => ?_)
  ·replace h := Go.L.ite_t hc6 h
   refine W_pz 1 rfl ?_
   refine W_ret ?_
   refine At_block_ret ?_
   refine At_seq_ret ?_
   obtain rfl := Option.some.inj h
   refine At_body rfl rfl ?_
   exact ⟨hL3.ext, rfl⟩
  ·replace h := Go.L.ite_f hc6 h
   refine W_skip ?_
   refine At_block ?_
   refine At_seq ?_
   refine W_cut (σ := Unit) (fun (_ : Unit) => []) (fun (_ : Unit) wr => Lcl w [.box b1 [.string ⟨(a0.1.1).toArray⟩, .int .i64 a0.1.2.1, .int .i64 a0.1.2.2.1, .string ⟨(a0.1.2.2.2).toArray⟩, v0_0] 96] wr ∧ shapes_entry_valid_k1 = some r) ?_ ?_
   ·refine W_seqr ?_
    refine S_v (r_field rfl underlying96 rfl zr52 (by decide)) rfl ?_
    refine S_v (r_loadB1 0 rfl underlying52 rfl hL3 rfl rfl) rfl ?_
    refine S_v (r_len rfl underlying52 h0_0) rfl ?_
    refine S_pz 1 rfl ?_
    refine W_block ?_
    obtain ⟨n74, h⟩ := Go.L.run_some h
    refine W_loop (σ := Int × Nat) (fun ⟨s48_73, n⟩ => [(1, .int .i64 a1), (2, .pointer (some ⟨b1, 0, none⟩)), (46, v0_0), (47, .int .i64 (a0.2.length : Int)), (48, .int .i64 s48_73)]) (fun ⟨s48_73, n⟩ wr => Lcl w [.box b1 [.string ⟨(a0.1.1).toArray⟩, .int .i64 a0.1.2.1, .int .i64 a0.1.2.2.1, .string ⟨(a0.1.2.2.2).toArray⟩, v0_0] 96] wr ∧ Go.L.itr (shapes_entry_valid_bl2 a0 a1) n s48_73 = some r) (fun ⟨s48_73, n⟩ => n) ((0 : Int), n74) (.cons rfl (.cons rfl (.cons rfl (.cons rfl (.cons rfl (Sub.nil _)))))) ⟨hL3, h⟩ ?_
    rintro ⟨s48_73, nn74⟩ wr74 ⟨hL74, h⟩
    obtain ⟨n74, e74, rfl, h, hm74⟩ := Go.L.itr_some h
    refine W_pz 1 rfl ?_
    refine W_seq ?_
    refine W_if rfl (fun hc76 => ?_) (fun hc76 => ?_)
    ·replace h := Go.L.ite_p hc76 h
     refine W_skip ?_
     refine At_seq ?_
     refine W_seq ?_
     refine W_block ?_
     refine W_p 1 rfl ?_
     obtain ⟨hk79, h⟩ := Go.L.chk_some h
     refine S_index rfl rfl underlying52 zr3 h0_0 s48_73.toNat (Int.toNat_of_nonneg hk79.1).symm (idx_lt hk79) rfl ?_
     rintro p78 _ rfl hp78
     refine S_v (r_load1 rfl underlying3 rfl hp78 (hH.trans hL74.arg)) rfl ?_
     refine S_pz 2 rfl ?_
     refine W_p 3 rfl ?_
     refine S_or 3 2 rfl rfl rfl rfl rfl rfl ?_
     refine S_pu 1 rfl ?_
     refine S_split (s := 60) rfl (fun hg80 => ?_) (fun hg80 => ?_)
     ·replace h := Go.L.ite_p (of_decide_eq_true hg80) h
      iterate 3 refine S_unwanted rfl rfl hg80 rfl ?_
      iterate 8 refine S_unwanted2 rfl rfl rfl ?_
      refine S_unwanted rfl rfl hg80 rfl ?_
      refine S_v (r_pickT rfl hg80 rfl) rfl ?_
      refine S_seqnil ?_
      refine W_true rfl ?_
      refine W_pz 1 rfl ?_
      refine W_ret ?_
      refine At_block_ret ?_
      refine At_seq_ret ?_
      refine At_loop_ret ?_
      replace h := Go.L.Nxt.out h hm74
      refine At_block_ret ?_
      refine At_cut_ret ?_
      obtain rfl := Option.some.inj h
      refine At_body rfl rfl ?_
      exact ⟨hL74.ext, rfl⟩
     ·replace h := Go.L.ite_n (of_decide_eq_false hg80) h
      refine S_guarded rfl rfl hg80 ?_
      refine S_v (RunsAt_pu rfl) rfl ?_
      refine S_guarded rfl rfl hg80 ?_
      refine S_v (RunsAt_pu rfl) rfl ?_
      refine S_guarded rfl rfl hg80 ?_
      refine S_v (RunsAt_pu rfl) rfl ?_
      refine S_split (s := 63) rfl (fun hg83 => ?_) (fun hg83 => ?_)
      ·replace h := Go.L.ite_p (of_decide_eq_true hg83) h
       refine S_guarded rfl rfl hg83 ?_
       refine S_v (RunsAt_pu rfl) rfl ?_
       refine S_guarded rfl rfl hg83 ?_
       refine S_v (r_field rfl underlying96 rfl zr52 (by decide)) rfl ?_
       refine S_guarded rfl rfl hg83 ?_
       refine S_v (r_loadB1 0 rfl underlying52 rfl hL74 rfl rfl) rfl ?_
       refine S_guarded rfl rfl hg83 ?_
       refine S_v (RunsAt_pu rfl) rfl ?_
       refine S_guarded rfl rfl hg83 ?_
       obtain ⟨hk85, h⟩ := Go.L.chk_some h
       refine S_v (r_ar64 rfl rfl rfl hk85) rfl ?_
       refine S_guarded rfl rfl hg83 ?_
       obtain ⟨hk87, h⟩ := Go.L.chk_some h
       refine S_index rfl rfl underlying52 zr3 h0_0 ((s48_73 - (1 : Int)).toNat) (Int.toNat_of_nonneg hk87.1).symm (idx_lt hk87) rfl ?_
       rintro p86 _ rfl hp86
       refine S_guarded rfl rfl hg83 ?_
       refine S_v (r_load1 rfl underlying3 rfl hp86 (hH.trans hL74.arg)) rfl ?_
       refine S_guarded rfl rfl hg83 ?_
       refine S_v (RunsAt_pu rfl) rfl ?_
       refine S_guarded rfl rfl hg80 ?_
       refine S_v (r_pickT rfl hg83 rfl) rfl ?_
       refine S_v (r_pickF rfl hg80 rfl) rfl ?_
       refine S_seqnil ?_
       refine W_if rfl (fun hc88 => ?_) (fun hc88 => ?_)
       ·replace h := Go.L.ite_p hc88 h
        refine W_pz 1 rfl ?_
        refine W_ret ?_
        refine At_block_ret ?_
        refine At_seq_ret ?_
        refine At_loop_ret ?_
        replace h := Go.L.Nxt.out h hm74
        refine At_block_ret ?_
        refine At_cut_ret ?_
        obtain rfl := Option.some.inj h
        refine At_body rfl rfl ?_
        exact ⟨hL74.ext, rfl⟩
       ·replace h := Go.L.ite_n hc88 h
        refine W_skip ?_
        refine At_block ?_
        refine At_seq ?_
        refine W_region ?_
        obtain ⟨hk91, h⟩ := Go.L.chk_some h
        refine S_v (r_ar64 rfl rfl rfl hk91) rfl ?_
        refine S_pu 1 rfl ?_
        refine S_nil ?_
        have h := Go.L.Nxt.again h hm74
        refine At_round ((s48_73 + (1 : Int)), n74) (.cons rfl (.cons rfl (.cons rfl (.cons rfl (.cons rfl (Sub.nil _)))))) ⟨hL74, h⟩ (Nat.lt_succ_self _)
      ·replace h := Go.L.ite_n (of_decide_eq_false hg83) h
       iterate 8 refine S_unwanted rfl rfl hg83 rfl ?_
       refine S_guarded rfl rfl hg80 ?_
       refine S_v (r_pickF rfl hg83 rfl) rfl ?_
       refine S_v (r_pickF rfl hg80 rfl) rfl ?_
       refine S_seqnil ?_
       refine W_false rfl ?_
       refine W_skip ?_
       refine At_block ?_
       refine At_seq ?_
       refine W_region ?_
       obtain ⟨hk93, h⟩ := Go.L.chk_some h
       refine S_v (r_ar64 rfl rfl rfl hk93) rfl ?_
       refine S_pu 1 rfl ?_
       refine S_nil ?_
       have h := Go.L.Nxt.again h hm74
       refine At_round ((s48_73 + (1 : Int)), n74) (.cons rfl (.cons rfl (.cons rfl (.cons rfl (.cons rfl (Sub.nil _)))))) ⟨hL74, h⟩ (Nat.lt_succ_self _)
    ·replace h := Go.L.ite_n hc76 h
     refine W_exit ?_
     refine At_seq_exit ?_
     refine At_loop_exit ?_
     replace h := Go.L.Nxt.out h hm74
     refine At_exit ?_
     refine At_cut () (Sub.nil _) ⟨hL74, h⟩
   ·rintro _ wr51 ⟨hL51, h⟩
    refine W_pz 1 rfl ?_
    refine W_ret ?_
    obtain rfl := Option.some.inj h
    refine At_body rfl rfl ?_
    exact ⟨hL51.ext, rfl⟩
 ·replace h := Go.L.ite_f hc4 h
  refine W_seqr ?_
  refine S_v (r_field rfl underlying96 rfl zr84 (by decide)) rfl ?_
  refine S_v (r_field rfl underlying84 rfl zr3 (by decide)) rfl ?_
  refine S_v (r_loadB1 0 rfl underlying3 rfl hL3 rfl rfl) rfl ?_
  refine S_pz 2 rfl ?_
  refine W_if rfl (fun hc97 => ?_) (fun hc97 => ?_)
  ·replace h := Go.L.ite_p hc97 h
   refine W_skip ?_
   refine At_seq ?_
   refine W_if rfl (fun hc99 => ?_) (fun hc99 => ?_)
   ·replace h := Go.L.ite_p hc99 h
    refine W_pz 1 rfl ?_
    refine W_ret ?_
    refine At_block_ret ?_
    refine At_seq_ret ?_
    obtain rfl := Option.some.inj h
    refine At_body rfl rfl ?_
    exact ⟨hL3.ext, rfl⟩
   ·replace h := Go.L.ite_n hc99 h
    refine W_skip ?_
    refine At_block ?_
    refine At_seq ?_
    refine W_cut (σ := Unit) (fun (_ : Unit) => []) (fun (_ : Unit) wr => Lcl w [.box b1 [.string ⟨(a0.1.1).toArray⟩, .int .i64 a0.1.2.1, .int .i64 a0.1.2.2.1, .string ⟨(a0.1.2.2.2).toArray⟩, v0_0] 96] wr ∧ shapes_entry_valid_k3 = some r) ?_ ?_
    ·refine W_seqr ?_
     refine S_v (r_field rfl underlying96 rfl zr52 (by decide)) rfl ?_
     refine S_v (r_loadB1 0 rfl underlying52 rfl hL3 rfl rfl) rfl ?_
     refine S_v (r_len rfl underlying52 h0_0) rfl ?_
     refine S_pz 1 rfl ?_
     refine W_block ?_
     obtain ⟨n167, h⟩ := Go.L.run_some h
     refine W_loop (σ := Int × Nat) (fun ⟨s48_166, n⟩ => [(1, .int .i64 a1), (2, .pointer (some ⟨b1, 0, none⟩)), (46, v0_0), (47, .int .i64 (a0.2.length : Int)), (48, .int .i64 s48_166)]) (fun ⟨s48_166, n⟩ wr => Lcl w [.box b1 [.string ⟨(a0.1.1).toArray⟩, .int .i64 a0.1.2.1, .int .i64 a0.1.2.2.1, .string ⟨(a0.1.2.2.2).toArray⟩, v0_0] 96] wr ∧ Go.L.itr (shapes_entry_valid_bl4 a0 a1) n s48_166 = some r) (fun ⟨s48_166, n⟩ => n) ((0 : Int), n167) (.cons rfl (.cons rfl (.cons rfl (.cons rfl (.cons rfl (Sub.nil _)))))) ⟨hL3, h⟩ ?_
     rintro ⟨s48_166, nn167⟩ wr167 ⟨hL167, h⟩
     obtain ⟨n167, e167, rfl, h, hm167⟩ := Go.L.itr_some h
     refine W_pz 1 rfl ?_
     refine W_seq ?_
     refine W_if rfl (fun hc169 => ?_) (fun hc169 => ?_)
     ·replace h := Go.L.ite_p hc169 h
      refine W_skip ?_
      refine At_seq ?_
      refine W_seq ?_
      refine W_block ?_
      refine W_p 1 rfl ?_
      obtain ⟨hk172, h⟩ := Go.L.chk_some h
      refine S_index rfl rfl underlying52 zr3 h0_0 s48_166.toNat (Int.toNat_of_nonneg hk172.1).symm (idx_lt hk172) rfl ?_
      rintro p171 _ rfl hp171
      refine S_v (r_load1 rfl underlying3 rfl hp171 (hH.trans hL167.arg)) rfl ?_
      refine S_pz 2 rfl ?_
      refine W_p 3 rfl ?_
      refine S_or 3 2 rfl rfl rfl rfl rfl rfl ?_
      refine S_pu 1 rfl ?_
      refine S_split (s := 60) rfl (fun hg173 => ?_) (fun hg173 => ?_)
      ·replace h := Go.L.ite_p (of_decide_eq_true hg173) h
       iterate 3 refine S_unwanted rfl rfl hg173 rfl ?_
       iterate 8 refine S_unwanted2 rfl rfl rfl ?_
       refine S_unwanted rfl rfl hg173 rfl ?_
       refine S_v (r_pickT rfl hg173 rfl) rfl ?_
       refine S_seqnil ?_
       refine W_true rfl ?_
       refine W_pz 1 rfl ?_
       refine W_ret ?_
       refine At_block_ret ?_
       refine At_seq_ret ?_
       refine At_loop_ret ?_
       replace h := Go.L.Nxt.out h hm167
       refine At_block_ret ?_
       refine At_cut_ret ?_
       obtain rfl := Option.some.inj h
       refine At_body rfl rfl ?_
       exact ⟨hL167.ext, rfl⟩
      ·replace h := Go.L.ite_n (of_decide_eq_false hg173) h
       refine S_guarded rfl rfl hg173 ?_
       refine S_v (RunsAt_pu rfl) rfl ?_
       refine S_guarded rfl rfl hg173 ?_
       refine S_v (RunsAt_pu rfl) rfl ?_
       refine S_guarded rfl rfl hg173 ?_
       refine S_v (RunsAt_pu rfl) rfl ?_
       refine S_split (s := 63) rfl (fun hg176 => ?_) (fun hg176 => ?_)
       ·replace h := Go.L.ite_p (of_decide_eq_true hg176) h
        refine S_guarded rfl rfl hg176 ?_
        refine S_v (RunsAt_pu rfl) rfl ?_
        refine S_guarded rfl rfl hg176 ?_
        refine S_v (r_field rfl underlying96 rfl zr52 (by decide)) rfl ?_
        refine S_guarded rfl rfl hg176 ?_
        refine S_v (r_loadB1 0 rfl underlying52 rfl hL167 rfl rfl) rfl ?_
        refine S_guarded rfl rfl hg176 ?_
        refine S_v (RunsAt_pu rfl) rfl ?_
        refine S_guarded rfl rfl hg176 ?_
        obtain ⟨hk178, h⟩ := Go.L.chk_some h
        refine S_v (r_ar64 rfl rfl rfl hk178) rfl ?_
        refine S_guarded rfl rfl hg176 ?_
        obtain ⟨hk180, h⟩ := Go.L.chk_some h
        refine S_index rfl rfl underlying52 zr3 h0_0 ((s48_166 - (1 : Int)).toNat) (Int.toNat_of_nonneg hk180.1).symm (idx_lt hk180) rfl ?_
        rintro p179 _ rfl hp179
        refine S_guarded rfl rfl hg176 ?_
        refine S_v (r_load1 rfl underlying3 rfl hp179 (hH.trans hL167.arg)) rfl ?_
        refine S_guarded rfl rfl hg176 ?_
        refine S_v (RunsAt_pu rfl) rfl ?_
        refine S_guarded rfl rfl hg173 ?_
        refine S_v (r_pickT rfl hg176 rfl) rfl ?_
        refine S_v (r_pickF rfl hg173 rfl) rfl ?_
        refine S_seqnil ?_
        refine W_if rfl (fun hc181 => ?_) (fun hc181 => ?_)
        ·replace h := Go.L.ite_p hc181 h
         refine W_pz 1 rfl ?_
         refine W_ret ?_
         refine At_block_ret ?_
         refine At_seq_ret ?_
         refine At_loop_ret ?_
         replace h := Go.L.Nxt.out h hm167
         refine At_block_ret ?_
         refine At_cut_ret ?_
         obtain rfl := Option.some.inj h
         refine At_body rfl rfl ?_
         exact ⟨hL167.ext, rfl⟩
        ·replace h := Go.L.ite_n hc181 h
         refine W_skip ?_
         refine At_block ?_
         refine At_seq ?_
         refine W_region ?_
         obtain ⟨hk184, h⟩ := Go.L.chk_some h
         refine S_v (r_ar64 rfl rfl rfl hk184) rfl ?_
         refine S_pu 1 rfl ?_
         refine S_nil ?_
         have h := Go.L.Nxt.again h hm167
         refine At_round ((s48_166 + (1 : Int)), n167) (.cons rfl (.cons rfl (.cons rfl (.cons rfl (.cons rfl (Sub.nil _)))))) ⟨hL167, h⟩ (Nat.lt_succ_self _)
       ·replace h := Go.L.ite_n (of_decide_eq_false hg176) h
        iterate 8 refine S_unwanted rfl rfl hg176 rfl ?_
        refine S_guarded rfl rfl hg173 ?_
        refine S_v (r_pickF rfl hg176 rfl) rfl ?_
        refine S_v (r_pickF rfl hg173 rfl) rfl ?_
        refine S_seqnil ?_
        refine W_false rfl ?_
        refine W_skip ?_
        refine At_block ?_
        refine At_seq ?_
        refine W_region ?_
        obtain ⟨hk186, h⟩ := Go.L.chk_some h
        refine S_v (r_ar64 rfl rfl rfl hk186) rfl ?_
        refine S_pu 1 rfl ?_
        refine S_nil ?_
        have h := Go.L.Nxt.again h hm167
        refine At_round ((s48_166 + (1 : Int)), n167) (.cons rfl (.cons rfl (.cons rfl (.cons rfl (.cons rfl (Sub.nil _)))))) ⟨hL167, h⟩ (Nat.lt_succ_self _)
     ·replace h := Go.L.ite_n hc169 h
      refine W_exit ?_
      refine At_seq_exit ?_
      refine At_loop_exit ?_
      replace h := Go.L.Nxt.out h hm167
      refine At_exit ?_
      refine At_cut () (Sub.nil _) ⟨hL167, h⟩
    ·rintro _ wr144 ⟨hL144, h⟩
     refine W_pz 1 rfl ?_
     refine W_ret ?_
     obtain rfl := Option.some.inj h
     refine At_body rfl rfl ?_
     exact ⟨hL144.ext, rfl⟩
  ·replace h := Go.L.ite_n hc97 h
   refine W_seqr ?_
   refine S_v (r_field rfl underlying96 rfl zr84 (by decide)) rfl ?_
   refine S_v (r_field rfl underlying84 rfl zr3 (by decide)) rfl ?_
   refine S_v (r_loadB1 0 rfl underlying3 rfl hL3 rfl rfl) rfl ?_
   refine S_pz 2 rfl ?_
   refine W_if rfl (fun hc190 => ?_) (fun hc190 => ?_)
   ·replace h := Go.L.ite_p hc190 h
    refine W_skip ?_
    refine At_seq ?_
    refine W_if rfl (fun hc192 => ?_) (fun hc192 => ?_)
    ·replace h := Go.L.ite_p hc192 h
     refine W_pz 1 rfl ?_
     refine W_ret ?_
     refine At_block_ret ?_
     refine At_seq_ret ?_
     obtain rfl := Option.some.inj h
     refine At_body rfl rfl ?_
     exact ⟨hL3.ext, rfl⟩
    ·replace h := Go.L.ite_n hc192 h
     refine W_skip ?_
     refine At_block ?_
     refine At_seq ?_
     refine W_cut (σ := Unit) (fun (_ : Unit) => []) (fun (_ : Unit) wr => Lcl w [.box b1 [.string ⟨(a0.1.1).toArray⟩, .int .i64 a0.1.2.1, .int .i64 a0.1.2.2.1, .string ⟨(a0.1.2.2.2).toArray⟩, v0_0] 96] wr ∧ shapes_entry_valid_k5 = some r) ?_ ?_
     ·refine W_seqr ?_
      refine S_v (r_field rfl underlying96 rfl zr52 (by decide)) rfl ?_
      refine S_v (r_loadB1 0 rfl underlying52 rfl hL3 rfl rfl) rfl ?_
      refine S_v (r_len rfl underlying52 h0_0) rfl ?_
      refine S_pz 1 rfl ?_
      refine W_block ?_
      obtain ⟨n260, h⟩ := Go.L.run_some h
      refine W_loop (σ := Int × Nat) (fun ⟨s48_259, n⟩ => [(1, .int .i64 a1), (2, .pointer (some ⟨b1, 0, none⟩)), (46, v0_0), (47, .int .i64 (a0.2.length : Int)), (48, .int .i64 s48_259)]) (fun ⟨s48_259, n⟩ wr => Lcl w [.box b1 [.string ⟨(a0.1.1).toArray⟩, .int .i64 a0.1.2.1, .int .i64 a0.1.2.2.1, .string ⟨(a0.1.2.2.2).toArray⟩, v0_0] 96] wr ∧ Go.L.itr (shapes_entry_valid_bl6 a0 a1) n s48_259 = some r) (fun ⟨s48_259, n⟩ => n) ((0 : Int), n260) (.cons rfl (.cons rfl (.cons rfl (.cons rfl (.cons rfl (Sub.nil _)))))) ⟨hL3, h⟩ ?_
      rintro ⟨s48_259, nn260⟩ wr260 ⟨hL260, h⟩
      obtain ⟨n260, e260, rfl, h, hm260⟩ := Go.L.itr_some h
      refine W_pz 1 rfl ?_
      refine W_seq ?_
      refine W_if rfl (fun hc262 => ?_) (fun hc262 => ?_)
      ·replace h := Go.L.ite_p hc262 h
       refine W_skip ?_
       refine At_seq ?_
       refine W_seq ?_
       refine W_block ?_
       refine W_p 1 rfl ?_
       obtain ⟨hk265, h⟩ := Go.L.chk_some h
       refine S_index rfl rfl underlying52 zr3 h0_0 s48_259.toNat (Int.toNat_of_nonneg hk265.1).symm (idx_lt hk265) rfl ?_
       rintro p264 _ rfl hp264
       refine S_v (r_load1 rfl underlying3 rfl hp264 (hH.trans hL260.arg)) rfl ?_
       refine S_pz 2 rfl ?_
       refine W_p 3 rfl ?_
       refine S_or 3 2 rfl rfl rfl rfl rfl rfl ?_
       refine S_pu 1 rfl ?_
       refine S_split (s := 60) rfl (fun hg266 => ?_) (fun hg266 => ?_)
       ·replace h := Go.L.ite_p (of_decide_eq_true hg266) h
        iterate 3 refine S_unwanted rfl rfl hg266 rfl ?_
        iterate 8 refine S_unwanted2 rfl rfl rfl ?_
        refine S_unwanted rfl rfl hg266 rfl ?_
        refine S_v (r_pickT rfl hg266 rfl) rfl ?_
        refine S_seqnil ?_
        refine W_true rfl ?_
        refine W_pz 1 rfl ?_
        refine W_ret ?_
        refine At_block_ret ?_
        refine At_seq_ret ?_
        refine At_loop_ret ?_
        replace h := Go.L.Nxt.out h hm260
        refine At_block_ret ?_
        refine At_cut_ret ?_
        obtain rfl := Option.some.inj h
        refine At_body rfl rfl ?_
        exact ⟨hL260.ext, rfl⟩
       ·replace h := Go.L.ite_n (of_decide_eq_false hg266) h
        refine S_guarded rfl rfl hg266 ?_
        refine S_v (RunsAt_pu rfl) rfl ?_
        refine S_guarded rfl rfl hg266 ?_
        refine S_v (RunsAt_pu rfl) rfl ?_
        refine S_guarded rfl rfl hg266 ?_
        refine S_v (RunsAt_pu rfl) rfl ?_
        refine S_split (s := 63) rfl (fun hg269 => ?_) (fun hg269 => ?_)
        ·replace h := Go.L.ite_p (of_decide_eq_true hg269) h
         refine S_guarded rfl rfl hg269 ?_
         refine S_v (RunsAt_pu rfl) rfl ?_
         refine S_guarded rfl rfl hg269 ?_
         refine S_v (r_field rfl underlying96 rfl zr52 (by decide)) rfl ?_
         refine S_guarded rfl rfl hg269 ?_
         refine S_v (r_loadB1 0 rfl underlying52 rfl hL260 rfl rfl) rfl ?_
         refine S_guarded rfl rfl hg269 ?_
         refine S_v (RunsAt_pu rfl) rfl ?_
         refine S_guarded rfl rfl hg269 ?_
         obtain ⟨hk271, h⟩ := Go.L.chk_some h
         refine S_v (r_ar64 rfl rfl rfl hk271) rfl ?_
         refine S_guarded rfl rfl hg269 ?_
         obtain ⟨hk273, h⟩ := Go.L.chk_some h
         refine S_index rfl rfl underlying52 zr3 h0_0 ((s48_259 - (1 : Int)).toNat) (Int.toNat_of_nonneg hk273.1).symm (idx_lt hk273) rfl ?_
         rintro p272 _ rfl hp272
         refine S_guarded rfl rfl hg269 ?_
         refine S_v (r_load1 rfl underlying3 rfl hp272 (hH.trans hL260.arg)) rfl ?_
         refine S_guarded rfl rfl hg269 ?_
         refine S_v (RunsAt_pu rfl) rfl ?_
         refine S_guarded rfl rfl hg266 ?_
         refine S_v (r_pickT rfl hg269 rfl) rfl ?_
         refine S_v (r_pickF rfl hg266 rfl) rfl ?_
         refine S_seqnil ?_
         refine W_if rfl (fun hc274 => ?_) (fun hc274 => ?_)
         ·replace h := Go.L.ite_p hc274 h
          refine W_pz 1 rfl ?_
          refine W_ret ?_
          refine At_block_ret ?_
          refine At_seq_ret ?_
          refine At_loop_ret ?_
          replace h := Go.L.Nxt.out h hm260
          refine At_block_ret ?_
          refine At_cut_ret ?_
          obtain rfl := Option.some.inj h
          refine At_body rfl rfl ?_
          exact ⟨hL260.ext, rfl⟩
         ·replace h := Go.L.ite_n hc274 h
          refine W_skip ?_
          refine At_block ?_
          refine At_seq ?_
          refine W_region ?_
          obtain ⟨hk277, h⟩ := Go.L.chk_some h
          refine S_v (r_ar64 rfl rfl rfl hk277) rfl ?_
          refine S_pu 1 rfl ?_
          refine S_nil ?_
          have h := Go.L.Nxt.again h hm260
          refine At_round ((s48_259 + (1 : Int)), n260) (.cons rfl (.cons rfl (.cons rfl (.cons rfl (.cons rfl (Sub.nil _)))))) ⟨hL260, h⟩ (Nat.lt_succ_self _)
        ·replace h := Go.L.ite_n (of_decide_eq_false hg269) h
         iterate 8 refine S_unwanted rfl rfl hg269 rfl ?_
         refine S_guarded rfl rfl hg266 ?_
         refine S_v (r_pickF rfl hg269 rfl) rfl ?_
         refine S_v (r_pickF rfl hg266 rfl) rfl ?_
         refine S_seqnil ?_
         refine W_false rfl ?_
         refine W_skip ?_
         refine At_block ?_
         refine At_seq ?_
         refine W_region ?_
         obtain ⟨hk279, h⟩ := Go.L.chk_some h
         refine S_v (r_ar64 rfl rfl rfl hk279) rfl ?_
         refine S_pu 1 rfl ?_
         refine S_nil ?_
         have h := Go.L.Nxt.again h hm260
         refine At_round ((s48_259 + (1 : Int)), n260) (.cons rfl (.cons rfl (.cons rfl (.cons rfl (.cons rfl (Sub.nil _)))))) ⟨hL260, h⟩ (Nat.lt_succ_self _)
      ·replace h := Go.L.ite_n hc262 h
       refine W_exit ?_
       refine At_seq_exit ?_
       refine At_loop_exit ?_
       replace h := Go.L.Nxt.out h hm260
       refine At_exit ?_
       refine At_cut () (Sub.nil _) ⟨hL260, h⟩
     ·rintro _ wr237 ⟨hL237, h⟩
      refine W_pz 1 rfl ?_
      refine W_ret ?_
      obtain rfl := Option.some.inj h
      refine At_body rfl rfl ?_
      exact ⟨hL237.ext, rfl⟩
   ·replace h := Go.L.ite_n hc190 h
    refine W_seqr ?_
    refine S_v (r_field rfl underlying96 rfl zr84 (by decide)) rfl ?_
    refine S_v (r_field rfl underlying84 rfl zr3 (by decide)) rfl ?_
    refine S_v (r_loadB1 0 rfl underlying3 rfl hL3 rfl rfl) rfl ?_
    refine S_pu 2 rfl ?_
    refine S_split (s := 25) rfl (fun hg283 => ?_) (fun hg283 => ?_)
    ·replace h := Go.L.ite_n (not_dec_t hg283) h
     refine S_guarded rfl rfl hg283 ?_
     refine S_v (r_field rfl underlying96 rfl zr84 (by decide)) rfl ?_
     refine S_guarded rfl rfl hg283 ?_
     refine S_v (r_field rfl underlying84 rfl zr3 (by decide)) rfl ?_
     refine S_guarded rfl rfl hg283 ?_
     refine S_v (r_loadB1 0 rfl underlying3 rfl hL3 rfl rfl) rfl ?_
     refine S_guarded rfl rfl hg283 ?_
     refine S_v (RunsAt_pu rfl) rfl ?_
     refine S_v (r_pickT rfl hg283 rfl) rfl ?_
     refine S_pz 1 rfl ?_
     refine W_ifn rfl (fun hc285 => ?_) (fun hc285 => ?_)
     ·replace h := Go.L.ite_n hc285 h
      refine W_skip ?_
      refine At_seq ?_
      refine W_ifn rfl (fun hc287 => ?_) (fun hc287 => ?_)
      ·replace h := Go.L.ite_n hc287 h
       refine W_pz 1 rfl ?_
       refine W_ret ?_
       refine At_block_ret ?_
       refine At_seq_ret ?_
       obtain rfl := Option.some.inj h
       refine At_body rfl rfl ?_
       exact ⟨hL3.ext, rfl⟩
      ·replace h := Go.L.ite_p hc287 h
       refine W_skip ?_
       refine At_block ?_
       refine At_seq ?_
       refine W_cut (σ := Unit) (fun (_ : Unit) => []) (fun (_ : Unit) wr => Lcl w [.box b1 [.string ⟨(a0.1.1).toArray⟩, .int .i64 a0.1.2.1, .int .i64 a0.1.2.2.1, .string ⟨(a0.1.2.2.2).toArray⟩, v0_0] 96] wr ∧ shapes_entry_valid_k7 = some r) ?_ ?_
       ·refine W_seqr ?_
        refine S_v (r_field rfl underlying96 rfl zr52 (by decide)) rfl ?_
        refine S_v (r_loadB1 0 rfl underlying52 rfl hL3 rfl rfl) rfl ?_
        refine S_v (r_len rfl underlying52 h0_0) rfl ?_
        refine S_pz 1 rfl ?_
        refine W_block ?_
        obtain ⟨n355, h⟩ := Go.L.run_some h
        refine W_loop (σ := Int × Nat) (fun ⟨s48_354, n⟩ => [(1, .int .i64 a1), (2, .pointer (some ⟨b1, 0, none⟩)), (46, v0_0), (47, .int .i64 (a0.2.length : Int)), (48, .int .i64 s48_354)]) (fun ⟨s48_354, n⟩ wr => Lcl w [.box b1 [.string ⟨(a0.1.1).toArray⟩, .int .i64 a0.1.2.1, .int .i64 a0.1.2.2.1, .string ⟨(a0.1.2.2.2).toArray⟩, v0_0] 96] wr ∧ Go.L.itr (shapes_entry_valid_bl8 a0 a1) n s48_354 = some r) (fun ⟨s48_354, n⟩ => n) ((0 : Int), n355) (.cons rfl (.cons rfl (.cons rfl (.cons rfl (.cons rfl (Sub.nil _)))))) ⟨hL3, h⟩ ?_
        rintro ⟨s48_354, nn355⟩ wr355 ⟨hL355, h⟩
        obtain ⟨n355, e355, rfl, h, hm355⟩ := Go.L.itr_some h
        refine W_pz 1 rfl ?_
        refine W_seq ?_
        refine W_if rfl (fun hc357 => ?_) (fun hc357 => ?_)
        ·replace h := Go.L.ite_p hc357 h
         refine W_skip ?_
         refine At_seq ?_
         refine W_seq ?_
         refine W_block ?_
         refine W_p 1 rfl ?_
         obtain ⟨hk360, h⟩ := Go.L.chk_some h
         refine S_index rfl rfl underlying52 zr3 h0_0 s48_354.toNat (Int.toNat_of_nonneg hk360.1).symm (idx_lt hk360) rfl ?_
         rintro p359 _ rfl hp359
         refine S_v (r_load1 rfl underlying3 rfl hp359 (hH.trans hL355.arg)) rfl ?_
         refine S_pz 2 rfl ?_
         refine W_p 3 rfl ?_
         refine S_or 3 2 rfl rfl rfl rfl rfl rfl ?_
         refine S_pu 1 rfl ?_
         refine S_split (s := 60) rfl (fun hg361 => ?_) (fun hg361 => ?_)
         ·replace h := Go.L.ite_p (of_decide_eq_true hg361) h
          iterate 3 refine S_unwanted rfl rfl hg361 rfl ?_
          iterate 8 refine S_unwanted2 rfl rfl rfl ?_
          refine S_unwanted rfl rfl hg361 rfl ?_
          refine S_v (r_pickT rfl hg361 rfl) rfl ?_
          refine S_seqnil ?_
          refine W_true rfl ?_
          refine W_pz 1 rfl ?_
          refine W_ret ?_
          refine At_block_ret ?_
          refine At_seq_ret ?_
          refine At_loop_ret ?_
          replace h := Go.L.Nxt.out h hm355
          refine At_block_ret ?_
          refine At_cut_ret ?_
          obtain rfl := Option.some.inj h
          refine At_body rfl rfl ?_
          exact ⟨hL355.ext, rfl⟩
         ·replace h := Go.L.ite_n (of_decide_eq_false hg361) h
          refine S_guarded rfl rfl hg361 ?_
          refine S_v (RunsAt_pu rfl) rfl ?_
          refine S_guarded rfl rfl hg361 ?_
          refine S_v (RunsAt_pu rfl) rfl ?_
          refine S_guarded rfl rfl hg361 ?_
          refine S_v (RunsAt_pu rfl) rfl ?_
          refine S_split (s := 63) rfl (fun hg364 => ?_) (fun hg364 => ?_)
          ·replace h := Go.L.ite_p (of_decide_eq_true hg364) h
           refine S_guarded rfl rfl hg364 ?_
           refine S_v (RunsAt_pu rfl) rfl ?_
           refine S_guarded rfl rfl hg364 ?_
           refine S_v (r_field rfl underlying96 rfl zr52 (by decide)) rfl ?_
           refine S_guarded rfl rfl hg364 ?_
           refine S_v (r_loadB1 0 rfl underlying52 rfl hL355 rfl rfl) rfl ?_
           refine S_guarded rfl rfl hg364 ?_
           refine S_v (RunsAt_pu rfl) rfl ?_
           refine S_guarded rfl rfl hg364 ?_
           obtain ⟨hk366, h⟩ := Go.L.chk_some h
           refine S_v (r_ar64 rfl rfl rfl hk366) rfl ?_
           refine S_guarded rfl rfl hg364 ?_
           obtain ⟨hk368, h⟩ := Go.L.chk_some h
           refine S_index rfl rfl underlying52 zr3 h0_0 ((s48_354 - (1 : Int)).toNat) (Int.toNat_of_nonneg hk368.1).symm (idx_lt hk368) rfl ?_
           rintro p367 _ rfl hp367
           refine S_guarded rfl rfl hg364 ?_
           refine S_v (r_load1 rfl underlying3 rfl hp367 (hH.trans hL355.arg)) rfl ?_
           refine S_guarded rfl rfl hg364 ?_
           refine S_v (RunsAt_pu rfl) rfl ?_
           refine S_guarded rfl rfl hg361 ?_
           refine S_v (r_pickT rfl hg364 rfl) rfl ?_
           refine S_v (r_pickF rfl hg361 rfl) rfl ?_
           refine S_seqnil ?_
           refine W_if rfl (fun hc369 => ?_) (fun hc369 => ?_)
           ·replace h := Go.L.ite_p hc369 h
            refine W_pz 1 rfl ?_
            refine W_ret ?_
            refine At_block_ret ?_
            refine At_seq_ret ?_
            refine At_loop_ret ?_
            replace h := Go.L.Nxt.out h hm355
            refine At_block_ret ?_
            refine At_cut_ret ?_
            obtain rfl := Option.some.inj h
            refine At_body rfl rfl ?_
            exact ⟨hL355.ext, rfl⟩
           ·replace h := Go.L.ite_n hc369 h
            refine W_skip ?_
            refine At_block ?_
            refine At_seq ?_
            refine W_region ?_
            obtain ⟨hk372, h⟩ := Go.L.chk_some h
            refine S_v (r_ar64 rfl rfl rfl hk372) rfl ?_
            refine S_pu 1 rfl ?_
            refine S_nil ?_
            have h := Go.L.Nxt.again h hm355
            refine At_round ((s48_354 + (1 : Int)), n355) (.cons rfl (.cons rfl (.cons rfl (.cons rfl (.cons rfl (Sub.nil _)))))) ⟨hL355, h⟩ (Nat.lt_succ_self _)
          ·replace h := Go.L.ite_n (of_decide_eq_false hg364) h
           iterate 8 refine S_unwanted rfl rfl hg364 rfl ?_
           refine S_guarded rfl rfl hg361 ?_
           refine S_v (r_pickF rfl hg364 rfl) rfl ?_
           refine S_v (r_pickF rfl hg361 rfl) rfl ?_
           refine S_seqnil ?_
           refine W_false rfl ?_
           refine W_skip ?_
           refine At_block ?_
           refine At_seq ?_
           refine W_region ?_
           obtain ⟨hk374, h⟩ := Go.L.chk_some h
           refine S_v (r_ar64 rfl rfl rfl hk374) rfl ?_
           refine S_pu 1 rfl ?_
           refine S_nil ?_
           have h := Go.L.Nxt.again h hm355
           refine At_round ((s48_354 + (1 : Int)), n355) (.cons rfl (.cons rfl (.cons rfl (.cons rfl (.cons rfl (Sub.nil _)))))) ⟨hL355, h⟩ (Nat.lt_succ_self _)
        ·replace h := Go.L.ite_n hc357 h
         refine W_exit ?_
         refine At_seq_exit ?_
         refine At_loop_exit ?_
         replace h := Go.L.Nxt.out h hm355
         refine At_exit ?_
         refine At_cut () (Sub.nil _) ⟨hL355, h⟩
       ·rintro _ wr332 ⟨hL332, h⟩
        refine W_pz 1 rfl ?_
        refine W_ret ?_
        obtain rfl := Option.some.inj h
        refine At_body rfl rfl ?_
        exact ⟨hL332.ext, rfl⟩
     ·replace h := Go.L.ite_p hc285 h
      refine W_seqr ?_
      refine S_v (r_field rfl underlying96 rfl zr84 (by decide)) rfl ?_
      refine S_v (r_field rfl underlying84 rfl zr9 (by decide)) rfl ?_
      refine S_v (r_loadB1 0 rfl underlying9 rfl hL3 rfl rfl) rfl ?_
      refine S_v (r_sne rfl rfl) rfl ?_
      refine S_pu 1 rfl ?_
      refine S_split (s := 35) rfl (fun hg378 => ?_) (fun hg378 => ?_)
      ·replace h := Go.L.ite_n (not_dec_t hg378) h
       refine S_guarded rfl rfl hg378 ?_
       refine S_v (r_field rfl underlying96 rfl zr84 (by decide)) rfl ?_
       refine S_guarded rfl rfl hg378 ?_
       refine S_v (r_field rfl underlying84 rfl zr3 (by decide)) rfl ?_
       refine S_guarded rfl rfl hg378 ?_
       refine S_v (r_loadB1 0 rfl underlying3 rfl hL3 rfl rfl) rfl ?_
       refine S_guarded rfl rfl hg378 ?_
       refine S_v (RunsAt_pu rfl) rfl ?_
       refine S_v (r_pickT rfl hg378 rfl) rfl ?_
       refine S_pz 1 rfl ?_
       refine W_ifn rfl (fun hc380 => ?_) (fun hc380 => ?_)
       ·replace h := Go.L.ite_n hc380 h
        refine W_skip ?_
        refine At_seq ?_
        refine W_ifn rfl (fun hc382 => ?_) (fun hc382 => ?_)
        ·replace h := Go.L.ite_n hc382 h
         refine W_pz 1 rfl ?_
         refine W_ret ?_
         refine At_block_ret ?_
         refine At_seq_ret ?_
         obtain rfl := Option.some.inj h
         refine At_body rfl rfl ?_
         exact ⟨hL3.ext, rfl⟩
        ·replace h := Go.L.ite_p hc382 h
         refine W_skip ?_
         refine At_block ?_
         refine At_seq ?_
         refine W_cut (σ := Unit) (fun (_ : Unit) => []) (fun (_ : Unit) wr => Lcl w [.box b1 [.string ⟨(a0.1.1).toArray⟩, .int .i64 a0.1.2.1, .int .i64 a0.1.2.2.1, .string ⟨(a0.1.2.2.2).toArray⟩, v0_0] 96] wr ∧ shapes_entry_valid_k9 = some r) ?_ ?_
         ·refine W_seqr ?_
          refine S_v (r_field rfl underlying96 rfl zr52 (by decide)) rfl ?_
          refine S_v (r_loadB1 0 rfl underlying52 rfl hL3 rfl rfl) rfl ?_
          refine S_v (r_len rfl underlying52 h0_0) rfl ?_
          refine S_pz 1 rfl ?_
          refine W_block ?_
          obtain ⟨n450, h⟩ := Go.L.run_some h
          refine W_loop (σ := Int × Nat) (fun ⟨s48_449, n⟩ => [(1, .int .i64 a1), (2, .pointer (some ⟨b1, 0, none⟩)), (46, v0_0), (47, .int .i64 (a0.2.length : Int)), (48, .int .i64 s48_449)]) (fun ⟨s48_449, n⟩ wr => Lcl w [.box b1 [.string ⟨(a0.1.1).toArray⟩, .int .i64 a0.1.2.1, .int .i64 a0.1.2.2.1, .string ⟨(a0.1.2.2.2).toArray⟩, v0_0] 96] wr ∧ Go.L.itr (shapes_entry_valid_bl10 a0 a1) n s48_449 = some r) (fun ⟨s48_449, n⟩ => n) ((0 : Int), n450) (.cons rfl (.cons rfl (.cons rfl (.cons rfl (.cons rfl (Sub.nil _)))))) ⟨hL3, h⟩ ?_
          rintro ⟨s48_449, nn450⟩ wr450 ⟨hL450, h⟩
          obtain ⟨n450, e450, rfl, h, hm450⟩ := Go.L.itr_some h
          refine W_pz 1 rfl ?_
          refine W_seq ?_
          refine W_if rfl (fun hc452 => ?_) (fun hc452 => ?_)
          ·replace h := Go.L.ite_p hc452 h
           refine W_skip ?_
           refine At_seq ?_
           refine W_seq ?_
           refine W_block ?_
           refine W_p 1 rfl ?_
           obtain ⟨hk455, h⟩ := Go.L.chk_some h
           refine S_index rfl rfl underlying52 zr3 h0_0 s48_449.toNat (Int.toNat_of_nonneg hk455.1).symm (idx_lt hk455) rfl ?_
           rintro p454 _ rfl hp454
           refine S_v (r_load1 rfl underlying3 rfl hp454 (hH.trans hL450.arg)) rfl ?_
           refine S_pz 2 rfl ?_
           refine W_p 3 rfl ?_
           refine S_or 3 2 rfl rfl rfl rfl rfl rfl ?_
           refine S_pu 1 rfl ?_
           refine S_split (s := 60) rfl (fun hg456 => ?_) (fun hg456 => ?_)
           ·replace h := Go.L.ite_p (of_decide_eq_true hg456) h
            iterate 3 refine S_unwanted rfl rfl hg456 rfl ?_
            iterate 8 refine S_unwanted2 rfl rfl rfl ?_
            refine S_unwanted rfl rfl hg456 rfl ?_
            refine S_v (r_pickT rfl hg456 rfl) rfl ?_
            refine S_seqnil ?_
            refine W_true rfl ?_
            refine W_pz 1 rfl ?_
            refine W_ret ?_
            refine At_block_ret ?_
            refine At_seq_ret ?_
            refine At_loop_ret ?_
            replace h := Go.L.Nxt.out h hm450
            refine At_block_ret ?_
            refine At_cut_ret ?_
            obtain rfl := Option.some.inj h
            refine At_body rfl rfl ?_
            exact ⟨hL450.ext, rfl⟩
           ·replace h := Go.L.ite_n (of_decide_eq_false hg456) h
            refine S_guarded rfl rfl hg456 ?_
            refine S_v (RunsAt_pu rfl) rfl ?_
            refine S_guarded rfl rfl hg456 ?_
            refine S_v (RunsAt_pu rfl) rfl ?_
            refine S_guarded rfl rfl hg456 ?_
            refine S_v (RunsAt_pu rfl) rfl ?_
            refine S_split (s := 63) rfl (fun hg459 => ?_) (fun hg459 => ?_)
            ·replace h := Go.L.ite_p (of_decide_eq_true hg459) h
             refine S_guarded rfl rfl hg459 ?_
             refine S_v (RunsAt_pu rfl) rfl ?_
             refine S_guarded rfl rfl hg459 ?_
             refine S_v (r_field rfl underlying96 rfl zr52 (by decide)) rfl ?_
             refine S_guarded rfl rfl hg459 ?_
             refine S_v (r_loadB1 0 rfl underlying52 rfl hL450 rfl rfl) rfl ?_
             refine S_guarded rfl rfl hg459 ?_
             refine S_v (RunsAt_pu rfl) rfl ?_
             refine S_guarded rfl rfl hg459 ?_
             obtain ⟨hk461, h⟩ := Go.L.chk_some h
             refine S_v (r_ar64 rfl rfl rfl hk461) rfl ?_
             refine S_guarded rfl rfl hg459 ?_
             obtain ⟨hk463, h⟩ := Go.L.chk_some h
             refine S_index rfl rfl underlying52 zr3 h0_0 ((s48_449 - (1 : Int)).toNat) (Int.toNat_of_nonneg hk463.1).symm (idx_lt hk463) rfl ?_
             rintro p462 _ rfl hp462
             refine S_guarded rfl rfl hg459 ?_
             refine S_v (r_load1 rfl underlying3 rfl hp462 (hH.trans hL450.arg)) rfl ?_
             refine S_guarded rfl rfl hg459 ?_
             refine S_v (RunsAt_pu rfl) rfl ?_
             refine S_guarded rfl rfl hg456 ?_
             refine S_v (r_pickT rfl hg459 rfl) rfl ?_
             refine S_v (r_pickF rfl hg456 rfl) rfl ?_
             refine S_seqnil ?_
             refine W_if rfl (fun hc464 => ?_) (fun hc464 => ?_)
             ·replace h := Go.L.ite_p hc464 h
              refine W_pz 1 rfl ?_
              refine W_ret ?_
              refine At_block_ret ?_
              refine At_seq_ret ?_
              refine At_loop_ret ?_
              replace h := Go.L.Nxt.out h hm450
              refine At_block_ret ?_
              refine At_cut_ret ?_
              obtain rfl := Option.some.inj h
              refine At_body rfl rfl ?_
              exact ⟨hL450.ext, rfl⟩
             ·replace h := Go.L.ite_n hc464 h
              refine W_skip ?_
              refine At_block ?_
              refine At_seq ?_
              refine W_region ?_
              obtain ⟨hk467, h⟩ := Go.L.chk_some h
              refine S_v (r_ar64 rfl rfl rfl hk467) rfl ?_
              refine S_pu 1 rfl ?_
              refine S_nil ?_
              have h := Go.L.Nxt.again h hm450
              refine At_round ((s48_449 + (1 : Int)), n450) (.cons rfl (.cons rfl (.cons rfl (.cons rfl (.cons rfl (Sub.nil _)))))) ⟨hL450, h⟩ (Nat.lt_succ_self _)
            ·replace h := Go.L.ite_n (of_decide_eq_false hg459) h
             iterate 8 refine S_unwanted rfl rfl hg459 rfl ?_
             refine S_guarded rfl rfl hg456 ?_
             refine S_v (r_pickF rfl hg459 rfl) rfl ?_
             refine S_v (r_pickF rfl hg456 rfl) rfl ?_
             refine S_seqnil ?_
             refine W_false rfl ?_
             refine W_skip ?_
             refine At_block ?_
             refine At_seq ?_
             refine W_region ?_
             obtain ⟨hk469, h⟩ := Go.L.chk_some h
             refine S_v (r_ar64 rfl rfl rfl hk469) rfl ?_
             refine S_pu 1 rfl ?_
             refine S_nil ?_
             have h := Go.L.Nxt.again h hm450
             refine At_round ((s48_449 + (1 : Int)), n450) (.cons rfl (.cons rfl (.cons rfl (.cons rfl (.cons rfl (Sub.nil _)))))) ⟨hL450, h⟩ (Nat.lt_succ_self _)
          ·replace h := Go.L.ite_n hc452 h
           refine W_exit ?_
           refine At_seq_exit ?_
           refine At_loop_exit ?_
           replace h := Go.L.Nxt.out h hm450
           refine At_exit ?_
           refine At_cut () (Sub.nil _) ⟨hL450, h⟩
         ·rintro _ wr427 ⟨hL427, h⟩
          refine W_pz 1 rfl ?_
          refine W_ret ?_
          obtain rfl := Option.some.inj h
          refine At_body rfl rfl ?_
          exact ⟨hL427.ext, rfl⟩
       ·replace h := Go.L.ite_p hc380 h
        refine W_region ?_
        refine S_v (r_field rfl underlying96 rfl zr52 (by decide)) rfl ?_
        refine S_v (r_loadB1 0 rfl underlying52 rfl hL3 rfl rfl) rfl ?_
        refine S_v (r_len rfl underlying52 h0_0) rfl ?_
        refine S_pu 2 rfl ?_
        refine S_nil ?_
        refine At_seq ?_
        refine W_if rfl (fun hc473 => ?_) (fun hc473 => ?_)
        ·replace h := Go.L.ite_p hc473 h
         refine W_pz 1 rfl ?_
         refine W_ret ?_
         refine At_block_ret ?_
         refine At_seq_ret ?_
         obtain rfl := Option.some.inj h
         refine At_body rfl rfl ?_
         exact ⟨hL3.ext, rfl⟩
        ·replace h := Go.L.ite_n hc473 h
         refine W_skip ?_
         refine At_block ?_
         refine At_seq ?_
         refine W_cut (σ := Unit) (fun (_ : Unit) => []) (fun (_ : Unit) wr => Lcl w [.box b1 [.string ⟨(a0.1.1).toArray⟩, .int .i64 a0.1.2.1, .int .i64 a0.1.2.2.1, .string ⟨(a0.1.2.2.2).toArray⟩, v0_0] 96] wr ∧ shapes_entry_valid_k11 = some r) ?_ ?_
         ·refine W_seqr ?_
          refine S_v (r_field rfl underlying96 rfl zr52 (by decide)) rfl ?_
          refine S_v (r_loadB1 0 rfl underlying52 rfl hL3 rfl rfl) rfl ?_
          refine S_v (r_len rfl underlying52 h0_0) rfl ?_
          refine S_pz 1 rfl ?_
          refine W_block ?_
          obtain ⟨n541, h⟩ := Go.L.run_some h
          refine W_loop (σ := Int × Nat) (fun ⟨s48_540, n⟩ => [(1, .int .i64 a1), (2, .pointer (some ⟨b1, 0, none⟩)), (46, v0_0), (47, .int .i64 (a0.2.length : Int)), (48, .int .i64 s48_540)]) (fun ⟨s48_540, n⟩ wr => Lcl w [.box b1 [.string ⟨(a0.1.1).toArray⟩, .int .i64 a0.1.2.1, .int .i64 a0.1.2.2.1, .string ⟨(a0.1.2.2.2).toArray⟩, v0_0] 96] wr ∧ Go.L.itr (shapes_entry_valid_bl12 a0 a1) n s48_540 = some r) (fun ⟨s48_540, n⟩ => n) ((0 : Int), n541) (.cons rfl (.cons rfl (.cons rfl (.cons rfl (.cons rfl (Sub.nil _)))))) ⟨hL3, h⟩ ?_
          rintro ⟨s48_540, nn541⟩ wr541 ⟨hL541, h⟩
          obtain ⟨n541, e541, rfl, h, hm541⟩ := Go.L.itr_some h
          refine W_pz 1 rfl ?_
          refine W_seq ?_
          refine W_if rfl (fun hc543 => ?_) (fun hc543 => ?_)
          ·replace h := Go.L.ite_p hc543 h
           refine W_skip ?_
           refine At_seq ?_
           refine W_seq ?_
           refine W_block ?_
           refine W_p 1 rfl ?_
           obtain ⟨hk546, h⟩ := Go.L.chk_some h
           refine S_index rfl rfl underlying52 zr3 h0_0 s48_540.toNat (Int.toNat_of_nonneg hk546.1).symm (idx_lt hk546) rfl ?_
           rintro p545 _ rfl hp545
           refine S_v (r_load1 rfl underlying3 rfl hp545 (hH.trans hL541.arg)) rfl ?_
           refine S_pz 2 rfl ?_
           refine W_p 3 rfl ?_
           refine S_or 3 2 rfl rfl rfl rfl rfl rfl ?_
           refine S_pu 1 rfl ?_
           refine S_split (s := 60) rfl (fun hg547 => ?_) (fun hg547 => ?_)
           ·replace h := Go.L.ite_p (of_decide_eq_true hg547) h
            iterate 3 refine S_unwanted rfl rfl hg547 rfl ?_
            iterate 8 refine S_unwanted2 rfl rfl rfl ?_
            refine S_unwanted rfl rfl hg547 rfl ?_
            refine S_v (r_pickT rfl hg547 rfl) rfl ?_
            refine S_seqnil ?_
            refine W_true rfl ?_
            refine W_pz 1 rfl ?_
            refine W_ret ?_
            refine At_block_ret ?_
            refine At_seq_ret ?_
            refine At_loop_ret ?_
            replace h := Go.L.Nxt.out h hm541
            refine At_block_ret ?_
            refine At_cut_ret ?_
            obtain rfl := Option.some.inj h
            refine At_body rfl rfl ?_
            exact ⟨hL541.ext, rfl⟩
           ·replace h := Go.L.ite_n (of_decide_eq_false hg547) h
            refine S_guarded rfl rfl hg547 ?_
            refine S_v (RunsAt_pu rfl) rfl ?_
            refine S_guarded rfl rfl hg547 ?_
            refine S_v (RunsAt_pu rfl) rfl ?_
            refine S_guarded rfl rfl hg547 ?_
            refine S_v (RunsAt_pu rfl) rfl ?_
            refine S_split (s := 63) rfl (fun hg550 => ?_) (fun hg550 => ?_)
            ·replace h := Go.L.ite_p (of_decide_eq_true hg550) h
             refine S_guarded rfl rfl hg550 ?_
             refine S_v (RunsAt_pu rfl) rfl ?_
             refine S_guarded rfl rfl hg550 ?_
             refine S_v (r_field rfl underlying96 rfl zr52 (by decide)) rfl ?_
             refine S_guarded rfl rfl hg550 ?_
             refine S_v (r_loadB1 0 rfl underlying52 rfl hL541 rfl rfl) rfl ?_
             refine S_guarded rfl rfl hg550 ?_
             refine S_v (RunsAt_pu rfl) rfl ?_
             refine S_guarded rfl rfl hg550 ?_
             obtain ⟨hk552, h⟩ := Go.L.chk_some h
             refine S_v (r_ar64 rfl rfl rfl hk552) rfl ?_
             refine S_guarded rfl rfl hg550 ?_
             obtain ⟨hk554, h⟩ := Go.L.chk_some h
             refine S_index rfl rfl underlying52 zr3 h0_0 ((s48_540 - (1 : Int)).toNat) (Int.toNat_of_nonneg hk554.1).symm (idx_lt hk554) rfl ?_
             rintro p553 _ rfl hp553
             refine S_guarded rfl rfl hg550 ?_
             refine S_v (r_load1 rfl underlying3 rfl hp553 (hH.trans hL541.arg)) rfl ?_
             refine S_guarded rfl rfl hg550 ?_
             refine S_v (RunsAt_pu rfl) rfl ?_
             refine S_guarded rfl rfl hg547 ?_
             refine S_v (r_pickT rfl hg550 rfl) rfl ?_
             refine S_v (r_pickF rfl hg547 rfl) rfl ?_
             refine S_seqnil ?_
             refine W_if rfl (fun hc555 => ?_) (fun hc555 => ?_)
             ·replace h := Go.L.ite_p hc555 h
              refine W_pz 1 rfl ?_
              refine W_ret ?_
              refine At_block_ret ?_
              refine At_seq_ret ?_
              refine At_loop_ret ?_
              replace h := Go.L.Nxt.out h hm541
              refine At_block_ret ?_
              refine At_cut_ret ?_
              obtain rfl := Option.some.inj h
              refine At_body rfl rfl ?_
              exact ⟨hL541.ext, rfl⟩
             ·replace h := Go.L.ite_n hc555 h
              refine W_skip ?_
              refine At_block ?_
              refine At_seq ?_
              refine W_region ?_
              obtain ⟨hk558, h⟩ := Go.L.chk_some h
              refine S_v (r_ar64 rfl rfl rfl hk558) rfl ?_
              refine S_pu 1 rfl ?_
              refine S_nil ?_
              have h := Go.L.Nxt.again h hm541
              refine At_round ((s48_540 + (1 : Int)), n541) (.cons rfl (.cons rfl (.cons rfl (.cons rfl (.cons rfl (Sub.nil _)))))) ⟨hL541, h⟩ (Nat.lt_succ_self _)
            ·replace h := Go.L.ite_n (of_decide_eq_false hg550) h
             iterate 8 refine S_unwanted rfl rfl hg550 rfl ?_
             refine S_guarded rfl rfl hg547 ?_
             refine S_v (r_pickF rfl hg550 rfl) rfl ?_
             refine S_v (r_pickF rfl hg547 rfl) rfl ?_
             refine S_seqnil ?_
             refine W_false rfl ?_
             refine W_skip ?_
             refine At_block ?_
             refine At_seq ?_
             refine W_region ?_
             obtain ⟨hk560, h⟩ := Go.L.chk_some h
             refine S_v (r_ar64 rfl rfl rfl hk560) rfl ?_
             refine S_pu 1 rfl ?_
             refine S_nil ?_
             have h := Go.L.Nxt.again h hm541
             refine At_round ((s48_540 + (1 : Int)), n541) (.cons rfl (.cons rfl (.cons rfl (.cons rfl (.cons rfl (Sub.nil _)))))) ⟨hL541, h⟩ (Nat.lt_succ_self _)
          ·replace h := Go.L.ite_n hc543 h
           refine W_exit ?_
           refine At_seq_exit ?_
           refine At_loop_exit ?_
           replace h := Go.L.Nxt.out h hm541
           refine At_exit ?_
           refine At_cut () (Sub.nil _) ⟨hL541, h⟩
         ·rintro _ wr518 ⟨hL518, h⟩
          refine W_pz 1 rfl ?_
          refine W_ret ?_
          obtain rfl := Option.some.inj h
          refine At_body rfl rfl ?_
          exact ⟨hL518.ext, rfl⟩
      ·replace h := Go.L.ite_p (not_dec_f hg378) h
       iterate 4 refine S_unwanted rfl rfl hg378 rfl ?_
       refine S_v (r_pickF rfl hg378 rfl) rfl ?_
       refine S_pz 1 rfl ?_
       refine W_false rfl ?_
       refine W_region ?_
       refine S_v (r_field rfl underlying96 rfl zr52 (by decide)) rfl ?_
       refine S_v (r_loadB1 0 rfl underlying52 rfl hL3 rfl rfl) rfl ?_
       refine S_v (r_len rfl underlying52 h0_0) rfl ?_
       refine S_pu 2 rfl ?_
       refine S_nil ?_
       refine At_seq ?_
       refine W_if rfl (fun hc564 => ?_) (fun hc564 => ?_)
       ·replace h := Go.L.ite_p hc564 h
        refine W_pz 1 rfl ?_
        refine W_ret ?_
        refine At_block_ret ?_
        refine At_seq_ret ?_
        obtain rfl := Option.some.inj h
        refine At_body rfl rfl ?_
        exact ⟨hL3.ext, rfl⟩
       ·replace h := Go.L.ite_n hc564 h
        refine W_skip ?_
        refine At_block ?_
        refine At_seq ?_
        refine W_cut (σ := Unit) (fun (_ : Unit) => []) (fun (_ : Unit) wr => Lcl w [.box b1 [.string ⟨(a0.1.1).toArray⟩, .int .i64 a0.1.2.1, .int .i64 a0.1.2.2.1, .string ⟨(a0.1.2.2.2).toArray⟩, v0_0] 96] wr ∧ shapes_entry_valid_k13 = some r) ?_ ?_
        ·refine W_seqr ?_
         refine S_v (r_field rfl underlying96 rfl zr52 (by decide)) rfl ?_
         refine S_v (r_loadB1 0 rfl underlying52 rfl hL3 rfl rfl) rfl ?_
         refine S_v (r_len rfl underlying52 h0_0) rfl ?_
         refine S_pz 1 rfl ?_
         refine W_block ?_
         obtain ⟨n632, h⟩ := Go.L.run_some h
         refine W_loop (σ := Int × Nat) (fun ⟨s48_631, n⟩ => [(1, .int .i64 a1), (2, .pointer (some ⟨b1, 0, none⟩)), (46, v0_0), (47, .int .i64 (a0.2.length : Int)), (48, .int .i64 s48_631)]) (fun ⟨s48_631, n⟩ wr => Lcl w [.box b1 [.string ⟨(a0.1.1).toArray⟩, .int .i64 a0.1.2.1, .int .i64 a0.1.2.2.1, .string ⟨(a0.1.2.2.2).toArray⟩, v0_0] 96] wr ∧ Go.L.itr (shapes_entry_valid_bl14 a0 a1) n s48_631 = some r) (fun ⟨s48_631, n⟩ => n) ((0 : Int), n632) (.cons rfl (.cons rfl (.cons rfl (.cons rfl (.cons rfl (Sub.nil _)))))) ⟨hL3, h⟩ ?_
         rintro ⟨s48_631, nn632⟩ wr632 ⟨hL632, h⟩
         obtain ⟨n632, e632, rfl, h, hm632⟩ := Go.L.itr_some h
         refine W_pz 1 rfl ?_
         refine W_seq ?_
         refine W_if rfl (fun hc634 => ?_) (fun hc634 => ?_)
         ·replace h := Go.L.ite_p hc634 h
          refine W_skip ?_
          refine At_seq ?_
          refine W_seq ?_
          refine W_block ?_
          refine W_p 1 rfl ?_
          obtain ⟨hk637, h⟩ := Go.L.chk_some h
          refine S_index rfl rfl underlying52 zr3 h0_0 s48_631.toNat (Int.toNat_of_nonneg hk637.1).symm (idx_lt hk637) rfl ?_
          rintro p636 _ rfl hp636
          refine S_v (r_load1 rfl underlying3 rfl hp636 (hH.trans hL632.arg)) rfl ?_
          refine S_pz 2 rfl ?_
          refine W_p 3 rfl ?_
          refine S_or 3 2 rfl rfl rfl rfl rfl rfl ?_
          refine S_pu 1 rfl ?_
          refine S_split (s := 60) rfl (fun hg638 => ?_) (fun hg638 => ?_)
          ·replace h := Go.L.ite_p (of_decide_eq_true hg638) h
           iterate 3 refine S_unwanted rfl rfl hg638 rfl ?_
           iterate 8 refine S_unwanted2 rfl rfl rfl ?_
           refine S_unwanted rfl rfl hg638 rfl ?_
           refine S_v (r_pickT rfl hg638 rfl) rfl ?_
           refine S_seqnil ?_
           refine W_true rfl ?_
           refine W_pz 1 rfl ?_
           refine W_ret ?_
           refine At_block_ret ?_
           refine At_seq_ret ?_
           refine At_loop_ret ?_
           replace h := Go.L.Nxt.out h hm632
           refine At_block_ret ?_
           refine At_cut_ret ?_
           obtain rfl := Option.some.inj h
           refine At_body rfl rfl ?_
           exact ⟨hL632.ext, rfl⟩
          ·replace h := Go.L.ite_n (of_decide_eq_false hg638) h
           refine S_guarded rfl rfl hg638 ?_
           refine S_v (RunsAt_pu rfl) rfl ?_
           refine S_guarded rfl rfl hg638 ?_
           refine S_v (RunsAt_pu rfl) rfl ?_
           refine S_guarded rfl rfl hg638 ?_
           refine S_v (RunsAt_pu rfl) rfl ?_
           refine S_split (s := 63) rfl (fun hg641 => ?_) (fun hg641 => ?_)
           ·replace h := Go.L.ite_p (of_decide_eq_true hg641) h
            refine S_guarded rfl rfl hg641 ?_
            refine S_v (RunsAt_pu rfl) rfl ?_
            refine S_guarded rfl rfl hg641 ?_
            refine S_v (r_field rfl underlying96 rfl zr52 (by decide)) rfl ?_
            refine S_guarded rfl rfl hg641 ?_
            refine S_v (r_loadB1 0 rfl underlying52 rfl hL632 rfl rfl) rfl ?_
            refine S_guarded rfl rfl hg641 ?_
            refine S_v (RunsAt_pu rfl) rfl ?_
            refine S_guarded rfl rfl hg641 ?_
            obtain ⟨hk643, h⟩ := Go.L.chk_some h
            refine S_v (r_ar64 rfl rfl rfl hk643) rfl ?_
            refine S_guarded rfl rfl hg641 ?_
            obtain ⟨hk645, h⟩ := Go.L.chk_some h
            refine S_index rfl rfl underlying52 zr3 h0_0 ((s48_631 - (1 : Int)).toNat) (Int.toNat_of_nonneg hk645.1).symm (idx_lt hk645) rfl ?_
            rintro p644 _ rfl hp644
            refine S_guarded rfl rfl hg641 ?_
            refine S_v (r_load1 rfl underlying3 rfl hp644 (hH.trans hL632.arg)) rfl ?_
            refine S_guarded rfl rfl hg641 ?_
            refine S_v (RunsAt_pu rfl) rfl ?_
            refine S_guarded rfl rfl hg638 ?_
            refine S_v (r_pickT rfl hg641 rfl) rfl ?_
            refine S_v (r_pickF rfl hg638 rfl) rfl ?_
            refine S_seqnil ?_
            refine W_if rfl (fun hc646 => ?_) (fun hc646 => ?_)
            ·replace h := Go.L.ite_p hc646 h
             refine W_pz 1 rfl ?_
             refine W_ret ?_
             refine At_block_ret ?_
             refine At_seq_ret ?_
             refine At_loop_ret ?_
             replace h := Go.L.Nxt.out h hm632
             refine At_block_ret ?_
             refine At_cut_ret ?_
             obtain rfl := Option.some.inj h
             refine At_body rfl rfl ?_
             exact ⟨hL632.ext, rfl⟩
            ·replace h := Go.L.ite_n hc646 h
             refine W_skip ?_
             refine At_block ?_
             refine At_seq ?_
             refine W_region ?_
             obtain ⟨hk649, h⟩ := Go.L.chk_some h
             refine S_v (r_ar64 rfl rfl rfl hk649) rfl ?_
             refine S_pu 1 rfl ?_
             refine S_nil ?_
             have h := Go.L.Nxt.again h hm632
             refine At_round ((s48_631 + (1 : Int)), n632) (.cons rfl (.cons rfl (.cons rfl (.cons rfl (.cons rfl (Sub.nil _)))))) ⟨hL632, h⟩ (Nat.lt_succ_self _)
           ·replace h := Go.L.ite_n (of_decide_eq_false hg641) h
            iterate 8 refine S_unwanted rfl rfl hg641 rfl ?_
            refine S_guarded rfl rfl hg638 ?_
            refine S_v (r_pickF rfl hg641 rfl) rfl ?_
            refine S_v (r_pickF rfl hg638 rfl) rfl ?_
            refine S_seqnil ?_
            refine W_false rfl ?_
            refine W_skip ?_
            refine At_block ?_
            refine At_seq ?_
            refine W_region ?_
            obtain ⟨hk651, h⟩ := Go.L.chk_some h
            refine S_v (r_ar64 rfl rfl rfl hk651) rfl ?_
            refine S_pu 1 rfl ?_
            refine S_nil ?_
            have h := Go.L.Nxt.again h hm632
            refine At_round ((s48_631 + (1 : Int)), n632) (.cons rfl (.cons rfl (.cons rfl (.cons rfl (.cons rfl (Sub.nil _)))))) ⟨hL632, h⟩ (Nat.lt_succ_self _)
         ·replace h := Go.L.ite_n hc634 h
          refine W_exit ?_
          refine At_seq_exit ?_
          refine At_loop_exit ?_
          replace h := Go.L.Nxt.out h hm632
          refine At_exit ?_
          refine At_cut () (Sub.nil _) ⟨hL632, h⟩
        ·rintro _ wr609 ⟨hL609, h⟩
         refine W_pz 1 rfl ?_
         refine W_ret ?_
         obtain rfl := Option.some.inj h
         refine At_body rfl rfl ?_
         exact ⟨hL609.ext, rfl⟩
    ·replace h := Go.L.ite_p (not_dec_f hg283) h
     iterate 4 refine S_unwanted rfl rfl hg283 rfl ?_
     refine S_v (r_pickF rfl hg283 rfl) rfl ?_
     refine S_pz 1 rfl ?_
     refine W_false rfl ?_
     refine W_seqr ?_
     refine S_v (r_field rfl underlying96 rfl zr84 (by decide)) rfl ?_
     refine S_v (r_field rfl underlying84 rfl zr9 (by decide)) rfl ?_
     refine S_v (r_loadB1 0 rfl underlying9 rfl hL3 rfl rfl) rfl ?_
     refine S_v (r_sne rfl rfl) rfl ?_
     refine S_pu 1 rfl ?_
     refine S_split (s := 35) rfl (fun hg655 => ?_) (fun hg655 => ?_)
     ·replace h := Go.L.ite_n (not_dec_t hg655) h
      refine S_guarded rfl rfl hg655 ?_
      refine S_v (r_field rfl underlying96 rfl zr84 (by decide)) rfl ?_
      refine S_guarded rfl rfl hg655 ?_
      refine S_v (r_field rfl underlying84 rfl zr3 (by decide)) rfl ?_
      refine S_guarded rfl rfl hg655 ?_
      refine S_v (r_loadB1 0 rfl underlying3 rfl hL3 rfl rfl) rfl ?_
      refine S_guarded rfl rfl hg655 ?_
      refine S_v (RunsAt_pu rfl) rfl ?_
      refine S_v (r_pickT rfl hg655 rfl) rfl ?_
      refine S_pz 1 rfl ?_
      refine W_ifn rfl (fun hc657 => ?_) (fun hc657 => ?_)
      ·replace h := Go.L.ite_n hc657 h
       refine W_skip ?_
       refine At_seq ?_
       refine W_ifn rfl (fun hc659 => ?_) (fun hc659 => ?_)
       ·replace h := Go.L.ite_n hc659 h
        refine W_pz 1 rfl ?_
        refine W_ret ?_
        refine At_block_ret ?_
        refine At_seq_ret ?_
        obtain rfl := Option.some.inj h
        refine At_body rfl rfl ?_
        exact ⟨hL3.ext, rfl⟩
       ·replace h := Go.L.ite_p hc659 h
        refine W_skip ?_
        refine At_block ?_
        refine At_seq ?_
        refine W_cut (σ := Unit) (fun (_ : Unit) => []) (fun (_ : Unit) wr => Lcl w [.box b1 [.string ⟨(a0.1.1).toArray⟩, .int .i64 a0.1.2.1, .int .i64 a0.1.2.2.1, .string ⟨(a0.1.2.2.2).toArray⟩, v0_0] 96] wr ∧ shapes_entry_valid_k15 = some r) ?_ ?_
        ·refine W_seqr ?_
         refine S_v (r_field rfl underlying96 rfl zr52 (by decide)) rfl ?_
         refine S_v (r_loadB1 0 rfl underlying52 rfl hL3 rfl rfl) rfl ?_
         refine S_v (r_len rfl underlying52 h0_0) rfl ?_
         refine S_pz 1 rfl ?_
         refine W_block ?_
         obtain ⟨n727, h⟩ := Go.L.run_some h
         refine W_loop (σ := Int × Nat) (fun ⟨s48_726, n⟩ => [(1, .int .i64 a1), (2, .pointer (some ⟨b1, 0, none⟩)), (46, v0_0), (47, .int .i64 (a0.2.length : Int)), (48, .int .i64 s48_726)]) (fun ⟨s48_726, n⟩ wr => Lcl w [.box b1 [.string ⟨(a0.1.1).toArray⟩, .int .i64 a0.1.2.1, .int .i64 a0.1.2.2.1, .string ⟨(a0.1.2.2.2).toArray⟩, v0_0] 96] wr ∧ Go.L.itr (shapes_entry_valid_bl16 a0 a1) n s48_726 = some r) (fun ⟨s48_726, n⟩ => n) ((0 : Int), n727) (.cons rfl (.cons rfl (.cons rfl (.cons rfl (.cons rfl (Sub.nil _)))))) ⟨hL3, h⟩ ?_
         rintro ⟨s48_726, nn727⟩ wr727 ⟨hL727, h⟩
         obtain ⟨n727, e727, rfl, h, hm727⟩ := Go.L.itr_some h
         refine W_pz 1 rfl ?_
         refine W_seq ?_
         refine W_if rfl (fun hc729 => ?_) (fun hc729 => ?_)
         ·replace h := Go.L.ite_p hc729 h
          refine W_skip ?_
          refine At_seq ?_
          refine W_seq ?_
          refine W_block ?_
          refine W_p 1 rfl ?_
          obtain ⟨hk732, h⟩ := Go.L.chk_some h
          refine S_index rfl rfl underlying52 zr3 h0_0 s48_726.toNat (Int.toNat_of_nonneg hk732.1).symm (idx_lt hk732) rfl ?_
          rintro p731 _ rfl hp731
          refine S_v (r_load1 rfl underlying3 rfl hp731 (hH.trans hL727.arg)) rfl ?_
          refine S_pz 2 rfl ?_
          refine W_p 3 rfl ?_
          refine S_or 3 2 rfl rfl rfl rfl rfl rfl ?_
          refine S_pu 1 rfl ?_
          refine S_split (s := 60) rfl (fun hg733 => ?_) (fun hg733 => ?_)
          ·replace h := Go.L.ite_p (of_decide_eq_true hg733) h
           iterate 3 refine S_unwanted rfl rfl hg733 rfl ?_
           iterate 8 refine S_unwanted2 rfl rfl rfl ?_
           refine S_unwanted rfl rfl hg733 rfl ?_
           refine S_v (r_pickT rfl hg733 rfl) rfl ?_
           refine S_seqnil ?_
           refine W_true rfl ?_
           refine W_pz 1 rfl ?_
           refine W_ret ?_
           refine At_block_ret ?_
           refine At_seq_ret ?_
           refine At_loop_ret ?_
           replace h := Go.L.Nxt.out h hm727
           refine At_block_ret ?_
           refine At_cut_ret ?_
           obtain rfl := Option.some.inj h
           refine At_body rfl rfl ?_
           exact ⟨hL727.ext, rfl⟩
          ·replace h := Go.L.ite_n (of_decide_eq_false hg733) h
           refine S_guarded rfl rfl hg733 ?_
           refine S_v (RunsAt_pu rfl) rfl ?_
           refine S_guarded rfl rfl hg733 ?_
           refine S_v (RunsAt_pu rfl) rfl ?_
           refine S_guarded rfl rfl hg733 ?_
           refine S_v (RunsAt_pu rfl) rfl ?_
           refine S_split (s := 63) rfl (fun hg736 => ?_) (fun hg736 => ?_)
           ·replace h := Go.L.ite_p (of_decide_eq_true hg736) h
            refine S_guarded rfl rfl hg736 ?_
            refine S_v (RunsAt_pu rfl) rfl ?_
            refine S_guarded rfl rfl hg736 ?_
            refine S_v (r_field rfl underlying96 rfl zr52 (by decide)) rfl ?_
            refine S_guarded rfl rfl hg736 ?_
            refine S_v (r_loadB1 0 rfl underlying52 rfl hL727 rfl rfl) rfl ?_
            refine S_guarded rfl rfl hg736 ?_
            refine S_v (RunsAt_pu rfl) rfl ?_
            refine S_guarded rfl rfl hg736 ?_
            obtain ⟨hk738, h⟩ := Go.L.chk_some h
            refine S_v (r_ar64 rfl rfl rfl hk738) rfl ?_
            refine S_guarded rfl rfl hg736 ?_
            obtain ⟨hk740, h⟩ := Go.L.chk_some h
            refine S_index rfl rfl underlying52 zr3 h0_0 ((s48_726 - (1 : Int)).toNat) (Int.toNat_of_nonneg hk740.1).symm (idx_lt hk740) rfl ?_
            rintro p739 _ rfl hp739
            refine S_guarded rfl rfl hg736 ?_
            refine S_v (r_load1 rfl underlying3 rfl hp739 (hH.trans hL727.arg)) rfl ?_
            refine S_guarded rfl rfl hg736 ?_
            refine S_v (RunsAt_pu rfl) rfl ?_
            refine S_guarded rfl rfl hg733 ?_
            refine S_v (r_pickT rfl hg736 rfl) rfl ?_
            refine S_v (r_pickF rfl hg733 rfl) rfl ?_
            refine S_seqnil ?_
            refine W_if rfl (fun hc741 => ?_) (fun hc741 => ?_)
            ·replace h := Go.L.ite_p hc741 h
             refine W_pz 1 rfl ?_
             refine W_ret ?_
             refine At_block_ret ?_
             refine At_seq_ret ?_
             refine At_loop_ret ?_
             replace h := Go.L.Nxt.out h hm727
             refine At_block_ret ?_
             refine At_cut_ret ?_
             obtain rfl := Option.some.inj h
             refine At_body rfl rfl ?_
             exact ⟨hL727.ext, rfl⟩
            ·replace h := Go.L.ite_n hc741 h
             refine W_skip ?_
             refine At_block ?_
             refine At_seq ?_
             refine W_region ?_
             obtain ⟨hk744, h⟩ := Go.L.chk_some h
             refine S_v (r_ar64 rfl rfl rfl hk744) rfl ?_
             refine S_pu 1 rfl ?_
             refine S_nil ?_
             have h := Go.L.Nxt.again h hm727
             refine At_round ((s48_726 + (1 : Int)), n727) (.cons rfl (.cons rfl (.cons rfl (.cons rfl (.cons rfl (Sub.nil _)))))) ⟨hL727, h⟩ (Nat.lt_succ_self _)
           ·replace h := Go.L.ite_n (of_decide_eq_false hg736) h
            iterate 8 refine S_unwanted rfl rfl hg736 rfl ?_
            refine S_guarded rfl rfl hg733 ?_
            refine S_v (r_pickF rfl hg736 rfl) rfl ?_
            refine S_v (r_pickF rfl hg733 rfl) rfl ?_
            refine S_seqnil ?_
            refine W_false rfl ?_
            refine W_skip ?_
            refine At_block ?_
            refine At_seq ?_
            refine W_region ?_
            obtain ⟨hk746, h⟩ := Go.L.chk_some h
            refine S_v (r_ar64 rfl rfl rfl hk746) rfl ?_
            refine S_pu 1 rfl ?_
            refine S_nil ?_
            have h := Go.L.Nxt.again h hm727
            refine At_round ((s48_726 + (1 : Int)), n727) (.cons rfl (.cons rfl (.cons rfl (.cons rfl (.cons rfl (Sub.nil _)))))) ⟨hL727, h⟩ (Nat.lt_succ_self _)
         ·replace h := Go.L.ite_n hc729 h
          refine W_exit ?_
          refine At_seq_exit ?_
          refine At_loop_exit ?_
          replace h := Go.L.Nxt.out h hm727
          refine At_exit ?_
          refine At_cut () (Sub.nil _) ⟨hL727, h⟩
        ·rintro _ wr704 ⟨hL704, h⟩
         refine W_pz 1 rfl ?_
         refine W_ret ?_
         obtain rfl := Option.some.inj h
         refine At_body rfl rfl ?_
         exact ⟨hL704.ext, rfl⟩
      ·replace h := Go.L.ite_p hc657 h
       refine W_region ?_
       refine S_v (r_field rfl underlying96 rfl zr52 (by decide)) rfl ?_
       refine S_v (r_loadB1 0 rfl underlying52 rfl hL3 rfl rfl) rfl ?_
       refine S_v (r_len rfl underlying52 h0_0) rfl ?_
       refine S_pu 2 rfl ?_
       refine S_nil ?_
       refine At_seq ?_
       refine W_if rfl (fun hc750 => ?_) (fun hc750 => ?_)
       ·replace h := Go.L.ite_p hc750 h
        refine W_pz 1 rfl ?_
        refine W_ret ?_
        refine At_block_ret ?_
        refine At_seq_ret ?_
        obtain rfl := Option.some.inj h
        refine At_body rfl rfl ?_
        exact ⟨hL3.ext, rfl⟩
       ·replace h := Go.L.ite_n hc750 h
        refine W_skip ?_
        refine At_block ?_
        refine At_seq ?_
        refine W_cut (σ := Unit) (fun (_ : Unit) => []) (fun (_ : Unit) wr => Lcl w [.box b1 [.string ⟨(a0.1.1).toArray⟩, .int .i64 a0.1.2.1, .int .i64 a0.1.2.2.1, .string ⟨(a0.1.2.2.2).toArray⟩, v0_0] 96] wr ∧ shapes_entry_valid_k17 = some r) ?_ ?_
        ·refine W_seqr ?_
         refine S_v (r_field rfl underlying96 rfl zr52 (by decide)) rfl ?_
         refine S_v (r_loadB1 0 rfl underlying52 rfl hL3 rfl rfl) rfl ?_
         refine S_v (r_len rfl underlying52 h0_0) rfl ?_
         refine S_pz 1 rfl ?_
         refine W_block ?_
         obtain ⟨n818, h⟩ := Go.L.run_some h
         refine W_loop (σ := Int × Nat) (fun ⟨s48_817, n⟩ => [(1, .int .i64 a1), (2, .pointer (some ⟨b1, 0, none⟩)), (46, v0_0), (47, .int .i64 (a0.2.length : Int)), (48, .int .i64 s48_817)]) (fun ⟨s48_817, n⟩ wr => Lcl w [.box b1 [.string ⟨(a0.1.1).toArray⟩, .int .i64 a0.1.2.1, .int .i64 a0.1.2.2.1, .string ⟨(a0.1.2.2.2).toArray⟩, v0_0] 96] wr ∧ Go.L.itr (shapes_entry_valid_bl18 a0 a1) n s48_817 = some r) (fun ⟨s48_817, n⟩ => n) ((0 : Int), n818) (.cons rfl (.cons rfl (.cons rfl (.cons rfl (.cons rfl (Sub.nil _)))))) ⟨hL3, h⟩ ?_
         rintro ⟨s48_817, nn818⟩ wr818 ⟨hL818, h⟩
         obtain ⟨n818, e818, rfl, h, hm818⟩ := Go.L.itr_some h
         refine W_pz 1 rfl ?_
         refine W_seq ?_
         refine W_if rfl (fun hc820 => ?_) (fun hc820 => ?_)
         ·replace h := Go.L.ite_p hc820 h
          refine W_skip ?_
          refine At_seq ?_
          refine W_seq ?_
          refine W_block ?_
          refine W_p 1 rfl ?_
          obtain ⟨hk823, h⟩ := Go.L.chk_some h
          refine S_index rfl rfl underlying52 zr3 h0_0 s48_817.toNat (Int.toNat_of_nonneg hk823.1).symm (idx_lt hk823) rfl ?_
          rintro p822 _ rfl hp822
          refine S_v (r_load1 rfl underlying3 rfl hp822 (hH.trans hL818.arg)) rfl ?_
          refine S_pz 2 rfl ?_
          refine W_p 3 rfl ?_
          refine S_or 3 2 rfl rfl rfl rfl rfl rfl ?_
          refine S_pu 1 rfl ?_
          refine S_split (s := 60) rfl (fun hg824 => ?_) (fun hg824 => ?_)
          ·replace h := Go.L.ite_p (of_decide_eq_true hg824) h
           iterate 3 refine S_unwanted rfl rfl hg824 rfl ?_
           iterate 8 refine S_unwanted2 rfl rfl rfl ?_
           refine S_unwanted rfl rfl hg824 rfl ?_
           refine S_v (r_pickT rfl hg824 rfl) rfl ?_
           refine S_seqnil ?_
           refine W_true rfl ?_
           refine W_pz 1 rfl ?_
           refine W_ret ?_
           refine At_block_ret ?_
           refine At_seq_ret ?_
           refine At_loop_ret ?_
           replace h := Go.L.Nxt.out h hm818
           refine At_block_ret ?_
           refine At_cut_ret ?_
           obtain rfl := Option.some.inj h
           refine At_body rfl rfl ?_
           exact ⟨hL818.ext, rfl⟩
          ·replace h := Go.L.ite_n (of_decide_eq_false hg824) h
           refine S_guarded rfl rfl hg824 ?_
           refine S_v (RunsAt_pu rfl) rfl ?_
           refine S_guarded rfl rfl hg824 ?_
           refine S_v (RunsAt_pu rfl) rfl ?_
           refine S_guarded rfl rfl hg824 ?_
           refine S_v (RunsAt_pu rfl) rfl ?_
           refine S_split (s := 63) rfl (fun hg827 => ?_) (fun hg827 => ?_)
           ·replace h := Go.L.ite_p (of_decide_eq_true hg827) h
            refine S_guarded rfl rfl hg827 ?_
            refine S_v (RunsAt_pu rfl) rfl ?_
            refine S_guarded rfl rfl hg827 ?_
            refine S_v (r_field rfl underlying96 rfl zr52 (by decide)) rfl ?_
            refine S_guarded rfl rfl hg827 ?_
            refine S_v (r_loadB1 0 rfl underlying52 rfl hL818 rfl rfl) rfl ?_
            refine S_guarded rfl rfl hg827 ?_
            refine S_v (RunsAt_pu rfl) rfl ?_
            refine S_guarded rfl rfl hg827 ?_
            obtain ⟨hk829, h⟩ := Go.L.chk_some h
            refine S_v (r_ar64 rfl rfl rfl hk829) rfl ?_
            refine S_guarded rfl rfl hg827 ?_
            obtain ⟨hk831, h⟩ := Go.L.chk_some h
            refine S_index rfl rfl underlying52 zr3 h0_0 ((s48_817 - (1 : Int)).toNat) (Int.toNat_of_nonneg hk831.1).symm (idx_lt hk831) rfl ?_
            rintro p830 _ rfl hp830
            refine S_guarded rfl rfl hg827 ?_
            refine S_v (r_load1 rfl underlying3 rfl hp830 (hH.trans hL818.arg)) rfl ?_
            refine S_guarded rfl rfl hg827 ?_
            refine S_v (RunsAt_pu rfl) rfl ?_
            refine S_guarded rfl rfl hg824 ?_
            refine S_v (r_pickT rfl hg827 rfl) rfl ?_
            refine S_v (r_pickF rfl hg824 rfl) rfl ?_
            refine S_seqnil ?_
            refine W_if rfl (fun hc832 => ?_) (fun hc832 => ?_)
            ·replace h := Go.L.ite_p hc832 h
             refine W_pz 1 rfl ?_
             refine W_ret ?_
             refine At_block_ret ?_
             refine At_seq_ret ?_
             refine At_loop_ret ?_
             replace h := Go.L.Nxt.out h hm818
             refine At_block_ret ?_
             refine At_cut_ret ?_
             obtain rfl := Option.some.inj h
             refine At_body rfl rfl ?_
             exact ⟨hL818.ext, rfl⟩
            ·replace h := Go.L.ite_n hc832 h
             refine W_skip ?_
             refine At_block ?_
             refine At_seq ?_
             refine W_region ?_
             obtain ⟨hk835, h⟩ := Go.L.chk_some h
             refine S_v (r_ar64 rfl rfl rfl hk835) rfl ?_
             refine S_pu 1 rfl ?_
             refine S_nil ?_
             have h := Go.L.Nxt.again h hm818
             refine At_round ((s48_817 + (1 : Int)), n818) (.cons rfl (.cons rfl (.cons rfl (.cons rfl (.cons rfl (Sub.nil _)))))) ⟨hL818, h⟩ (Nat.lt_succ_self _)
           ·replace h := Go.L.ite_n (of_decide_eq_false hg827) h
            iterate 8 refine S_unwanted rfl rfl hg827 rfl ?_
            refine S_guarded rfl rfl hg824 ?_
            refine S_v (r_pickF rfl hg827 rfl) rfl ?_
            refine S_v (r_pickF rfl hg824 rfl) rfl ?_
            refine S_seqnil ?_
            refine W_false rfl ?_
            refine W_skip ?_
            refine At_block ?_
            refine At_seq ?_
            refine W_region ?_
            obtain ⟨hk837, h⟩ := Go.L.chk_some h
            refine S_v (r_ar64 rfl rfl rfl hk837) rfl ?_
            refine S_pu 1 rfl ?_
            refine S_nil ?_
            have h := Go.L.Nxt.again h hm818
            refine At_round ((s48_817 + (1 : Int)), n818) (.cons rfl (.cons rfl (.cons rfl (.cons rfl (.cons rfl (Sub.nil _)))))) ⟨hL818, h⟩ (Nat.lt_succ_self _)
         ·replace h := Go.L.ite_n hc820 h
          refine W_exit ?_
          refine At_seq_exit ?_
          refine At_loop_exit ?_
          replace h := Go.L.Nxt.out h hm818
          refine At_exit ?_
          refine At_cut () (Sub.nil _) ⟨hL818, h⟩
        ·rintro _ wr795 ⟨hL795, h⟩
         refine W_pz 1 rfl ?_
         refine W_ret ?_
         obtain rfl := Option.some.inj h
         refine At_body rfl rfl ?_
         exact ⟨hL795.ext, rfl⟩
     ·replace h := Go.L.ite_p (not_dec_f hg655) h
      iterate 4 refine S_unwanted rfl rfl hg655 rfl ?_
      refine S_v (r_pickF rfl hg655 rfl) rfl ?_
      refine S_pz 1 rfl ?_
      refine W_false rfl ?_
      refine W_region ?_
      refine S_v (r_field rfl underlying96 rfl zr52 (by decide)) rfl ?_
      refine S_v (r_loadB1 0 rfl underlying52 rfl hL3 rfl rfl) rfl ?_
      refine S_v (r_len rfl underlying52 h0_0) rfl ?_
      refine S_pu 2 rfl ?_
      refine S_nil ?_
      refine At_seq ?_
      refine W_if rfl (fun hc841 => ?_) (fun hc841 => ?_)
      ·replace h := Go.L.ite_p hc841 h
       refine W_pz 1 rfl ?_
       refine W_ret ?_
       refine At_block_ret ?_
       refine At_seq_ret ?_
       obtain rfl := Option.some.inj h
       refine At_body rfl rfl ?_
       exact ⟨hL3.ext, rfl⟩
      ·replace h := Go.L.ite_n hc841 h
       refine W_skip ?_
       refine At_block ?_
       refine At_seq ?_
       refine W_cut (σ := Unit) (fun (_ : Unit) => []) (fun (_ : Unit) wr => Lcl w [.box b1 [.string ⟨(a0.1.1).toArray⟩, .int .i64 a0.1.2.1, .int .i64 a0.1.2.2.1, .string ⟨(a0.1.2.2.2).toArray⟩, v0_0] 96] wr ∧ shapes_entry_valid_k19 = some r) ?_ ?_
       ·refine W_seqr ?_
        refine S_v (r_field rfl underlying96 rfl zr52 (by decide)) rfl ?_
        refine S_v (r_loadB1 0 rfl underlying52 rfl hL3 rfl rfl) rfl ?_
        refine S_v (r_len rfl underlying52 h0_0) rfl ?_
        refine S_pz 1 rfl ?_
        refine W_block ?_
        obtain ⟨n909, h⟩ := Go.L.run_some h
        refine W_loop (σ := Int × Nat) (fun ⟨s48_908, n⟩ => [(1, .int .i64 a1), (2, .pointer (some ⟨b1, 0, none⟩)), (46, v0_0), (47, .int .i64 (a0.2.length : Int)), (48, .int .i64 s48_908)]) (fun ⟨s48_908, n⟩ wr => Lcl w [.box b1 [.string ⟨(a0.1.1).toArray⟩, .int .i64 a0.1.2.1, .int .i64 a0.1.2.2.1, .string ⟨(a0.1.2.2.2).toArray⟩, v0_0] 96] wr ∧ Go.L.itr (shapes_entry_valid_bl20 a0 a1) n s48_908 = some r) (fun ⟨s48_908, n⟩ => n) ((0 : Int), n909) (.cons rfl (.cons rfl (.cons rfl (.cons rfl (.cons rfl (Sub.nil _)))))) ⟨hL3, h⟩ ?_
        rintro ⟨s48_908, nn909⟩ wr909 ⟨hL909, h⟩
        obtain ⟨n909, e909, rfl, h, hm909⟩ := Go.L.itr_some h
        refine W_pz 1 rfl ?_
        refine W_seq ?_
        refine W_if rfl (fun hc911 => ?_) (fun hc911 => ?_)
        ·replace h := Go.L.ite_p hc911 h
         refine W_skip ?_
         refine At_seq ?_
         refine W_seq ?_
         refine W_block ?_
         refine W_p 1 rfl ?_
         obtain ⟨hk914, h⟩ := Go.L.chk_some h
         refine S_index rfl rfl underlying52 zr3 h0_0 s48_908.toNat (Int.toNat_of_nonneg hk914.1).symm (idx_lt hk914) rfl ?_
         rintro p913 _ rfl hp913
         refine S_v (r_load1 rfl underlying3 rfl hp913 (hH.trans hL909.arg)) rfl ?_
         refine S_pz 2 rfl ?_
         refine W_p 3 rfl ?_
         refine S_or 3 2 rfl rfl rfl rfl rfl rfl ?_
         refine S_pu 1 rfl ?_
         refine S_split (s := 60) rfl (fun hg915 => ?_) (fun hg915 => ?_)
         ·replace h := Go.L.ite_p (of_decide_eq_true hg915) h
          iterate 3 refine S_unwanted rfl rfl hg915 rfl ?_
          iterate 8 refine S_unwanted2 rfl rfl rfl ?_
          refine S_unwanted rfl rfl hg915 rfl ?_
          refine S_v (r_pickT rfl hg915 rfl) rfl ?_
          refine S_seqnil ?_
          refine W_true rfl ?_
          refine W_pz 1 rfl ?_
          refine W_ret ?_
          refine At_block_ret ?_
          refine At_seq_ret ?_
          refine At_loop_ret ?_
          replace h := Go.L.Nxt.out h hm909
          refine At_block_ret ?_
          refine At_cut_ret ?_
          obtain rfl := Option.some.inj h
          refine At_body rfl rfl ?_
          exact ⟨hL909.ext, rfl⟩
         ·replace h := Go.L.ite_n (of_decide_eq_false hg915) h
          refine S_guarded rfl rfl hg915 ?_
          refine S_v (RunsAt_pu rfl) rfl ?_
          refine S_guarded rfl rfl hg915 ?_
          refine S_v (RunsAt_pu rfl) rfl ?_
          refine S_guarded rfl rfl hg915 ?_
          refine S_v (RunsAt_pu rfl) rfl ?_
          refine S_split (s := 63) rfl (fun hg918 => ?_) (fun hg918 => ?_)
          ·replace h := Go.L.ite_p (of_decide_eq_true hg918) h
           refine S_guarded rfl rfl hg918 ?_
           refine S_v (RunsAt_pu rfl) rfl ?_
           refine S_guarded rfl rfl hg918 ?_
           refine S_v (r_field rfl underlying96 rfl zr52 (by decide)) rfl ?_
           refine S_guarded rfl rfl hg918 ?_
           refine S_v (r_loadB1 0 rfl underlying52 rfl hL909 rfl rfl) rfl ?_
           refine S_guarded rfl rfl hg918 ?_
           refine S_v (RunsAt_pu rfl) rfl ?_
           refine S_guarded rfl rfl hg918 ?_
           obtain ⟨hk920, h⟩ := Go.L.chk_some h
           refine S_v (r_ar64 rfl rfl rfl hk920) rfl ?_
           refine S_guarded rfl rfl hg918 ?_
           obtain ⟨hk922, h⟩ := Go.L.chk_some h
           refine S_index rfl rfl underlying52 zr3 h0_0 ((s48_908 - (1 : Int)).toNat) (Int.toNat_of_nonneg hk922.1).symm (idx_lt hk922) rfl ?_
           rintro p921 _ rfl hp921
           refine S_guarded rfl rfl hg918 ?_
           refine S_v (r_load1 rfl underlying3 rfl hp921 (hH.trans hL909.arg)) rfl ?_
           refine S_guarded rfl rfl hg918 ?_
           refine S_v (RunsAt_pu rfl) rfl ?_
           refine S_guarded rfl rfl hg915 ?_
           refine S_v (r_pickT rfl hg918 rfl) rfl ?_
           refine S_v (r_pickF rfl hg915 rfl) rfl ?_
           refine S_seqnil ?_
           refine W_if rfl (fun hc923 => ?_) (fun hc923 => ?_)
           ·replace h := Go.L.ite_p hc923 h
            refine W_pz 1 rfl ?_
            refine W_ret ?_
            refine At_block_ret ?_
            refine At_seq_ret ?_
            refine At_loop_ret ?_
            replace h := Go.L.Nxt.out h hm909
            refine At_block_ret ?_
            refine At_cut_ret ?_
            obtain rfl := Option.some.inj h
            refine At_body rfl rfl ?_
            exact ⟨hL909.ext, rfl⟩
           ·replace h := Go.L.ite_n hc923 h
            refine W_skip ?_
            refine At_block ?_
            refine At_seq ?_
            refine W_region ?_
            obtain ⟨hk926, h⟩ := Go.L.chk_some h
            refine S_v (r_ar64 rfl rfl rfl hk926) rfl ?_
            refine S_pu 1 rfl ?_
            refine S_nil ?_
            have h := Go.L.Nxt.again h hm909
            refine At_round ((s48_908 + (1 : Int)), n909) (.cons rfl (.cons rfl (.cons rfl (.cons rfl (.cons rfl (Sub.nil _)))))) ⟨hL909, h⟩ (Nat.lt_succ_self _)
          ·replace h := Go.L.ite_n (of_decide_eq_false hg918) h
           iterate 8 refine S_unwanted rfl rfl hg918 rfl ?_
           refine S_guarded rfl rfl hg915 ?_
           refine S_v (r_pickF rfl hg918 rfl) rfl ?_
           refine S_v (r_pickF rfl hg915 rfl) rfl ?_
           refine S_seqnil ?_
           refine W_false rfl ?_
           refine W_skip ?_
           refine At_block ?_
           refine At_seq ?_
           refine W_region ?_
           obtain ⟨hk928, h⟩ := Go.L.chk_some h
           refine S_v (r_ar64 rfl rfl rfl hk928) rfl ?_
           refine S_pu 1 rfl ?_
           refine S_nil ?_
           have h := Go.L.Nxt.again h hm909
           refine At_round ((s48_908 + (1 : Int)), n909) (.cons rfl (.cons rfl (.cons rfl (.cons rfl (.cons rfl (Sub.nil _)))))) ⟨hL909, h⟩ (Nat.lt_succ_self _)
        ·replace h := Go.L.ite_n hc911 h
         refine W_exit ?_
         refine At_seq_exit ?_
         refine At_loop_exit ?_
         replace h := Go.L.Nxt.out h hm909
         refine At_exit ?_
         refine At_cut () (Sub.nil _) ⟨hL909, h⟩
       ·rintro _ wr886 ⟨hL886, h⟩
        refine W_pz 1 rfl ?_
        refine W_ret ?_
        obtain rfl := Option.some.inj h
        refine At_body rfl rfl ?_
        exact ⟨hL886.ext, rfl⟩
noncomputable def shapes_Open_k1 (c26 : Int) (c27 : Int) (c28 : Int) : Option ((Int × (List (((List UInt8) × Int × Int × (List UInt8)) × (List Int)))) × (Int × Int)) :=
 some ((c28, []), (c26, c27))
noncomputable def shapes_Open_k2 (c50 : Int) (c51 : Int) (c52 : Int) : Option ((Int × (List (((List UInt8) × Int × Int × (List UInt8)) × (List Int)))) × (Int × Int)) :=
 some ((c52, []), (c50, c51))
noncomputable def shapes_Open_k5 (c255 : Int) (c256 : Int) (c257 : Int) : Option ((Int) ⊕ ((Int × (List (((List UInt8) × Int × Int × (List UInt8)) × (List Int)))) × (Int × Int))) :=
 Option.map Sum.inr (some ((c257, []), (c255, c256)))
noncomputable def shapes_Open_k6 (c286 : Int) (c287 : Int) (c288 : Int) : Option ((Int) ⊕ ((Int × (List (((List UInt8) × Int × Int × (List UInt8)) × (List Int)))) × (Int × Int))) :=
 Option.map Sum.inr (some ((c288, []), (c286, c287)))
noncomputable def shapes_Open_k7 (c322 : Int) (c323 : Int) (c324 : Int) : Option ((Int × (List (((List UInt8) × Int × Int × (List UInt8)) × (List Int)))) × (Int × Int)) :=
 some ((c324, []), (c322, c323))
noncomputable def shapes_Open_k3 (a0 : List UInt8) (x10 : (Int × Int)) (x14 : Int × Int × (Int × Int)) (x39 : (List (((List UInt8) × Int × Int × (List UInt8)) × (List Int))) × Int × (Int × Int)) : Option ((Int × (List (((List UInt8) × Int × Int × (List UInt8)) × (List Int)))) × (Int × Int)) :=
 Option.bind (shapes_Index_Bytes (x14.1, x39.1)) (fun x310 => Option.bind (bytes_Equal x310 a0) (fun x312 => if !x312 then shapes_Open_k7 x10.1 x10.2 (0 : Int) else some ((x14.1, x39.1), ((0 : Int), (0 : Int)))))
noncomputable def shapes_Open_bl4 (a0 : List UInt8) (x10 : (Int × Int)) (x14 : Int × Int × (Int × Int)) (x39 : (List (((List UInt8) × Int × Int × (List UInt8)) × (List Int))) × Int × (Int × Int)) : Int → Option ((Int) ⊕ ((Int × (List (((List UInt8) × Int × Int × (List UInt8)) × (List Int)))) × (Int × Int))) := fun s54_232 =>
 if s54_232 < (x39.1.length : Int) then Go.L.chk (0 ≤ s54_232 ∧ s54_232 < (x39.1.length : Int)) (Option.bind (shapes_entry_valid ((((x39.1.getD s54_232.toNat default).1).1, ((x39.1.getD s54_232.toNat default).1).2.1, ((x39.1.getD s54_232.toNat default).1).2.2.1, ((x39.1.getD s54_232.toNat default).1).2.2.2), (x39.1.getD s54_232.toNat default).2) x14.1) (fun x243 => if !x243 then shapes_Open_k5 x10.1 x10.2 (0 : Int) else if (0 : Int) < s54_232 then Go.L.chk (Go.L.I64 (s54_232 - (1 : Int))) (Go.L.chk (0 ≤ (s54_232 - (1 : Int)) ∧ (s54_232 - (1 : Int)) < (x39.1.length : Int)) (Option.bind (shapes_leaf_compare (((x39.1.getD s54_232.toNat default).1).1, ((x39.1.getD s54_232.toNat default).1).2.1, ((x39.1.getD s54_232.toNat default).1).2.2.1, ((x39.1.getD s54_232.toNat default).1).2.2.2) (((x39.1.getD ((s54_232 - (1 : Int)).toNat) default).1).1, ((x39.1.getD ((s54_232 - (1 : Int)).toNat) default).1).2.1, ((x39.1.getD ((s54_232 - (1 : Int)).toNat) default).1).2.2.1, ((x39.1.getD ((s54_232 - (1 : Int)).toNat) default).1).2.2.2)) (fun x274 => if x274 ≤ (0 : Int) then shapes_Open_k6 x10.1 x10.2 (0 : Int) else Go.L.chk (Go.L.I64 (s54_232 + (1 : Int))) (some (Sum.inl (s54_232 + (1 : Int))))))) else Go.L.chk (Go.L.I64 (s54_232 + (1 : Int))) (some (Sum.inl (s54_232 + (1 : Int)))))) else Option.map Sum.inr ((shapes_Open_k3 a0 x10 x14 x39))
noncomputable def shapes_Open_l4 (a0 : List UInt8) (x10 : (Int × Int)) (x14 : Int × Int × (Int × Int)) (x39 : (List (((List UInt8) × Int × Int × (List UInt8)) × (List Int))) × Int × (Int × Int)) (s : Int) : Option ((Int × (List (((List UInt8) × Int × Int × (List UInt8)) × (List Int)))) × (Int × Int)) := Go.L.run (shapes_Open_bl4 a0 x10 x14 x39) s
noncomputable def shapes_Open (a0 : List UInt8) : Option ((Int × (List (((List UInt8) × Int × Int × (List UInt8)) × (List Int)))) × (Int × Int)) :=
 if (16384 : Int) < (a0.length : Int) then Option.bind (shapes_fault (3 : Int) (-1 : Int)) (fun x5 => some (((0 : Int), []), (x5.1, x5.2))) else Option.bind (shapes_fault (16 : Int) (-1 : Int)) (fun x10 => Option.bind (wire_ReadNumber a0 (0 : Int)) (fun x14 => if (bif (bif !decide (x14.2.2.1 = (0 : Int) ∧ x14.2.2.2 = (0 : Int)) then true else decide (x14.1 < (0 : Int))) then true else decide ((64 : Int) < x14.1)) then shapes_Open_k1 x10.1 x10.2 (0 : Int) else Option.bind (wreads_entry a0 x14.2.1 (a0.length : Int)) (fun x39 => if x39.2.2.1 = (0 : Int) ∧ x39.2.2.2 = (0 : Int) then (shapes_Open_l4 a0 x10 x14 x39) (0 : Int) else shapes_Open_k2 x10.1 x10.2 (0 : Int))))
theorem shapes_Open_ok (w : World) (H : PH) (hH : Le H (hp w)) {a0 : List UInt8} {v0_0 : Value} (h0_0 : Vec .byte H v0_0 (a0)) {r : (Int × (List (((List UInt8) × Int × Int × (List UInt8)) × (List Int)))) × (Int × Int)} (h : shapes_Open a0 = some r) :
  Ok Tryz.prog 36 [v0_0] w (fun v w' => Ext w w' ∧ ∃ u0, v = .tuple #[.agg #[.int .i64 r.1.1, u0], .agg #[.int .i64 r.2.1, .int .i64 r.2.2]] ∧ Vec (.pair (.pair .st (.pair (.int .i64) (.pair (.int .i64) .st))) (.vec (.int .i64))) (un H (nw w w')) u0 (r.1.2)) := by
 refine Ok_enter (n := 94) [(0, v0_0)] func36 rfl rfl rfl rfl rfl ?_
 have hL := Lcl.start w
 refine W_seqr ?_
 refine S_alloc zr47 rfl rfl hL ?_
 intro w1 b1 hL1 hle1 _
 refine S_alloc zr23 rfl rfl hL1 ?_
 intro w2 b2 hL2 hle2 _
 refine S_seqnil ?_
 refine W_seq ?_
 refine W_p 1 rfl ?_
 refine S_v (r_len rfl underlying35 h0_0) rfl ?_
 refine S_pz 1 rfl ?_
 refine W_if rfl (fun hc3 => ?_) (fun hc3 => ?_)
 ·replace h := Go.L.ite_p hc3 h
  refine W_seqr ?_
  refine S_v (r_build rfl (fun _ => bld47_z _)) rfl ?_
  obtain ⟨x5, hb5, h⟩ := Go.L.bind_some h
  refine S_callL rfl rfl hL2 (shapes_fault_ok _ _ (gz_le hH hL2) hb5) ?_
  rintro _ w6 rfl hx6 hL6 hle6
  refine S_storeBN 1 rfl rfl rfl zr47 hL6 rfl rfl (onc rfl (onc rfl on0)) ?_
  intro w7 hL7 hle7
  refine S_storeBN 0 rfl rfl rfl zr23 hL7 rfl rfl (onc rfl (onc rfl on0)) ?_
  intro w8 hL8 hle8
  refine S_seqnil ?_
  refine W_ret ?_
  refine At_seq_ret ?_
  obtain rfl := Option.some.inj h
  refine At_got2 rfl (.cell rfl underlying47 rfl zr47 (box_ptr (i := 1) hL8 rfl)) (.cell rfl underlying23 rfl zr23 (box_ptr (i := 0) hL8 rfl)) ?_
  exact ⟨hL8.ext, _, rfl, (Vec.nil _ _)⟩
 ·replace h := Go.L.ite_n hc3 h
  refine W_skip ?_
  refine At_seq ?_
  refine W_seqr ?_
  obtain ⟨x10, hb10, h⟩ := Go.L.bind_some h
  refine S_callL rfl rfl hL2 (shapes_fault_ok _ _ (gz_le hH hL2) hb10) ?_
  rintro _ w11 rfl hx11 hL11 hle11
  refine S_alloc zr23 rfl rfl hL11 ?_
  intro w12 b12 hL12 hle12 _
  refine S_storeBN 0 rfl rfl rfl zr23 hL12 rfl rfl (onc rfl (onc rfl on0)) ?_
  intro w13 hL13 hle13
  refine S_seqnil ?_
  refine W_p 1 rfl ?_
  obtain ⟨x14, hb14, h⟩ := Go.L.bind_some h
  refine S_callL rfl rfl hL13 (wire_ReadNumber_ok _ _ (gz_le hH hL13) (h0_0.mono (gz_left hH)) hb14) ?_
  rintro _ w15 rfl hx15 hL15 hle15
  refine S_pu 4 rfl ?_
  refine S_alloc zr23 rfl rfl hL15 ?_
  intro w16 b16 hL16 hle16 _
  refine S_pu 2 rfl ?_
  refine S_storeBN 0 rfl rfl rfl zr23 hL16 rfl rfl (onc rfl (onc rfl on0)) ?_
  intro w17 hL17 hle17
  refine S_seqnil ?_
  refine W_seq ?_
  refine W_seqr ?_
  refine S_v (r_loadBN 0 rfl underlying23 rfl zr23 hL17 rfl) rfl ?_
  refine S_v (r_build rfl (fun _ => bld23_z _)) rfl ?_
  refine S_v (r_neA rfl rfl eqg23 (eq23 _ _ _ _ )) rfl ?_
  refine S_pu 1 rfl ?_
  refine S_pickF 2 3 rfl rfl rfl rfl rfl rfl rfl ?_
  refine S_pu 1 rfl ?_
  refine S_pickF 2 7 rfl rfl rfl rfl rfl rfl rfl ?_
  refine S_seqnil ?_
  refine W_cond rfl (fun hc18 => ?_) (fun hc18 => ?_)
  ·replace h := Go.L.ite_t hc18 h
   refine W_cut (σ := Int × Int × Int) (fun ⟨c26, c27, c28⟩ => [(2, .pointer (some ⟨b1, 0, none⟩)), (3, .pointer (some ⟨b2, 0, none⟩))]) (fun ⟨c26, c27, c28⟩ wr => Lcl w [.box b16 [.int .i64 x14.2.2.1, .int .i64 x14.2.2.2] 23, .box b12 [.int .i64 x10.1, .int .i64 x10.2] 23, .box b2 [.int .i64 c26, .int .i64 c27] 23, .box b1 [.int .i64 c28, .slice none 0 0] 47] wr ∧ shapes_Open_k1 c26 c27 c28 = some r) ?_ ?_
   ·refine W_naiveI (fun z0 z => Le (gz H w z0 [.box b16 [.int .i64 x14.2.2.1, .int .i64 x14.2.2.2] 23, .box b12 [.int .i64 x10.1, .int .i64 x10.2] 23, .box b2 [.int .i64 (0 : Int), .int .i64 (0 : Int)] 23, .box b1 [.int .i64 (0 : Int), .slice none 0 0] 47]) (hp z) ∧ z.heap[b16]? = some (.cells [.int .i64 x14.2.2.1, .int .i64 x14.2.2.2].toArray 23 (0, 0)) ∧ z.heap[b12]? = some (.cells [.int .i64 x10.1, .int .i64 x10.2].toArray 23 (0, 0)) ∧ z.heap[b2]? = some (.cells [.int .i64 (0 : Int), .int .i64 (0 : Int)].toArray 23 (0, 0))) mixed rfl (fun w32 hx32 => ?_)
    have hL33 := hL17.call hx32
    have hG34 := hL33.rG H
    refine NI_hoist 0 (np_cut (np_seq np_body)) ⟨hG34.trans (gz_le hH hL33), hL33.at (i := 0) rfl, hL33.at (i := 1) rfl, hL33.at (i := 2) rfl⟩ (by kernel_rfl) rfl (fun _ _ => r_build rfl (fun _ => bld47_z _)) rfl ?_
    refine NI_hoist 1 (np_cut (np_seq np_body)) ⟨hG34.trans (gz_le hH hL33), hL33.at (i := 0) rfl, hL33.at (i := 1) rfl, hL33.at (i := 2) rfl⟩ (by kernel_rfl) rfl (fun _ hI => r_loadHN rfl underlying23 rfl zr23 hI.2.2.1) rfl ?_
    refine NI1 (i := 2) (by kernel_rfl) rfl ?_
    refine S_storeBN 3 rfl rfl rfl zr47 hL33 rfl rfl (onc rfl (onc rfl on0)) ?_
    intro w35 hL35 hle35
    replace hG34 := hG34.trans (gz_mono hH hle35)
    refine NI_nil ⟨hG34.trans (gz_le hH hL35), hL35.at (i := 0) rfl, hL35.at (i := 1) rfl, hL35.at (i := 2) rfl⟩ ?_
    refine NI1 (i := 3) (by kernel_rfl) rfl ?_
    refine S_storeBN 2 rfl rfl rfl zr23 hL35 rfl rfl (onc rfl (onc rfl on0)) ?_
    intro w36 hL36 hle36
    replace hG34 := hG34.trans (gz_mono hH hle36)
    refine NI_last (by kernel_rfl) ?_
    refine NI_end (by kernel_rfl) ?_
    refine At_cut (x10.1, x10.2, (0 : Int)) (.cons rfl (.cons rfl (Sub.nil _))) ⟨hL36, h⟩
   ·rintro ⟨c26, c27, c28⟩ wr30 ⟨hL30, h⟩
    refine W_ret ?_
    refine At_seq_ret ?_
    obtain rfl := Option.some.inj h
    refine At_got2 rfl (.cell rfl underlying47 rfl zr47 (box_ptr (i := 3) hL30 rfl)) (.cell rfl underlying23 rfl zr23 (box_ptr (i := 2) hL30 rfl)) ?_
    exact ⟨hL30.ext, _, rfl, (Vec.nil _ _)⟩
  ·replace h := Go.L.ite_f hc18 h
   refine W_skip ?_
   refine At_seq ?_
   refine W_p 3 rfl ?_
   refine S_v (r_len rfl underlying35 h0_0) rfl ?_
   obtain ⟨x39, hb39, h⟩ := Go.L.bind_some h
   refine S_callL rfl rfl hL17 (wreads_entry_ok _ _ (gz_le hH hL17) (h0_0.mono (gz_left hH)) hb39) ?_
   rintro _ w40 ⟨u40_0, rfl, hR40_0⟩ hx40 hL40 hle40
   have hv40_0 := hR40_0.vecG hH hL17 hx40
   refine S_pu 6 rfl ?_
   refine S_storeBN 0 rfl rfl rfl zr23 hL40 rfl rfl (onc rfl (onc rfl on0)) ?_
   intro w41 hL41 hle41
   replace hv40_0 := hv40_0.mono (gz_mono hH hle41)
   refine S_seqnil ?_
   refine W_seq ?_
   refine W_seqr ?_
   refine S_v (r_loadBN 0 rfl underlying23 rfl zr23 hL41 rfl) rfl ?_
   refine S_v (r_build rfl (fun _ => bld23_z _)) rfl ?_
   refine S_v (r_neA rfl rfl eqg23 (eq23 _ _ _ _ )) rfl ?_
   refine S_seqnil ?_
   refine W_ifn rfl (fun hc42 => ?_) (fun hc42 => ?_)
   ·replace h := Go.L.ite_n hc42 h
    refine W_cut (σ := Int × Int × Int) (fun ⟨c50, c51, c52⟩ => [(2, .pointer (some ⟨b1, 0, none⟩)), (3, .pointer (some ⟨b2, 0, none⟩))]) (fun ⟨c50, c51, c52⟩ wr => Lcl w [.box b16 [.int .i64 x39.2.2.1, .int .i64 x39.2.2.2] 23, .box b12 [.int .i64 x10.1, .int .i64 x10.2] 23, .box b2 [.int .i64 c50, .int .i64 c51] 23, .box b1 [.int .i64 c52, .slice none 0 0] 47] wr ∧ shapes_Open_k2 c50 c51 c52 = some r) ?_ ?_
    ·refine W_naiveI (fun z0 z => Le (gz H w z0 [.box b16 [.int .i64 x39.2.2.1, .int .i64 x39.2.2.2] 23, .box b12 [.int .i64 x10.1, .int .i64 x10.2] 23, .box b2 [.int .i64 (0 : Int), .int .i64 (0 : Int)] 23, .box b1 [.int .i64 (0 : Int), .slice none 0 0] 47]) (hp z) ∧ z.heap[b16]? = some (.cells [.int .i64 x39.2.2.1, .int .i64 x39.2.2.2].toArray 23 (0, 0)) ∧ z.heap[b12]? = some (.cells [.int .i64 x10.1, .int .i64 x10.2].toArray 23 (0, 0)) ∧ z.heap[b2]? = some (.cells [.int .i64 (0 : Int), .int .i64 (0 : Int)].toArray 23 (0, 0))) mixed rfl (fun w56 hx56 => ?_)
     have hL57 := hL41.call hx56
     have hG58 := hL57.rG H
     refine NI_hoist 0 (np_cut (np_seq np_body)) ⟨hG58.trans (gz_le hH hL57), hL57.at (i := 0) rfl, hL57.at (i := 1) rfl, hL57.at (i := 2) rfl⟩ (by kernel_rfl) rfl (fun _ _ => r_build rfl (fun _ => bld47_z _)) rfl ?_
     refine NI_hoist 1 (np_cut (np_seq np_body)) ⟨hG58.trans (gz_le hH hL57), hL57.at (i := 0) rfl, hL57.at (i := 1) rfl, hL57.at (i := 2) rfl⟩ (by kernel_rfl) rfl (fun _ hI => r_loadHN rfl underlying23 rfl zr23 hI.2.2.1) rfl ?_
     refine NI1 (i := 2) (by kernel_rfl) rfl ?_
     refine S_storeBN 3 rfl rfl rfl zr47 hL57 rfl rfl (onc rfl (onc rfl on0)) ?_
     intro w59 hL59 hle59
     replace hG58 := hG58.trans (gz_mono hH hle59)
     refine NI_nil ⟨hG58.trans (gz_le hH hL59), hL59.at (i := 0) rfl, hL59.at (i := 1) rfl, hL59.at (i := 2) rfl⟩ ?_
     refine NI1 (i := 3) (by kernel_rfl) rfl ?_
     refine S_storeBN 2 rfl rfl rfl zr23 hL59 rfl rfl (onc rfl (onc rfl on0)) ?_
     intro w60 hL60 hle60
     replace hG58 := hG58.trans (gz_mono hH hle60)
     refine NI_last (by kernel_rfl) ?_
     refine NI_end (by kernel_rfl) ?_
     refine At_cut (x10.1, x10.2, (0 : Int)) (.cons rfl (.cons rfl (Sub.nil _))) ⟨hL60, h⟩
    ·rintro ⟨c50, c51, c52⟩ wr54 ⟨hL54, h⟩
     refine W_ret ?_
     refine At_seq_ret ?_
     obtain rfl := Option.some.inj h
     refine At_got2 rfl (.cell rfl underlying47 rfl zr47 (box_ptr (i := 3) hL54 rfl)) (.cell rfl underlying23 rfl zr23 (box_ptr (i := 2) hL54 rfl)) ?_
     exact ⟨hL54.ext, _, rfl, (Vec.nil _ _)⟩
   ·replace h := Go.L.ite_p hc42 h
    refine W_skip ?_
    refine At_seq ?_
    refine W_cut (σ := Unit) (fun (_ : Unit) => [(0, v0_0), (2, .pointer (some ⟨b1, 0, none⟩)), (3, .pointer (some ⟨b2, 0, none⟩)), (4, .pointer (some ⟨b12, 0, none⟩)), (5, .int .i64 x14.1), (8, u40_0)]) (fun (_ : Unit) wr => InO w [.box b16 [.int .i64 x39.2.2.1, .int .i64 x39.2.2.2] 23, .box b12 [.int .i64 x10.1, .int .i64 x10.2] 23, .box b2 [.int .i64 (0 : Int), .int .i64 (0 : Int)] 23, .box b1 [.int .i64 (0 : Int), .slice none 0 0] 47] wr fun Oz => Vec (.pair (.pair .st (.pair (.int .i64) (.pair (.int .i64) .st))) (.vec (.int .i64))) (gz H w wr Oz) (u40_0) (x39.1) ∧ (shapes_Open_k3 a0 x10 x14 x39) = some r) ?_ ?_
    ·refine W_p 1 rfl ?_
     refine S_v (r_len rfl underlying45 hv40_0) rfl ?_
     refine S_pz 1 rfl ?_
     refine W_block ?_
     obtain ⟨n233, h⟩ := Go.L.run_some h
     refine W_loop (σ := Int × Nat) (fun ⟨s54_232, n⟩ => [(0, v0_0), (2, .pointer (some ⟨b1, 0, none⟩)), (3, .pointer (some ⟨b2, 0, none⟩)), (4, .pointer (some ⟨b12, 0, none⟩)), (5, .int .i64 x14.1), (8, u40_0), (52, u40_0), (53, .int .i64 (x39.1.length : Int)), (54, .int .i64 s54_232)]) (fun ⟨s54_232, n⟩ wr => InO w [.box b16 [.int .i64 x39.2.2.1, .int .i64 x39.2.2.2] 23, .box b12 [.int .i64 x10.1, .int .i64 x10.2] 23, .box b2 [.int .i64 (0 : Int), .int .i64 (0 : Int)] 23, .box b1 [.int .i64 (0 : Int), .slice none 0 0] 47] wr fun Oz => Vec (.pair (.pair .st (.pair (.int .i64) (.pair (.int .i64) .st))) (.vec (.int .i64))) (gz H w wr Oz) (u40_0) (x39.1) ∧ Go.L.itr (shapes_Open_bl4 a0 x10 x14 x39) n s54_232 = some r) (fun ⟨s54_232, n⟩ => n) ((0 : Int), n233) (.cons rfl (.cons rfl (.cons rfl (.cons rfl (.cons rfl (.cons rfl (.cons rfl (.cons rfl (.cons rfl (Sub.nil _)))))))))) ⟨hL41, hv40_0, h⟩ ?_
     rintro ⟨s54_232, nn233⟩ wr233 ⟨hL233, hf233_0, h⟩
     obtain ⟨n233, e233, rfl, h, hm233⟩ := Go.L.itr_some h
     refine W_pz 1 rfl ?_
     refine W_seq ?_
     refine W_if rfl (fun hc235 => ?_) (fun hc235 => ?_)
     ·replace h := Go.L.ite_p hc235 h
      refine W_skip ?_
      refine At_seq ?_
      refine W_seq ?_
      refine W_block ?_
      refine W_p 1 rfl ?_
      obtain ⟨hk238, h⟩ := Go.L.chk_some h
      refine S_index rfl rfl underlying45 zr96 hf233_0 s54_232.toNat (Int.toNat_of_nonneg hk238.1).symm (idx_lt hk238) rfl ?_
      rintro p237 _ ⟨_, _, rfl, ⟨_, _, rfl, rfl, ⟨_, _, rfl, rfl, ⟨_, _, rfl, rfl, rfl⟩⟩⟩, ⟨e237v4, rfl, e237h4⟩⟩ hp237
      refine S_v (r_loadN rfl underlying96 rfl zr96 hp237 (gz_le hH hL233)) rfl ?_
      refine S_alloc zr96 rfl rfl hL233 ?_
      intro w239 b239 hL239 hle239 _
      replace hf233_0 := hf233_0.mono (gz_mono hH hle239)
      replace hp237 := hp237.mono (gz_mono hH hle239)
      replace e237h4 := e237h4.mono (gz_mono hH hle239)
      refine S_pu 1 rfl ?_
      refine S_storeBN 0 rfl rfl rfl zr96 hL239 rfl rfl (onc rfl (onc rfl (onc rfl (onc rfl (onc e237h4.one on0))))) ?_
      intro w240 hL240 hle240
      replace hf233_0 := hf233_0.mono (gz_mono hH hle240)
      replace hp237 := hp237.mono (gz_mono hH hle240)
      replace e237h4 := e237h4.mono (gz_mono hH hle240)
      refine S_seqnil ?_
      refine W_seqd (.q 0 (.q 1 (.q 2 (.q 3 (.q 4 (.q 5 (.q 6 (.q 7 (.q 8 (.q 9 (.q 10 (.q 11 (.q 12 (.q 13 (.q 14 (.q 15 (.q 16 (.q 17 (.q 18 (.q 19 (.tail 20))))))))))))))))))))) mixed (by kernel_rfl) (fun w241 hx241 => ?_)
      have hL242 := hL240.call hx241
      have hle242 := fz_ext hL240 hx241
      replace hf233_0 := hf233_0.mono (gz_mono hH hle242)
      replace e237h4 := e237h4.mono (gz_mono hH hle242)
      refine D_v (r_loadBN 0 rfl underlying96 rfl zr96 hL242 rfl) rfl rfl ?_
      refine D_pu 1 rfl ?_
      obtain ⟨x243, hb243, h⟩ := Go.L.bind_some h
      have hok244 := (fun (w244 : World) (hx244 : Ext w241 w244) => shapes_entry_valid_ok w244 _ (Le.refl _) ((e237h4.mono (gz_le hH hL242)).mono hx244.le) hb243)
      refine D_call rfl rfl rfl hok244 ?_
      refine D_pu 2 rfl ?_
      refine D_split (s := 63) rfl (fun hg245 => ?_) (fun hg245 => ?_)
      ·replace h := Go.L.ite_t hg245 h
       iterate 3 refine D_no rfl rfl rfl rfl hg245 rfl ?_
       iterate 10 refine D_no2 rfl rfl rfl rfl rfl ?_
       refine D_no rfl rfl rfl rfl hg245 rfl ?_
       refine D_v (r_pickT rfl hg245 rfl) rfl rfl ?_
       refine D_tail (fun w247 hx247 => ?_)
       have hL248 := hL242.call hx247
       have hle248 := fz_ext hL242 hx247
       replace hf233_0 := hf233_0.mono (gz_mono hH hle248)
       replace e237h4 := e237h4.mono (gz_mono hH hle248)
       refine S_seqnil ?_
       refine W_true rfl ?_
       refine W_cut (σ := Int × Int × Int) (fun ⟨c255, c256, c257⟩ => [(2, .pointer (some ⟨b1, 0, none⟩)), (3, .pointer (some ⟨b2, 0, none⟩))]) (fun ⟨c255, c256, c257⟩ wr => InO w [.box b239 [.string ⟨(((x39.1.getD s54_232.toNat default).1).1).toArray⟩, .int .i64 (((x39.1.getD s54_232.toNat default).1).2.1), .int .i64 (((x39.1.getD s54_232.toNat default).1).2.2.1), .string ⟨(((x39.1.getD s54_232.toNat default).1).2.2.2).toArray⟩, e237v4] 96, .box b16 [.int .i64 x39.2.2.1, .int .i64 x39.2.2.2] 23, .box b12 [.int .i64 x10.1, .int .i64 x10.2] 23, .box b2 [.int .i64 c255, .int .i64 c256] 23, .box b1 [.int .i64 c257, .slice none 0 0] 47] wr fun Oz => Vec (.int .i64) (gz H w wr Oz) (e237v4) ((x39.1.getD s54_232.toNat default).2) ∧ shapes_Open_k5 c255 c256 c257 = some e233) ?_ ?_
       ·refine W_naiveI (fun z0 z => Le (gz H w z0 [.box b239 [.string ⟨(((x39.1.getD s54_232.toNat default).1).1).toArray⟩, .int .i64 (((x39.1.getD s54_232.toNat default).1).2.1), .int .i64 (((x39.1.getD s54_232.toNat default).1).2.2.1), .string ⟨(((x39.1.getD s54_232.toNat default).1).2.2.2).toArray⟩, e237v4] 96, .box b16 [.int .i64 x39.2.2.1, .int .i64 x39.2.2.2] 23, .box b12 [.int .i64 x10.1, .int .i64 x10.2] 23, .box b2 [.int .i64 (0 : Int), .int .i64 (0 : Int)] 23, .box b1 [.int .i64 (0 : Int), .slice none 0 0] 47]) (hp z) ∧ z.heap[b239]? = some (.cells [.string ⟨(((x39.1.getD s54_232.toNat default).1).1).toArray⟩, .int .i64 (((x39.1.getD s54_232.toNat default).1).2.1), .int .i64 (((x39.1.getD s54_232.toNat default).1).2.2.1), .string ⟨(((x39.1.getD s54_232.toNat default).1).2.2.2).toArray⟩, e237v4].toArray 96 (0, 0)) ∧ z.heap[b16]? = some (.cells [.int .i64 x39.2.2.1, .int .i64 x39.2.2.2].toArray 23 (0, 0)) ∧ z.heap[b12]? = some (.cells [.int .i64 x10.1, .int .i64 x10.2].toArray 23 (0, 0)) ∧ z.heap[b2]? = some (.cells [.int .i64 (0 : Int), .int .i64 (0 : Int)].toArray 23 (0, 0))) mixed rfl (fun w261 hx261 => ?_)
        have hL262 := hL248.call hx261
        have hle262 := fz_ext hL248 hx261
        replace hf233_0 := hf233_0.mono (gz_mono hH hle262)
        replace e237h4 := e237h4.mono (gz_mono hH hle262)
        have hG263 := hL262.rG H
        refine NI_hoist 0 (np_cut (np_block (np_seq (np_loop (np_block (np_cut np_body)))))) ⟨hG263.trans (gz_le hH hL262), hL262.at (i := 0) rfl, hL262.at (i := 1) rfl, hL262.at (i := 2) rfl, hL262.at (i := 3) rfl⟩ (by kernel_rfl) rfl (fun _ _ => r_build rfl (fun _ => bld47_z _)) rfl ?_
        refine NI_hoist 1 (np_cut (np_block (np_seq (np_loop (np_block (np_cut np_body)))))) ⟨hG263.trans (gz_le hH hL262), hL262.at (i := 0) rfl, hL262.at (i := 1) rfl, hL262.at (i := 2) rfl, hL262.at (i := 3) rfl⟩ (by kernel_rfl) rfl (fun _ hI => r_loadHN rfl underlying23 rfl zr23 hI.2.2.2.1) rfl ?_
        refine NI1 (i := 2) (by kernel_rfl) rfl ?_
        refine S_storeBN 4 rfl rfl rfl zr47 hL262 rfl rfl (onc rfl (onc rfl on0)) ?_
        intro w264 hL264 hle264
        replace hG263 := hG263.trans (gz_mono hH hle264)
        refine NI_nil ⟨hG263.trans (gz_le hH hL264), hL264.at (i := 0) rfl, hL264.at (i := 1) rfl, hL264.at (i := 2) rfl, hL264.at (i := 3) rfl⟩ ?_
        refine NI1 (i := 3) (by kernel_rfl) rfl ?_
        refine S_storeBN 3 rfl rfl rfl zr23 hL264 rfl rfl (onc rfl (onc rfl on0)) ?_
        intro w265 hL265 hle265
        replace hG263 := hG263.trans (gz_mono hH hle265)
        refine NI_last (by kernel_rfl) ?_
        refine NI_end (by kernel_rfl) ?_
        refine At_cut (x10.1, x10.2, (0 : Int)) (.cons rfl (.cons rfl (Sub.nil _))) ⟨hL265, (e237h4.mono hG263), h⟩
       ·rintro ⟨c255, c256, c257⟩ wr259 ⟨hL259, hf259_0, h⟩
        refine W_ret ?_
        refine At_block_ret ?_
        refine At_seq_ret ?_
        refine At_loop_ret ?_
        replace h := Go.L.Nxt.out h hm233
        refine At_block_ret ?_
        refine At_cut_ret ?_
        obtain rfl := Option.some.inj h
        refine At_got2 rfl (.cell rfl underlying47 rfl zr47 (box_ptr (i := 4) hL259 rfl)) (.cell rfl underlying23 rfl zr23 (box_ptr (i := 3) hL259 rfl)) ?_
        exact ⟨hL259.ext, _, rfl, (Vec.nil _ _)⟩
      ·replace h := Go.L.ite_f hg245 h
       iterate 3 refine D_vg (RunsAt_pu rfl) rfl rfl rfl rfl hg245 rfl ?_
       refine D_split (s := 66) rfl (fun hg268 => ?_) (fun hg268 => ?_)
       ·replace h := Go.L.ite_p (of_decide_eq_true hg268) h
        refine D_vg (r_field rfl underlying96 rfl zr84 (by decide)) rfl rfl rfl rfl hg268 rfl ?_
        refine D_vg (r_loadBP 0 4 rfl underlying84 rfl zr84 hL242 rfl rfl) rfl rfl rfl rfl hg268 rfl ?_
        iterate 2 refine D_vg (RunsAt_pu rfl) rfl rfl rfl rfl hg268 rfl ?_
        obtain ⟨hk270, h⟩ := Go.L.chk_some h
        refine D_vg (r_ar64 rfl rfl rfl hk270) rfl rfl rfl rfl hg268 rfl ?_
        obtain ⟨hk272, h⟩ := Go.L.chk_some h
        refine D_indexg rfl rfl rfl rfl hg268 rfl rfl underlying45 zr96 hf233_0 ((s54_232 - (1 : Int)).toNat) (Int.toNat_of_nonneg hk272.1).symm (idx_lt hk272) rfl ?_
        rintro p271 _ ⟨_, _, rfl, ⟨_, _, rfl, rfl, ⟨_, _, rfl, rfl, ⟨_, _, rfl, rfl, rfl⟩⟩⟩, ⟨e271v4, rfl, e271h4⟩⟩ hp271
        refine D_vg (r_field rfl underlying96 rfl zr84 (by decide)) rfl rfl rfl rfl hg268 rfl ?_
        have hp273 := hp271.add 0
        refine D_vg (r_loadP 4 rfl underlying84 rfl zr84 hp273 (gz_le hH hL242) rfl) rfl rfl rfl rfl hg268 rfl ?_
        obtain ⟨x274, hb274, h⟩ := Go.L.bind_some h
        have hok275 := (fun (w275 : World) (hx275 : Ext w241 w275) => shapes_leaf_compare_ok w275 _ (Le.refl _) hb274)
        refine D_callg rfl rfl rfl rfl hg268 rfl rfl hok275 ?_
        refine D_vg (RunsAt_pu rfl) rfl rfl rfl rfl hg268 rfl ?_
        refine D_vg (r_pickT rfl hg268 rfl) rfl rfl rfl rfl hg245 rfl ?_
        refine D_v (r_pickF rfl hg245 rfl) rfl rfl ?_
        refine D_tail (fun w276 hx276 => ?_)
        have hL277 := hL242.call hx276
        have hle277 := fz_ext hL242 hx276
        replace hf233_0 := hf233_0.mono (gz_mono hH hle277)
        replace e237h4 := e237h4.mono (gz_mono hH hle277)
        replace hp271 := hp271.mono (gz_mono hH hle277)
        replace e271h4 := e271h4.mono (gz_mono hH hle277)
        replace hp273 := hp273.mono (gz_mono hH hle277)
        refine S_seqnil ?_
        refine W_if rfl (fun hc278 => ?_) (fun hc278 => ?_)
        ·replace h := Go.L.ite_p hc278 h
         refine W_cut (σ := Int × Int × Int) (fun ⟨c286, c287, c288⟩ => [(2, .pointer (some ⟨b1, 0, none⟩)), (3, .pointer (some ⟨b2, 0, none⟩))]) (fun ⟨c286, c287, c288⟩ wr => InO w [.box b239 [.string ⟨(((x39.1.getD s54_232.toNat default).1).1).toArray⟩, .int .i64 (((x39.1.getD s54_232.toNat default).1).2.1), .int .i64 (((x39.1.getD s54_232.toNat default).1).2.2.1), .string ⟨(((x39.1.getD s54_232.toNat default).1).2.2.2).toArray⟩, e237v4] 96, .box b16 [.int .i64 x39.2.2.1, .int .i64 x39.2.2.2] 23, .box b12 [.int .i64 x10.1, .int .i64 x10.2] 23, .box b2 [.int .i64 c286, .int .i64 c287] 23, .box b1 [.int .i64 c288, .slice none 0 0] 47] wr fun Oz => Vec (.int .i64) (gz H w wr Oz) (e237v4) ((x39.1.getD s54_232.toNat default).2) ∧ shapes_Open_k6 c286 c287 c288 = some e233) ?_ ?_
         ·refine W_naiveI (fun z0 z => Le (gz H w z0 [.box b239 [.string ⟨(((x39.1.getD s54_232.toNat default).1).1).toArray⟩, .int .i64 (((x39.1.getD s54_232.toNat default).1).2.1), .int .i64 (((x39.1.getD s54_232.toNat default).1).2.2.1), .string ⟨(((x39.1.getD s54_232.toNat default).1).2.2.2).toArray⟩, e237v4] 96, .box b16 [.int .i64 x39.2.2.1, .int .i64 x39.2.2.2] 23, .box b12 [.int .i64 x10.1, .int .i64 x10.2] 23, .box b2 [.int .i64 (0 : Int), .int .i64 (0 : Int)] 23, .box b1 [.int .i64 (0 : Int), .slice none 0 0] 47]) (hp z) ∧ z.heap[b239]? = some (.cells [.string ⟨(((x39.1.getD s54_232.toNat default).1).1).toArray⟩, .int .i64 (((x39.1.getD s54_232.toNat default).1).2.1), .int .i64 (((x39.1.getD s54_232.toNat default).1).2.2.1), .string ⟨(((x39.1.getD s54_232.toNat default).1).2.2.2).toArray⟩, e237v4].toArray 96 (0, 0)) ∧ z.heap[b16]? = some (.cells [.int .i64 x39.2.2.1, .int .i64 x39.2.2.2].toArray 23 (0, 0)) ∧ z.heap[b12]? = some (.cells [.int .i64 x10.1, .int .i64 x10.2].toArray 23 (0, 0)) ∧ z.heap[b2]? = some (.cells [.int .i64 (0 : Int), .int .i64 (0 : Int)].toArray 23 (0, 0))) mixed rfl (fun w292 hx292 => ?_)
          have hL293 := hL277.call hx292
          have hle293 := fz_ext hL277 hx292
          replace e237h4 := e237h4.mono (gz_mono hH hle293)
          have hG294 := hL293.rG H
          refine NI_hoist 0 (np_cut (np_block (np_seq (np_loop (np_block (np_cut np_body)))))) ⟨hG294.trans (gz_le hH hL293), hL293.at (i := 0) rfl, hL293.at (i := 1) rfl, hL293.at (i := 2) rfl, hL293.at (i := 3) rfl⟩ (by kernel_rfl) rfl (fun _ _ => r_build rfl (fun _ => bld47_z _)) rfl ?_
          refine NI_hoist 1 (np_cut (np_block (np_seq (np_loop (np_block (np_cut np_body)))))) ⟨hG294.trans (gz_le hH hL293), hL293.at (i := 0) rfl, hL293.at (i := 1) rfl, hL293.at (i := 2) rfl, hL293.at (i := 3) rfl⟩ (by kernel_rfl) rfl (fun _ hI => r_loadHN rfl underlying23 rfl zr23 hI.2.2.2.1) rfl ?_
          refine NI1 (i := 2) (by kernel_rfl) rfl ?_
          refine S_storeBN 4 rfl rfl rfl zr47 hL293 rfl rfl (onc rfl (onc rfl on0)) ?_
          intro w295 hL295 hle295
          replace hG294 := hG294.trans (gz_mono hH hle295)
          refine NI_nil ⟨hG294.trans (gz_le hH hL295), hL295.at (i := 0) rfl, hL295.at (i := 1) rfl, hL295.at (i := 2) rfl, hL295.at (i := 3) rfl⟩ ?_
          refine NI1 (i := 3) (by kernel_rfl) rfl ?_
          refine S_storeBN 3 rfl rfl rfl zr23 hL295 rfl rfl (onc rfl (onc rfl on0)) ?_
          intro w296 hL296 hle296
          replace hG294 := hG294.trans (gz_mono hH hle296)
          refine NI_last (by kernel_rfl) ?_
          refine NI_end (by kernel_rfl) ?_
          refine At_cut (x10.1, x10.2, (0 : Int)) (.cons rfl (.cons rfl (Sub.nil _))) ⟨hL296, (e237h4.mono hG294), h⟩
         ·rintro ⟨c286, c287, c288⟩ wr290 ⟨hL290, hf290_0, h⟩
          refine W_ret ?_
          refine At_block_ret ?_
          refine At_seq_ret ?_
          refine At_loop_ret ?_
          replace h := Go.L.Nxt.out h hm233
          refine At_block_ret ?_
          refine At_cut_ret ?_
          obtain rfl := Option.some.inj h
          refine At_got2 rfl (.cell rfl underlying47 rfl zr47 (box_ptr (i := 4) hL290 rfl)) (.cell rfl underlying23 rfl zr23 (box_ptr (i := 3) hL290 rfl)) ?_
          exact ⟨hL290.ext, _, rfl, (Vec.nil _ _)⟩
        ·replace h := Go.L.ite_n hc278 h
         refine W_skip ?_
         refine At_block ?_
         refine At_seq ?_
         refine W_region ?_
         obtain ⟨hk299, h⟩ := Go.L.chk_some h
         refine S_v (r_ar64 rfl rfl rfl hk299) rfl ?_
         refine S_pu 1 rfl ?_
         refine S_nil ?_
         have hL300 := hL277.dropAt (i := 0) rfl
         replace hf233_0 := hf233_0.mono (gz_mono hH (fz_dropAt (i := 0) rfl))
         replace e237h4 := e237h4.mono (gz_mono hH (fz_dropAt (i := 0) rfl))
         have h := Go.L.Nxt.again h hm233
         refine At_round ((s54_232 + (1 : Int)), n233) (.cons rfl (.cons rfl (.cons rfl (.cons rfl (.cons rfl (.cons rfl (.cons rfl (.cons rfl (.cons rfl (Sub.nil _)))))))))) ⟨hL300, hf233_0, h⟩ (Nat.lt_succ_self _)
       ·replace h := Go.L.ite_n (of_decide_eq_false hg268) h
        iterate 10 refine D_no rfl rfl rfl rfl hg268 rfl ?_
        refine D_vg (r_pickF rfl hg268 rfl) rfl rfl rfl rfl hg245 rfl ?_
        refine D_v (r_pickF rfl hg245 rfl) rfl rfl ?_
        refine D_tail (fun w302 hx302 => ?_)
        have hL303 := hL242.call hx302
        have hle303 := fz_ext hL242 hx302
        replace hf233_0 := hf233_0.mono (gz_mono hH hle303)
        replace e237h4 := e237h4.mono (gz_mono hH hle303)
        refine S_seqnil ?_
        refine W_false rfl ?_
        refine W_skip ?_
        refine At_block ?_
        refine At_seq ?_
        refine W_region ?_
        obtain ⟨hk304, h⟩ := Go.L.chk_some h
        refine S_v (r_ar64 rfl rfl rfl hk304) rfl ?_
        refine S_pu 1 rfl ?_
        refine S_nil ?_
        have hL305 := hL303.dropAt (i := 0) rfl
        replace hf233_0 := hf233_0.mono (gz_mono hH (fz_dropAt (i := 0) rfl))
        replace e237h4 := e237h4.mono (gz_mono hH (fz_dropAt (i := 0) rfl))
        have h := Go.L.Nxt.again h hm233
        refine At_round ((s54_232 + (1 : Int)), n233) (.cons rfl (.cons rfl (.cons rfl (.cons rfl (.cons rfl (.cons rfl (.cons rfl (.cons rfl (.cons rfl (Sub.nil _)))))))))) ⟨hL305, hf233_0, h⟩ (Nat.lt_succ_self _)
     ·replace h := Go.L.ite_n hc235 h
      refine W_exit ?_
      refine At_seq_exit ?_
      refine At_loop_exit ?_
      replace h := Go.L.Nxt.out h hm233
      refine At_exit ?_
      refine At_cut () (.cons rfl (.cons rfl (.cons rfl (.cons rfl (.cons rfl (.cons rfl (Sub.nil _))))))) ⟨hL233, hf233_0, h⟩
    ·rintro _ wr175 ⟨hL175, hf175_0, h⟩
     refine W_p 2 rfl ?_
     refine S_v (r_build rfl (fun _ => bld47_0_1 _ _ hf175_0.one _)) rfl ?_
     refine S_alloc zr47 rfl rfl hL175 ?_
     intro w308 b308 hL308 hle308 _
     replace hf175_0 := hf175_0.mono (gz_mono hH hle308)
     refine S_storeBN 0 rfl rfl rfl zr47 hL308 rfl rfl (onc rfl (onc hf175_0.one on0)) ?_
     intro w309 hL309 hle309
     replace hf175_0 := hf175_0.mono (gz_mono hH hle309)
     refine S_seqnil ?_
     refine W_seq ?_
     refine W_seqr ?_
     refine S_v (r_loadBN 0 rfl underlying47 rfl zr47 hL309 rfl) rfl ?_
     obtain ⟨x310, hb310, h⟩ := Go.L.bind_some h
     refine S_callL rfl rfl hL309 (shapes_Index_Bytes_ok (a0 := (x14.1, x39.1)) _ _ (gz_le hH hL309) hf175_0 hb310) ?_
     rintro u311_0 w311 ⟨_, rfl, hR311_0⟩ hx311 hL311 hle311
     have hv311_0 := hR311_0.vecG hH hL309 hx311
     replace hf175_0 := hf175_0.mono (gz_mono hH hle311)
     refine S_pu 1 rfl ?_
     obtain ⟨x312, hb312, h⟩ := Go.L.bind_some h
     refine S_callL rfl rfl hL311 (bytes_Equal_ok _ _ (gz_le hH hL311) hv311_0 (h0_0.mono (gz_left hH)) hb312) ?_
     rintro _ w313 rfl hx313 hL313 hle313
     replace hf175_0 := hf175_0.mono (gz_mono hH hle313)
     replace hv311_0 := hv311_0.mono (gz_mono hH hle313)
     refine S_pz 1 rfl ?_
     refine W_cond rfl (fun hc314 => ?_) (fun hc314 => ?_)
     ·replace h := Go.L.ite_t hc314 h
      refine W_cut (σ := Int × Int × Int) (fun ⟨c322, c323, c324⟩ => [(2, .pointer (some ⟨b1, 0, none⟩)), (3, .pointer (some ⟨b2, 0, none⟩))]) (fun ⟨c322, c323, c324⟩ wr => InO w [.box b308 [.int .i64 x14.1, u40_0] 47, .box b16 [.int .i64 x39.2.2.1, .int .i64 x39.2.2.2] 23, .box b12 [.int .i64 x10.1, .int .i64 x10.2] 23, .box b2 [.int .i64 c322, .int .i64 c323] 23, .box b1 [.int .i64 c324, .slice none 0 0] 47] wr fun Oz => Vec (.pair (.pair .st (.pair (.int .i64) (.pair (.int .i64) .st))) (.vec (.int .i64))) (gz H w wr Oz) (u40_0) (x39.1) ∧ shapes_Open_k7 c322 c323 c324 = some r) ?_ ?_
      ·refine W_naiveI (fun z0 z => Le (gz H w z0 [.box b308 [.int .i64 x14.1, u40_0] 47, .box b16 [.int .i64 x39.2.2.1, .int .i64 x39.2.2.2] 23, .box b12 [.int .i64 x10.1, .int .i64 x10.2] 23, .box b2 [.int .i64 (0 : Int), .int .i64 (0 : Int)] 23, .box b1 [.int .i64 (0 : Int), .slice none 0 0] 47]) (hp z) ∧ z.heap[b308]? = some (.cells [.int .i64 x14.1, u40_0].toArray 47 (0, 0)) ∧ z.heap[b16]? = some (.cells [.int .i64 x39.2.2.1, .int .i64 x39.2.2.2].toArray 23 (0, 0)) ∧ z.heap[b12]? = some (.cells [.int .i64 x10.1, .int .i64 x10.2].toArray 23 (0, 0)) ∧ z.heap[b2]? = some (.cells [.int .i64 (0 : Int), .int .i64 (0 : Int)].toArray 23 (0, 0))) mixed rfl (fun w328 hx328 => ?_)
       have hL329 := hL313.call hx328
       have hle329 := fz_ext hL313 hx328
       replace hf175_0 := hf175_0.mono (gz_mono hH hle329)
       have hG330 := hL329.rG H
       refine NI_hoist 0 (np_cut (np_seq np_body)) ⟨hG330.trans (gz_le hH hL329), hL329.at (i := 0) rfl, hL329.at (i := 1) rfl, hL329.at (i := 2) rfl, hL329.at (i := 3) rfl⟩ (by kernel_rfl) rfl (fun _ _ => r_build rfl (fun _ => bld47_z _)) rfl ?_
       refine NI_hoist 1 (np_cut (np_seq np_body)) ⟨hG330.trans (gz_le hH hL329), hL329.at (i := 0) rfl, hL329.at (i := 1) rfl, hL329.at (i := 2) rfl, hL329.at (i := 3) rfl⟩ (by kernel_rfl) rfl (fun _ hI => r_loadHN rfl underlying23 rfl zr23 hI.2.2.2.1) rfl ?_
       refine NI1 (i := 2) (by kernel_rfl) rfl ?_
       refine S_storeBN 4 rfl rfl rfl zr47 hL329 rfl rfl (onc rfl (onc rfl on0)) ?_
       intro w331 hL331 hle331
       replace hG330 := hG330.trans (gz_mono hH hle331)
       refine NI_nil ⟨hG330.trans (gz_le hH hL331), hL331.at (i := 0) rfl, hL331.at (i := 1) rfl, hL331.at (i := 2) rfl, hL331.at (i := 3) rfl⟩ ?_
       refine NI1 (i := 3) (by kernel_rfl) rfl ?_
       refine S_storeBN 3 rfl rfl rfl zr23 hL331 rfl rfl (onc rfl (onc rfl on0)) ?_
       intro w332 hL332 hle332
       replace hG330 := hG330.trans (gz_mono hH hle332)
       refine NI_last (by kernel_rfl) ?_
       refine NI_end (by kernel_rfl) ?_
       refine At_cut (x10.1, x10.2, (0 : Int)) (.cons rfl (.cons rfl (Sub.nil _))) ⟨hL332, (hf175_0.mono hG330), h⟩
      ·rintro ⟨c322, c323, c324⟩ wr326 ⟨hL326, hf326_0, h⟩
       refine W_ret ?_
       refine At_seq_ret ?_
       obtain rfl := Option.some.inj h
       refine At_got2 rfl (.cell rfl underlying47 rfl zr47 (box_ptr (i := 4) hL326 rfl)) (.cell rfl underlying23 rfl zr23 (box_ptr (i := 3) hL326 rfl)) ?_
       exact ⟨hL326.ext, _, rfl, (Vec.nil _ _)⟩
     ·replace h := Go.L.ite_f hc314 h
      refine W_skip ?_
      refine At_seq ?_
      refine W_seqr ?_
      refine S_v (r_loadBN 0 rfl underlying47 rfl zr47 hL313 rfl) rfl ?_
      refine S_v (r_build rfl (fun _ => bld23_z _)) rfl ?_
      refine S_storeBN 4 rfl rfl rfl zr47 hL313 rfl rfl (onc rfl (onc hf175_0.one on0)) ?_
      intro w335 hL335 hle335
      replace hf175_0 := hf175_0.mono (gz_mono hH hle335)
      refine S_storeBN 3 rfl rfl rfl zr23 hL335 rfl rfl (onc rfl (onc rfl on0)) ?_
      intro w336 hL336 hle336
      replace hf175_0 := hf175_0.mono (gz_mono hH hle336)
      refine S_seqnil ?_
      refine W_ret ?_
      obtain rfl := Option.some.inj h
      refine At_got2 rfl (.cell rfl underlying47 rfl zr47 (box_ptr (i := 4) hL336 rfl)) (.cell rfl underlying23 rfl zr23 (box_ptr (i := 3) hL336 rfl)) ?_
      exact ⟨hL336.ext, _, rfl, (hf175_0.mono (gz_res hH))⟩
end Go.Proofs.YtmfiaecglndldaaGreatDoor
end
section
namespace Go.Proofs.YtmfiaecglndldaaGreatDoor
open Go Go.E Go.RowKit
set_option maxHeartbeats 1000000
set_option maxRecDepth 10000
open _root_.Go.Proofs.Tryz
noncomputable def shapes_Paths (a0 : Go.L.Pv) : Option ((List (List UInt8)) × (Int × Int)) :=
 Option.bind (value_Validate a0) (fun x3 => if x3.1 = (0 : Int) ∧ x3.2 = (0 : Int) then Option.bind (shapes_leaves pathStep a0 ([] : List (List UInt8)) ([] : List (List UInt8))) (fun x18 => Go.L.chk (x18.length < 4611686018427387904) (Go.L.chk ((srtS x18).length ≤ 9223372036854775807) (some ((Lib.compact (srtS x18)), ((0 : Int), (0 : Int)))))) else some ([], (x3.1, x3.2)))
theorem shapes_Paths_ok (w : World) (H : PH) (hH : Le H (hp w)) {a0 : Go.L.Pv} {v0_0 : Value} {v0_1 : Value} {v0_2 : Value} (h0_0 : Vec .byte H v0_0 (a0.f.2.2.1)) (h0_1 : Vec .st H v0_1 (a0.f.2.2.2.1)) (h0_2 : Vec .tree H v0_2 (a0.f.2.2.2.2)) {r : (List (List UInt8)) × (Int × Int)} (h : shapes_Paths a0 = some r) :
  Ok Tryz.prog 21 [.agg #[.int .i64 a0.f.1, .int .i64 a0.f.2.1, v0_0, v0_1, v0_2]] w (fun v w' => Ext w w' ∧ ∃ u0, v = .tuple #[u0, .agg #[.int .i64 r.2.1, .int .i64 r.2.2]] ∧ OwnH 9 .st H w w' u0 (r.1)) := by
 refine Ok_enter (n := 20) [(0, .agg #[.int .i64 a0.f.1, .int .i64 a0.f.2.1, v0_0, v0_1, v0_2])] func21 rfl rfl rfl rfl rfl ?_
 have hL := Lcl.start w
 refine W_seqr ?_
 refine S_box (t := 38) rfl rfl rfl hL ?_
 intro w1 b1 hL1 hle1 _
 refine S_pu 1 rfl ?_
 refine S_alloc zr23 rfl rfl hL1 ?_
 intro w2 b2 hL2 hle2 _
 refine S_seqnil ?_
 refine W_seq ?_
 refine W_seqr ?_
 refine S_v (r_loadBN 1 rfl underlying38 rfl zr38 hL2 rfl) rfl ?_
 obtain ⟨x3, hb3, h⟩ := Go.L.bind_some h
 refine S_callL rfl rfl hL2 (value_Validate_ok (a0 := a0) _ _ (gz_le hH hL2) (h0_0.mono (gz_left hH)) (h0_1.mono (gz_left hH)) (h0_2.mono (gz_left hH)) hb3) ?_
 rintro _ w4 rfl hx4 hL4 hle4
 refine S_alloc zr23 rfl rfl hL4 ?_
 intro w5 b5 hL5 hle5 _
 refine S_storeBN 0 rfl rfl rfl zr23 hL5 rfl rfl (onc rfl (onc rfl on0)) ?_
 intro w6 hL6 hle6
 refine S_seqnil ?_
 refine W_seqr ?_
 refine S_v (r_loadBN 0 rfl underlying23 rfl zr23 hL6 rfl) rfl ?_
 refine S_v (r_build rfl (fun _ => bld23_z _)) rfl ?_
 refine S_v (r_neA rfl rfl eqg23 (eq23 _ _ _ _ )) rfl ?_
 refine S_seqnil ?_
 refine W_ifn rfl (fun hc7 => ?_) (fun hc7 => ?_)
 ·replace h := Go.L.ite_n hc7 h
  refine W_seqd (.q 0 (.q 1 (.tail 2))) mixed (by kernel_rfl) (fun w9 hx9 => ?_)
  have hL10 := hL6.call hx9
  refine D_v (r_loadBN 0 rfl underlying23 rfl zr23 hL10 rfl) rfl rfl ?_
  refine D_pu 1 rfl ?_
  refine D_tail (fun w11 hx11 => ?_)
  have hL12 := hL10.call hx11
  refine S_storeBN 1 rfl rfl rfl zr23 hL12 rfl rfl (onc rfl (onc rfl on0)) ?_
  intro w13 hL13 hle13
  refine S_seqnil ?_
  refine W_ret ?_
  refine At_seq_ret ?_
  obtain rfl := Option.some.inj h
  refine At_got2 rfl (.tmp rfl) (.cell rfl underlying23 rfl zr23 (box_ptr (i := 1) hL13 rfl)) ?_
  exact ⟨hL13.ext, _, rfl, OwnH.nil⟩
 ·replace h := Go.L.ite_p hc7 h
  refine W_skip ?_
  refine At_seq ?_
  refine W_seqr ?_
  refine S_alloc zr30 rfl rfl hL6 ?_
  intro w15 b15 hL15 hle15 _
  refine S_seqnil ?_
  refine W_seqr ?_
  refine S_v (r_loadBN 3 rfl underlying38 rfl zr38 hL15 rfl) rfl ?_
  refine S_pu 1 rfl ?_
  obtain ⟨hL16, hle16, he16⟩ := row_nilE .st H 9 hL15
  have hL17 : Lcl w [.box b15 [.slice none 0 0] 30, .row (.slice none 0 0) 9 1 (([] : List (List UInt8))).length ([]), .box b5 [.int .i64 x3.1, .int .i64 x3.2] 23, .box b2 [.int .i64 (0 : Int), .int .i64 (0 : Int)] 23, .box b1 [.int .i64 a0.f.1, .int .i64 a0.f.2.1, v0_0, v0_1, v0_2] 38] w15 := hL16.picks [1] rfl
  have hle17 := fz_picks [1] hL16 hL17 rfl
  replace he16 := he16.mono (gz_mono hH hle17)
  obtain ⟨x18, hb18, h⟩ := Go.L.bind_some h
  refine S_call rfl rfl (leaves_paths hH (O := [.box b5 [.int .i64 x3.1, .int .i64 x3.2] 23, .box b2 [.int .i64 (0 : Int), .int .i64 (0 : Int)] 23, .box b1 [.int .i64 a0.f.1, .int .i64 a0.f.2.1, v0_0, v0_1, v0_2] 38]) (a0 := a0) (a1 := ([] : List (List UInt8))) (s := ([] : List (List UInt8))) hL17 he16 (h0_0.mono (gz_left hH)) (h0_1.mono (gz_left hH)) (h0_2.mono (gz_left hH)) (Vec.nil _ _) hb18) ?_
  rintro _ w19 ⟨rfl, u19, y19, hL19, hle19, he19⟩
  refine S_seqnil ?_
  refine W_seqr ?_
  refine S_v (r_loadB1 0 rfl underlying30 rfl hL19 rfl rfl) rfl ?_
  obtain ⟨hk21, h⟩ := Go.L.chk_some h
  refine S_sortS (i := 1) Tryz.laySS rfl ⟨Tryz.f53, _, func53, rfl, rfl⟩ rfl rfl hH hL19 rfl he19 hk21 ?_
  intro w20 xs20 hL20 hle20 he20
  refine S_seqnil ?_
  refine W_seqr ?_
  refine S_v (r_loadB1 0 rfl underlying30 rfl hL20 rfl rfl) rfl ?_
  obtain ⟨hk23, h⟩ := Go.L.chk_some h
  refine S_compS (i := 1) Tryz.layCS rfl ⟨Tryz.f54, _, func54, rfl, rfl⟩ rfl rfl hH hL20 rfl he20 hk23 ?_
  intro v22 w22 xs22 hL22 hle22 he22
  refine S_v (r_build rfl (fun _ => bld23_z _)) rfl ?_
  refine S_pu 1 rfl ?_
  refine S_storeBN 3 rfl rfl rfl zr23 hL22 rfl rfl (onc rfl (onc rfl on0)) ?_
  intro w24 hL24 hle24
  replace he22 := he22.mono (gz_mono hH hle24)
  refine S_seqnil ?_
  refine W_ret ?_
  obtain rfl := Option.some.inj h
  refine At_got2 rfl (.tmp rfl) (.cell rfl underlying23 rfl zr23 (box_ptr (i := 3) hL24 rfl)) ?_
  exact ⟨hL24.ext, _, rfl, (hL24.ownH hH (i := 1) rfl he22)⟩
end Go.Proofs.YtmfiaecglndldaaGreatDoor
end
section
namespace Go.Proofs.YtmfiaecglndldaaGreatDoor
open Go Go.E Go.RowKit
set_option maxHeartbeats 1000000
set_option maxRecDepth 10000
open _root_.Go.Proofs.Tryz
noncomputable def law4_shaped : Option (Bool) :=
 Option.bind (shapes_Match ([42, 42, 47, 99] : List UInt8) ([97, 47, 98, 47, 99] : List UInt8)) (fun x1 => Option.bind (shapes_Match ([42, 47, 99] : List UInt8) ([97, 47, 98, 47, 99] : List UInt8)) (fun x5 => Option.bind (law4_record (5 : Int)) (fun x9 => Option.bind (shapes_Paths x9) (fun x11 => Option.bind (law4_number (5 : Int)) (fun x15 => Option.bind (law4_record (5 : Int)) (fun x17 => Option.bind (shapes_Build ([x15, x17])) (fun x20 => Option.bind (shapes_Index_Number (x20.1.1, x20.1.2) ([97] : List UInt8) (1 : Int) (5 : Int)) (fun x26 => Option.bind (shapes_Index_Find (x20.1.1, x20.1.2) ([42, 42] : List UInt8)) (fun x31 => Option.bind (shapes_Index_Text (x20.1.1, x20.1.2) ([97] : List UInt8) ([])) (fun x35 => Option.bind (shapes_Open ([(0 : UInt8), (0 : UInt8)])) (fun x40 => if x1.2.1 = (0 : Int) then if x5.2.1 = (0 : Int) then if x11.2.1 = (0 : Int) then if x20.2.1 = (0 : Int) then if x26.2.1 = (0 : Int) then if x31.2.1 = (0 : Int) then if x35.2.1 = (0 : Int) then if x40.2.1 = (0 : Int) then (if (bif x1.1 then !x5.1 else false) then Option.bind (ref4_Texts x11.1 ([([] : List UInt8), ([97] : List UInt8)])) (fun x74 => if x74 then Option.bind (ref3_Ints x26.1 ([(1 : Int)])) (fun x79 => if x79 then Option.bind (ref3_Ints x31.1 ([(0 : Int), (1 : Int)])) (fun x84 => if x84 then if (x35.1.length : Int) = (0 : Int) then Option.bind (shapes_Index_Items (x40.1.1, x40.1.2)) (fun x90 => if x90 = (0 : Int) then Option.bind (shapes_Check ([97, 47, 47, 98] : List UInt8)) (fun x94 => Option.bind (ref3_At (1 : Int) (2 : Int)) (fun x96 => some (decide (x94.1 = x96.1 ∧ x94.2 = x96.2)))) else some (false)) else some (false) else some (false)) else some (false)) else some (false)) else some (false)) else some (false) else some (false) else some (false) else some (false) else some (false) else some (false) else some (false) else some (false))))))))))))
theorem law4_shaped_ok (w : World) (H : PH) (hH : Le H (hp w))    {r : Bool} (h : law4_shaped = some r) :
  Ok Tryz.prog 14 [] w (fun v w' => Ext w w' ∧ v = .bool r) := by
 refine Ok_enter (n := 130) [] func14 rfl rfl rfl rfl rfl ?_
 have hL := Lcl.start w
 refine W_pz 1 rfl ?_
 refine W_seqr ?_
 obtain ⟨x1, hb1, h⟩ := Go.L.bind_some h
 refine S_callL rfl rfl hL (shapes_Match_ok _ _ (gz_le hH hL) hb1) ?_
 rintro _ w2 rfl hx2 hL2 hle2
 refine S_pu 3 rfl ?_
 refine S_alloc zr23 rfl rfl hL2 ?_
 intro w3 b3 hL3 hle3 _
 refine S_pu 1 rfl ?_
 refine S_storeBN 0 rfl rfl rfl zr23 hL3 rfl rfl (onc rfl (onc rfl on0)) ?_
 intro w4 hL4 hle4
 refine S_seqnil ?_
 refine W_seqr ?_
 obtain ⟨x5, hb5, h⟩ := Go.L.bind_some h
 refine S_callL rfl rfl hL4 (shapes_Match_ok _ _ (gz_le hH hL4) hb5) ?_
 rintro _ w6 rfl hx6 hL6 hle6
 refine S_pu 3 rfl ?_
 refine S_alloc zr23 rfl rfl hL6 ?_
 intro w7 b7 hL7 hle7 _
 refine S_pu 1 rfl ?_
 refine S_storeBN 0 rfl rfl rfl zr23 hL7 rfl rfl (onc rfl (onc rfl on0)) ?_
 intro w8 hL8 hle8
 refine S_seqnil ?_
 refine W_seqr ?_
 obtain ⟨x9, hb9, h⟩ := Go.L.bind_some h
 refine S_callL rfl rfl hL8 (law4_record_ok _ _ (gz_le hH hL8) hb9) ?_
 rintro _ w10 ⟨u10_0, u10_1, u10_2, rfl, hR10_0, hR10_1, hR10_2⟩ hx10 hL10 hle10
 have hv10_0 := hR10_0.vecG hH hL8 hx10
 have hv10_1 := hR10_1.mono (gz_nw hH hL8 hx10)
 have hv10_2 := hR10_2.mono (gz_nw hH hL8 hx10)
 obtain ⟨x11, hb11, h⟩ := Go.L.bind_some h
 refine S_callL rfl rfl hL10 (shapes_Paths_ok (a0 := x9) _ _ (gz_le hH hL10) hv10_0 hv10_1 hv10_2 hb11) ?_
 rintro _ w12 ⟨u12_0, rfl, hR12_0⟩ hx12 hL12 hle12
 have hv12_0 := hR12_0.vecG hH hL10 hx12
 replace hv10_0 := hv10_0.mono (gz_mono hH hle12)
 replace hv10_1 := hv10_1.mono (gz_mono hH hle12)
 replace hv10_2 := hv10_2.mono (gz_mono hH hle12)
 refine S_pu 3 rfl ?_
 refine S_alloc zr23 rfl rfl hL12 ?_
 intro w13 b13 hL13 hle13 _
 replace hv10_0 := hv10_0.mono (gz_mono hH hle13)
 replace hv10_1 := hv10_1.mono (gz_mono hH hle13)
 replace hv10_2 := hv10_2.mono (gz_mono hH hle13)
 replace hv12_0 := hv12_0.mono (gz_mono hH hle13)
 refine S_pu 1 rfl ?_
 refine S_storeBN 0 rfl rfl rfl zr23 hL13 rfl rfl (onc rfl (onc rfl on0)) ?_
 intro w14 hL14 hle14
 replace hv10_0 := hv10_0.mono (gz_mono hH hle14)
 replace hv10_1 := hv10_1.mono (gz_mono hH hle14)
 replace hv10_2 := hv10_2.mono (gz_mono hH hle14)
 replace hv12_0 := hv12_0.mono (gz_mono hH hle14)
 refine S_seqnil ?_
 refine W_seqr ?_
 obtain ⟨x15, hb15, h⟩ := Go.L.bind_some h
 refine S_callL rfl rfl hL14 (law4_number_ok _ _ (gz_le hH hL14) hb15) ?_
 rintro _ w16 ⟨u16_0, u16_1, u16_2, rfl, hR16_0, hR16_1, hR16_2⟩ hx16 hL16 hle16
 have hv16_0 := hR16_0.vecG hH hL14 hx16
 have hv16_1 := hR16_1.vecG hH hL14 hx16
 have hv16_2 := hR16_2.vecG hH hL14 hx16
 replace hv12_0 := hv12_0.mono (gz_mono hH hle16)
 obtain ⟨x17, hb17, h⟩ := Go.L.bind_some h
 refine S_callL rfl rfl hL16 (law4_record_ok _ _ (gz_le hH hL16) hb17) ?_
 rintro _ w18 ⟨u18_0, u18_1, u18_2, rfl, hR18_0, hR18_1, hR18_2⟩ hx18 hL18 hle18
 have hv18_0 := hR18_0.vecG hH hL16 hx18
 have hv18_1 := hR18_1.mono (gz_nw hH hL16 hx18)
 have hv18_2 := hR18_2.mono (gz_nw hH hL16 hx18)
 replace hv12_0 := hv12_0.mono (gz_mono hH hle18)
 replace hv16_0 := hv16_0.mono (gz_mono hH hle18)
 replace hv16_1 := hv16_1.mono (gz_mono hH hle18)
 replace hv16_2 := hv16_2.mono (gz_mono hH hle18)
 refine S_litE (r := .tree) (l := [x15, x17]) rfl (fun _ => bsl36_2 _ _ _ _ _ _ _ _ _ _ _) rfl (show 2 ≤ 9223372036854775807 by decide) hH hL18 (.c5 (Go.E.Rp.tree_close ⟨_, _, rfl, rfl, ⟨_, _, rfl, rfl, ⟨_, _, rfl, ⟨_, rfl, hv16_0⟩, ⟨_, _, rfl, ⟨_, rfl, hv16_1⟩, ⟨_, rfl, hv16_2⟩⟩⟩⟩⟩) (.c5 (Go.E.Rp.tree_close ⟨_, _, rfl, rfl, ⟨_, _, rfl, rfl, ⟨_, _, rfl, ⟨_, rfl, hv18_0⟩, ⟨_, _, rfl, ⟨_, rfl, hv18_1⟩, ⟨_, rfl, hv18_2⟩⟩⟩⟩⟩) .nil)) ?_
 intro v19 w19 hx19 hL19 hle19 hv19
 replace hv12_0 := hv12_0.mono (gz_mono hH hle19)
 replace hv16_0 := hv16_0.mono (gz_mono hH hle19)
 replace hv16_1 := hv16_1.mono (gz_mono hH hle19)
 replace hv16_2 := hv16_2.mono (gz_mono hH hle19)
 replace hv18_0 := hv18_0.mono (gz_mono hH hle19)
 replace hv18_1 := hv18_1.mono (gz_mono hH hle19)
 replace hv18_2 := hv18_2.mono (gz_mono hH hle19)
 obtain ⟨x20, hb20, h⟩ := Go.L.bind_some h
 refine S_callL rfl rfl hL19 (shapes_Build_ok _ _ (gz_le hH hL19) hv19 hb20) ?_
 rintro _ w21 ⟨u21_0, rfl, hR21_0⟩ hx21 hL21 hle21
 have hv21_0 := hR21_0.mono (gz_nw hH hL19 hx21)
 replace hv12_0 := hv12_0.mono (gz_mono hH hle21)
 replace hv16_0 := hv16_0.mono (gz_mono hH hle21)
 replace hv16_1 := hv16_1.mono (gz_mono hH hle21)
 replace hv16_2 := hv16_2.mono (gz_mono hH hle21)
 replace hv18_0 := hv18_0.mono (gz_mono hH hle21)
 replace hv18_1 := hv18_1.mono (gz_mono hH hle21)
 replace hv18_2 := hv18_2.mono (gz_mono hH hle21)
 replace hv19 := hv19.mono (gz_mono hH hle21)
 refine S_pu 3 rfl ?_
 refine S_alloc zr47 rfl rfl hL21 ?_
 intro w22 b22 hL22 hle22 _
 replace hv12_0 := hv12_0.mono (gz_mono hH hle22)
 replace hv16_0 := hv16_0.mono (gz_mono hH hle22)
 replace hv16_1 := hv16_1.mono (gz_mono hH hle22)
 replace hv16_2 := hv16_2.mono (gz_mono hH hle22)
 replace hv18_0 := hv18_0.mono (gz_mono hH hle22)
 replace hv18_1 := hv18_1.mono (gz_mono hH hle22)
 replace hv18_2 := hv18_2.mono (gz_mono hH hle22)
 replace hv19 := hv19.mono (gz_mono hH hle22)
 replace hv21_0 := hv21_0.mono (gz_mono hH hle22)
 refine S_alloc zr23 rfl rfl hL22 ?_
 intro w23 b23 hL23 hle23 _
 replace hv12_0 := hv12_0.mono (gz_mono hH hle23)
 replace hv16_0 := hv16_0.mono (gz_mono hH hle23)
 replace hv16_1 := hv16_1.mono (gz_mono hH hle23)
 replace hv16_2 := hv16_2.mono (gz_mono hH hle23)
 replace hv18_0 := hv18_0.mono (gz_mono hH hle23)
 replace hv18_1 := hv18_1.mono (gz_mono hH hle23)
 replace hv18_2 := hv18_2.mono (gz_mono hH hle23)
 replace hv19 := hv19.mono (gz_mono hH hle23)
 replace hv21_0 := hv21_0.mono (gz_mono hH hle23)
 refine S_storeBN 1 rfl rfl rfl zr47 hL23 rfl rfl (onc rfl (onc hv21_0.one on0)) ?_
 intro w24 hL24 hle24
 replace hv12_0 := hv12_0.mono (gz_mono hH hle24)
 replace hv16_0 := hv16_0.mono (gz_mono hH hle24)
 replace hv16_1 := hv16_1.mono (gz_mono hH hle24)
 replace hv16_2 := hv16_2.mono (gz_mono hH hle24)
 replace hv18_0 := hv18_0.mono (gz_mono hH hle24)
 replace hv18_1 := hv18_1.mono (gz_mono hH hle24)
 replace hv18_2 := hv18_2.mono (gz_mono hH hle24)
 replace hv19 := hv19.mono (gz_mono hH hle24)
 replace hv21_0 := hv21_0.mono (gz_mono hH hle24)
 refine S_storeBN 0 rfl rfl rfl zr23 hL24 rfl rfl (onc rfl (onc rfl on0)) ?_
 intro w25 hL25 hle25
 replace hv12_0 := hv12_0.mono (gz_mono hH hle25)
 replace hv16_0 := hv16_0.mono (gz_mono hH hle25)
 replace hv16_1 := hv16_1.mono (gz_mono hH hle25)
 replace hv16_2 := hv16_2.mono (gz_mono hH hle25)
 replace hv18_0 := hv18_0.mono (gz_mono hH hle25)
 replace hv18_1 := hv18_1.mono (gz_mono hH hle25)
 replace hv18_2 := hv18_2.mono (gz_mono hH hle25)
 replace hv19 := hv19.mono (gz_mono hH hle25)
 replace hv21_0 := hv21_0.mono (gz_mono hH hle25)
 refine S_seqnil ?_
 refine W_seqr ?_
 refine S_v (r_loadBN 1 rfl underlying47 rfl zr47 hL25 rfl) rfl ?_
 obtain ⟨x26, hb26, h⟩ := Go.L.bind_some h
 refine S_callL rfl rfl hL25 (shapes_Index_Number_ok (a0 := (x20.1.1, x20.1.2)) _ _ (gz_le hH hL25) hv21_0 hb26) ?_
 rintro _ w27 ⟨u27_0, rfl, hR27_0⟩ hx27 hL27 hle27
 have hv27_0 := hR27_0.vecG hH hL25 hx27
 replace hv12_0 := hv12_0.mono (gz_mono hH hle27)
 replace hv21_0 := hv21_0.mono (gz_mono hH hle27)
 refine S_pu 3 rfl ?_
 refine S_alloc zr23 rfl rfl hL27 ?_
 intro w28 b28 hL28 hle28 _
 replace hv12_0 := hv12_0.mono (gz_mono hH hle28)
 replace hv21_0 := hv21_0.mono (gz_mono hH hle28)
 replace hv27_0 := hv27_0.mono (gz_mono hH hle28)
 refine S_pu 1 rfl ?_
 refine S_storeBN 0 rfl rfl rfl zr23 hL28 rfl rfl (onc rfl (onc rfl on0)) ?_
 intro w29 hL29 hle29
 replace hv12_0 := hv12_0.mono (gz_mono hH hle29)
 replace hv21_0 := hv21_0.mono (gz_mono hH hle29)
 replace hv27_0 := hv27_0.mono (gz_mono hH hle29)
 refine S_seqnil ?_
 have hG30 := hL29.rG H
 refine W_seqr ?_
 refine S_v (r_loadBN 2 rfl underlying47 rfl zr47 hL29 rfl) rfl ?_
 obtain ⟨x31, hb31, h⟩ := Go.L.bind_some h
 refine S_callL rfl rfl hL29 (shapes_Index_Find_ok (a0 := (x20.1.1, x20.1.2)) _ _ (gz_le hH hL29) (hv21_0.mono hG30) hb31) ?_
 rintro _ w32 ⟨u32_0, rfl, hR32_0⟩ hx32 hL32 hle32
 have hv32_0 := hR32_0.vecG hH hL29 hx32
 replace hG30 := hG30.trans (gz_mono hH hle32)
 refine S_pu 3 rfl ?_
 refine S_alloc zr23 rfl rfl hL32 ?_
 intro w33 b33 hL33 hle33 _
 replace hv32_0 := hv32_0.mono (gz_mono hH hle33)
 replace hG30 := hG30.trans (gz_mono hH hle33)
 refine S_pu 1 rfl ?_
 refine S_storeBN 0 rfl rfl rfl zr23 hL33 rfl rfl (onc rfl (onc rfl on0)) ?_
 intro w34 hL34 hle34
 replace hv32_0 := hv32_0.mono (gz_mono hH hle34)
 replace hG30 := hG30.trans (gz_mono hH hle34)
 refine S_seqnil ?_
 refine W_seqr ?_
 refine S_v (r_loadBN 3 rfl underlying47 rfl zr47 hL34 rfl) rfl ?_
 obtain ⟨x35, hb35, h⟩ := Go.L.bind_some h
 refine S_callL rfl rfl hL34 (shapes_Index_Text_ok (a0 := (x20.1.1, x20.1.2)) _ _ (gz_le hH hL34) (hv21_0.mono hG30) (Vec.nil _ _) hb35) ?_
 rintro _ w36 ⟨u36_0, rfl, hR36_0⟩ hx36 hL36 hle36
 have hv36_0 := hR36_0.vecG hH hL34 hx36
 replace hv32_0 := hv32_0.mono (gz_mono hH hle36)
 replace hG30 := hG30.trans (gz_mono hH hle36)
 refine S_pu 3 rfl ?_
 refine S_alloc zr23 rfl rfl hL36 ?_
 intro w37 b37 hL37 hle37 _
 replace hv32_0 := hv32_0.mono (gz_mono hH hle37)
 replace hv36_0 := hv36_0.mono (gz_mono hH hle37)
 replace hG30 := hG30.trans (gz_mono hH hle37)
 refine S_pu 1 rfl ?_
 refine S_storeBN 0 rfl rfl rfl zr23 hL37 rfl rfl (onc rfl (onc rfl on0)) ?_
 intro w38 hL38 hle38
 replace hv32_0 := hv32_0.mono (gz_mono hH hle38)
 replace hv36_0 := hv36_0.mono (gz_mono hH hle38)
 replace hG30 := hG30.trans (gz_mono hH hle38)
 refine S_seqnil ?_
 refine W_seqr ?_
 refine S_litE (r := .byte) (l := [(0 : UInt8), (0 : UInt8)]) rfl (fun _ => bsl35_2 _ _ _) rfl (show 2 ≤ 9223372036854775807 by decide) hH hL38 (.c1 rfl (.c1 rfl .nil)) ?_
 intro v39 w39 hx39 hL39 hle39 hv39
 replace hv32_0 := hv32_0.mono (gz_mono hH hle39)
 replace hv36_0 := hv36_0.mono (gz_mono hH hle39)
 replace hG30 := hG30.trans (gz_mono hH hle39)
 obtain ⟨x40, hb40, h⟩ := Go.L.bind_some h
 refine S_callL rfl rfl hL39 (shapes_Open_ok _ _ (gz_le hH hL39) hv39 hb40) ?_
 rintro _ w41 ⟨u41_0, rfl, hR41_0⟩ hx41 hL41 hle41
 have hv41_0 := hR41_0.mono (gz_nw hH hL39 hx41)
 replace hv32_0 := hv32_0.mono (gz_mono hH hle41)
 replace hv36_0 := hv36_0.mono (gz_mono hH hle41)
 replace hv39 := hv39.mono (gz_mono hH hle41)
 replace hG30 := hG30.trans (gz_mono hH hle41)
 refine S_pu 3 rfl ?_
 refine S_alloc zr47 rfl rfl hL41 ?_
 intro w42 b42 hL42 hle42 _
 replace hv32_0 := hv32_0.mono (gz_mono hH hle42)
 replace hv36_0 := hv36_0.mono (gz_mono hH hle42)
 replace hv39 := hv39.mono (gz_mono hH hle42)
 replace hv41_0 := hv41_0.mono (gz_mono hH hle42)
 replace hG30 := hG30.trans (gz_mono hH hle42)
 refine S_alloc zr23 rfl rfl hL42 ?_
 intro w43 b43 hL43 hle43 _
 replace hv32_0 := hv32_0.mono (gz_mono hH hle43)
 replace hv36_0 := hv36_0.mono (gz_mono hH hle43)
 replace hv39 := hv39.mono (gz_mono hH hle43)
 replace hv41_0 := hv41_0.mono (gz_mono hH hle43)
 replace hG30 := hG30.trans (gz_mono hH hle43)
 refine S_storeBN 1 rfl rfl rfl zr47 hL43 rfl rfl (onc rfl (onc hv41_0.one on0)) ?_
 intro w44 hL44 hle44
 replace hv32_0 := hv32_0.mono (gz_mono hH hle44)
 replace hv36_0 := hv36_0.mono (gz_mono hH hle44)
 replace hv39 := hv39.mono (gz_mono hH hle44)
 replace hv41_0 := hv41_0.mono (gz_mono hH hle44)
 replace hG30 := hG30.trans (gz_mono hH hle44)
 refine S_storeBN 0 rfl rfl rfl zr23 hL44 rfl rfl (onc rfl (onc rfl on0)) ?_
 intro w45 hL45 hle45
 replace hv32_0 := hv32_0.mono (gz_mono hH hle45)
 replace hv36_0 := hv36_0.mono (gz_mono hH hle45)
 replace hv39 := hv39.mono (gz_mono hH hle45)
 replace hv41_0 := hv41_0.mono (gz_mono hH hle45)
 replace hG30 := hG30.trans (gz_mono hH hle45)
 refine S_seqnil ?_
 refine W_seq ?_
 have hG46 := hL45.rG H
 refine W_seqr ?_
 refine S_v (r_field rfl underlying23 rfl zr3 (by decide)) rfl ?_
 refine S_v (r_loadB1 9 rfl underlying3 rfl hL45 rfl rfl) rfl ?_
 refine S_pu 2 rfl ?_
 refine S_split (s := 60) rfl (fun hg47 => ?_) (fun hg47 => ?_)
 ·replace h := Go.L.ite_n (not_dec_t hg47) h
  iterate 3 refine S_unwanted rfl rfl hg47 rfl ?_
  refine S_v (r_pickT rfl hg47 rfl) rfl ?_
  refine S_pu 1 rfl ?_
  iterate 3 refine S_unwanted rfl rfl rfl rfl ?_
  refine S_v (r_pickT rfl rfl rfl) rfl ?_
  refine S_pu 1 rfl ?_
  iterate 3 refine S_unwanted rfl rfl rfl rfl ?_
  refine S_v (r_pickT rfl rfl rfl) rfl ?_
  refine S_pu 1 rfl ?_
  iterate 3 refine S_unwanted rfl rfl rfl rfl ?_
  refine S_v (r_pickT rfl rfl rfl) rfl ?_
  refine S_pu 1 rfl ?_
  iterate 3 refine S_unwanted rfl rfl rfl rfl ?_
  refine S_v (r_pickT rfl rfl rfl) rfl ?_
  refine S_pu 1 rfl ?_
  iterate 3 refine S_unwanted rfl rfl rfl rfl ?_
  refine S_v (r_pickT rfl rfl rfl) rfl ?_
  refine S_pu 1 rfl ?_
  iterate 3 refine S_unwanted rfl rfl rfl rfl ?_
  refine S_v (r_pickT rfl rfl rfl) rfl ?_
  refine S_seqnil ?_
  refine W_true rfl ?_
  refine W_pz 1 rfl ?_
  refine W_ret ?_
  refine At_seq_ret ?_
  obtain rfl := Option.some.inj h
  refine At_body rfl rfl ?_
  exact ⟨hL45.ext, rfl⟩
 ·replace h := Go.L.ite_p (not_dec_f hg47) h
  refine S_guarded rfl rfl hg47 ?_
  refine S_v (r_field rfl underlying23 rfl zr3 (by decide)) rfl ?_
  refine S_guarded rfl rfl hg47 ?_
  refine S_v (r_loadB1 8 rfl underlying3 rfl hL45 rfl rfl) rfl ?_
  refine S_guarded rfl rfl hg47 ?_
  refine S_v (RunsAt_pu rfl) rfl ?_
  refine S_v (r_pickF rfl hg47 rfl) rfl ?_
  refine S_pu 1 rfl ?_
  refine S_split (s := 65) rfl (fun hg50 => ?_) (fun hg50 => ?_)
  ·replace h := Go.L.ite_n (not_dec_t hg50) h
   iterate 3 refine S_unwanted rfl rfl hg50 rfl ?_
   refine S_v (r_pickT rfl hg50 rfl) rfl ?_
   refine S_pu 1 rfl ?_
   iterate 3 refine S_unwanted rfl rfl rfl rfl ?_
   refine S_v (r_pickT rfl rfl rfl) rfl ?_
   refine S_pu 1 rfl ?_
   iterate 3 refine S_unwanted rfl rfl rfl rfl ?_
   refine S_v (r_pickT rfl rfl rfl) rfl ?_
   refine S_pu 1 rfl ?_
   iterate 3 refine S_unwanted rfl rfl rfl rfl ?_
   refine S_v (r_pickT rfl rfl rfl) rfl ?_
   refine S_pu 1 rfl ?_
   iterate 3 refine S_unwanted rfl rfl rfl rfl ?_
   refine S_v (r_pickT rfl rfl rfl) rfl ?_
   refine S_pu 1 rfl ?_
   iterate 3 refine S_unwanted rfl rfl rfl rfl ?_
   refine S_v (r_pickT rfl rfl rfl) rfl ?_
   refine S_seqnil ?_
   refine W_true rfl ?_
   refine W_pz 1 rfl ?_
   refine W_ret ?_
   refine At_seq_ret ?_
   obtain rfl := Option.some.inj h
   refine At_body rfl rfl ?_
   exact ⟨hL45.ext, rfl⟩
  ·replace h := Go.L.ite_p (not_dec_f hg50) h
   refine S_guarded rfl rfl hg50 ?_
   refine S_v (r_field rfl underlying23 rfl zr3 (by decide)) rfl ?_
   refine S_guarded rfl rfl hg50 ?_
   refine S_v (r_loadB1 7 rfl underlying3 rfl hL45 rfl rfl) rfl ?_
   refine S_guarded rfl rfl hg50 ?_
   refine S_v (RunsAt_pu rfl) rfl ?_
   refine S_v (r_pickF rfl hg50 rfl) rfl ?_
   refine S_pu 1 rfl ?_
   refine S_split (s := 70) rfl (fun hg53 => ?_) (fun hg53 => ?_)
   ·replace h := Go.L.ite_n (not_dec_t hg53) h
    iterate 3 refine S_unwanted rfl rfl hg53 rfl ?_
    refine S_v (r_pickT rfl hg53 rfl) rfl ?_
    refine S_pu 1 rfl ?_
    iterate 3 refine S_unwanted rfl rfl rfl rfl ?_
    refine S_v (r_pickT rfl rfl rfl) rfl ?_
    refine S_pu 1 rfl ?_
    iterate 3 refine S_unwanted rfl rfl rfl rfl ?_
    refine S_v (r_pickT rfl rfl rfl) rfl ?_
    refine S_pu 1 rfl ?_
    iterate 3 refine S_unwanted rfl rfl rfl rfl ?_
    refine S_v (r_pickT rfl rfl rfl) rfl ?_
    refine S_pu 1 rfl ?_
    iterate 3 refine S_unwanted rfl rfl rfl rfl ?_
    refine S_v (r_pickT rfl rfl rfl) rfl ?_
    refine S_seqnil ?_
    refine W_true rfl ?_
    refine W_pz 1 rfl ?_
    refine W_ret ?_
    refine At_seq_ret ?_
    obtain rfl := Option.some.inj h
    refine At_body rfl rfl ?_
    exact ⟨hL45.ext, rfl⟩
   ·replace h := Go.L.ite_p (not_dec_f hg53) h
    refine S_guarded rfl rfl hg53 ?_
    refine S_v (r_field rfl underlying23 rfl zr3 (by decide)) rfl ?_
    refine S_guarded rfl rfl hg53 ?_
    refine S_v (r_loadB1 5 rfl underlying3 rfl hL45 rfl rfl) rfl ?_
    refine S_guarded rfl rfl hg53 ?_
    refine S_v (RunsAt_pu rfl) rfl ?_
    refine S_v (r_pickF rfl hg53 rfl) rfl ?_
    refine S_pu 1 rfl ?_
    refine S_split (s := 75) rfl (fun hg56 => ?_) (fun hg56 => ?_)
    ·replace h := Go.L.ite_n (not_dec_t hg56) h
     iterate 3 refine S_unwanted rfl rfl hg56 rfl ?_
     refine S_v (r_pickT rfl hg56 rfl) rfl ?_
     refine S_pu 1 rfl ?_
     iterate 3 refine S_unwanted rfl rfl rfl rfl ?_
     refine S_v (r_pickT rfl rfl rfl) rfl ?_
     refine S_pu 1 rfl ?_
     iterate 3 refine S_unwanted rfl rfl rfl rfl ?_
     refine S_v (r_pickT rfl rfl rfl) rfl ?_
     refine S_pu 1 rfl ?_
     iterate 3 refine S_unwanted rfl rfl rfl rfl ?_
     refine S_v (r_pickT rfl rfl rfl) rfl ?_
     refine S_seqnil ?_
     refine W_true rfl ?_
     refine W_pz 1 rfl ?_
     refine W_ret ?_
     refine At_seq_ret ?_
     obtain rfl := Option.some.inj h
     refine At_body rfl rfl ?_
     exact ⟨hL45.ext, rfl⟩
    ·replace h := Go.L.ite_p (not_dec_f hg56) h
     refine S_guarded rfl rfl hg56 ?_
     refine S_v (r_field rfl underlying23 rfl zr3 (by decide)) rfl ?_
     refine S_guarded rfl rfl hg56 ?_
     refine S_v (r_loadB1 4 rfl underlying3 rfl hL45 rfl rfl) rfl ?_
     refine S_guarded rfl rfl hg56 ?_
     refine S_v (RunsAt_pu rfl) rfl ?_
     refine S_v (r_pickF rfl hg56 rfl) rfl ?_
     refine S_pu 1 rfl ?_
     refine S_split (s := 80) rfl (fun hg59 => ?_) (fun hg59 => ?_)
     ·replace h := Go.L.ite_n (not_dec_t hg59) h
      iterate 3 refine S_unwanted rfl rfl hg59 rfl ?_
      refine S_v (r_pickT rfl hg59 rfl) rfl ?_
      refine S_pu 1 rfl ?_
      iterate 3 refine S_unwanted rfl rfl rfl rfl ?_
      refine S_v (r_pickT rfl rfl rfl) rfl ?_
      refine S_pu 1 rfl ?_
      iterate 3 refine S_unwanted rfl rfl rfl rfl ?_
      refine S_v (r_pickT rfl rfl rfl) rfl ?_
      refine S_seqnil ?_
      refine W_true rfl ?_
      refine W_pz 1 rfl ?_
      refine W_ret ?_
      refine At_seq_ret ?_
      obtain rfl := Option.some.inj h
      refine At_body rfl rfl ?_
      exact ⟨hL45.ext, rfl⟩
     ·replace h := Go.L.ite_p (not_dec_f hg59) h
      refine S_guarded rfl rfl hg59 ?_
      refine S_v (r_field rfl underlying23 rfl zr3 (by decide)) rfl ?_
      refine S_guarded rfl rfl hg59 ?_
      refine S_v (r_loadB1 3 rfl underlying3 rfl hL45 rfl rfl) rfl ?_
      refine S_guarded rfl rfl hg59 ?_
      refine S_v (RunsAt_pu rfl) rfl ?_
      refine S_v (r_pickF rfl hg59 rfl) rfl ?_
      refine S_pu 1 rfl ?_
      refine S_split (s := 85) rfl (fun hg62 => ?_) (fun hg62 => ?_)
      ·replace h := Go.L.ite_n (not_dec_t hg62) h
       iterate 3 refine S_unwanted rfl rfl hg62 rfl ?_
       refine S_v (r_pickT rfl hg62 rfl) rfl ?_
       refine S_pu 1 rfl ?_
       iterate 3 refine S_unwanted rfl rfl rfl rfl ?_
       refine S_v (r_pickT rfl rfl rfl) rfl ?_
       refine S_seqnil ?_
       refine W_true rfl ?_
       refine W_pz 1 rfl ?_
       refine W_ret ?_
       refine At_seq_ret ?_
       obtain rfl := Option.some.inj h
       refine At_body rfl rfl ?_
       exact ⟨hL45.ext, rfl⟩
      ·replace h := Go.L.ite_p (not_dec_f hg62) h
       refine S_guarded rfl rfl hg62 ?_
       refine S_v (r_field rfl underlying23 rfl zr3 (by decide)) rfl ?_
       refine S_guarded rfl rfl hg62 ?_
       refine S_v (r_loadB1 2 rfl underlying3 rfl hL45 rfl rfl) rfl ?_
       refine S_guarded rfl rfl hg62 ?_
       refine S_v (RunsAt_pu rfl) rfl ?_
       refine S_v (r_pickF rfl hg62 rfl) rfl ?_
       refine S_pu 1 rfl ?_
       refine S_split (s := 90) rfl (fun hg65 => ?_) (fun hg65 => ?_)
       ·replace h := Go.L.ite_n (not_dec_t hg65) h
        iterate 3 refine S_unwanted rfl rfl hg65 rfl ?_
        refine S_v (r_pickT rfl hg65 rfl) rfl ?_
        refine S_seqnil ?_
        refine W_true rfl ?_
        refine W_pz 1 rfl ?_
        refine W_ret ?_
        refine At_seq_ret ?_
        obtain rfl := Option.some.inj h
        refine At_body rfl rfl ?_
        exact ⟨hL45.ext, rfl⟩
       ·replace h := Go.L.ite_p (not_dec_f hg65) h
        refine S_guarded rfl rfl hg65 ?_
        refine S_v (r_field rfl underlying23 rfl zr3 (by decide)) rfl ?_
        refine S_guarded rfl rfl hg65 ?_
        refine S_v (r_loadB1 0 rfl underlying3 rfl hL45 rfl rfl) rfl ?_
        refine S_guarded rfl rfl hg65 ?_
        refine S_v (RunsAt_pu rfl) rfl ?_
        refine S_v (r_pickF rfl hg65 rfl) rfl ?_
        refine S_seqnil ?_
        refine W_ifn rfl (fun hc68 => ?_) (fun hc68 => ?_)
        ·replace h := Go.L.ite_n hc68 h
         refine W_pz 1 rfl ?_
         refine W_ret ?_
         refine At_seq_ret ?_
         obtain rfl := Option.some.inj h
         refine At_body rfl rfl ?_
         exact ⟨hL45.ext, rfl⟩
        ·replace h := Go.L.ite_p hc68 h
         refine W_skip ?_
         refine At_seq ?_
         refine W_p 2 rfl ?_
         refine S_pickT 2 1 rfl rfl rfl rfl rfl rfl rfl ?_
         refine S_pu 1 rfl ?_
         refine S_split (s := 100) rfl (fun hg71 => ?_) (fun hg71 => ?_)
         ·replace h := Go.L.ite_t hg71 h
          refine S_guarded rfl rfl hg71 ?_
          refine S_v (RunsAt_pu rfl) rfl ?_
          refine S_guarded rfl rfl hg71 ?_
          refine S_litE (r := .st) (l := [([] : List UInt8), ([97] : List UInt8)]) rfl (fun _ => bsl30_2 _ rfl _ rfl _) rfl (show 2 ≤ 9223372036854775807 by decide) hH hL45 (.c1 rfl (.c1 rfl .nil)) ?_
          intro v73 w73 hx73 hL73 hle73 hv73
          replace hG46 := hG46.trans (gz_mono hH hle73)
          refine S_guarded rfl rfl hg71 ?_
          obtain ⟨x74, hb74, h⟩ := Go.L.bind_some h
          refine S_callL rfl rfl hL73 (ref4_Texts_ok _ _ (gz_le hH hL73) ((hv12_0.mono hG30).mono hG46) hv73 hb74) ?_
          rintro _ w75 rfl hx75 hL75 hle75
          replace hv73 := hv73.mono (gz_mono hH hle75)
          replace hG46 := hG46.trans (gz_mono hH hle75)
          refine S_v (r_pickT rfl hg71 rfl) rfl ?_
          refine S_pu 1 rfl ?_
          refine S_split (s := 105) rfl (fun hg76 => ?_) (fun hg76 => ?_)
          ·replace h := Go.L.ite_t hg76 h
           refine S_guarded rfl rfl hg76 ?_
           refine S_v (RunsAt_pu rfl) rfl ?_
           refine S_guarded rfl rfl hg76 ?_
           refine S_litE (r := (.int .i64)) (l := [(1 : Int)]) rfl (fun _ => bsl52_1 _ _) rfl (show 1 ≤ 9223372036854775807 by decide) hH hL75 (.c1 rfl .nil) ?_
           intro v78 w78 hx78 hL78 hle78 hv78
           replace hv73 := hv73.mono (gz_mono hH hle78)
           replace hG46 := hG46.trans (gz_mono hH hle78)
           refine S_guarded rfl rfl hg76 ?_
           obtain ⟨x79, hb79, h⟩ := Go.L.bind_some h
           refine S_callL rfl rfl hL78 (ref3_Ints_ok _ _ (gz_le hH hL78) ((hv27_0.mono hG30).mono hG46) hv78 hb79) ?_
           rintro _ w80 rfl hx80 hL80 hle80
           replace hv73 := hv73.mono (gz_mono hH hle80)
           replace hv78 := hv78.mono (gz_mono hH hle80)
           replace hG46 := hG46.trans (gz_mono hH hle80)
           refine S_v (r_pickT rfl hg76 rfl) rfl ?_
           refine S_pu 1 rfl ?_
           refine S_split (s := 110) rfl (fun hg81 => ?_) (fun hg81 => ?_)
           ·replace h := Go.L.ite_t hg81 h
            refine S_guarded rfl rfl hg81 ?_
            refine S_v (RunsAt_pu rfl) rfl ?_
            refine S_guarded rfl rfl hg81 ?_
            refine S_litE (r := (.int .i64)) (l := [(0 : Int), (1 : Int)]) rfl (fun _ => bsl52_2 _ _ _) rfl (show 2 ≤ 9223372036854775807 by decide) hH hL80 (.c1 rfl (.c1 rfl .nil)) ?_
            intro v83 w83 hx83 hL83 hle83 hv83
            replace hv73 := hv73.mono (gz_mono hH hle83)
            replace hv78 := hv78.mono (gz_mono hH hle83)
            replace hG46 := hG46.trans (gz_mono hH hle83)
            refine S_guarded rfl rfl hg81 ?_
            obtain ⟨x84, hb84, h⟩ := Go.L.bind_some h
            refine S_callL rfl rfl hL83 (ref3_Ints_ok _ _ (gz_le hH hL83) (hv32_0.mono hG46) hv83 hb84) ?_
            rintro _ w85 rfl hx85 hL85 hle85
            replace hv73 := hv73.mono (gz_mono hH hle85)
            replace hv78 := hv78.mono (gz_mono hH hle85)
            replace hv83 := hv83.mono (gz_mono hH hle85)
            replace hG46 := hG46.trans (gz_mono hH hle85)
            refine S_v (r_pickT rfl hg81 rfl) rfl ?_
            refine S_pu 1 rfl ?_
            refine S_split (s := 115) rfl (fun hg86 => ?_) (fun hg86 => ?_)
            ·replace h := Go.L.ite_t hg86 h
             refine S_guarded rfl rfl hg86 ?_
             refine S_v (RunsAt_pu rfl) rfl ?_
             refine S_guarded rfl rfl hg86 ?_
             refine S_v (r_len rfl underlying52 (hv36_0.mono hG46)) rfl ?_
             refine S_guarded rfl rfl hg86 ?_
             refine S_v (RunsAt_pu rfl) rfl ?_
             refine S_v (r_pickT rfl hg86 rfl) rfl ?_
             refine S_pu 1 rfl ?_
             refine S_split (s := 120) rfl (fun hg88 => ?_) (fun hg88 => ?_)
             ·replace h := Go.L.ite_p (of_decide_eq_true hg88) h
              refine S_guarded rfl rfl hg88 ?_
              refine S_v (r_loadBN 1 rfl underlying47 rfl zr47 hL85 rfl) rfl ?_
              refine S_guarded rfl rfl hg88 ?_
              obtain ⟨x90, hb90, h⟩ := Go.L.bind_some h
              refine S_callL rfl rfl hL85 (shapes_Index_Items_ok (a0 := (x40.1.1, x40.1.2)) _ _ (gz_le hH hL85) (hv41_0.mono hG46) hb90) ?_
              rintro _ w91 rfl hx91 hL91 hle91
              replace hv73 := hv73.mono (gz_mono hH hle91)
              replace hv78 := hv78.mono (gz_mono hH hle91)
              replace hv83 := hv83.mono (gz_mono hH hle91)
              replace hG46 := hG46.trans (gz_mono hH hle91)
              refine S_guarded rfl rfl hg88 ?_
              refine S_v (RunsAt_pu rfl) rfl ?_
              refine S_v (r_pickT rfl hg88 rfl) rfl ?_
              refine S_pu 1 rfl ?_
              refine S_split (s := 125) rfl (fun hg92 => ?_) (fun hg92 => ?_)
              ·replace h := Go.L.ite_p (of_decide_eq_true hg92) h
               refine S_guarded rfl rfl hg92 ?_
               obtain ⟨x94, hb94, h⟩ := Go.L.bind_some h
               refine S_callL rfl rfl hL91 (shapes_Check_ok _ _ (gz_le hH hL91) hb94) ?_
               rintro _ w95 rfl hx95 hL95 hle95
               replace hv73 := hv73.mono (gz_mono hH hle95)
               replace hv78 := hv78.mono (gz_mono hH hle95)
               replace hv83 := hv83.mono (gz_mono hH hle95)
               replace hG46 := hG46.trans (gz_mono hH hle95)
               refine S_guarded rfl rfl hg92 ?_
               obtain ⟨x96, hb96, h⟩ := Go.L.bind_some h
               refine S_callL rfl rfl hL95 (ref3_At_ok _ _ (gz_le hH hL95) hb96) ?_
               rintro _ w97 rfl hx97 hL97 hle97
               replace hv73 := hv73.mono (gz_mono hH hle97)
               replace hv78 := hv78.mono (gz_mono hH hle97)
               replace hv83 := hv83.mono (gz_mono hH hle97)
               replace hG46 := hG46.trans (gz_mono hH hle97)
               refine S_guarded rfl rfl hg92 ?_
               refine S_v (r_eqA rfl rfl eqg23 (eq23 _ _ _ _ )) rfl ?_
               refine S_v (r_pickT rfl hg92 rfl) rfl ?_
               refine S_pz 1 rfl ?_
               refine W_ret ?_
               obtain rfl := Option.some.inj h
               refine At_body rfl rfl ?_
               exact ⟨hL97.ext, rfl⟩
              ·replace h := Go.L.ite_n (of_decide_eq_false hg92) h
               iterate 3 refine S_unwanted rfl rfl hg92 rfl ?_
               refine S_v (r_pickF rfl hg92 rfl) rfl ?_
               refine S_pz 1 rfl ?_
               refine W_ret ?_
               obtain rfl := Option.some.inj h
               refine At_body rfl rfl ?_
               exact ⟨hL91.ext, rfl⟩
             ·replace h := Go.L.ite_n (of_decide_eq_false hg88) h
              iterate 3 refine S_unwanted rfl rfl hg88 rfl ?_
              refine S_v (r_pickF rfl hg88 rfl) rfl ?_
              refine S_pu 1 rfl ?_
              iterate 3 refine S_unwanted rfl rfl rfl rfl ?_
              refine S_v (r_pickF rfl rfl rfl) rfl ?_
              refine S_pz 1 rfl ?_
              refine W_ret ?_
              obtain rfl := Option.some.inj h
              refine At_body rfl rfl ?_
              exact ⟨hL85.ext, rfl⟩
            ·replace h := Go.L.ite_f hg86 h
             iterate 3 refine S_unwanted rfl rfl hg86 rfl ?_
             refine S_v (r_pickF rfl hg86 rfl) rfl ?_
             refine S_pu 1 rfl ?_
             iterate 3 refine S_unwanted rfl rfl rfl rfl ?_
             refine S_v (r_pickF rfl rfl rfl) rfl ?_
             refine S_pu 1 rfl ?_
             iterate 3 refine S_unwanted rfl rfl rfl rfl ?_
             refine S_v (r_pickF rfl rfl rfl) rfl ?_
             refine S_pz 1 rfl ?_
             refine W_ret ?_
             obtain rfl := Option.some.inj h
             refine At_body rfl rfl ?_
             exact ⟨hL85.ext, rfl⟩
           ·replace h := Go.L.ite_f hg81 h
            iterate 3 refine S_unwanted rfl rfl hg81 rfl ?_
            refine S_v (r_pickF rfl hg81 rfl) rfl ?_
            refine S_pu 1 rfl ?_
            iterate 3 refine S_unwanted rfl rfl rfl rfl ?_
            refine S_v (r_pickF rfl rfl rfl) rfl ?_
            refine S_pu 1 rfl ?_
            iterate 3 refine S_unwanted rfl rfl rfl rfl ?_
            refine S_v (r_pickF rfl rfl rfl) rfl ?_
            refine S_pu 1 rfl ?_
            iterate 3 refine S_unwanted rfl rfl rfl rfl ?_
            refine S_v (r_pickF rfl rfl rfl) rfl ?_
            refine S_pz 1 rfl ?_
            refine W_ret ?_
            obtain rfl := Option.some.inj h
            refine At_body rfl rfl ?_
            exact ⟨hL80.ext, rfl⟩
          ·replace h := Go.L.ite_f hg76 h
           iterate 3 refine S_unwanted rfl rfl hg76 rfl ?_
           refine S_v (r_pickF rfl hg76 rfl) rfl ?_
           refine S_pu 1 rfl ?_
           iterate 3 refine S_unwanted rfl rfl rfl rfl ?_
           refine S_v (r_pickF rfl rfl rfl) rfl ?_
           refine S_pu 1 rfl ?_
           iterate 3 refine S_unwanted rfl rfl rfl rfl ?_
           refine S_v (r_pickF rfl rfl rfl) rfl ?_
           refine S_pu 1 rfl ?_
           iterate 3 refine S_unwanted rfl rfl rfl rfl ?_
           refine S_v (r_pickF rfl rfl rfl) rfl ?_
           refine S_pu 1 rfl ?_
           iterate 3 refine S_unwanted rfl rfl rfl rfl ?_
           refine S_v (r_pickF rfl rfl rfl) rfl ?_
           refine S_pz 1 rfl ?_
           refine W_ret ?_
           obtain rfl := Option.some.inj h
           refine At_body rfl rfl ?_
           exact ⟨hL75.ext, rfl⟩
         ·replace h := Go.L.ite_f hg71 h
          iterate 3 refine S_unwanted rfl rfl hg71 rfl ?_
          refine S_v (r_pickF rfl hg71 rfl) rfl ?_
          refine S_pu 1 rfl ?_
          iterate 3 refine S_unwanted rfl rfl rfl rfl ?_
          refine S_v (r_pickF rfl rfl rfl) rfl ?_
          refine S_pu 1 rfl ?_
          iterate 3 refine S_unwanted rfl rfl rfl rfl ?_
          refine S_v (r_pickF rfl rfl rfl) rfl ?_
          refine S_pu 1 rfl ?_
          iterate 3 refine S_unwanted rfl rfl rfl rfl ?_
          refine S_v (r_pickF rfl rfl rfl) rfl ?_
          refine S_pu 1 rfl ?_
          iterate 3 refine S_unwanted rfl rfl rfl rfl ?_
          refine S_v (r_pickF rfl rfl rfl) rfl ?_
          refine S_pu 1 rfl ?_
          iterate 3 refine S_unwanted rfl rfl rfl rfl ?_
          refine S_v (r_pickF rfl rfl rfl) rfl ?_
          refine S_pz 1 rfl ?_
          refine W_ret ?_
          obtain rfl := Option.some.inj h
          refine At_body rfl rfl ?_
          exact ⟨hL45.ext, rfl⟩
end Go.Proofs.YtmfiaecglndldaaGreatDoor
end
section
namespace Go.L
/-- What m yields, m' yields. -/
def Ap {α : Type} (m m' : Option α) : Prop := ∀ r, m = some r → m' = some r
theorem apR {α : Type} (m : Option α) : Ap m m := fun _ h => h
theorem apB {α β : Type} {m m' : Option α} {f f' : α → Option β} (h : Ap m m') (k : ∀ x, Ap (f x) (f' x)) : Ap (Option.bind m f) (Option.bind m' f') := fun r e => by
  obtain ⟨x, h1, h2⟩ := bind_some e
  rw [h x h1, Option.bind_some]
  exact k x r h2
theorem apC {α : Type} {p : Prop} [Decidable p] {m m' : Option α} (h : Ap m m') : Ap (Go.L.chk p m) (Go.L.chk p m') := fun r e => by
  obtain ⟨h1, h2⟩ := chk_some e
  rw [chk_pos h1]
  exact h r h2
theorem apI {α : Type} {p : Prop} [Decidable p] {a b a' b' : Option α} (h : Ap a a') (k : Ap b b') : Ap (if p then a else b) (if p then a' else b') := fun r e => by
  by_cases hp : p
  · rw [if_pos hp] at e ⊢; exact h r e
  · rw [if_neg hp] at e ⊢; exact k r e
theorem apM {α β : Type} {f : α → β} {m m' : Option α} (h : Ap m m') : Ap (Option.map f m) (Option.map f m') := fun r e => by
  cases m with
  | none => cases e
  | some x => rw [h x rfl]; exact e
theorem apO {α β : Type} {x : Option α} {ex ex' : Option β} {k k' : α → Option β} (h : Ap ex ex') (hk : ∀ y, Ap (k y) (k' y)) : Ap (Go.L.onX x ex k) (Go.L.onX x ex' k') := by
  cases x with
  | none => exact h
  | some y => exact hk y
theorem Ap.itr {σ ρ : Type} {b b' : σ → Option (σ ⊕ ρ)} (h : ∀ s, Ap (b s) (b' s)) : ∀ (n : Nat) (s : σ), Ap (itr b n s) (itr b' n s)
  | 0, _ => fun _ e => by cases e
  | n + 1, s => fun r e => by
    obtain ⟨m, x, hm, h1, h2⟩ := itr_some e
    obtain rfl : n = m := by omega
    rw [Go.L.itr, h s x h1]
    cases x with
    | inl s' => exact Ap.itr h n s' r h2
    | inr y => exact congrArg some h2
theorem Ap.run {σ ρ : Type} {b b' : σ → Option (σ ⊕ ρ)} (h : ∀ s, Ap (b s) (b' s)) (n : Nat) (s : σ) : Ap (Go.L.itr b n s) (Go.L.run b' s) := fun r e => run_of (Ap.itr h n s r e)
/-- A computation with its loops cut off. -/
class Mi {α : Type} (m : Option α) where
  c : Option α
  h : Ap c m
noncomputable instance {α : Type} (x : α) : Mi (some x) := ⟨some x, apR _⟩
noncomputable instance {α : Type} : Mi (none : Option α) := ⟨none, apR _⟩
noncomputable instance iB {α β : Type} (m : Option α) (f : α → Option β) [i : Mi m] [j : ∀ x, Mi (f x)] : Mi (Option.bind m f) := ⟨Option.bind i.c fun x => (j x).c, apB i.h fun x => (j x).h⟩
noncomputable instance iC {α : Type} (p : Prop) [Decidable p] (m : Option α) [i : Mi m] : Mi (Go.L.chk p m) := ⟨Go.L.chk p i.c, apC i.h⟩
noncomputable instance iI {α : Type} (p : Prop) [Decidable p] (a b : Option α) [i : Mi a] [j : Mi b] : Mi (if p then a else b) := ⟨if p then i.c else j.c, apI i.h j.h⟩
noncomputable instance {α β : Type} (f : α → β) (m : Option α) [i : Mi m] : Mi (Option.map f m) := ⟨Option.map f i.c, apM i.h⟩
noncomputable instance {α β : Type} (x : Option α) (ex : Option β) (k : α → Option β) [i : Mi ex] [j : ∀ y, Mi (k y)] : Mi (Go.L.onX x ex k) := ⟨Go.L.onX x i.c fun y => (j y).c, apO i.h fun y => (j y).h⟩
noncomputable instance {σ ρ : Type} (b : σ → Option (σ ⊕ ρ)) (s : σ) [i : ∀ s, Mi (b s)] : Mi (Go.L.run b s) := ⟨Go.L.itr (fun s => (i s).c) 200 s, Ap.run (fun s => (i s).h) 200 s⟩
end Go.L
namespace Go.L
/-! ### Sorting by insertion -/
def insB {α : Type} (le : α → α → Bool) (a : α) : List α → List α
  | [] => [a]
  | b :: l => if le a b then a :: b :: l else b :: insB le a l
def isB {α : Type} (le : α → α → Bool) : List α → List α
  | [] => []
  | a :: l => insB le a (isB le l)
section
variable {α : Type} {le : α → α → Bool}
theorem insB_perm (a : α) : ∀ l : List α, (insB le a l).Perm (a :: l)
  | [] => .refl _
  | b :: l => by
    unfold insB
    split
    · exact .refl _
    · exact ((insB_perm a l).cons b).trans (.swap a b l)
theorem isB_perm : ∀ l : List α, (isB le l).Perm l
  | [] => .refl _
  | a :: l => (insB_perm a _).trans ((isB_perm l).cons a)
theorem insB_sorted (htr : ∀ a b c, le a b = true → le b c = true → le a c = true) (hto : ∀ a b, le a b = true ∨ le b a = true) (a : α) : ∀ l : List α, l.Pairwise (fun x y => le x y = true) → (insB le a l).Pairwise fun x y => le x y = true
  | [], _ => List.pairwise_singleton _ _
  | b :: l, h => by
    unfold insB
    split
    · rename_i h1
      refine .cons (fun x hx => ?_) h
      rcases List.mem_cons.1 hx with rfl | hx
      · exact h1
      · exact htr _ _ _ h1 ((List.pairwise_cons.1 h).1 x hx)
    · rename_i h1
      have h2 : le b a = true := by rcases hto a b with h | h; exact absurd h h1; exact h
      refine .cons (fun x hx => ?_) (insB_sorted htr hto a l (List.pairwise_cons.1 h).2)
      rcases List.mem_cons.1 ((insB_perm a l).mem_iff.1 hx) with rfl | hx
      · exact h2
      · exact (List.pairwise_cons.1 h).1 x hx
theorem isB_sorted (htr : ∀ a b c, le a b = true → le b c = true → le a c = true) (hto : ∀ a b, le a b = true ∨ le b a = true) : ∀ l : List α, (isB le l).Pairwise fun x y => le x y = true
  | [] => .nil
  | a :: l => insB_sorted htr hto a _ (isB_sorted htr hto l)
theorem sorted_eq (has : ∀ a b, le a b = true → le b a = true → a = b) : ∀ {l m : List α}, l.Perm m → l.Pairwise (fun x y => le x y = true) → m.Pairwise (fun x y => le x y = true) → l = m
  | [], m, hp, _, _ => hp.nil_eq
  | a :: l, m, hp, hl, hm => by
    cases m with
    | nil => exact absurd hp.symm.nil_eq (by simp)
    | cons b m =>
      obtain ⟨l1, l2⟩ := List.pairwise_cons.1 hl
      obtain ⟨m1, m2⟩ := List.pairwise_cons.1 hm
      have hab : a = b := by
        rcases List.mem_cons.1 (hp.mem_iff.1 (.head _)) with h1 | h1
        · exact h1
        · rcases List.mem_cons.1 (hp.mem_iff.2 (.head _)) with h2 | h2
          · exact h2.symm
          · exact has a b (l1 b h2) (m1 a h1)
      subst hab
      rw [sorted_eq has hp.cons_inv l2 m2]
theorem isB_eq (htr : ∀ a b c, le a b = true → le b c = true → le a c = true) (hto : ∀ a b, le a b = true ∨ le b a = true) (has : ∀ a b, le a b = true → le b a = true → a = b) (l : List α) : isB le l = l.mergeSort le :=
  sorted_eq has ((isB_perm l).trans (List.mergeSort_perm l _).symm) (isB_sorted htr hto l) (List.pairwise_mergeSort htr (fun a b => by simpa using hto a b) l)
end
def isS (l : List (List UInt8)) : List (List UInt8) := isB (fun x y => decide (x ≤ y)) l
def isI (l : List Int) : List Int := isB (fun x y => decide (x ≤ y)) l
def isL (l : List Lf) : List Lf := isB (fun x y => !(Go.Proofs.ltOf lfCmp) y x) l
theorem isI_eq (l : List Int) : isI l = Go.E.srtI l := isB_eq (fun a b c h1 h2 => by simp only [decide_eq_true_eq] at *; omega) (fun a b => by simp only [decide_eq_true_eq]; omega) (fun a b h1 h2 => by simp only [decide_eq_true_eq] at *; omega) l
theorem isS_eq (l : List (List UInt8)) : isS l = Go.E.srtS l := isB_eq (fun a b c h1 h2 => by simp only [decide_eq_true_eq] at *; exact List.le_trans h1 h2) (fun a b => by simp only [decide_eq_true_eq]; exact List.le_total a b) (fun a b h1 h2 => by simp only [decide_eq_true_eq] at *; exact List.le_antisymm h1 h2) l
theorem isL_eq (l : List Lf) : isL l = srtL l := by
  have hlt : ∀ a b, (!(Go.Proofs.ltOf lfCmp) b a) = true ↔ ¬ lfCmp b a < 0 := fun a b => by simp [Go.Proofs.ltOf]
  refine isB_eq (fun a b c h1 h2 => ?_) (fun a b => ?_) (fun a b h1 h2 => ?_) l
  · rw [hlt] at *
    intro h3
    have s1 := ordLf.swap a b
    rcases Int.lt_trichotomy (lfCmp a b) 0 with h4 | h4 | h4
    · exact h2 (ordLf.trans c a b h3 h4)
    · rw [ordLf.zero a b h4] at h3; exact h2 h3
    · omega
  · rw [hlt, hlt]
    have s1 := ordLf.swap a b
    omega
  · exact ordLf.parts a b (by simpa using h2) (by simpa using h1)
end Go.L
namespace Go.Proofs.YtmfiaecglndldaaGreatDoor
open Go Go.E Go.L
noncomputable def sortedKi (l : List (Lf × List Int)) : Option (List Lf) := Go.L.chk (Go.E.Cap 48 l.length) (some (isL (l.map Prod.fst)))
theorem sortedKi_eq (l : List (Lf × List Int)) : sortedKi l = sortedK l := by unfold sortedKi sortedK; rw [isL_eq]
noncomputable instance (l : List (Lf × List Int)) : Mi (sortedK l) := ⟨sortedKi l, by rw [sortedKi_eq]; exact apR _⟩
end Go.Proofs.YtmfiaecglndldaaGreatDoor
end
section
namespace Go.Proofs.YtmfiaecglndldaaGreatDoor
open Go Go.E Go.RowKit Go.L
noncomputable instance (a b c d) : Mi (genSplitL a b c d) := ⟨_, apR _⟩
noncomputable instance (a b) : Mi (idxbL a b) := ⟨_, apR _⟩
noncomputable instance (a b) : Mi (joinL a b) := ⟨_, apR _⟩
noncomputable instance (a) : Mi (nameCF a) := ⟨_, apR _⟩
noncomputable instance (a0 : Int) (a1 : Int) : Mi (shapes_fault a0 a1) := by delta shapes_fault; infer_instance
noncomputable instance (a0 : List UInt8) (a1 : List UInt8) : Mi (strings_Split a0 a1) := by delta strings_Split; infer_instance
noncomputable instance (a0 : List UInt8) : Mi (shapes_steps a0) := by delta shapes_steps; infer_instance
noncomputable instance (a0 : List UInt8) : Mi (value_Name a0) := by delta value_Name; infer_instance
noncomputable instance  : Mi (shapes_Check_k1) := by delta shapes_Check_k1; infer_instance
noncomputable instance (x85 : (List (List UInt8))) (s) : Mi (shapes_Check_bl2 x85 s) := by obtain ⟨s3_122, s13_123⟩ := s; delta shapes_Check_bl2; dsimp only; repeat' first | (show Mi _; infer_instance) | refine @iB _ _ _ _ ?_ (fun _ => ?_) | refine @iC _ _ _ _ ?_ | refine @iI _ _ _ _ _ ?_ ?_
noncomputable instance (x85 : (List (List UInt8))) (s : Int × Int) : Mi (shapes_Check_l2 x85 s) := by delta shapes_Check_l2; infer_instance
noncomputable instance (a0 : List UInt8) : Mi (shapes_Check a0) := by delta shapes_Check; infer_instance
noncomputable instance (a0 : List UInt8) : Mi (shapes_isPath_1 a0) := by delta shapes_isPath_1; infer_instance
noncomputable instance  : Mi (idxf_isPath_1_k1) := by delta idxf_isPath_1_k1; infer_instance
noncomputable instance (a0 : List (List UInt8)) (s) : Mi (idxf_isPath_1_bl2 a0 s) := by delta idxf_isPath_1_bl2; infer_instance
noncomputable instance (a0 : List (List UInt8)) (s : Int) : Mi (idxf_isPath_1_l2 a0 s) := by delta idxf_isPath_1_l2; infer_instance
noncomputable instance (a0 : List (List UInt8)) : Mi (idxf_isPath_1 a0) := by delta idxf_isPath_1; infer_instance
noncomputable instance (a0 : List (List UInt8)) : Mi (conf_isPath_1 a0) := by delta conf_isPath_1; infer_instance
noncomputable instance (a0 : List UInt8) : Mi (shapes_isPath a0) := by delta shapes_isPath; infer_instance
noncomputable instance (a0 : List UInt8) (a1 : List UInt8) : Mi (shapes_matches_1 a0 a1) := by delta shapes_matches_1; infer_instance
noncomputable instance (l233 : List (List UInt8)) (s5_234 : Int) : Mi (slices_CompactFunc_string_string_k4 l233 s5_234) := by delta slices_CompactFunc_string_string_k4; infer_instance
noncomputable instance (s5_128 : Int) (s) : Mi (slices_CompactFunc_string_string_bl5 s5_128 s) := by obtain ⟨l263, s5_264, s7_265⟩ := s; delta slices_CompactFunc_string_string_bl5; dsimp only; infer_instance
noncomputable instance (s5_128 : Int) (s : (List (List UInt8)) × Int × Int) : Mi (slices_CompactFunc_string_string_l5 s5_128 s) := by delta slices_CompactFunc_string_string_l5; infer_instance
noncomputable instance (l127 : List (List UInt8)) (s5_186 : Int) : Mi (slices_CompactFunc_string_string_k3 l127 s5_186) := by delta slices_CompactFunc_string_string_k3; infer_instance
noncomputable instance (l65 : List (List UInt8)) : Mi (slices_CompactFunc_string_string_k1 l65) := by delta slices_CompactFunc_string_string_k1; infer_instance
noncomputable instance  (s) : Mi (slices_CompactFunc_string_string_bl2 s) := by obtain ⟨l127, s5_128⟩ := s; delta slices_CompactFunc_string_string_bl2; dsimp only; infer_instance
noncomputable instance (s : (List (List UInt8)) × Int) : Mi (slices_CompactFunc_string_string_l2 s) := by delta slices_CompactFunc_string_string_l2; infer_instance
noncomputable instance (a0 : List (List UInt8)) : Mi (slices_CompactFunc_string_string a0) := by delta slices_CompactFunc_string_string; infer_instance
noncomputable instance  : Mi (shapes_match_body_k2) := by delta shapes_match_body_k2; infer_instance
noncomputable instance (a0 : List (List UInt8)) (a1 : List (List UInt8)) (self : (List (List UInt8)) → (List (List UInt8)) → Option (Bool)) [∀ x0 x1, Mi (self x0 x1)] (s) : Mi (shapes_match_body_bl3 a0 a1 self s) := by delta shapes_match_body_bl3; infer_instance
noncomputable instance (a0 : List (List UInt8)) (a1 : List (List UInt8)) (self : (List (List UInt8)) → (List (List UInt8)) → Option (Bool)) [∀ x0 x1, Mi (self x0 x1)] (s : Int) : Mi (shapes_match_body_l3 a0 a1 self s) := by delta shapes_match_body_l3; infer_instance
noncomputable instance (a0 : List (List UInt8)) (a1 : List (List UInt8)) (self : (List (List UInt8)) → (List (List UInt8)) → Option (Bool)) [∀ x0 x1, Mi (self x0 x1)] : Mi (shapes_match_body_k1 a0 a1 self) := by delta shapes_match_body_k1; infer_instance
noncomputable instance (self : (List (List UInt8)) → (List (List UInt8)) → Option (Bool)) [∀ x0 x1, Mi (self x0 x1)] (a0 : List (List UInt8)) (a1 : List (List UInt8)) : Mi (shapes_match_body self a0 a1) := by delta shapes_match_body; infer_instance
noncomputable instance shapes_match_nMi  : ∀ (n : Nat) (y0) (y1), Mi (shapes_match_n n y0 y1)
 | 0, _, _ => ⟨none, fun _ h => by cases h⟩
 | n + 1, y0, y1 => by
  haveI := shapes_match_nMi n
  show Mi (shapes_match_body (shapes_match_n n) y0 y1)
  infer_instance
noncomputable instance  (y0) (y1) : Mi (shapes_match y0 y1) := by delta shapes_match; infer_instance
noncomputable instance (a0 : List UInt8) (a1 : List UInt8) : Mi (shapes_matches a0 a1) := by delta shapes_matches; infer_instance
noncomputable instance (a0 : List UInt8) (a1 : List UInt8) : Mi (shapes_Match a0 a1) := by delta shapes_Match; infer_instance
noncomputable instance (a0 : Int) : Mi (law4_number a0) := by delta law4_number; infer_instance
noncomputable instance (a0 : Int) : Mi (law4_record a0) := by delta law4_record; infer_instance
noncomputable instance (a0 : Int) (a1 : Int) : Mi (value_fault a0 a1) := by delta value_fault; infer_instance
noncomputable instance  : Mi (slices_Index_int_int_k1) := by delta slices_Index_int_int_k1; infer_instance
noncomputable instance (a0 : List Int) (a1 : Int) (s) : Mi (slices_Index_int_int_bl2 a0 a1 s) := by delta slices_Index_int_int_bl2; infer_instance
noncomputable instance (a0 : List Int) (a1 : Int) (s : Int) : Mi (slices_Index_int_int_l2 a0 a1 s) := by delta slices_Index_int_int_l2; infer_instance
noncomputable instance (a0 : List Int) (a1 : Int) : Mi (slices_Index_int_int a0 a1) := by delta slices_Index_int_int; infer_instance
noncomputable instance (a0 : List Int) (a1 : Int) : Mi (slices_Contains_int_int a0 a1) := by delta slices_Contains_int_int; infer_instance
noncomputable instance (a0 : List Int) (a1 : Go.L.Pv) : Mi (value_checkNode_1 a0 a1) := by delta value_checkNode_1; infer_instance
noncomputable instance (a0 : List UInt8) : Mi (value_checkNode_2 a0) := by delta value_checkNode_2; infer_instance
noncomputable instance  : Mi (idxf_checkNode_2_k1) := by delta idxf_checkNode_2_k1; infer_instance
noncomputable instance (a0 : List (List UInt8)) (s) : Mi (idxf_checkNode_2_bl2 a0 s) := by delta idxf_checkNode_2_bl2; infer_instance
noncomputable instance (a0 : List (List UInt8)) (s : Int) : Mi (idxf_checkNode_2_l2 a0 s) := by delta idxf_checkNode_2_l2; infer_instance
noncomputable instance (a0 : List (List UInt8)) : Mi (idxf_checkNode_2 a0) := by delta idxf_checkNode_2; infer_instance
noncomputable instance (a0 : List (List UInt8)) : Mi (conf_checkNode_2 a0) := by delta conf_checkNode_2; infer_instance
noncomputable instance  : Mi (slices_Index_string_string_k1) := by delta slices_Index_string_string_k1; infer_instance
noncomputable instance (a0 : List (List UInt8)) (a1 : List UInt8) (s) : Mi (slices_Index_string_string_bl2 a0 a1 s) := by delta slices_Index_string_string_bl2; infer_instance
noncomputable instance (a0 : List (List UInt8)) (a1 : List UInt8) (s : Int) : Mi (slices_Index_string_string_l2 a0 a1 s) := by delta slices_Index_string_string_l2; infer_instance
noncomputable instance (a0 : List (List UInt8)) (a1 : List UInt8) : Mi (slices_Index_string_string a0 a1) := by delta slices_Index_string_string; infer_instance
noncomputable instance (a0 : List (List UInt8)) (a1 : List UInt8) : Mi (slices_Contains_string_string a0 a1) := by delta slices_Contains_string_string; infer_instance
noncomputable instance  : Mi (value_checkNode_k2) := by delta value_checkNode_k2; infer_instance
noncomputable instance (c260 : List (List UInt8)) (s) : Mi (value_checkNode_bl3 c260 s) := by delta value_checkNode_bl3; infer_instance
noncomputable instance (c260 : List (List UInt8)) (s : Int) : Mi (value_checkNode_l3 c260 s) := by delta value_checkNode_l3; infer_instance
noncomputable instance (_c257 : Int) (_c258 : Int) (_c259 : List UInt8) (c260 : List (List UInt8)) (c261 : List Go.L.Pv) (s12_262 : Bool) : Mi (value_checkNode_k1 _c257 _c258 _c259 c260 c261 s12_262) := by delta value_checkNode_k1; infer_instance
noncomputable instance (a0 : Go.L.Pv) : Mi (value_checkNode a0) := by delta value_checkNode; repeat' first | (show Mi _; infer_instance) | refine @iB _ _ _ _ ?_ (fun _ => ?_) | refine @iC _ _ _ _ ?_ | refine @iI _ _ _ _ _ ?_ ?_
noncomputable instance (s9_65 : Int) : Mi (value_check_body_k1 s9_65) := by delta value_check_body_k1; infer_instance
noncomputable instance (a0 : Go.L.Pv) (a2 : Int) (self : Go.L.Pv → Int → Int → Option (Int × (Int × Int))) [∀ x0 x1 x2, Mi (self x0 x1 x2)] (s) : Mi (value_check_body_bl2 a0 a2 self s) := by obtain ⟨s9_90, s33_91⟩ := s; delta value_check_body_bl2; dsimp only; infer_instance
noncomputable instance (a0 : Go.L.Pv) (a2 : Int) (self : Go.L.Pv → Int → Int → Option (Int × (Int × Int))) [∀ x0 x1 x2, Mi (self x0 x1 x2)] (s : Int × Int) : Mi (value_check_body_l2 a0 a2 self s) := by delta value_check_body_l2; infer_instance
noncomputable instance (self : Go.L.Pv → Int → Int → Option (Int × (Int × Int))) [∀ x0 x1 x2, Mi (self x0 x1 x2)] (a0 : Go.L.Pv) (a1 : Int) (a2 : Int) : Mi (value_check_body self a0 a1 a2) := by delta value_check_body; infer_instance
noncomputable instance value_check_nMi  : ∀ (n : Nat) (y0) (y1) (y2), Mi (value_check_n n y0 y1 y2)
 | 0, _, _, _ => ⟨none, fun _ h => by cases h⟩
 | n + 1, y0, y1, y2 => by
  haveI := value_check_nMi n
  show Mi (value_check_body (value_check_n n) y0 y1 y2)
  infer_instance
noncomputable instance  (y0) (y1) (y2) : Mi (value_check y0 y1 y2) := by delta value_check; infer_instance
noncomputable instance (l12 : List UInt8) (s3_13 : Int) : Mi (wire_Number_k1 l12 s3_13) := by delta wire_Number_k1; infer_instance
noncomputable instance  (s) : Mi (wire_Number_bl2 s) := by obtain ⟨l23, s3_24⟩ := s; delta wire_Number_bl2; dsimp only; infer_instance
noncomputable instance (s : (List UInt8) × Int) : Mi (wire_Number_l2 s) := by delta wire_Number_l2; infer_instance
noncomputable instance (a0 : Int) : Mi (wire_Number a0) := by delta wire_Number; infer_instance
noncomputable instance (a0 : List UInt8) : Mi (wire_Chunk a0) := by delta wire_Chunk; infer_instance
noncomputable instance (a0 : Go.L.Pv) (s34_107 : Int) (self : Go.L.Pv → Option ((List UInt8))) [∀ x0, Mi (self x0)] (l128 : List UInt8) : Mi (value_encode_body_k3 a0 s34_107 self l128) := by delta value_encode_body_k3; infer_instance
noncomputable instance (l77 : List UInt8) : Mi (value_encode_body_k1 l77) := by delta value_encode_body_k1; infer_instance
noncomputable instance (a0 : Go.L.Pv) (self : Go.L.Pv → Option ((List UInt8))) [∀ x0, Mi (self x0)] (s) : Mi (value_encode_body_bl2 a0 self s) := by obtain ⟨l106, s34_107⟩ := s; delta value_encode_body_bl2; dsimp only; infer_instance
noncomputable instance (a0 : Go.L.Pv) (self : Go.L.Pv → Option ((List UInt8))) [∀ x0, Mi (self x0)] (s : (List UInt8) × Int) : Mi (value_encode_body_l2 a0 self s) := by delta value_encode_body_l2; infer_instance
noncomputable instance (self : Go.L.Pv → Option ((List UInt8))) [∀ x0, Mi (self x0)] (a0 : Go.L.Pv) : Mi (value_encode_body self a0) := by delta value_encode_body; infer_instance
noncomputable instance value_encode_nMi  : ∀ (n : Nat) (y0), Mi (value_encode_n n y0)
 | 0, _ => ⟨none, fun _ h => by cases h⟩
 | n + 1, y0 => by
  haveI := value_encode_nMi n
  show Mi (value_encode_body (value_encode_n n) y0)
  infer_instance
noncomputable instance  (y0) : Mi (value_encode y0) := by delta value_encode; infer_instance
noncomputable instance (a0 : Go.L.Pv) : Mi (value_Encode a0) := by delta value_Encode; infer_instance
noncomputable instance (a0 : Go.L.Pv) : Mi (value_Validate a0) := by delta value_Validate; infer_instance
noncomputable instance (a0 : List (List UInt8)) : Mi (slices_Clone_string_string a0) := by delta slices_Clone_string_string; infer_instance
noncomputable instance {σ : Type} (a0 : Go.L.Pv) (a1 : List (List UInt8)) (s24_45 : Int) (self : Go.L.Pv → (List (List UInt8)) → σ → Option σ) [∀ x0 x1 x2, Mi (self x0 x1 x2)] (s8_62 : List UInt8) (sJ63 : σ) : Mi (shapes_leaves_body_k2 a0 a1 s24_45 self s8_62 sJ63) := by delta shapes_leaves_body_k2; infer_instance
noncomputable instance {σ : Type} (a0 : Go.L.Pv) (a1 : List (List UInt8)) (self : Go.L.Pv → (List (List UInt8)) → σ → Option σ) [∀ x0 x1 x2, Mi (self x0 x1 x2)] (s) : Mi (shapes_leaves_body_bl1 a0 a1 self s) := by obtain ⟨s24_45, sJ46⟩ := s; delta shapes_leaves_body_bl1; dsimp only; infer_instance
noncomputable instance {σ : Type} (a0 : Go.L.Pv) (a1 : List (List UInt8)) (self : Go.L.Pv → (List (List UInt8)) → σ → Option σ) [∀ x0 x1 x2, Mi (self x0 x1 x2)] (s : Int × σ) : Mi (shapes_leaves_body_l1 a0 a1 self s) := by delta shapes_leaves_body_l1; infer_instance
noncomputable instance {σ : Type} (step : σ → ((List UInt8) × Int × Int × (List UInt8)) → Option σ) [∀ x0 x1, Mi (step x0 x1)] (self : Go.L.Pv → (List (List UInt8)) → σ → Option σ) [∀ x0 x1 x2, Mi (self x0 x1 x2)] (a0 : Go.L.Pv) (a1 : List (List UInt8)) (s : σ) : Mi (shapes_leaves_body step self a0 a1 s) := by delta shapes_leaves_body; infer_instance
noncomputable instance shapes_leaves_nMi {σ : Type} (step : σ → ((List UInt8) × Int × Int × (List UInt8)) → Option σ) [∀ x0 x1, Mi (step x0 x1)] : ∀ (n : Nat) (y0) (y1) (y2), Mi (shapes_leaves_n step n y0 y1 y2)
 | 0, _, _, _ => ⟨none, fun _ h => by cases h⟩
 | n + 1, y0, y1, y2 => by
  haveI := shapes_leaves_nMi step n
  show Mi (shapes_leaves_body step (shapes_leaves_n step n) y0 y1 y2)
  infer_instance
noncomputable instance {σ : Type} (step : σ → ((List UInt8) × Int × Int × (List UInt8)) → Option σ) [∀ x0 x1, Mi (step x0 x1)] (y0) (y1) (y2) : Mi (shapes_leaves step y0 y1 y2) := by delta shapes_leaves; infer_instance
noncomputable instance (a0 : (List UInt8) × Int × Int × (List UInt8)) (a1 : List (List UInt8)) : Mi (shapes_Paths_1 a0 a1) := by delta shapes_Paths_1; infer_instance
noncomputable instance (s : List (List UInt8)) (x : Lf) : Mi (pathStep s x) := by delta pathStep; infer_instance
noncomputable def shapes_Paths_is (a0 : Go.L.Pv) : Option ((List (List UInt8)) × (Int × Int)) := 
  Option.bind (value_Validate a0) (fun x3 => if x3.1 = (0 : Int) ∧ x3.2 = (0 : Int) then Option.bind (shapes_leaves pathStep a0 ([] : List (List UInt8)) ([] : List (List UInt8))) (fun x18 => Go.L.chk (x18.length < 4611686018427387904) (Go.L.chk ((isS x18).length ≤ 9223372036854775807) (some ((Lib.compact (isS x18)), ((0 : Int), (0 : Int)))))) else some ([], (x3.1, x3.2)))
theorem shapes_Paths_isE : @shapes_Paths_is = @shapes_Paths := by
  unfold shapes_Paths_is shapes_Paths
  simp only [isS_eq, isI_eq]
noncomputable instance (a0 : Go.L.Pv) : Mi (shapes_Paths_is a0) := by delta shapes_Paths_is; infer_instance
noncomputable instance (a0 : Go.L.Pv) : Mi (shapes_Paths a0) := ⟨(inferInstance : Mi (shapes_Paths_is a0)).c, by rw [← shapes_Paths_isE]; exact (inferInstance : Mi (shapes_Paths_is a0)).h⟩
noncomputable instance (i : Int) (l : List (Lf × List Int)) (x : Lf) : Mi (buildStep i l x) := by delta buildStep; infer_instance
noncomputable instance (a0 : List Int) : Mi (slices_Clone_int_int a0) := by delta slices_Clone_int_int; infer_instance
noncomputable instance (l16 : List UInt8) : Mi (wslice_Number_k1 l16) := by delta wslice_Number_k1; infer_instance
noncomputable instance (a0 : List Int) (s) : Mi (wslice_Number_bl2 a0 s) := by obtain ⟨l30, s13_31⟩ := s; delta wslice_Number_bl2; dsimp only; infer_instance
noncomputable instance (a0 : List Int) (s : (List UInt8) × Int) : Mi (wslice_Number_l2 a0 s) := by delta wslice_Number_l2; infer_instance
noncomputable instance (a0 : List Int) : Mi (wslice_Number a0) := by delta wslice_Number; infer_instance
noncomputable instance (a1 : Int) : Mi (slices_Grow_byte_byte_k1 a1) := by delta slices_Grow_byte_byte_k1; infer_instance
noncomputable instance (_a0 : List UInt8) (a1 : Int) : Mi (slices_Grow_byte_byte _a0 a1) := by delta slices_Grow_byte_byte; infer_instance
noncomputable instance (l57 : List UInt8) : Mi (slices_Concat_byte_byte_k3 l57) := by delta slices_Concat_byte_byte_k3; infer_instance
noncomputable instance (a0 : List (List UInt8)) (s) : Mi (slices_Concat_byte_byte_bl4 a0 s) := by obtain ⟨l69, s27_70⟩ := s; delta slices_Concat_byte_byte_bl4; dsimp only; infer_instance
noncomputable instance (a0 : List (List UInt8)) (s : (List UInt8) × Int) : Mi (slices_Concat_byte_byte_l4 a0 s) := by delta slices_Concat_byte_byte_l4; infer_instance
noncomputable instance (a0 : List (List UInt8)) (s3_15 : Int) : Mi (slices_Concat_byte_byte_k1 a0 s3_15) := by delta slices_Concat_byte_byte_k1; infer_instance
noncomputable instance (a0 : List (List UInt8)) (s) : Mi (slices_Concat_byte_byte_bl2 a0 s) := by obtain ⟨s3_29, s11_30⟩ := s; delta slices_Concat_byte_byte_bl2; dsimp only; infer_instance
noncomputable instance (a0 : List (List UInt8)) (s : Int × Int) : Mi (slices_Concat_byte_byte_l2 a0 s) := by delta slices_Concat_byte_byte_l2; infer_instance
noncomputable instance (a0 : List (List UInt8)) : Mi (slices_Concat_byte_byte a0) := by delta slices_Concat_byte_byte; infer_instance
noncomputable instance (l117 : List UInt8) : Mi (shapes_form_k1 l117) := by delta shapes_form_k1; infer_instance
noncomputable instance (a0 : ((List UInt8) × Int × Int × (List UInt8)) × (List Int)) : Mi (shapes_form a0) := by delta shapes_form; infer_instance
noncomputable instance (l18 : List UInt8) : Mi (wslice_form_k1 l18) := by delta wslice_form_k1; infer_instance
noncomputable instance (a0 : List (((List UInt8) × Int × Int × (List UInt8)) × (List Int))) (s) : Mi (wslice_form_bl2 a0 s) := by obtain ⟨l34, s13_35⟩ := s; delta wslice_form_bl2; dsimp only; infer_instance
noncomputable instance (a0 : List (((List UInt8) × Int × Int × (List UInt8)) × (List Int))) (s : (List UInt8) × Int) : Mi (wslice_form_l2 a0 s) := by delta wslice_form_l2; infer_instance
noncomputable instance (a0 : List (((List UInt8) × Int × Int × (List UInt8)) × (List Int))) : Mi (wslice_form a0) := by delta wslice_form; infer_instance
noncomputable instance (a0 : Int × (List (((List UInt8) × Int × Int × (List UInt8)) × (List Int)))) : Mi (shapes_Index_Bytes a0) := by delta shapes_Index_Bytes; infer_instance
noncomputable instance (a0 : Int) (l71 : List (((List UInt8) × Int × Int × (List UInt8)) × (List Int))) : Mi (shapes_build_k1 a0 l71) := by delta shapes_build_k1; infer_instance
noncomputable def shapes_build_bl2_is (a0 : Int) (a1 : List (((List UInt8) × Int × Int × (List UInt8)) × (List Int))) (x74 : (List ((List UInt8) × Int × Int × (List UInt8)))) : (List (((List UInt8) × Int × Int × (List UInt8)) × (List Int))) × Int → Option (((List (((List UInt8) × Int × Int × (List UInt8)) × (List Int))) × Int) ⊕ ((Int × (List (((List UInt8) × Int × Int × (List UInt8)) × (List Int)))) × (Int × Int))) := fun ⟨l102, s15_103⟩ =>
  if s15_103 < (x74.length : Int) then Go.L.chk (0 ≤ s15_103 ∧ s15_103 < (x74.length : Int)) (Option.bind (slices_Clone_int_int (Go.L.mget [] ((x74.getD s15_103.toNat default).1, (x74.getD s15_103.toNat default).2.1, (x74.getD s15_103.toNat default).2.2.1, (x74.getD s15_103.toNat default).2.2.2) a1)) (fun x114 => Go.L.chk (x114.length < 4611686018427387904) (Go.L.chk ((isI x114).length ≤ 9223372036854775807) (Go.L.chk (Go.E.Cap 72 (l102.length + ([(((x74.getD s15_103.toNat default).1, (x74.getD s15_103.toNat default).2.1, (x74.getD s15_103.toNat default).2.2.1, (x74.getD s15_103.toNat default).2.2.2), (Lib.compact (isI x114)))]).length)) (Go.L.chk (Go.L.I64 (s15_103 + (1 : Int))) (some (Sum.inl ((l102 ++ [(((x74.getD s15_103.toNat default).1, (x74.getD s15_103.toNat default).2.1, (x74.getD s15_103.toNat default).2.2.1, (x74.getD s15_103.toNat default).2.2.2), (Lib.compact (isI x114)))]), (s15_103 + (1 : Int)))))))))) else Option.map Sum.inr ((shapes_build_k1 a0) l102)
theorem shapes_build_bl2_isE : @shapes_build_bl2_is = @shapes_build_bl2 := by
  unfold shapes_build_bl2_is shapes_build_bl2
  simp only [isS_eq, isI_eq]
noncomputable instance (a0 : Int) (a1 : List (((List UInt8) × Int × Int × (List UInt8)) × (List Int))) (x74 : (List ((List UInt8) × Int × Int × (List UInt8)))) (s) : Mi (shapes_build_bl2_is a0 a1 x74 s) := by obtain ⟨l102, s15_103⟩ := s; delta shapes_build_bl2_is; dsimp only; infer_instance
noncomputable instance (a0 : Int) (a1 : List (((List UInt8) × Int × Int × (List UInt8)) × (List Int))) (x74 : (List ((List UInt8) × Int × Int × (List UInt8)))) (s) : Mi (shapes_build_bl2 a0 a1 x74 s) := ⟨(inferInstance : Mi (shapes_build_bl2_is a0 a1 x74 s)).c, by rw [← shapes_build_bl2_isE]; exact (inferInstance : Mi (shapes_build_bl2_is a0 a1 x74 s)).h⟩
noncomputable instance (a0 : Int) (a1 : List (((List UInt8) × Int × Int × (List UInt8)) × (List Int))) (x74 : (List ((List UInt8) × Int × Int × (List UInt8)))) (s : (List (((List UInt8) × Int × Int × (List UInt8)) × (List Int))) × Int) : Mi (shapes_build_l2 a0 a1 x74 s) := by delta shapes_build_l2; infer_instance
noncomputable instance (a0 : Int) (a1 : List (((List UInt8) × Int × Int × (List UInt8)) × (List Int))) : Mi (shapes_build a0 a1) := by delta shapes_build; infer_instance
noncomputable instance (a0 : List Go.L.Pv) (l68 : List (((List UInt8) × Int × Int × (List UInt8)) × (List Int))) : Mi (shapes_Build_k1 a0 l68) := by delta shapes_Build_k1; infer_instance
noncomputable instance (a0 : List Go.L.Pv) (s) : Mi (shapes_Build_bl2 a0 s) := by obtain ⟨l97, s16_98⟩ := s; delta shapes_Build_bl2; dsimp only; infer_instance
noncomputable instance (a0 : List Go.L.Pv) (s : (List (((List UInt8) × Int × Int × (List UInt8)) × (List Int))) × Int) : Mi (shapes_Build_l2 a0 s) := by delta shapes_Build_l2; infer_instance
noncomputable instance (a0 : List Go.L.Pv) : Mi (shapes_Build a0) := by delta shapes_Build; infer_instance
noncomputable instance (a0 : ((List UInt8) × Int × Int × (List UInt8)) × (List Int)) (a1 : Int) (a2 : Int) : Mi (shapes_Index_Number_1 a0 a1 a2) := by delta shapes_Index_Number_1; infer_instance
noncomputable def shapes_Index_collect_s2_k1_is (l58 : List Int) (c59 : Int) (c60 : Int) : Option ((List Int) × Int × Int) := 
  Go.L.chk (l58.length < 4611686018427387904) (Go.L.chk ((isI l58).length ≤ 9223372036854775807) (some ((Lib.compact (isI l58)), c59, c60)))
theorem shapes_Index_collect_s2_k1_isE : @shapes_Index_collect_s2_k1_is = @shapes_Index_collect_s2_k1 := by
  unfold shapes_Index_collect_s2_k1_is shapes_Index_collect_s2_k1
  simp only [isS_eq, isI_eq]
noncomputable instance (l58 : List Int) (c59 : Int) (c60 : Int) : Mi (shapes_Index_collect_s2_k1_is l58 c59 c60) := by delta shapes_Index_collect_s2_k1_is; infer_instance
noncomputable instance (l58 : List Int) (c59 : Int) (c60 : Int) : Mi (shapes_Index_collect_s2_k1 l58 c59 c60) := ⟨(inferInstance : Mi (shapes_Index_collect_s2_k1_is l58 c59 c60)).c, by rw [← shapes_Index_collect_s2_k1_isE]; exact (inferInstance : Mi (shapes_Index_collect_s2_k1_is l58 c59 c60)).h⟩
noncomputable instance (a0 : Int × (List (((List UInt8) × Int × Int × (List UInt8)) × (List Int)))) (a1 : List UInt8) (s) : Mi (shapes_Index_collect_s2_bl2 a0 a1 s) := by obtain ⟨l88, c89, c90, s13_91⟩ := s; delta shapes_Index_collect_s2_bl2; dsimp only; infer_instance
noncomputable instance (a0 : Int × (List (((List UInt8) × Int × Int × (List UInt8)) × (List Int)))) (a1 : List UInt8) (s : (List Int) × Int × Int × Int) : Mi (shapes_Index_collect_s2_l2 a0 a1 s) := by delta shapes_Index_collect_s2_l2; infer_instance
noncomputable instance (a0 : Int × (List (((List UInt8) × Int × Int × (List UInt8)) × (List Int)))) (a1 : List UInt8) (a2_c0 : Int) (a2_c1 : Int) : Mi (shapes_Index_collect_s2 a0 a1 a2_c0 a2_c1) := by delta shapes_Index_collect_s2; infer_instance
noncomputable instance (a0 : Int × (List (((List UInt8) × Int × Int × (List UInt8)) × (List Int)))) (a1 : List UInt8) (a2 : Int) (a3 : Int) : Mi (shapes_Index_Number a0 a1 a2 a3) := by delta shapes_Index_Number; infer_instance
noncomputable instance (_a0 : ((List UInt8) × Int × Int × (List UInt8)) × (List Int)) : Mi (shapes_Index_Find_1 _a0) := by delta shapes_Index_Find_1; infer_instance
noncomputable def shapes_Index_collect_k1_is (l54 : List Int) : Option ((List Int)) := 
  Go.L.chk (l54.length < 4611686018427387904) (Go.L.chk ((isI l54).length ≤ 9223372036854775807) (some ((Lib.compact (isI l54)))))
theorem shapes_Index_collect_k1_isE : @shapes_Index_collect_k1_is = @shapes_Index_collect_k1 := by
  unfold shapes_Index_collect_k1_is shapes_Index_collect_k1
  simp only [isS_eq, isI_eq]
noncomputable instance (l54 : List Int) : Mi (shapes_Index_collect_k1_is l54) := by delta shapes_Index_collect_k1_is; infer_instance
noncomputable instance (l54 : List Int) : Mi (shapes_Index_collect_k1 l54) := ⟨(inferInstance : Mi (shapes_Index_collect_k1_is l54)).c, by rw [← shapes_Index_collect_k1_isE]; exact (inferInstance : Mi (shapes_Index_collect_k1_is l54)).h⟩
noncomputable instance (a0 : Int × (List (((List UInt8) × Int × Int × (List UInt8)) × (List Int)))) (a1 : List UInt8) (s) : Mi (shapes_Index_collect_bl2 a0 a1 s) := by obtain ⟨l81, s13_82⟩ := s; delta shapes_Index_collect_bl2; dsimp only; infer_instance
noncomputable instance (a0 : Int × (List (((List UInt8) × Int × Int × (List UInt8)) × (List Int)))) (a1 : List UInt8) (s : (List Int) × Int) : Mi (shapes_Index_collect_l2 a0 a1 s) := by delta shapes_Index_collect_l2; infer_instance
noncomputable instance (a0 : Int × (List (((List UInt8) × Int × Int × (List UInt8)) × (List Int)))) (a1 : List UInt8) : Mi (shapes_Index_collect a0 a1) := by delta shapes_Index_collect; infer_instance
noncomputable instance (a0 : Int × (List (((List UInt8) × Int × Int × (List UInt8)) × (List Int)))) (a1 : List UInt8) : Mi (shapes_Index_Find a0 a1) := by delta shapes_Index_Find; infer_instance
noncomputable instance (a0 : ((List UInt8) × Int × Int × (List UInt8)) × (List Int)) (a1 : List UInt8) : Mi (shapes_Index_Text_1 a0 a1) := by delta shapes_Index_Text_1; infer_instance
noncomputable def shapes_Index_collect_s3_k1_is (l59 : List Int) (c60 : List UInt8) : Option ((List Int) × (List UInt8)) := 
  Go.L.chk (l59.length < 4611686018427387904) (Go.L.chk ((isI l59).length ≤ 9223372036854775807) (some ((Lib.compact (isI l59)), c60)))
theorem shapes_Index_collect_s3_k1_isE : @shapes_Index_collect_s3_k1_is = @shapes_Index_collect_s3_k1 := by
  unfold shapes_Index_collect_s3_k1_is shapes_Index_collect_s3_k1
  simp only [isS_eq, isI_eq]
noncomputable instance (l59 : List Int) (c60 : List UInt8) : Mi (shapes_Index_collect_s3_k1_is l59 c60) := by delta shapes_Index_collect_s3_k1_is; infer_instance
noncomputable instance (l59 : List Int) (c60 : List UInt8) : Mi (shapes_Index_collect_s3_k1 l59 c60) := ⟨(inferInstance : Mi (shapes_Index_collect_s3_k1_is l59 c60)).c, by rw [← shapes_Index_collect_s3_k1_isE]; exact (inferInstance : Mi (shapes_Index_collect_s3_k1_is l59 c60)).h⟩
noncomputable instance (a0 : Int × (List (((List UInt8) × Int × Int × (List UInt8)) × (List Int)))) (a1 : List UInt8) (s) : Mi (shapes_Index_collect_s3_bl2 a0 a1 s) := by obtain ⟨l89, c90, s13_91⟩ := s; delta shapes_Index_collect_s3_bl2; dsimp only; infer_instance
noncomputable instance (a0 : Int × (List (((List UInt8) × Int × Int × (List UInt8)) × (List Int)))) (a1 : List UInt8) (s : (List Int) × (List UInt8) × Int) : Mi (shapes_Index_collect_s3_l2 a0 a1 s) := by delta shapes_Index_collect_s3_l2; infer_instance
noncomputable instance (a0 : Int × (List (((List UInt8) × Int × Int × (List UInt8)) × (List Int)))) (a1 : List UInt8) (a2_c0 : List UInt8) : Mi (shapes_Index_collect_s3 a0 a1 a2_c0) := by delta shapes_Index_collect_s3; infer_instance
noncomputable instance (a0 : Int × (List (((List UInt8) × Int × Int × (List UInt8)) × (List Int)))) (a1 : List UInt8) (a2 : List UInt8) : Mi (shapes_Index_Text a0 a1 a2) := by delta shapes_Index_Text; infer_instance
noncomputable instance (a0 : Int) (a1 : Int) : Mi (wire_fault a0 a1) := by delta wire_fault; infer_instance
noncomputable instance (a1 : Int) : Mi (wire_ReadNumber_k1 a1) := by delta wire_ReadNumber_k1; infer_instance
noncomputable instance (a0 : List UInt8) (a1 : Int) (s) : Mi (wire_ReadNumber_bl2 a0 a1 s) := by obtain ⟨s7_166, s19_167⟩ := s; delta wire_ReadNumber_bl2; dsimp only; repeat' first | (show Mi _; infer_instance) | refine @iB _ _ _ _ ?_ (fun _ => ?_) | refine @iC _ _ _ _ ?_ | refine @iI _ _ _ _ _ ?_ ?_
noncomputable instance (a0 : List UInt8) (a1 : Int) (s : Int × Int) : Mi (wire_ReadNumber_l2 a0 a1 s) := by delta wire_ReadNumber_l2; infer_instance
noncomputable instance (a0 : List UInt8) (a1 : Int) : Mi (wire_ReadNumber a0 a1) := by delta wire_ReadNumber; infer_instance
noncomputable instance (c26 : Int) (c27 : Int) (c28 : Int) : Mi (shapes_Open_k1 c26 c27 c28) := by delta shapes_Open_k1; infer_instance
noncomputable instance (a0 : List UInt8) (a1 : Int) : Mi (wire_ReadChunk a0 a1) := by delta wire_ReadChunk; infer_instance
noncomputable instance (l65 : List Int) (s12_66 : Int) : Mi (wreads_Number_k1 l65 s12_66) := by delta wreads_Number_k1; infer_instance
noncomputable instance (a0 : List UInt8) (x2 : Int × Int × (Int × Int)) (s) : Mi (wreads_Number_bl2 a0 x2 s) := by obtain ⟨l89, s12_90, s41_91⟩ := s; delta wreads_Number_bl2; dsimp only; infer_instance
noncomputable instance (a0 : List UInt8) (x2 : Int × Int × (Int × Int)) (s : (List Int) × Int × Int) : Mi (wreads_Number_l2 a0 x2 s) := by delta wreads_Number_l2; infer_instance
noncomputable instance (a0 : List UInt8) (a1 : Int) (a2 : Int) : Mi (wreads_Number a0 a1 a2) := by delta wreads_Number; infer_instance
noncomputable instance (x111 : (List Int) × Int × (Int × Int)) (c123 : List UInt8) (c124 : Int) (c125 : Int) (c126 : List UInt8) (s5_128 : Int) : Mi (shapes_readEntry_k5 x111 c123 c124 c125 c126 s5_128) := by delta shapes_readEntry_k5; infer_instance
noncomputable instance (x84 : (List UInt8) × Int × (Int × Int)) (c95 : List UInt8) (c96 : Int) (c97 : Int) (c98 : List UInt8) (s5_100 : Int) : Mi (shapes_readEntry_k4 x84 c95 c96 c97 c98 s5_100) := by delta shapes_readEntry_k4; infer_instance
noncomputable instance (x57 : Int × Int × (Int × Int)) (c69 : List UInt8) (c70 : Int) (c71 : Int) (c72 : List UInt8) (s5_74 : Int) : Mi (shapes_readEntry_k3 x57 c69 c70 c71 c72 s5_74) := by delta shapes_readEntry_k3; infer_instance
noncomputable instance (x30 : Int × Int × (Int × Int)) (c42 : List UInt8) (c43 : Int) (c44 : Int) (c45 : List UInt8) (s5_47 : Int) : Mi (shapes_readEntry_k2 x30 c42 c43 c44 c45 s5_47) := by delta shapes_readEntry_k2; infer_instance
noncomputable instance (x3 : (List UInt8) × Int × (Int × Int)) (c14 : List UInt8) (c15 : Int) (c16 : Int) (c17 : List UInt8) (s5_19 : Int) : Mi (shapes_readEntry_k1 x3 c14 c15 c16 c17 s5_19) := by delta shapes_readEntry_k1; infer_instance
noncomputable instance (a0 : List UInt8) (a1 : Int) : Mi (shapes_readEntry a0 a1) := by delta shapes_readEntry; infer_instance
noncomputable instance (l69 : List (((List UInt8) × Int × Int × (List UInt8)) × (List Int))) (s12_70 : Int) : Mi (wreads_entry_k1 l69 s12_70) := by delta wreads_entry_k1; infer_instance
noncomputable instance (a0 : List UInt8) (x2 : Int × Int × (Int × Int)) (s) : Mi (wreads_entry_bl2 a0 x2 s) := by obtain ⟨l95, s12_96, s41_97⟩ := s; delta wreads_entry_bl2; dsimp only; infer_instance
noncomputable instance (a0 : List UInt8) (x2 : Int × Int × (Int × Int)) (s : (List (((List UInt8) × Int × Int × (List UInt8)) × (List Int))) × Int × Int) : Mi (wreads_entry_l2 a0 x2 s) := by delta wreads_entry_l2; infer_instance
noncomputable instance (a0 : List UInt8) (a1 : Int) (a2 : Int) : Mi (wreads_entry a0 a1 a2) := by delta wreads_entry; infer_instance
noncomputable instance  : Mi (shapes_entry_valid_k1) := by delta shapes_entry_valid_k1; infer_instance
noncomputable instance (a0 : ((List UInt8) × Int × Int × (List UInt8)) × (List Int)) (a1 : Int) (s) : Mi (shapes_entry_valid_bl2 a0 a1 s) := by delta shapes_entry_valid_bl2; infer_instance
noncomputable instance (a0 : ((List UInt8) × Int × Int × (List UInt8)) × (List Int)) (a1 : Int) (s : Int) : Mi (shapes_entry_valid_l2 a0 a1 s) := by delta shapes_entry_valid_l2; infer_instance
noncomputable instance  : Mi (shapes_entry_valid_k3) := by delta shapes_entry_valid_k3; infer_instance
noncomputable instance (a0 : ((List UInt8) × Int × Int × (List UInt8)) × (List Int)) (a1 : Int) (s) : Mi (shapes_entry_valid_bl4 a0 a1 s) := by delta shapes_entry_valid_bl4; infer_instance
noncomputable instance (a0 : ((List UInt8) × Int × Int × (List UInt8)) × (List Int)) (a1 : Int) (s : Int) : Mi (shapes_entry_valid_l4 a0 a1 s) := by delta shapes_entry_valid_l4; infer_instance
noncomputable instance  : Mi (shapes_entry_valid_k5) := by delta shapes_entry_valid_k5; infer_instance
noncomputable instance (a0 : ((List UInt8) × Int × Int × (List UInt8)) × (List Int)) (a1 : Int) (s) : Mi (shapes_entry_valid_bl6 a0 a1 s) := by delta shapes_entry_valid_bl6; infer_instance
noncomputable instance (a0 : ((List UInt8) × Int × Int × (List UInt8)) × (List Int)) (a1 : Int) (s : Int) : Mi (shapes_entry_valid_l6 a0 a1 s) := by delta shapes_entry_valid_l6; infer_instance
noncomputable instance  : Mi (shapes_entry_valid_k19) := by delta shapes_entry_valid_k19; infer_instance
noncomputable instance (a0 : ((List UInt8) × Int × Int × (List UInt8)) × (List Int)) (a1 : Int) (s) : Mi (shapes_entry_valid_bl20 a0 a1 s) := by delta shapes_entry_valid_bl20; infer_instance
noncomputable instance (a0 : ((List UInt8) × Int × Int × (List UInt8)) × (List Int)) (a1 : Int) (s : Int) : Mi (shapes_entry_valid_l20 a0 a1 s) := by delta shapes_entry_valid_l20; infer_instance
noncomputable instance  : Mi (shapes_entry_valid_k17) := by delta shapes_entry_valid_k17; infer_instance
noncomputable instance (a0 : ((List UInt8) × Int × Int × (List UInt8)) × (List Int)) (a1 : Int) (s) : Mi (shapes_entry_valid_bl18 a0 a1 s) := by delta shapes_entry_valid_bl18; infer_instance
noncomputable instance (a0 : ((List UInt8) × Int × Int × (List UInt8)) × (List Int)) (a1 : Int) (s : Int) : Mi (shapes_entry_valid_l18 a0 a1 s) := by delta shapes_entry_valid_l18; infer_instance
noncomputable instance  : Mi (shapes_entry_valid_k15) := by delta shapes_entry_valid_k15; infer_instance
noncomputable instance (a0 : ((List UInt8) × Int × Int × (List UInt8)) × (List Int)) (a1 : Int) (s) : Mi (shapes_entry_valid_bl16 a0 a1 s) := by delta shapes_entry_valid_bl16; infer_instance
noncomputable instance (a0 : ((List UInt8) × Int × Int × (List UInt8)) × (List Int)) (a1 : Int) (s : Int) : Mi (shapes_entry_valid_l16 a0 a1 s) := by delta shapes_entry_valid_l16; infer_instance
noncomputable instance  : Mi (shapes_entry_valid_k13) := by delta shapes_entry_valid_k13; infer_instance
noncomputable instance (a0 : ((List UInt8) × Int × Int × (List UInt8)) × (List Int)) (a1 : Int) (s) : Mi (shapes_entry_valid_bl14 a0 a1 s) := by delta shapes_entry_valid_bl14; infer_instance
noncomputable instance (a0 : ((List UInt8) × Int × Int × (List UInt8)) × (List Int)) (a1 : Int) (s : Int) : Mi (shapes_entry_valid_l14 a0 a1 s) := by delta shapes_entry_valid_l14; infer_instance
noncomputable instance  : Mi (shapes_entry_valid_k11) := by delta shapes_entry_valid_k11; infer_instance
noncomputable instance (a0 : ((List UInt8) × Int × Int × (List UInt8)) × (List Int)) (a1 : Int) (s) : Mi (shapes_entry_valid_bl12 a0 a1 s) := by delta shapes_entry_valid_bl12; infer_instance
noncomputable instance (a0 : ((List UInt8) × Int × Int × (List UInt8)) × (List Int)) (a1 : Int) (s : Int) : Mi (shapes_entry_valid_l12 a0 a1 s) := by delta shapes_entry_valid_l12; infer_instance
noncomputable instance  : Mi (shapes_entry_valid_k9) := by delta shapes_entry_valid_k9; infer_instance
noncomputable instance (a0 : ((List UInt8) × Int × Int × (List UInt8)) × (List Int)) (a1 : Int) (s) : Mi (shapes_entry_valid_bl10 a0 a1 s) := by delta shapes_entry_valid_bl10; infer_instance
noncomputable instance (a0 : ((List UInt8) × Int × Int × (List UInt8)) × (List Int)) (a1 : Int) (s : Int) : Mi (shapes_entry_valid_l10 a0 a1 s) := by delta shapes_entry_valid_l10; infer_instance
noncomputable instance  : Mi (shapes_entry_valid_k7) := by delta shapes_entry_valid_k7; infer_instance
noncomputable instance (a0 : ((List UInt8) × Int × Int × (List UInt8)) × (List Int)) (a1 : Int) (s) : Mi (shapes_entry_valid_bl8 a0 a1 s) := by delta shapes_entry_valid_bl8; infer_instance
noncomputable instance (a0 : ((List UInt8) × Int × Int × (List UInt8)) × (List Int)) (a1 : Int) (s : Int) : Mi (shapes_entry_valid_l8 a0 a1 s) := by delta shapes_entry_valid_l8; infer_instance
noncomputable instance (a0 : ((List UInt8) × Int × Int × (List UInt8)) × (List Int)) (a1 : Int) : Mi (shapes_entry_valid a0 a1) := by delta shapes_entry_valid; infer_instance
noncomputable instance (c255 : Int) (c256 : Int) (c257 : Int) : Mi (shapes_Open_k5 c255 c256 c257) := by delta shapes_Open_k5; infer_instance
noncomputable instance (a0 : List UInt8) (a1 : List UInt8) : Mi (internal_bytealg_CompareString a0 a1) := by delta internal_bytealg_CompareString; infer_instance
noncomputable instance (a0 : List UInt8) (a1 : List UInt8) : Mi (strings_Compare a0 a1) := by delta strings_Compare; infer_instance
noncomputable instance (a0 : Int) : Mi (cmp_isNaN_int a0) := by delta cmp_isNaN_int; infer_instance
noncomputable instance (a0 : Int) (a1 : Int) : Mi (cmp_Compare_int a0 a1) := by delta cmp_Compare_int; infer_instance
noncomputable instance  : Mi (cmp_Or_int_k1) := by delta cmp_Or_int_k1; infer_instance
noncomputable instance (a0 : List Int) (s) : Mi (cmp_Or_int_bl2 a0 s) := by delta cmp_Or_int_bl2; infer_instance
noncomputable instance (a0 : List Int) (s : Int) : Mi (cmp_Or_int_l2 a0 s) := by delta cmp_Or_int_l2; infer_instance
noncomputable instance (a0 : List Int) : Mi (cmp_Or_int a0) := by delta cmp_Or_int; infer_instance
noncomputable instance (a0 : (List UInt8) × Int × Int × (List UInt8)) (a1 : (List UInt8) × Int × Int × (List UInt8)) : Mi (shapes_leaf_compare a0 a1) := by delta shapes_leaf_compare; infer_instance
noncomputable instance (c286 : Int) (c287 : Int) (c288 : Int) : Mi (shapes_Open_k6 c286 c287 c288) := by delta shapes_Open_k6; infer_instance
noncomputable instance (a0 : List UInt8) (a1 : List UInt8) : Mi (bytes_Equal a0 a1) := by delta bytes_Equal; infer_instance
noncomputable instance (c322 : Int) (c323 : Int) (c324 : Int) : Mi (shapes_Open_k7 c322 c323 c324) := by delta shapes_Open_k7; infer_instance
noncomputable instance (a0 : List UInt8) (x10 : (Int × Int)) (x14 : Int × Int × (Int × Int)) (x39 : (List (((List UInt8) × Int × Int × (List UInt8)) × (List Int))) × Int × (Int × Int)) : Mi (shapes_Open_k3 a0 x10 x14 x39) := by delta shapes_Open_k3; infer_instance
noncomputable instance (a0 : List UInt8) (x10 : (Int × Int)) (x14 : Int × Int × (Int × Int)) (x39 : (List (((List UInt8) × Int × Int × (List UInt8)) × (List Int))) × Int × (Int × Int)) (s) : Mi (shapes_Open_bl4 a0 x10 x14 x39 s) := by delta shapes_Open_bl4; infer_instance
noncomputable instance (a0 : List UInt8) (x10 : (Int × Int)) (x14 : Int × Int × (Int × Int)) (x39 : (List (((List UInt8) × Int × Int × (List UInt8)) × (List Int))) × Int × (Int × Int)) (s : Int) : Mi (shapes_Open_l4 a0 x10 x14 x39 s) := by delta shapes_Open_l4; infer_instance
noncomputable instance (c50 : Int) (c51 : Int) (c52 : Int) : Mi (shapes_Open_k2 c50 c51 c52) := by delta shapes_Open_k2; infer_instance
noncomputable instance (a0 : List UInt8) : Mi (shapes_Open a0) := by delta shapes_Open; infer_instance
noncomputable instance  : Mi (ref4_Texts_k1) := by delta ref4_Texts_k1; infer_instance
noncomputable instance (a0 : List (List UInt8)) (a1 : List (List UInt8)) (s) : Mi (ref4_Texts_bl2 a0 a1 s) := by delta ref4_Texts_bl2; infer_instance
noncomputable instance (a0 : List (List UInt8)) (a1 : List (List UInt8)) (s : Int) : Mi (ref4_Texts_l2 a0 a1 s) := by delta ref4_Texts_l2; infer_instance
noncomputable instance (a0 : List (List UInt8)) (a1 : List (List UInt8)) : Mi (ref4_Texts a0 a1) := by delta ref4_Texts; infer_instance
noncomputable instance  : Mi (ref3_Ints_k1) := by delta ref3_Ints_k1; infer_instance
noncomputable instance (a0 : List Int) (a1 : List Int) (s) : Mi (ref3_Ints_bl2 a0 a1 s) := by delta ref3_Ints_bl2; infer_instance
noncomputable instance (a0 : List Int) (a1 : List Int) (s : Int) : Mi (ref3_Ints_l2 a0 a1 s) := by delta ref3_Ints_l2; infer_instance
noncomputable instance (a0 : List Int) (a1 : List Int) : Mi (ref3_Ints a0 a1) := by delta ref3_Ints; infer_instance
noncomputable instance (a0 : Int × (List (((List UInt8) × Int × Int × (List UInt8)) × (List Int)))) : Mi (shapes_Index_Items a0) := by delta shapes_Index_Items; infer_instance
noncomputable instance (a0 : Int) (a1 : Int) : Mi (ref3_At a0 a1) := by delta ref3_At; infer_instance
noncomputable instance  : Mi (law4_shaped) := by delta law4_shaped; repeat' first | (show Mi _; infer_instance) | refine @iB _ _ _ _ ?_ (fun _ => ?_) | refine @iC _ _ _ _ ?_ | refine @iI _ _ _ _ _ ?_ ?_
theorem shaped_true : law4_shaped = some true := (inferInstance : Mi law4_shaped).h true (by kernel_rfl)
end Go.Proofs.YtmfiaecglndldaaGreatDoor
end
