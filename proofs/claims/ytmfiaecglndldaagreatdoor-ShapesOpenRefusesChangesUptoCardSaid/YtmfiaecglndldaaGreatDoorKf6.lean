/- Texts of a claim, merged. -/
import Derived.Test.YtmfiaecglndldaaGreatDoorKf5
import Derived.KernelRfl
set_option linter.unusedVariables false
set_option linter.unusedSimpArgs false
section
namespace Go.Proofs.YtmfiaecglndldaaGreatDoor
open Go Go.E Go.RowKit
set_option maxHeartbeats 1000000
set_option maxRecDepth 10000
open _root_.Go.Proofs.Tryz
noncomputable def shapes_entry_valid_k1 : Option (Bool) :=
 some (true)
noncomputable def shapes_entry_valid_bl2 (a0 : ((List UInt8) × Int × Int × (List UInt8)) × (List Int)) (a1 : Int) : Int → Option ((Int) ⊕ (Bool)) := fun s48_73 =>
 if s48_73 < (a0.2.length : Int) then Go.L.chk (0 ≤ s48_73 ∧ s48_73 < (a0.2.length : Int)) (if (a0.2.getD s48_73.toNat default < (0 : Int)) ∨ (a1 ≤ a0.2.getD s48_73.toNat default) then Option.map Sum.inr (some (false)) else if (0 : Int) < s48_73 then Go.L.chk (Go.L.I64 (s48_73 - (1 : Int))) (Go.L.chk (0 ≤ (s48_73 - (1 : Int)) ∧ (s48_73 - (1 : Int)) < (a0.2.length : Int)) (if a0.2.getD s48_73.toNat default ≤ a0.2.getD ((s48_73 - (1 : Int)).toNat) default then Option.map Sum.inr (some (false)) else Go.L.chk (Go.L.I64 (s48_73 + (1 : Int))) (some (Sum.inl (s48_73 + (1 : Int)))))) else Go.L.chk (Go.L.I64 (s48_73 + (1 : Int))) (some (Sum.inl (s48_73 + (1 : Int))))) else Option.map Sum.inr (shapes_entry_valid_k1)
noncomputable def shapes_entry_valid_l2 (a0 : ((List UInt8) × Int × Int × (List UInt8)) × (List Int)) (a1 : Int) (s : Int) : Option (Bool) := Go.L.run (shapes_entry_valid_bl2 a0 a1) s
noncomputable def shapes_entry_valid_k3 : Option (Bool) :=
 some (true)
noncomputable def shapes_entry_valid_bl4 (a0 : ((List UInt8) × Int × Int × (List UInt8)) × (List Int)) (a1 : Int) : Int → Option ((Int) ⊕ (Bool)) := fun s48_166 =>
 if s48_166 < (a0.2.length : Int) then Go.L.chk (0 ≤ s48_166 ∧ s48_166 < (a0.2.length : Int)) (if (a0.2.getD s48_166.toNat default < (0 : Int)) ∨ (a1 ≤ a0.2.getD s48_166.toNat default) then Option.map Sum.inr (some (false)) else if (0 : Int) < s48_166 then Go.L.chk (Go.L.I64 (s48_166 - (1 : Int))) (Go.L.chk (0 ≤ (s48_166 - (1 : Int)) ∧ (s48_166 - (1 : Int)) < (a0.2.length : Int)) (if a0.2.getD s48_166.toNat default ≤ a0.2.getD ((s48_166 - (1 : Int)).toNat) default then Option.map Sum.inr (some (false)) else Go.L.chk (Go.L.I64 (s48_166 + (1 : Int))) (some (Sum.inl (s48_166 + (1 : Int)))))) else Go.L.chk (Go.L.I64 (s48_166 + (1 : Int))) (some (Sum.inl (s48_166 + (1 : Int))))) else Option.map Sum.inr (shapes_entry_valid_k3)
noncomputable def shapes_entry_valid_l4 (a0 : ((List UInt8) × Int × Int × (List UInt8)) × (List Int)) (a1 : Int) (s : Int) : Option (Bool) := Go.L.run (shapes_entry_valid_bl4 a0 a1) s
noncomputable def shapes_entry_valid_k5 : Option (Bool) :=
 some (true)
noncomputable def shapes_entry_valid_bl6 (a0 : ((List UInt8) × Int × Int × (List UInt8)) × (List Int)) (a1 : Int) : Int → Option ((Int) ⊕ (Bool)) := fun s48_259 =>
 if s48_259 < (a0.2.length : Int) then Go.L.chk (0 ≤ s48_259 ∧ s48_259 < (a0.2.length : Int)) (if (a0.2.getD s48_259.toNat default < (0 : Int)) ∨ (a1 ≤ a0.2.getD s48_259.toNat default) then Option.map Sum.inr (some (false)) else if (0 : Int) < s48_259 then Go.L.chk (Go.L.I64 (s48_259 - (1 : Int))) (Go.L.chk (0 ≤ (s48_259 - (1 : Int)) ∧ (s48_259 - (1 : Int)) < (a0.2.length : Int)) (if a0.2.getD s48_259.toNat default ≤ a0.2.getD ((s48_259 - (1 : Int)).toNat) default then Option.map Sum.inr (some (false)) else Go.L.chk (Go.L.I64 (s48_259 + (1 : Int))) (some (Sum.inl (s48_259 + (1 : Int)))))) else Go.L.chk (Go.L.I64 (s48_259 + (1 : Int))) (some (Sum.inl (s48_259 + (1 : Int))))) else Option.map Sum.inr (shapes_entry_valid_k5)
noncomputable def shapes_entry_valid_l6 (a0 : ((List UInt8) × Int × Int × (List UInt8)) × (List Int)) (a1 : Int) (s : Int) : Option (Bool) := Go.L.run (shapes_entry_valid_bl6 a0 a1) s
noncomputable def shapes_entry_valid_k7 : Option (Bool) :=
 some (true)
noncomputable def shapes_entry_valid_bl8 (a0 : ((List UInt8) × Int × Int × (List UInt8)) × (List Int)) (a1 : Int) : Int → Option ((Int) ⊕ (Bool)) := fun s48_354 =>
 if s48_354 < (a0.2.length : Int) then Go.L.chk (0 ≤ s48_354 ∧ s48_354 < (a0.2.length : Int)) (if (a0.2.getD s48_354.toNat default < (0 : Int)) ∨ (a1 ≤ a0.2.getD s48_354.toNat default) then Option.map Sum.inr (some (false)) else if (0 : Int) < s48_354 then Go.L.chk (Go.L.I64 (s48_354 - (1 : Int))) (Go.L.chk (0 ≤ (s48_354 - (1 : Int)) ∧ (s48_354 - (1 : Int)) < (a0.2.length : Int)) (if a0.2.getD s48_354.toNat default ≤ a0.2.getD ((s48_354 - (1 : Int)).toNat) default then Option.map Sum.inr (some (false)) else Go.L.chk (Go.L.I64 (s48_354 + (1 : Int))) (some (Sum.inl (s48_354 + (1 : Int)))))) else Go.L.chk (Go.L.I64 (s48_354 + (1 : Int))) (some (Sum.inl (s48_354 + (1 : Int))))) else Option.map Sum.inr (shapes_entry_valid_k7)
noncomputable def shapes_entry_valid_l8 (a0 : ((List UInt8) × Int × Int × (List UInt8)) × (List Int)) (a1 : Int) (s : Int) : Option (Bool) := Go.L.run (shapes_entry_valid_bl8 a0 a1) s
noncomputable def shapes_entry_valid_k9 : Option (Bool) :=
 some (true)
noncomputable def shapes_entry_valid_bl10 (a0 : ((List UInt8) × Int × Int × (List UInt8)) × (List Int)) (a1 : Int) : Int → Option ((Int) ⊕ (Bool)) := fun s48_449 =>
 if s48_449 < (a0.2.length : Int) then Go.L.chk (0 ≤ s48_449 ∧ s48_449 < (a0.2.length : Int)) (if (a0.2.getD s48_449.toNat default < (0 : Int)) ∨ (a1 ≤ a0.2.getD s48_449.toNat default) then Option.map Sum.inr (some (false)) else if (0 : Int) < s48_449 then Go.L.chk (Go.L.I64 (s48_449 - (1 : Int))) (Go.L.chk (0 ≤ (s48_449 - (1 : Int)) ∧ (s48_449 - (1 : Int)) < (a0.2.length : Int)) (if a0.2.getD s48_449.toNat default ≤ a0.2.getD ((s48_449 - (1 : Int)).toNat) default then Option.map Sum.inr (some (false)) else Go.L.chk (Go.L.I64 (s48_449 + (1 : Int))) (some (Sum.inl (s48_449 + (1 : Int)))))) else Go.L.chk (Go.L.I64 (s48_449 + (1 : Int))) (some (Sum.inl (s48_449 + (1 : Int))))) else Option.map Sum.inr (shapes_entry_valid_k9)
noncomputable def shapes_entry_valid_l10 (a0 : ((List UInt8) × Int × Int × (List UInt8)) × (List Int)) (a1 : Int) (s : Int) : Option (Bool) := Go.L.run (shapes_entry_valid_bl10 a0 a1) s
noncomputable def shapes_entry_valid_k11 : Option (Bool) :=
 some (true)
noncomputable def shapes_entry_valid_bl12 (a0 : ((List UInt8) × Int × Int × (List UInt8)) × (List Int)) (a1 : Int) : Int → Option ((Int) ⊕ (Bool)) := fun s48_540 =>
 if s48_540 < (a0.2.length : Int) then Go.L.chk (0 ≤ s48_540 ∧ s48_540 < (a0.2.length : Int)) (if (a0.2.getD s48_540.toNat default < (0 : Int)) ∨ (a1 ≤ a0.2.getD s48_540.toNat default) then Option.map Sum.inr (some (false)) else if (0 : Int) < s48_540 then Go.L.chk (Go.L.I64 (s48_540 - (1 : Int))) (Go.L.chk (0 ≤ (s48_540 - (1 : Int)) ∧ (s48_540 - (1 : Int)) < (a0.2.length : Int)) (if a0.2.getD s48_540.toNat default ≤ a0.2.getD ((s48_540 - (1 : Int)).toNat) default then Option.map Sum.inr (some (false)) else Go.L.chk (Go.L.I64 (s48_540 + (1 : Int))) (some (Sum.inl (s48_540 + (1 : Int)))))) else Go.L.chk (Go.L.I64 (s48_540 + (1 : Int))) (some (Sum.inl (s48_540 + (1 : Int))))) else Option.map Sum.inr (shapes_entry_valid_k11)
noncomputable def shapes_entry_valid_l12 (a0 : ((List UInt8) × Int × Int × (List UInt8)) × (List Int)) (a1 : Int) (s : Int) : Option (Bool) := Go.L.run (shapes_entry_valid_bl12 a0 a1) s
noncomputable def shapes_entry_valid_k13 : Option (Bool) :=
 some (true)
noncomputable def shapes_entry_valid_bl14 (a0 : ((List UInt8) × Int × Int × (List UInt8)) × (List Int)) (a1 : Int) : Int → Option ((Int) ⊕ (Bool)) := fun s48_631 =>
 if s48_631 < (a0.2.length : Int) then Go.L.chk (0 ≤ s48_631 ∧ s48_631 < (a0.2.length : Int)) (if (a0.2.getD s48_631.toNat default < (0 : Int)) ∨ (a1 ≤ a0.2.getD s48_631.toNat default) then Option.map Sum.inr (some (false)) else if (0 : Int) < s48_631 then Go.L.chk (Go.L.I64 (s48_631 - (1 : Int))) (Go.L.chk (0 ≤ (s48_631 - (1 : Int)) ∧ (s48_631 - (1 : Int)) < (a0.2.length : Int)) (if a0.2.getD s48_631.toNat default ≤ a0.2.getD ((s48_631 - (1 : Int)).toNat) default then Option.map Sum.inr (some (false)) else Go.L.chk (Go.L.I64 (s48_631 + (1 : Int))) (some (Sum.inl (s48_631 + (1 : Int)))))) else Go.L.chk (Go.L.I64 (s48_631 + (1 : Int))) (some (Sum.inl (s48_631 + (1 : Int))))) else Option.map Sum.inr (shapes_entry_valid_k13)
noncomputable def shapes_entry_valid_l14 (a0 : ((List UInt8) × Int × Int × (List UInt8)) × (List Int)) (a1 : Int) (s : Int) : Option (Bool) := Go.L.run (shapes_entry_valid_bl14 a0 a1) s
noncomputable def shapes_entry_valid_k15 : Option (Bool) :=
 some (true)
noncomputable def shapes_entry_valid_bl16 (a0 : ((List UInt8) × Int × Int × (List UInt8)) × (List Int)) (a1 : Int) : Int → Option ((Int) ⊕ (Bool)) := fun s48_726 =>
 if s48_726 < (a0.2.length : Int) then Go.L.chk (0 ≤ s48_726 ∧ s48_726 < (a0.2.length : Int)) (if (a0.2.getD s48_726.toNat default < (0 : Int)) ∨ (a1 ≤ a0.2.getD s48_726.toNat default) then Option.map Sum.inr (some (false)) else if (0 : Int) < s48_726 then Go.L.chk (Go.L.I64 (s48_726 - (1 : Int))) (Go.L.chk (0 ≤ (s48_726 - (1 : Int)) ∧ (s48_726 - (1 : Int)) < (a0.2.length : Int)) (if a0.2.getD s48_726.toNat default ≤ a0.2.getD ((s48_726 - (1 : Int)).toNat) default then Option.map Sum.inr (some (false)) else Go.L.chk (Go.L.I64 (s48_726 + (1 : Int))) (some (Sum.inl (s48_726 + (1 : Int)))))) else Go.L.chk (Go.L.I64 (s48_726 + (1 : Int))) (some (Sum.inl (s48_726 + (1 : Int))))) else Option.map Sum.inr (shapes_entry_valid_k15)
noncomputable def shapes_entry_valid_l16 (a0 : ((List UInt8) × Int × Int × (List UInt8)) × (List Int)) (a1 : Int) (s : Int) : Option (Bool) := Go.L.run (shapes_entry_valid_bl16 a0 a1) s
noncomputable def shapes_entry_valid_k17 : Option (Bool) :=
 some (true)
noncomputable def shapes_entry_valid_bl18 (a0 : ((List UInt8) × Int × Int × (List UInt8)) × (List Int)) (a1 : Int) : Int → Option ((Int) ⊕ (Bool)) := fun s48_817 =>
 if s48_817 < (a0.2.length : Int) then Go.L.chk (0 ≤ s48_817 ∧ s48_817 < (a0.2.length : Int)) (if (a0.2.getD s48_817.toNat default < (0 : Int)) ∨ (a1 ≤ a0.2.getD s48_817.toNat default) then Option.map Sum.inr (some (false)) else if (0 : Int) < s48_817 then Go.L.chk (Go.L.I64 (s48_817 - (1 : Int))) (Go.L.chk (0 ≤ (s48_817 - (1 : Int)) ∧ (s48_817 - (1 : Int)) < (a0.2.length : Int)) (if a0.2.getD s48_817.toNat default ≤ a0.2.getD ((s48_817 - (1 : Int)).toNat) default then Option.map Sum.inr (some (false)) else Go.L.chk (Go.L.I64 (s48_817 + (1 : Int))) (some (Sum.inl (s48_817 + (1 : Int)))))) else Go.L.chk (Go.L.I64 (s48_817 + (1 : Int))) (some (Sum.inl (s48_817 + (1 : Int))))) else Option.map Sum.inr (shapes_entry_valid_k17)
noncomputable def shapes_entry_valid_l18 (a0 : ((List UInt8) × Int × Int × (List UInt8)) × (List Int)) (a1 : Int) (s : Int) : Option (Bool) := Go.L.run (shapes_entry_valid_bl18 a0 a1) s
noncomputable def shapes_entry_valid_k19 : Option (Bool) :=
 some (true)
noncomputable def shapes_entry_valid_bl20 (a0 : ((List UInt8) × Int × Int × (List UInt8)) × (List Int)) (a1 : Int) : Int → Option ((Int) ⊕ (Bool)) := fun s48_908 =>
 if s48_908 < (a0.2.length : Int) then Go.L.chk (0 ≤ s48_908 ∧ s48_908 < (a0.2.length : Int)) (if (a0.2.getD s48_908.toNat default < (0 : Int)) ∨ (a1 ≤ a0.2.getD s48_908.toNat default) then Option.map Sum.inr (some (false)) else if (0 : Int) < s48_908 then Go.L.chk (Go.L.I64 (s48_908 - (1 : Int))) (Go.L.chk (0 ≤ (s48_908 - (1 : Int)) ∧ (s48_908 - (1 : Int)) < (a0.2.length : Int)) (if a0.2.getD s48_908.toNat default ≤ a0.2.getD ((s48_908 - (1 : Int)).toNat) default then Option.map Sum.inr (some (false)) else Go.L.chk (Go.L.I64 (s48_908 + (1 : Int))) (some (Sum.inl (s48_908 + (1 : Int)))))) else Go.L.chk (Go.L.I64 (s48_908 + (1 : Int))) (some (Sum.inl (s48_908 + (1 : Int))))) else Option.map Sum.inr (shapes_entry_valid_k19)
noncomputable def shapes_entry_valid_l20 (a0 : ((List UInt8) × Int × Int × (List UInt8)) × (List Int)) (a1 : Int) (s : Int) : Option (Bool) := Go.L.run (shapes_entry_valid_bl20 a0 a1) s
noncomputable def shapes_entry_valid (a0 : ((List UInt8) × Int × Int × (List UInt8)) × (List Int)) (a1 : Int) : Option (Bool) :=
 Option.bind (shapes_isPath a0.1.1) (fun x2 => if !x2 then (if !x2 then some (false) else (shapes_entry_valid_l2 a0 a1) (0 : Int)) else (if a0.1.2.1 < (1 : Int) then (if a0.1.2.1 < (1 : Int) then some (false) else (shapes_entry_valid_l4 a0 a1) (0 : Int)) else (if (4 : Int) < a0.1.2.1 then (if (4 : Int) < a0.1.2.1 then some (false) else (shapes_entry_valid_l6 a0 a1) (0 : Int)) else (if a0.1.2.2.1 = (0 : Int) then if a0.1.2.2.2 = ([] : List UInt8) then if (a0.2.length : Int) = (0 : Int) then some (false) else (shapes_entry_valid_l20 a0 a1) (0 : Int) else if a0.1.2.1 = (2 : Int) then (if (a0.2.length : Int) = (0 : Int) then some (false) else (shapes_entry_valid_l18 a0 a1) (0 : Int)) else (if a0.1.2.1 = (2 : Int) then (shapes_entry_valid_l16 a0 a1) (0 : Int) else some (false)) else if a0.1.2.1 = (1 : Int) then (if a0.1.2.2.2 = ([] : List UInt8) then if (a0.2.length : Int) = (0 : Int) then some (false) else (shapes_entry_valid_l14 a0 a1) (0 : Int) else if a0.1.2.1 = (2 : Int) then (if (a0.2.length : Int) = (0 : Int) then some (false) else (shapes_entry_valid_l12 a0 a1) (0 : Int)) else (if a0.1.2.1 = (2 : Int) then (shapes_entry_valid_l10 a0 a1) (0 : Int) else some (false))) else (if a0.1.2.1 = (1 : Int) then (shapes_entry_valid_l8 a0 a1) (0 : Int) else some (false))))))
theorem shapes_entry_valid_ok (w : World) (H : PH) (hH : Le H (hp w)) {a0 : ((List UInt8) × Int × Int × (List UInt8)) × (List Int)} {a1 : Int} {v0_0 : Value} (h0_0 : Vec (.int .i64) H v0_0 (a0.2)) {r : Bool} (h : shapes_entry_valid a0 a1 = some r) :
  Ok Tryz.prog 71 [.agg #[.string ⟨(a0.1.1).toArray⟩, .int .i64 a0.1.2.1, .int .i64 a0.1.2.2.1, .string ⟨(a0.1.2.2.2).toArray⟩, v0_0], .int .i64 a1] w (fun v w' => Ext w w' ∧ v = .bool r) := by
 refine Ok_enter (n := 75) [(0, .agg #[.string ⟨(a0.1.1).toArray⟩, .int .i64 a0.1.2.1, .int .i64 a0.1.2.2.1, .string ⟨(a0.1.2.2.2).toArray⟩, v0_0]), (1, .int .i64 a1)] func71 rfl rfl rfl rfl rfl ?_
 have hL := Lcl.start w
 refine W_seqr ?_
 refine S_box (t := 96) rfl rfl rfl hL ?_
 intro w1 b1 hL1 hle1 _
 refine S_pz 1 rfl ?_
 refine W_seq ?_
 refine W_block ?_
 refine W_seq ?_
 refine W_seqr ?_
 refine S_v (r_field rfl underlying96 rfl zr84 (by decide)) rfl ?_
 refine S_v (r_field rfl underlying84 rfl zr9 (by decide)) rfl ?_
 refine S_v (r_loadB1 0 rfl underlying9 rfl hL1 rfl rfl) rfl ?_
 obtain ⟨x2, hb2, h⟩ := Go.L.bind_some h
 refine S_callL rfl rfl hL1 (shapes_isPath_ok _ _ (gz_le hH hL1) hb2) ?_
 rintro _ w3 rfl hx3 hL3 hle3
 refine S_pz 2 rfl ?_
 refine W_cond rfl (fun hc4 => ?_) (fun hc4 => ?_)
 ·replace h := Go.L.ite_t hc4 h
  refine W_skip ?_
  refine At_seq ?_
  refine W_cond rfl (fun hc6 => ?_) (fun hc6 => ?_)
  ·replace h := Go.L.ite_t hc6 h
   refine W_pz 1 rfl ?_
   refine W_ret ?_
   refine At_block_ret ?_
   refine At_seq_ret ?_
   obtain rfl := Option.some.inj h
   refine At_body rfl rfl ?_
   exact ⟨hL3.ext, rfl⟩
  ·replace h := Go.L.ite_f hc6 h
   refine W_skip ?_
   refine At_block ?_
   refine At_seq ?_
   refine W_cut (σ := Unit) (fun (_ : Unit) => []) (fun (_ : Unit) wr => Lcl w [.box b1 [.string ⟨(a0.1.1).toArray⟩, .int .i64 a0.1.2.1, .int .i64 a0.1.2.2.1, .string ⟨(a0.1.2.2.2).toArray⟩, v0_0] 96] wr ∧ shapes_entry_valid_k1 = some r) ?_ ?_
   ·refine W_seqr ?_
    refine S_v (r_field rfl underlying96 rfl zr52 (by decide)) rfl ?_
    refine S_v (r_loadB1 0 rfl underlying52 rfl hL3 rfl rfl) rfl ?_
    refine S_v (r_len rfl underlying52 h0_0) rfl ?_
    refine S_pz 1 rfl ?_
    refine W_block ?_
    obtain ⟨n74, h⟩ := Go.L.run_some h
    refine W_loop (σ := Int × Nat) (fun ⟨s48_73, n⟩ => [(1, .int .i64 a1), (2, .pointer (some ⟨b1, 0, none⟩)), (46, v0_0), (47, .int .i64 (a0.2.length : Int)), (48, .int .i64 s48_73)]) (fun ⟨s48_73, n⟩ wr => Lcl w [.box b1 [.string ⟨(a0.1.1).toArray⟩, .int .i64 a0.1.2.1, .int .i64 a0.1.2.2.1, .string ⟨(a0.1.2.2.2).toArray⟩, v0_0] 96] wr ∧ Go.L.itr (shapes_entry_valid_bl2 a0 a1) n s48_73 = some r) (fun ⟨s48_73, n⟩ => n) ((0 : Int), n74) (.cons rfl (.cons rfl (.cons rfl (.cons rfl (.cons rfl (Sub.nil _)))))) ⟨hL3, h⟩ ?_
    rintro ⟨s48_73, nn74⟩ wr74 ⟨hL74, h⟩
    obtain ⟨n74, e74, rfl, h, hm74⟩ := Go.L.itr_some h
    refine W_pz 1 rfl ?_
    refine W_seq ?_
    refine W_if rfl (fun hc76 => ?_) (fun hc76 => ?_)
    ·replace h := Go.L.ite_p hc76 h
     refine W_skip ?_
     refine At_seq ?_
     refine W_seq ?_
     refine W_block ?_
     refine W_p 1 rfl ?_
     obtain ⟨hk79, h⟩ := Go.L.chk_some h
     refine S_index rfl rfl underlying52 zr3 h0_0 s48_73.toNat (Int.toNat_of_nonneg hk79.1).symm (idx_lt hk79) rfl ?_
     rintro p78 _ rfl hp78
     refine S_v (r_load1 rfl underlying3 rfl hp78 (hH.trans hL74.arg)) rfl ?_
     refine S_pz 2 rfl ?_
     refine W_p 3 rfl ?_
     refine S_or 3 2 rfl rfl rfl rfl rfl rfl ?_
     refine S_pu 1 rfl ?_
     refine S_split (s := 60) rfl (fun hg80 => ?_) (fun hg80 => ?_)
     ·replace h := Go.L.ite_p (of_decide_eq_true hg80) h
      iterate 3 refine S_unwanted rfl rfl hg80 rfl ?_
      iterate 8 refine S_unwanted2 rfl rfl rfl ?_
      refine S_unwanted rfl rfl hg80 rfl ?_
      refine S_v (r_pickT rfl hg80 rfl) rfl ?_
      refine S_seqnil ?_
      refine W_true rfl ?_
      refine W_pz 1 rfl ?_
      refine W_ret ?_
      refine At_block_ret ?_
      refine At_seq_ret ?_
      refine At_loop_ret ?_
      replace h := Go.L.Nxt.out h hm74
      refine At_block_ret ?_
      refine At_cut_ret ?_
      obtain rfl := Option.some.inj h
      refine At_body rfl rfl ?_
      exact ⟨hL74.ext, rfl⟩
     ·replace h := Go.L.ite_n (of_decide_eq_false hg80) h
      refine S_guarded rfl rfl hg80 ?_
      refine S_v (RunsAt_pu rfl) rfl ?_
      refine S_guarded rfl rfl hg80 ?_
      refine S_v (RunsAt_pu rfl) rfl ?_
      refine S_guarded rfl rfl hg80 ?_
      refine S_v (RunsAt_pu rfl) rfl ?_
      refine S_split (s := 63) rfl (fun hg83 => ?_) (fun hg83 => ?_)
      ·replace h := Go.L.ite_p (of_decide_eq_true hg83) h
       refine S_guarded rfl rfl hg83 ?_
       refine S_v (RunsAt_pu rfl) rfl ?_
       refine S_guarded rfl rfl hg83 ?_
       refine S_v (r_field rfl underlying96 rfl zr52 (by decide)) rfl ?_
       refine S_guarded rfl rfl hg83 ?_
       refine S_v (r_loadB1 0 rfl underlying52 rfl hL74 rfl rfl) rfl ?_
       refine S_guarded rfl rfl hg83 ?_
       refine S_v (RunsAt_pu rfl) rfl ?_
       refine S_guarded rfl rfl hg83 ?_
       obtain ⟨hk85, h⟩ := Go.L.chk_some h
       refine S_v (r_ar64 rfl rfl rfl hk85) rfl ?_
       refine S_guarded rfl rfl hg83 ?_
       obtain ⟨hk87, h⟩ := Go.L.chk_some h
       refine S_index rfl rfl underlying52 zr3 h0_0 ((s48_73 - (1 : Int)).toNat) (Int.toNat_of_nonneg hk87.1).symm (idx_lt hk87) rfl ?_
       rintro p86 _ rfl hp86
       refine S_guarded rfl rfl hg83 ?_
       refine S_v (r_load1 rfl underlying3 rfl hp86 (hH.trans hL74.arg)) rfl ?_
       refine S_guarded rfl rfl hg83 ?_
       refine S_v (RunsAt_pu rfl) rfl ?_
       refine S_guarded rfl rfl hg80 ?_
       refine S_v (r_pickT rfl hg83 rfl) rfl ?_
       refine S_v (r_pickF rfl hg80 rfl) rfl ?_
       refine S_seqnil ?_
       refine W_if rfl (fun hc88 => ?_) (fun hc88 => ?_)
       ·replace h := Go.L.ite_p hc88 h
        refine W_pz 1 rfl ?_
        refine W_ret ?_
        refine At_block_ret ?_
        refine At_seq_ret ?_
        refine At_loop_ret ?_
        replace h := Go.L.Nxt.out h hm74
        refine At_block_ret ?_
        refine At_cut_ret ?_
        obtain rfl := Option.some.inj h
        refine At_body rfl rfl ?_
        exact ⟨hL74.ext, rfl⟩
       ·replace h := Go.L.ite_n hc88 h
        refine W_skip ?_
        refine At_block ?_
        refine At_seq ?_
        refine W_region ?_
        obtain ⟨hk91, h⟩ := Go.L.chk_some h
        refine S_v (r_ar64 rfl rfl rfl hk91) rfl ?_
        refine S_pu 1 rfl ?_
        refine S_nil ?_
        have h := Go.L.Nxt.again h hm74
        refine At_round ((s48_73 + (1 : Int)), n74) (.cons rfl (.cons rfl (.cons rfl (.cons rfl (.cons rfl (Sub.nil _)))))) ⟨hL74, h⟩ (Nat.lt_succ_self _)
      ·replace h := Go.L.ite_n (of_decide_eq_false hg83) h
       iterate 8 refine S_unwanted rfl rfl hg83 rfl ?_
       refine S_guarded rfl rfl hg80 ?_
       refine S_v (r_pickF rfl hg83 rfl) rfl ?_
       refine S_v (r_pickF rfl hg80 rfl) rfl ?_
       refine S_seqnil ?_
       refine W_false rfl ?_
       refine W_skip ?_
       refine At_block ?_
       refine At_seq ?_
       refine W_region ?_
       obtain ⟨hk93, h⟩ := Go.L.chk_some h
       refine S_v (r_ar64 rfl rfl rfl hk93) rfl ?_
       refine S_pu 1 rfl ?_
       refine S_nil ?_
       have h := Go.L.Nxt.again h hm74
       refine At_round ((s48_73 + (1 : Int)), n74) (.cons rfl (.cons rfl (.cons rfl (.cons rfl (.cons rfl (Sub.nil _)))))) ⟨hL74, h⟩ (Nat.lt_succ_self _)
    ·replace h := Go.L.ite_n hc76 h
     refine W_exit ?_
     refine At_seq_exit ?_
     refine At_loop_exit ?_
     replace h := Go.L.Nxt.out h hm74
     refine At_exit ?_
     refine At_cut () (Sub.nil _) ⟨hL74, h⟩
   ·rintro _ wr51 ⟨hL51, h⟩
    refine W_pz 1 rfl ?_
    refine W_ret ?_
    obtain rfl := Option.some.inj h
    refine At_body rfl rfl ?_
    exact ⟨hL51.ext, rfl⟩
 ·replace h := Go.L.ite_f hc4 h
  refine W_seqr ?_
  refine S_v (r_field rfl underlying96 rfl zr84 (by decide)) rfl ?_
  refine S_v (r_field rfl underlying84 rfl zr3 (by decide)) rfl ?_
  refine S_v (r_loadB1 0 rfl underlying3 rfl hL3 rfl rfl) rfl ?_
  refine S_pz 2 rfl ?_
  refine W_if rfl (fun hc97 => ?_) (fun hc97 => ?_)
  ·replace h := Go.L.ite_p hc97 h
   refine W_skip ?_
   refine At_seq ?_
   refine W_if rfl (fun hc99 => ?_) (fun hc99 => ?_)
   ·replace h := Go.L.ite_p hc99 h
    refine W_pz 1 rfl ?_
    refine W_ret ?_
    refine At_block_ret ?_
    refine At_seq_ret ?_
    obtain rfl := Option.some.inj h
    refine At_body rfl rfl ?_
    exact ⟨hL3.ext, rfl⟩
   ·replace h := Go.L.ite_n hc99 h
    refine W_skip ?_
    refine At_block ?_
    refine At_seq ?_
    refine W_cut (σ := Unit) (fun (_ : Unit) => []) (fun (_ : Unit) wr => Lcl w [.box b1 [.string ⟨(a0.1.1).toArray⟩, .int .i64 a0.1.2.1, .int .i64 a0.1.2.2.1, .string ⟨(a0.1.2.2.2).toArray⟩, v0_0] 96] wr ∧ shapes_entry_valid_k3 = some r) ?_ ?_
    ·refine W_seqr ?_
     refine S_v (r_field rfl underlying96 rfl zr52 (by decide)) rfl ?_
     refine S_v (r_loadB1 0 rfl underlying52 rfl hL3 rfl rfl) rfl ?_
     refine S_v (r_len rfl underlying52 h0_0) rfl ?_
     refine S_pz 1 rfl ?_
     refine W_block ?_
     obtain ⟨n167, h⟩ := Go.L.run_some h
     refine W_loop (σ := Int × Nat) (fun ⟨s48_166, n⟩ => [(1, .int .i64 a1), (2, .pointer (some ⟨b1, 0, none⟩)), (46, v0_0), (47, .int .i64 (a0.2.length : Int)), (48, .int .i64 s48_166)]) (fun ⟨s48_166, n⟩ wr => Lcl w [.box b1 [.string ⟨(a0.1.1).toArray⟩, .int .i64 a0.1.2.1, .int .i64 a0.1.2.2.1, .string ⟨(a0.1.2.2.2).toArray⟩, v0_0] 96] wr ∧ Go.L.itr (shapes_entry_valid_bl4 a0 a1) n s48_166 = some r) (fun ⟨s48_166, n⟩ => n) ((0 : Int), n167) (.cons rfl (.cons rfl (.cons rfl (.cons rfl (.cons rfl (Sub.nil _)))))) ⟨hL3, h⟩ ?_
     rintro ⟨s48_166, nn167⟩ wr167 ⟨hL167, h⟩
     obtain ⟨n167, e167, rfl, h, hm167⟩ := Go.L.itr_some h
     refine W_pz 1 rfl ?_
     refine W_seq ?_
     refine W_if rfl (fun hc169 => ?_) (fun hc169 => ?_)
     ·replace h := Go.L.ite_p hc169 h
      refine W_skip ?_
      refine At_seq ?_
      refine W_seq ?_
      refine W_block ?_
      refine W_p 1 rfl ?_
      obtain ⟨hk172, h⟩ := Go.L.chk_some h
      refine S_index rfl rfl underlying52 zr3 h0_0 s48_166.toNat (Int.toNat_of_nonneg hk172.1).symm (idx_lt hk172) rfl ?_
      rintro p171 _ rfl hp171
      refine S_v (r_load1 rfl underlying3 rfl hp171 (hH.trans hL167.arg)) rfl ?_
      refine S_pz 2 rfl ?_
      refine W_p 3 rfl ?_
      refine S_or 3 2 rfl rfl rfl rfl rfl rfl ?_
      refine S_pu 1 rfl ?_
      refine S_split (s := 60) rfl (fun hg173 => ?_) (fun hg173 => ?_)
      ·replace h := Go.L.ite_p (of_decide_eq_true hg173) h
       iterate 3 refine S_unwanted rfl rfl hg173 rfl ?_
       iterate 8 refine S_unwanted2 rfl rfl rfl ?_
       refine S_unwanted rfl rfl hg173 rfl ?_
       refine S_v (r_pickT rfl hg173 rfl) rfl ?_
       refine S_seqnil ?_
       refine W_true rfl ?_
       refine W_pz 1 rfl ?_
       refine W_ret ?_
       refine At_block_ret ?_
       refine At_seq_ret ?_
       refine At_loop_ret ?_
       replace h := Go.L.Nxt.out h hm167
       refine At_block_ret ?_
       refine At_cut_ret ?_
       obtain rfl := Option.some.inj h
       refine At_body rfl rfl ?_
       exact ⟨hL167.ext, rfl⟩
      ·replace h := Go.L.ite_n (of_decide_eq_false hg173) h
       refine S_guarded rfl rfl hg173 ?_
       refine S_v (RunsAt_pu rfl) rfl ?_
       refine S_guarded rfl rfl hg173 ?_
       refine S_v (RunsAt_pu rfl) rfl ?_
       refine S_guarded rfl rfl hg173 ?_
       refine S_v (RunsAt_pu rfl) rfl ?_
       refine S_split (s := 63) rfl (fun hg176 => ?_) (fun hg176 => ?_)
       ·replace h := Go.L.ite_p (of_decide_eq_true hg176) h
        refine S_guarded rfl rfl hg176 ?_
        refine S_v (RunsAt_pu rfl) rfl ?_
        refine S_guarded rfl rfl hg176 ?_
        refine S_v (r_field rfl underlying96 rfl zr52 (by decide)) rfl ?_
        refine S_guarded rfl rfl hg176 ?_
        refine S_v (r_loadB1 0 rfl underlying52 rfl hL167 rfl rfl) rfl ?_
        refine S_guarded rfl rfl hg176 ?_
        refine S_v (RunsAt_pu rfl) rfl ?_
        refine S_guarded rfl rfl hg176 ?_
        obtain ⟨hk178, h⟩ := Go.L.chk_some h
        refine S_v (r_ar64 rfl rfl rfl hk178) rfl ?_
        refine S_guarded rfl rfl hg176 ?_
        obtain ⟨hk180, h⟩ := Go.L.chk_some h
        refine S_index rfl rfl underlying52 zr3 h0_0 ((s48_166 - (1 : Int)).toNat) (Int.toNat_of_nonneg hk180.1).symm (idx_lt hk180) rfl ?_
        rintro p179 _ rfl hp179
        refine S_guarded rfl rfl hg176 ?_
        refine S_v (r_load1 rfl underlying3 rfl hp179 (hH.trans hL167.arg)) rfl ?_
        refine S_guarded rfl rfl hg176 ?_
        refine S_v (RunsAt_pu rfl) rfl ?_
        refine S_guarded rfl rfl hg173 ?_
        refine S_v (r_pickT rfl hg176 rfl) rfl ?_
        refine S_v (r_pickF rfl hg173 rfl) rfl ?_
        refine S_seqnil ?_
        refine W_if rfl (fun hc181 => ?_) (fun hc181 => ?_)
        ·replace h := Go.L.ite_p hc181 h
         refine W_pz 1 rfl ?_
         refine W_ret ?_
         refine At_block_ret ?_
         refine At_seq_ret ?_
         refine At_loop_ret ?_
         replace h := Go.L.Nxt.out h hm167
         refine At_block_ret ?_
         refine At_cut_ret ?_
         obtain rfl := Option.some.inj h
         refine At_body rfl rfl ?_
         exact ⟨hL167.ext, rfl⟩
        ·replace h := Go.L.ite_n hc181 h
         refine W_skip ?_
         refine At_block ?_
         refine At_seq ?_
         refine W_region ?_
         obtain ⟨hk184, h⟩ := Go.L.chk_some h
         refine S_v (r_ar64 rfl rfl rfl hk184) rfl ?_
         refine S_pu 1 rfl ?_
         refine S_nil ?_
         have h := Go.L.Nxt.again h hm167
         refine At_round ((s48_166 + (1 : Int)), n167) (.cons rfl (.cons rfl (.cons rfl (.cons rfl (.cons rfl (Sub.nil _)))))) ⟨hL167, h⟩ (Nat.lt_succ_self _)
       ·replace h := Go.L.ite_n (of_decide_eq_false hg176) h
        iterate 8 refine S_unwanted rfl rfl hg176 rfl ?_
        refine S_guarded rfl rfl hg173 ?_
        refine S_v (r_pickF rfl hg176 rfl) rfl ?_
        refine S_v (r_pickF rfl hg173 rfl) rfl ?_
        refine S_seqnil ?_
        refine W_false rfl ?_
        refine W_skip ?_
        refine At_block ?_
        refine At_seq ?_
        refine W_region ?_
        obtain ⟨hk186, h⟩ := Go.L.chk_some h
        refine S_v (r_ar64 rfl rfl rfl hk186) rfl ?_
        refine S_pu 1 rfl ?_
        refine S_nil ?_
        have h := Go.L.Nxt.again h hm167
        refine At_round ((s48_166 + (1 : Int)), n167) (.cons rfl (.cons rfl (.cons rfl (.cons rfl (.cons rfl (Sub.nil _)))))) ⟨hL167, h⟩ (Nat.lt_succ_self _)
     ·replace h := Go.L.ite_n hc169 h
      refine W_exit ?_
      refine At_seq_exit ?_
      refine At_loop_exit ?_
      replace h := Go.L.Nxt.out h hm167
      refine At_exit ?_
      refine At_cut () (Sub.nil _) ⟨hL167, h⟩
    ·rintro _ wr144 ⟨hL144, h⟩
     refine W_pz 1 rfl ?_
     refine W_ret ?_
     obtain rfl := Option.some.inj h
     refine At_body rfl rfl ?_
     exact ⟨hL144.ext, rfl⟩
  ·replace h := Go.L.ite_n hc97 h
   refine W_seqr ?_
   refine S_v (r_field rfl underlying96 rfl zr84 (by decide)) rfl ?_
   refine S_v (r_field rfl underlying84 rfl zr3 (by decide)) rfl ?_
   refine S_v (r_loadB1 0 rfl underlying3 rfl hL3 rfl rfl) rfl ?_
   refine S_pz 2 rfl ?_
   refine W_if rfl (fun hc190 => ?_) (fun hc190 => ?_)
   ·replace h := Go.L.ite_p hc190 h
    refine W_skip ?_
    refine At_seq ?_
    refine W_if rfl (fun hc192 => ?_) (fun hc192 => ?_)
    ·replace h := Go.L.ite_p hc192 h
     refine W_pz 1 rfl ?_
     refine W_ret ?_
     refine At_block_ret ?_
     refine At_seq_ret ?_
     obtain rfl := Option.some.inj h
     refine At_body rfl rfl ?_
     exact ⟨hL3.ext, rfl⟩
    ·replace h := Go.L.ite_n hc192 h
     refine W_skip ?_
     refine At_block ?_
     refine At_seq ?_
     refine W_cut (σ := Unit) (fun (_ : Unit) => []) (fun (_ : Unit) wr => Lcl w [.box b1 [.string ⟨(a0.1.1).toArray⟩, .int .i64 a0.1.2.1, .int .i64 a0.1.2.2.1, .string ⟨(a0.1.2.2.2).toArray⟩, v0_0] 96] wr ∧ shapes_entry_valid_k5 = some r) ?_ ?_
     ·refine W_seqr ?_
      refine S_v (r_field rfl underlying96 rfl zr52 (by decide)) rfl ?_
      refine S_v (r_loadB1 0 rfl underlying52 rfl hL3 rfl rfl) rfl ?_
      refine S_v (r_len rfl underlying52 h0_0) rfl ?_
      refine S_pz 1 rfl ?_
      refine W_block ?_
      obtain ⟨n260, h⟩ := Go.L.run_some h
      refine W_loop (σ := Int × Nat) (fun ⟨s48_259, n⟩ => [(1, .int .i64 a1), (2, .pointer (some ⟨b1, 0, none⟩)), (46, v0_0), (47, .int .i64 (a0.2.length : Int)), (48, .int .i64 s48_259)]) (fun ⟨s48_259, n⟩ wr => Lcl w [.box b1 [.string ⟨(a0.1.1).toArray⟩, .int .i64 a0.1.2.1, .int .i64 a0.1.2.2.1, .string ⟨(a0.1.2.2.2).toArray⟩, v0_0] 96] wr ∧ Go.L.itr (shapes_entry_valid_bl6 a0 a1) n s48_259 = some r) (fun ⟨s48_259, n⟩ => n) ((0 : Int), n260) (.cons rfl (.cons rfl (.cons rfl (.cons rfl (.cons rfl (Sub.nil _)))))) ⟨hL3, h⟩ ?_
      rintro ⟨s48_259, nn260⟩ wr260 ⟨hL260, h⟩
      obtain ⟨n260, e260, rfl, h, hm260⟩ := Go.L.itr_some h
      refine W_pz 1 rfl ?_
      refine W_seq ?_
      refine W_if rfl (fun hc262 => ?_) (fun hc262 => ?_)
      ·replace h := Go.L.ite_p hc262 h
       refine W_skip ?_
       refine At_seq ?_
       refine W_seq ?_
       refine W_block ?_
       refine W_p 1 rfl ?_
       obtain ⟨hk265, h⟩ := Go.L.chk_some h
       refine S_index rfl rfl underlying52 zr3 h0_0 s48_259.toNat (Int.toNat_of_nonneg hk265.1).symm (idx_lt hk265) rfl ?_
       rintro p264 _ rfl hp264
       refine S_v (r_load1 rfl underlying3 rfl hp264 (hH.trans hL260.arg)) rfl ?_
       refine S_pz 2 rfl ?_
       refine W_p 3 rfl ?_
       refine S_or 3 2 rfl rfl rfl rfl rfl rfl ?_
       refine S_pu 1 rfl ?_
       refine S_split (s := 60) rfl (fun hg266 => ?_) (fun hg266 => ?_)
       ·replace h := Go.L.ite_p (of_decide_eq_true hg266) h
        iterate 3 refine S_unwanted rfl rfl hg266 rfl ?_
        iterate 8 refine S_unwanted2 rfl rfl rfl ?_
        refine S_unwanted rfl rfl hg266 rfl ?_
        refine S_v (r_pickT rfl hg266 rfl) rfl ?_
        refine S_seqnil ?_
        refine W_true rfl ?_
        refine W_pz 1 rfl ?_
        refine W_ret ?_
        refine At_block_ret ?_
        refine At_seq_ret ?_
        refine At_loop_ret ?_
        replace h := Go.L.Nxt.out h hm260
        refine At_block_ret ?_
        refine At_cut_ret ?_
        obtain rfl := Option.some.inj h
        refine At_body rfl rfl ?_
        exact ⟨hL260.ext, rfl⟩
       ·replace h := Go.L.ite_n (of_decide_eq_false hg266) h
        refine S_guarded rfl rfl hg266 ?_
        refine S_v (RunsAt_pu rfl) rfl ?_
        refine S_guarded rfl rfl hg266 ?_
        refine S_v (RunsAt_pu rfl) rfl ?_
        refine S_guarded rfl rfl hg266 ?_
        refine S_v (RunsAt_pu rfl) rfl ?_
        refine S_split (s := 63) rfl (fun hg269 => ?_) (fun hg269 => ?_)
        ·replace h := Go.L.ite_p (of_decide_eq_true hg269) h
         refine S_guarded rfl rfl hg269 ?_
         refine S_v (RunsAt_pu rfl) rfl ?_
         refine S_guarded rfl rfl hg269 ?_
         refine S_v (r_field rfl underlying96 rfl zr52 (by decide)) rfl ?_
         refine S_guarded rfl rfl hg269 ?_
         refine S_v (r_loadB1 0 rfl underlying52 rfl hL260 rfl rfl) rfl ?_
         refine S_guarded rfl rfl hg269 ?_
         refine S_v (RunsAt_pu rfl) rfl ?_
         refine S_guarded rfl rfl hg269 ?_
         obtain ⟨hk271, h⟩ := Go.L.chk_some h
         refine S_v (r_ar64 rfl rfl rfl hk271) rfl ?_
         refine S_guarded rfl rfl hg269 ?_
         obtain ⟨hk273, h⟩ := Go.L.chk_some h
         refine S_index rfl rfl underlying52 zr3 h0_0 ((s48_259 - (1 : Int)).toNat) (Int.toNat_of_nonneg hk273.1).symm (idx_lt hk273) rfl ?_
         rintro p272 _ rfl hp272
         refine S_guarded rfl rfl hg269 ?_
         refine S_v (r_load1 rfl underlying3 rfl hp272 (hH.trans hL260.arg)) rfl ?_
         refine S_guarded rfl rfl hg269 ?_
         refine S_v (RunsAt_pu rfl) rfl ?_
         refine S_guarded rfl rfl hg266 ?_
         refine S_v (r_pickT rfl hg269 rfl) rfl ?_
         refine S_v (r_pickF rfl hg266 rfl) rfl ?_
         refine S_seqnil ?_
         refine W_if rfl (fun hc274 => ?_) (fun hc274 => ?_)
         ·replace h := Go.L.ite_p hc274 h
          refine W_pz 1 rfl ?_
          refine W_ret ?_
          refine At_block_ret ?_
          refine At_seq_ret ?_
          refine At_loop_ret ?_
          replace h := Go.L.Nxt.out h hm260
          refine At_block_ret ?_
          refine At_cut_ret ?_
          obtain rfl := Option.some.inj h
          refine At_body rfl rfl ?_
          exact ⟨hL260.ext, rfl⟩
         ·replace h := Go.L.ite_n hc274 h
          refine W_skip ?_
          refine At_block ?_
          refine At_seq ?_
          refine W_region ?_
          obtain ⟨hk277, h⟩ := Go.L.chk_some h
          refine S_v (r_ar64 rfl rfl rfl hk277) rfl ?_
          refine S_pu 1 rfl ?_
          refine S_nil ?_
          have h := Go.L.Nxt.again h hm260
          refine At_round ((s48_259 + (1 : Int)), n260) (.cons rfl (.cons rfl (.cons rfl (.cons rfl (.cons rfl (Sub.nil _)))))) ⟨hL260, h⟩ (Nat.lt_succ_self _)
        ·replace h := Go.L.ite_n (of_decide_eq_false hg269) h
         iterate 8 refine S_unwanted rfl rfl hg269 rfl ?_
         refine S_guarded rfl rfl hg266 ?_
         refine S_v (r_pickF rfl hg269 rfl) rfl ?_
         refine S_v (r_pickF rfl hg266 rfl) rfl ?_
         refine S_seqnil ?_
         refine W_false rfl ?_
         refine W_skip ?_
         refine At_block ?_
         refine At_seq ?_
         refine W_region ?_
         obtain ⟨hk279, h⟩ := Go.L.chk_some h
         refine S_v (r_ar64 rfl rfl rfl hk279) rfl ?_
         refine S_pu 1 rfl ?_
         refine S_nil ?_
         have h := Go.L.Nxt.again h hm260
         refine At_round ((s48_259 + (1 : Int)), n260) (.cons rfl (.cons rfl (.cons rfl (.cons rfl (.cons rfl (Sub.nil _)))))) ⟨hL260, h⟩ (Nat.lt_succ_self _)
      ·replace h := Go.L.ite_n hc262 h
       refine W_exit ?_
       refine At_seq_exit ?_
       refine At_loop_exit ?_
       replace h := Go.L.Nxt.out h hm260
       refine At_exit ?_
       refine At_cut () (Sub.nil _) ⟨hL260, h⟩
     ·rintro _ wr237 ⟨hL237, h⟩
      refine W_pz 1 rfl ?_
      refine W_ret ?_
      obtain rfl := Option.some.inj h
      refine At_body rfl rfl ?_
      exact ⟨hL237.ext, rfl⟩
   ·replace h := Go.L.ite_n hc190 h
    refine W_seqr ?_
    refine S_v (r_field rfl underlying96 rfl zr84 (by decide)) rfl ?_
    refine S_v (r_field rfl underlying84 rfl zr3 (by decide)) rfl ?_
    refine S_v (r_loadB1 0 rfl underlying3 rfl hL3 rfl rfl) rfl ?_
    refine S_pu 2 rfl ?_
    refine S_split (s := 25) rfl (fun hg283 => ?_) (fun hg283 => ?_)
    ·replace h := Go.L.ite_n (not_dec_t hg283) h
     refine S_guarded rfl rfl hg283 ?_
     refine S_v (r_field rfl underlying96 rfl zr84 (by decide)) rfl ?_
     refine S_guarded rfl rfl hg283 ?_
     refine S_v (r_field rfl underlying84 rfl zr3 (by decide)) rfl ?_
     refine S_guarded rfl rfl hg283 ?_
     refine S_v (r_loadB1 0 rfl underlying3 rfl hL3 rfl rfl) rfl ?_
     refine S_guarded rfl rfl hg283 ?_
     refine S_v (RunsAt_pu rfl) rfl ?_
     refine S_v (r_pickT rfl hg283 rfl) rfl ?_
     refine S_pz 1 rfl ?_
     refine W_ifn rfl (fun hc285 => ?_) (fun hc285 => ?_)
     ·replace h := Go.L.ite_n hc285 h
      refine W_skip ?_
      refine At_seq ?_
      refine W_ifn rfl (fun hc287 => ?_) (fun hc287 => ?_)
      ·replace h := Go.L.ite_n hc287 h
       refine W_pz 1 rfl ?_
       refine W_ret ?_
       refine At_block_ret ?_
       refine At_seq_ret ?_
       obtain rfl := Option.some.inj h
       refine At_body rfl rfl ?_
       exact ⟨hL3.ext, rfl⟩
      ·replace h := Go.L.ite_p hc287 h
       refine W_skip ?_
       refine At_block ?_
       refine At_seq ?_
       refine W_cut (σ := Unit) (fun (_ : Unit) => []) (fun (_ : Unit) wr => Lcl w [.box b1 [.string ⟨(a0.1.1).toArray⟩, .int .i64 a0.1.2.1, .int .i64 a0.1.2.2.1, .string ⟨(a0.1.2.2.2).toArray⟩, v0_0] 96] wr ∧ shapes_entry_valid_k7 = some r) ?_ ?_
       ·refine W_seqr ?_
        refine S_v (r_field rfl underlying96 rfl zr52 (by decide)) rfl ?_
        refine S_v (r_loadB1 0 rfl underlying52 rfl hL3 rfl rfl) rfl ?_
        refine S_v (r_len rfl underlying52 h0_0) rfl ?_
        refine S_pz 1 rfl ?_
        refine W_block ?_
        obtain ⟨n355, h⟩ := Go.L.run_some h
        refine W_loop (σ := Int × Nat) (fun ⟨s48_354, n⟩ => [(1, .int .i64 a1), (2, .pointer (some ⟨b1, 0, none⟩)), (46, v0_0), (47, .int .i64 (a0.2.length : Int)), (48, .int .i64 s48_354)]) (fun ⟨s48_354, n⟩ wr => Lcl w [.box b1 [.string ⟨(a0.1.1).toArray⟩, .int .i64 a0.1.2.1, .int .i64 a0.1.2.2.1, .string ⟨(a0.1.2.2.2).toArray⟩, v0_0] 96] wr ∧ Go.L.itr (shapes_entry_valid_bl8 a0 a1) n s48_354 = some r) (fun ⟨s48_354, n⟩ => n) ((0 : Int), n355) (.cons rfl (.cons rfl (.cons rfl (.cons rfl (.cons rfl (Sub.nil _)))))) ⟨hL3, h⟩ ?_
        rintro ⟨s48_354, nn355⟩ wr355 ⟨hL355, h⟩
        obtain ⟨n355, e355, rfl, h, hm355⟩ := Go.L.itr_some h
        refine W_pz 1 rfl ?_
        refine W_seq ?_
        refine W_if rfl (fun hc357 => ?_) (fun hc357 => ?_)
        ·replace h := Go.L.ite_p hc357 h
         refine W_skip ?_
         refine At_seq ?_
         refine W_seq ?_
         refine W_block ?_
         refine W_p 1 rfl ?_
         obtain ⟨hk360, h⟩ := Go.L.chk_some h
         refine S_index rfl rfl underlying52 zr3 h0_0 s48_354.toNat (Int.toNat_of_nonneg hk360.1).symm (idx_lt hk360) rfl ?_
         rintro p359 _ rfl hp359
         refine S_v (r_load1 rfl underlying3 rfl hp359 (hH.trans hL355.arg)) rfl ?_
         refine S_pz 2 rfl ?_
         refine W_p 3 rfl ?_
         refine S_or 3 2 rfl rfl rfl rfl rfl rfl ?_
         refine S_pu 1 rfl ?_
         refine S_split (s := 60) rfl (fun hg361 => ?_) (fun hg361 => ?_)
         ·replace h := Go.L.ite_p (of_decide_eq_true hg361) h
          iterate 3 refine S_unwanted rfl rfl hg361 rfl ?_
          iterate 8 refine S_unwanted2 rfl rfl rfl ?_
          refine S_unwanted rfl rfl hg361 rfl ?_
          refine S_v (r_pickT rfl hg361 rfl) rfl ?_
          refine S_seqnil ?_
          refine W_true rfl ?_
          refine W_pz 1 rfl ?_
          refine W_ret ?_
          refine At_block_ret ?_
          refine At_seq_ret ?_
          refine At_loop_ret ?_
          replace h := Go.L.Nxt.out h hm355
          refine At_block_ret ?_
          refine At_cut_ret ?_
          obtain rfl := Option.some.inj h
          refine At_body rfl rfl ?_
          exact ⟨hL355.ext, rfl⟩
         ·replace h := Go.L.ite_n (of_decide_eq_false hg361) h
          refine S_guarded rfl rfl hg361 ?_
          refine S_v (RunsAt_pu rfl) rfl ?_
          refine S_guarded rfl rfl hg361 ?_
          refine S_v (RunsAt_pu rfl) rfl ?_
          refine S_guarded rfl rfl hg361 ?_
          refine S_v (RunsAt_pu rfl) rfl ?_
          refine S_split (s := 63) rfl (fun hg364 => ?_) (fun hg364 => ?_)
          ·replace h := Go.L.ite_p (of_decide_eq_true hg364) h
           refine S_guarded rfl rfl hg364 ?_
           refine S_v (RunsAt_pu rfl) rfl ?_
           refine S_guarded rfl rfl hg364 ?_
           refine S_v (r_field rfl underlying96 rfl zr52 (by decide)) rfl ?_
           refine S_guarded rfl rfl hg364 ?_
           refine S_v (r_loadB1 0 rfl underlying52 rfl hL355 rfl rfl) rfl ?_
           refine S_guarded rfl rfl hg364 ?_
           refine S_v (RunsAt_pu rfl) rfl ?_
           refine S_guarded rfl rfl hg364 ?_
           obtain ⟨hk366, h⟩ := Go.L.chk_some h
           refine S_v (r_ar64 rfl rfl rfl hk366) rfl ?_
           refine S_guarded rfl rfl hg364 ?_
           obtain ⟨hk368, h⟩ := Go.L.chk_some h
           refine S_index rfl rfl underlying52 zr3 h0_0 ((s48_354 - (1 : Int)).toNat) (Int.toNat_of_nonneg hk368.1).symm (idx_lt hk368) rfl ?_
           rintro p367 _ rfl hp367
           refine S_guarded rfl rfl hg364 ?_
           refine S_v (r_load1 rfl underlying3 rfl hp367 (hH.trans hL355.arg)) rfl ?_
           refine S_guarded rfl rfl hg364 ?_
           refine S_v (RunsAt_pu rfl) rfl ?_
           refine S_guarded rfl rfl hg361 ?_
           refine S_v (r_pickT rfl hg364 rfl) rfl ?_
           refine S_v (r_pickF rfl hg361 rfl) rfl ?_
           refine S_seqnil ?_
           refine W_if rfl (fun hc369 => ?_) (fun hc369 => ?_)
           ·replace h := Go.L.ite_p hc369 h
            refine W_pz 1 rfl ?_
            refine W_ret ?_
            refine At_block_ret ?_
            refine At_seq_ret ?_
            refine At_loop_ret ?_
            replace h := Go.L.Nxt.out h hm355
            refine At_block_ret ?_
            refine At_cut_ret ?_
            obtain rfl := Option.some.inj h
            refine At_body rfl rfl ?_
            exact ⟨hL355.ext, rfl⟩
           ·replace h := Go.L.ite_n hc369 h
            refine W_skip ?_
            refine At_block ?_
            refine At_seq ?_
            refine W_region ?_
            obtain ⟨hk372, h⟩ := Go.L.chk_some h
            refine S_v (r_ar64 rfl rfl rfl hk372) rfl ?_
            refine S_pu 1 rfl ?_
            refine S_nil ?_
            have h := Go.L.Nxt.again h hm355
            refine At_round ((s48_354 + (1 : Int)), n355) (.cons rfl (.cons rfl (.cons rfl (.cons rfl (.cons rfl (Sub.nil _)))))) ⟨hL355, h⟩ (Nat.lt_succ_self _)
          ·replace h := Go.L.ite_n (of_decide_eq_false hg364) h
           iterate 8 refine S_unwanted rfl rfl hg364 rfl ?_
           refine S_guarded rfl rfl hg361 ?_
           refine S_v (r_pickF rfl hg364 rfl) rfl ?_
           refine S_v (r_pickF rfl hg361 rfl) rfl ?_
           refine S_seqnil ?_
           refine W_false rfl ?_
           refine W_skip ?_
           refine At_block ?_
           refine At_seq ?_
           refine W_region ?_
           obtain ⟨hk374, h⟩ := Go.L.chk_some h
           refine S_v (r_ar64 rfl rfl rfl hk374) rfl ?_
           refine S_pu 1 rfl ?_
           refine S_nil ?_
           have h := Go.L.Nxt.again h hm355
           refine At_round ((s48_354 + (1 : Int)), n355) (.cons rfl (.cons rfl (.cons rfl (.cons rfl (.cons rfl (Sub.nil _)))))) ⟨hL355, h⟩ (Nat.lt_succ_self _)
        ·replace h := Go.L.ite_n hc357 h
         refine W_exit ?_
         refine At_seq_exit ?_
         refine At_loop_exit ?_
         replace h := Go.L.Nxt.out h hm355
         refine At_exit ?_
         refine At_cut () (Sub.nil _) ⟨hL355, h⟩
       ·rintro _ wr332 ⟨hL332, h⟩
        refine W_pz 1 rfl ?_
        refine W_ret ?_
        obtain rfl := Option.some.inj h
        refine At_body rfl rfl ?_
        exact ⟨hL332.ext, rfl⟩
     ·replace h := Go.L.ite_p hc285 h
      refine W_seqr ?_
      refine S_v (r_field rfl underlying96 rfl zr84 (by decide)) rfl ?_
      refine S_v (r_field rfl underlying84 rfl zr9 (by decide)) rfl ?_
      refine S_v (r_loadB1 0 rfl underlying9 rfl hL3 rfl rfl) rfl ?_
      refine S_v (r_sne rfl rfl) rfl ?_
      refine S_pu 1 rfl ?_
      refine S_split (s := 35) rfl (fun hg378 => ?_) (fun hg378 => ?_)
      ·replace h := Go.L.ite_n (not_dec_t hg378) h
       refine S_guarded rfl rfl hg378 ?_
       refine S_v (r_field rfl underlying96 rfl zr84 (by decide)) rfl ?_
       refine S_guarded rfl rfl hg378 ?_
       refine S_v (r_field rfl underlying84 rfl zr3 (by decide)) rfl ?_
       refine S_guarded rfl rfl hg378 ?_
       refine S_v (r_loadB1 0 rfl underlying3 rfl hL3 rfl rfl) rfl ?_
       refine S_guarded rfl rfl hg378 ?_
       refine S_v (RunsAt_pu rfl) rfl ?_
       refine S_v (r_pickT rfl hg378 rfl) rfl ?_
       refine S_pz 1 rfl ?_
       refine W_ifn rfl (fun hc380 => ?_) (fun hc380 => ?_)
       ·replace h := Go.L.ite_n hc380 h
        refine W_skip ?_
        refine At_seq ?_
        refine W_ifn rfl (fun hc382 => ?_) (fun hc382 => ?_)
        ·replace h := Go.L.ite_n hc382 h
         refine W_pz 1 rfl ?_
         refine W_ret ?_
         refine At_block_ret ?_
         refine At_seq_ret ?_
         obtain rfl := Option.some.inj h
         refine At_body rfl rfl ?_
         exact ⟨hL3.ext, rfl⟩
        ·replace h := Go.L.ite_p hc382 h
         refine W_skip ?_
         refine At_block ?_
         refine At_seq ?_
         refine W_cut (σ := Unit) (fun (_ : Unit) => []) (fun (_ : Unit) wr => Lcl w [.box b1 [.string ⟨(a0.1.1).toArray⟩, .int .i64 a0.1.2.1, .int .i64 a0.1.2.2.1, .string ⟨(a0.1.2.2.2).toArray⟩, v0_0] 96] wr ∧ shapes_entry_valid_k9 = some r) ?_ ?_
         ·refine W_seqr ?_
          refine S_v (r_field rfl underlying96 rfl zr52 (by decide)) rfl ?_
          refine S_v (r_loadB1 0 rfl underlying52 rfl hL3 rfl rfl) rfl ?_
          refine S_v (r_len rfl underlying52 h0_0) rfl ?_
          refine S_pz 1 rfl ?_
          refine W_block ?_
          obtain ⟨n450, h⟩ := Go.L.run_some h
          refine W_loop (σ := Int × Nat) (fun ⟨s48_449, n⟩ => [(1, .int .i64 a1), (2, .pointer (some ⟨b1, 0, none⟩)), (46, v0_0), (47, .int .i64 (a0.2.length : Int)), (48, .int .i64 s48_449)]) (fun ⟨s48_449, n⟩ wr => Lcl w [.box b1 [.string ⟨(a0.1.1).toArray⟩, .int .i64 a0.1.2.1, .int .i64 a0.1.2.2.1, .string ⟨(a0.1.2.2.2).toArray⟩, v0_0] 96] wr ∧ Go.L.itr (shapes_entry_valid_bl10 a0 a1) n s48_449 = some r) (fun ⟨s48_449, n⟩ => n) ((0 : Int), n450) (.cons rfl (.cons rfl (.cons rfl (.cons rfl (.cons rfl (Sub.nil _)))))) ⟨hL3, h⟩ ?_
          rintro ⟨s48_449, nn450⟩ wr450 ⟨hL450, h⟩
          obtain ⟨n450, e450, rfl, h, hm450⟩ := Go.L.itr_some h
          refine W_pz 1 rfl ?_
          refine W_seq ?_
          refine W_if rfl (fun hc452 => ?_) (fun hc452 => ?_)
          ·replace h := Go.L.ite_p hc452 h
           refine W_skip ?_
           refine At_seq ?_
           refine W_seq ?_
           refine W_block ?_
           refine W_p 1 rfl ?_
           obtain ⟨hk455, h⟩ := Go.L.chk_some h
           refine S_index rfl rfl underlying52 zr3 h0_0 s48_449.toNat (Int.toNat_of_nonneg hk455.1).symm (idx_lt hk455) rfl ?_
           rintro p454 _ rfl hp454
           refine S_v (r_load1 rfl underlying3 rfl hp454 (hH.trans hL450.arg)) rfl ?_
           refine S_pz 2 rfl ?_
           refine W_p 3 rfl ?_
           refine S_or 3 2 rfl rfl rfl rfl rfl rfl ?_
           refine S_pu 1 rfl ?_
           refine S_split (s := 60) rfl (fun hg456 => ?_) (fun hg456 => ?_)
           ·replace h := Go.L.ite_p (of_decide_eq_true hg456) h
            iterate 3 refine S_unwanted rfl rfl hg456 rfl ?_
            iterate 8 refine S_unwanted2 rfl rfl rfl ?_
            refine S_unwanted rfl rfl hg456 rfl ?_
            refine S_v (r_pickT rfl hg456 rfl) rfl ?_
            refine S_seqnil ?_
            refine W_true rfl ?_
            refine W_pz 1 rfl ?_
            refine W_ret ?_
            refine At_block_ret ?_
            refine At_seq_ret ?_
            refine At_loop_ret ?_
            replace h := Go.L.Nxt.out h hm450
            refine At_block_ret ?_
            refine At_cut_ret ?_
            obtain rfl := Option.some.inj h
            refine At_body rfl rfl ?_
            exact ⟨hL450.ext, rfl⟩
           ·replace h := Go.L.ite_n (of_decide_eq_false hg456) h
            refine S_guarded rfl rfl hg456 ?_
            refine S_v (RunsAt_pu rfl) rfl ?_
            refine S_guarded rfl rfl hg456 ?_
            refine S_v (RunsAt_pu rfl) rfl ?_
            refine S_guarded rfl rfl hg456 ?_
            refine S_v (RunsAt_pu rfl) rfl ?_
            refine S_split (s := 63) rfl (fun hg459 => ?_) (fun hg459 => ?_)
            ·replace h := Go.L.ite_p (of_decide_eq_true hg459) h
             refine S_guarded rfl rfl hg459 ?_
             refine S_v (RunsAt_pu rfl) rfl ?_
             refine S_guarded rfl rfl hg459 ?_
             refine S_v (r_field rfl underlying96 rfl zr52 (by decide)) rfl ?_
             refine S_guarded rfl rfl hg459 ?_
             refine S_v (r_loadB1 0 rfl underlying52 rfl hL450 rfl rfl) rfl ?_
             refine S_guarded rfl rfl hg459 ?_
             refine S_v (RunsAt_pu rfl) rfl ?_
             refine S_guarded rfl rfl hg459 ?_
             obtain ⟨hk461, h⟩ := Go.L.chk_some h
             refine S_v (r_ar64 rfl rfl rfl hk461) rfl ?_
             refine S_guarded rfl rfl hg459 ?_
             obtain ⟨hk463, h⟩ := Go.L.chk_some h
             refine S_index rfl rfl underlying52 zr3 h0_0 ((s48_449 - (1 : Int)).toNat) (Int.toNat_of_nonneg hk463.1).symm (idx_lt hk463) rfl ?_
             rintro p462 _ rfl hp462
             refine S_guarded rfl rfl hg459 ?_
             refine S_v (r_load1 rfl underlying3 rfl hp462 (hH.trans hL450.arg)) rfl ?_
             refine S_guarded rfl rfl hg459 ?_
             refine S_v (RunsAt_pu rfl) rfl ?_
             refine S_guarded rfl rfl hg456 ?_
             refine S_v (r_pickT rfl hg459 rfl) rfl ?_
             refine S_v (r_pickF rfl hg456 rfl) rfl ?_
             refine S_seqnil ?_
             refine W_if rfl (fun hc464 => ?_) (fun hc464 => ?_)
             ·replace h := Go.L.ite_p hc464 h
              refine W_pz 1 rfl ?_
              refine W_ret ?_
              refine At_block_ret ?_
              refine At_seq_ret ?_
              refine At_loop_ret ?_
              replace h := Go.L.Nxt.out h hm450
              refine At_block_ret ?_
              refine At_cut_ret ?_
              obtain rfl := Option.some.inj h
              refine At_body rfl rfl ?_
              exact ⟨hL450.ext, rfl⟩
             ·replace h := Go.L.ite_n hc464 h
              refine W_skip ?_
              refine At_block ?_
              refine At_seq ?_
              refine W_region ?_
              obtain ⟨hk467, h⟩ := Go.L.chk_some h
              refine S_v (r_ar64 rfl rfl rfl hk467) rfl ?_
              refine S_pu 1 rfl ?_
              refine S_nil ?_
              have h := Go.L.Nxt.again h hm450
              refine At_round ((s48_449 + (1 : Int)), n450) (.cons rfl (.cons rfl (.cons rfl (.cons rfl (.cons rfl (Sub.nil _)))))) ⟨hL450, h⟩ (Nat.lt_succ_self _)
            ·replace h := Go.L.ite_n (of_decide_eq_false hg459) h
             iterate 8 refine S_unwanted rfl rfl hg459 rfl ?_
             refine S_guarded rfl rfl hg456 ?_
             refine S_v (r_pickF rfl hg459 rfl) rfl ?_
             refine S_v (r_pickF rfl hg456 rfl) rfl ?_
             refine S_seqnil ?_
             refine W_false rfl ?_
             refine W_skip ?_
             refine At_block ?_
             refine At_seq ?_
             refine W_region ?_
             obtain ⟨hk469, h⟩ := Go.L.chk_some h
             refine S_v (r_ar64 rfl rfl rfl hk469) rfl ?_
             refine S_pu 1 rfl ?_
             refine S_nil ?_
             have h := Go.L.Nxt.again h hm450
             refine At_round ((s48_449 + (1 : Int)), n450) (.cons rfl (.cons rfl (.cons rfl (.cons rfl (.cons rfl (Sub.nil _)))))) ⟨hL450, h⟩ (Nat.lt_succ_self _)
          ·replace h := Go.L.ite_n hc452 h
           refine W_exit ?_
           refine At_seq_exit ?_
           refine At_loop_exit ?_
           replace h := Go.L.Nxt.out h hm450
           refine At_exit ?_
           refine At_cut () (Sub.nil _) ⟨hL450, h⟩
         ·rintro _ wr427 ⟨hL427, h⟩
          refine W_pz 1 rfl ?_
          refine W_ret ?_
          obtain rfl := Option.some.inj h
          refine At_body rfl rfl ?_
          exact ⟨hL427.ext, rfl⟩
       ·replace h := Go.L.ite_p hc380 h
        refine W_region ?_
        refine S_v (r_field rfl underlying96 rfl zr52 (by decide)) rfl ?_
        refine S_v (r_loadB1 0 rfl underlying52 rfl hL3 rfl rfl) rfl ?_
        refine S_v (r_len rfl underlying52 h0_0) rfl ?_
        refine S_pu 2 rfl ?_
        refine S_nil ?_
        refine At_seq ?_
        refine W_if rfl (fun hc473 => ?_) (fun hc473 => ?_)
        ·replace h := Go.L.ite_p hc473 h
         refine W_pz 1 rfl ?_
         refine W_ret ?_
         refine At_block_ret ?_
         refine At_seq_ret ?_
         obtain rfl := Option.some.inj h
         refine At_body rfl rfl ?_
         exact ⟨hL3.ext, rfl⟩
        ·replace h := Go.L.ite_n hc473 h
         refine W_skip ?_
         refine At_block ?_
         refine At_seq ?_
         refine W_cut (σ := Unit) (fun (_ : Unit) => []) (fun (_ : Unit) wr => Lcl w [.box b1 [.string ⟨(a0.1.1).toArray⟩, .int .i64 a0.1.2.1, .int .i64 a0.1.2.2.1, .string ⟨(a0.1.2.2.2).toArray⟩, v0_0] 96] wr ∧ shapes_entry_valid_k11 = some r) ?_ ?_
         ·refine W_seqr ?_
          refine S_v (r_field rfl underlying96 rfl zr52 (by decide)) rfl ?_
          refine S_v (r_loadB1 0 rfl underlying52 rfl hL3 rfl rfl) rfl ?_
          refine S_v (r_len rfl underlying52 h0_0) rfl ?_
          refine S_pz 1 rfl ?_
          refine W_block ?_
          obtain ⟨n541, h⟩ := Go.L.run_some h
          refine W_loop (σ := Int × Nat) (fun ⟨s48_540, n⟩ => [(1, .int .i64 a1), (2, .pointer (some ⟨b1, 0, none⟩)), (46, v0_0), (47, .int .i64 (a0.2.length : Int)), (48, .int .i64 s48_540)]) (fun ⟨s48_540, n⟩ wr => Lcl w [.box b1 [.string ⟨(a0.1.1).toArray⟩, .int .i64 a0.1.2.1, .int .i64 a0.1.2.2.1, .string ⟨(a0.1.2.2.2).toArray⟩, v0_0] 96] wr ∧ Go.L.itr (shapes_entry_valid_bl12 a0 a1) n s48_540 = some r) (fun ⟨s48_540, n⟩ => n) ((0 : Int), n541) (.cons rfl (.cons rfl (.cons rfl (.cons rfl (.cons rfl (Sub.nil _)))))) ⟨hL3, h⟩ ?_
          rintro ⟨s48_540, nn541⟩ wr541 ⟨hL541, h⟩
          obtain ⟨n541, e541, rfl, h, hm541⟩ := Go.L.itr_some h
          refine W_pz 1 rfl ?_
          refine W_seq ?_
          refine W_if rfl (fun hc543 => ?_) (fun hc543 => ?_)
          ·replace h := Go.L.ite_p hc543 h
           refine W_skip ?_
           refine At_seq ?_
           refine W_seq ?_
           refine W_block ?_
           refine W_p 1 rfl ?_
           obtain ⟨hk546, h⟩ := Go.L.chk_some h
           refine S_index rfl rfl underlying52 zr3 h0_0 s48_540.toNat (Int.toNat_of_nonneg hk546.1).symm (idx_lt hk546) rfl ?_
           rintro p545 _ rfl hp545
           refine S_v (r_load1 rfl underlying3 rfl hp545 (hH.trans hL541.arg)) rfl ?_
           refine S_pz 2 rfl ?_
           refine W_p 3 rfl ?_
           refine S_or 3 2 rfl rfl rfl rfl rfl rfl ?_
           refine S_pu 1 rfl ?_
           refine S_split (s := 60) rfl (fun hg547 => ?_) (fun hg547 => ?_)
           ·replace h := Go.L.ite_p (of_decide_eq_true hg547) h
            iterate 3 refine S_unwanted rfl rfl hg547 rfl ?_
            iterate 8 refine S_unwanted2 rfl rfl rfl ?_
            refine S_unwanted rfl rfl hg547 rfl ?_
            refine S_v (r_pickT rfl hg547 rfl) rfl ?_
            refine S_seqnil ?_
            refine W_true rfl ?_
            refine W_pz 1 rfl ?_
            refine W_ret ?_
            refine At_block_ret ?_
            refine At_seq_ret ?_
            refine At_loop_ret ?_
            replace h := Go.L.Nxt.out h hm541
            refine At_block_ret ?_
            refine At_cut_ret ?_
            obtain rfl := Option.some.inj h
            refine At_body rfl rfl ?_
            exact ⟨hL541.ext, rfl⟩
           ·replace h := Go.L.ite_n (of_decide_eq_false hg547) h
            refine S_guarded rfl rfl hg547 ?_
            refine S_v (RunsAt_pu rfl) rfl ?_
            refine S_guarded rfl rfl hg547 ?_
            refine S_v (RunsAt_pu rfl) rfl ?_
            refine S_guarded rfl rfl hg547 ?_
            refine S_v (RunsAt_pu rfl) rfl ?_
            refine S_split (s := 63) rfl (fun hg550 => ?_) (fun hg550 => ?_)
            ·replace h := Go.L.ite_p (of_decide_eq_true hg550) h
             refine S_guarded rfl rfl hg550 ?_
             refine S_v (RunsAt_pu rfl) rfl ?_
             refine S_guarded rfl rfl hg550 ?_
             refine S_v (r_field rfl underlying96 rfl zr52 (by decide)) rfl ?_
             refine S_guarded rfl rfl hg550 ?_
             refine S_v (r_loadB1 0 rfl underlying52 rfl hL541 rfl rfl) rfl ?_
             refine S_guarded rfl rfl hg550 ?_
             refine S_v (RunsAt_pu rfl) rfl ?_
             refine S_guarded rfl rfl hg550 ?_
             obtain ⟨hk552, h⟩ := Go.L.chk_some h
             refine S_v (r_ar64 rfl rfl rfl hk552) rfl ?_
             refine S_guarded rfl rfl hg550 ?_
             obtain ⟨hk554, h⟩ := Go.L.chk_some h
             refine S_index rfl rfl underlying52 zr3 h0_0 ((s48_540 - (1 : Int)).toNat) (Int.toNat_of_nonneg hk554.1).symm (idx_lt hk554) rfl ?_
             rintro p553 _ rfl hp553
             refine S_guarded rfl rfl hg550 ?_
             refine S_v (r_load1 rfl underlying3 rfl hp553 (hH.trans hL541.arg)) rfl ?_
             refine S_guarded rfl rfl hg550 ?_
             refine S_v (RunsAt_pu rfl) rfl ?_
             refine S_guarded rfl rfl hg547 ?_
             refine S_v (r_pickT rfl hg550 rfl) rfl ?_
             refine S_v (r_pickF rfl hg547 rfl) rfl ?_
             refine S_seqnil ?_
             refine W_if rfl (fun hc555 => ?_) (fun hc555 => ?_)
             ·replace h := Go.L.ite_p hc555 h
              refine W_pz 1 rfl ?_
              refine W_ret ?_
              refine At_block_ret ?_
              refine At_seq_ret ?_
              refine At_loop_ret ?_
              replace h := Go.L.Nxt.out h hm541
              refine At_block_ret ?_
              refine At_cut_ret ?_
              obtain rfl := Option.some.inj h
              refine At_body rfl rfl ?_
              exact ⟨hL541.ext, rfl⟩
             ·replace h := Go.L.ite_n hc555 h
              refine W_skip ?_
              refine At_block ?_
              refine At_seq ?_
              refine W_region ?_
              obtain ⟨hk558, h⟩ := Go.L.chk_some h
              refine S_v (r_ar64 rfl rfl rfl hk558) rfl ?_
              refine S_pu 1 rfl ?_
              refine S_nil ?_
              have h := Go.L.Nxt.again h hm541
              refine At_round ((s48_540 + (1 : Int)), n541) (.cons rfl (.cons rfl (.cons rfl (.cons rfl (.cons rfl (Sub.nil _)))))) ⟨hL541, h⟩ (Nat.lt_succ_self _)
            ·replace h := Go.L.ite_n (of_decide_eq_false hg550) h
             iterate 8 refine S_unwanted rfl rfl hg550 rfl ?_
             refine S_guarded rfl rfl hg547 ?_
             refine S_v (r_pickF rfl hg550 rfl) rfl ?_
             refine S_v (r_pickF rfl hg547 rfl) rfl ?_
             refine S_seqnil ?_
             refine W_false rfl ?_
             refine W_skip ?_
             refine At_block ?_
             refine At_seq ?_
             refine W_region ?_
             obtain ⟨hk560, h⟩ := Go.L.chk_some h
             refine S_v (r_ar64 rfl rfl rfl hk560) rfl ?_
             refine S_pu 1 rfl ?_
             refine S_nil ?_
             have h := Go.L.Nxt.again h hm541
             refine At_round ((s48_540 + (1 : Int)), n541) (.cons rfl (.cons rfl (.cons rfl (.cons rfl (.cons rfl (Sub.nil _)))))) ⟨hL541, h⟩ (Nat.lt_succ_self _)
          ·replace h := Go.L.ite_n hc543 h
           refine W_exit ?_
           refine At_seq_exit ?_
           refine At_loop_exit ?_
           replace h := Go.L.Nxt.out h hm541
           refine At_exit ?_
           refine At_cut () (Sub.nil _) ⟨hL541, h⟩
         ·rintro _ wr518 ⟨hL518, h⟩
          refine W_pz 1 rfl ?_
          refine W_ret ?_
          obtain rfl := Option.some.inj h
          refine At_body rfl rfl ?_
          exact ⟨hL518.ext, rfl⟩
      ·replace h := Go.L.ite_p (not_dec_f hg378) h
       iterate 4 refine S_unwanted rfl rfl hg378 rfl ?_
       refine S_v (r_pickF rfl hg378 rfl) rfl ?_
       refine S_pz 1 rfl ?_
       refine W_false rfl ?_
       refine W_region ?_
       refine S_v (r_field rfl underlying96 rfl zr52 (by decide)) rfl ?_
       refine S_v (r_loadB1 0 rfl underlying52 rfl hL3 rfl rfl) rfl ?_
       refine S_v (r_len rfl underlying52 h0_0) rfl ?_
       refine S_pu 2 rfl ?_
       refine S_nil ?_
       refine At_seq ?_
       refine W_if rfl (fun hc564 => ?_) (fun hc564 => ?_)
       ·replace h := Go.L.ite_p hc564 h
        refine W_pz 1 rfl ?_
        refine W_ret ?_
        refine At_block_ret ?_
        refine At_seq_ret ?_
        obtain rfl := Option.some.inj h
        refine At_body rfl rfl ?_
        exact ⟨hL3.ext, rfl⟩
       ·replace h := Go.L.ite_n hc564 h
        refine W_skip ?_
        refine At_block ?_
        refine At_seq ?_
        refine W_cut (σ := Unit) (fun (_ : Unit) => []) (fun (_ : Unit) wr => Lcl w [.box b1 [.string ⟨(a0.1.1).toArray⟩, .int .i64 a0.1.2.1, .int .i64 a0.1.2.2.1, .string ⟨(a0.1.2.2.2).toArray⟩, v0_0] 96] wr ∧ shapes_entry_valid_k13 = some r) ?_ ?_
        ·refine W_seqr ?_
         refine S_v (r_field rfl underlying96 rfl zr52 (by decide)) rfl ?_
         refine S_v (r_loadB1 0 rfl underlying52 rfl hL3 rfl rfl) rfl ?_
         refine S_v (r_len rfl underlying52 h0_0) rfl ?_
         refine S_pz 1 rfl ?_
         refine W_block ?_
         obtain ⟨n632, h⟩ := Go.L.run_some h
         refine W_loop (σ := Int × Nat) (fun ⟨s48_631, n⟩ => [(1, .int .i64 a1), (2, .pointer (some ⟨b1, 0, none⟩)), (46, v0_0), (47, .int .i64 (a0.2.length : Int)), (48, .int .i64 s48_631)]) (fun ⟨s48_631, n⟩ wr => Lcl w [.box b1 [.string ⟨(a0.1.1).toArray⟩, .int .i64 a0.1.2.1, .int .i64 a0.1.2.2.1, .string ⟨(a0.1.2.2.2).toArray⟩, v0_0] 96] wr ∧ Go.L.itr (shapes_entry_valid_bl14 a0 a1) n s48_631 = some r) (fun ⟨s48_631, n⟩ => n) ((0 : Int), n632) (.cons rfl (.cons rfl (.cons rfl (.cons rfl (.cons rfl (Sub.nil _)))))) ⟨hL3, h⟩ ?_
         rintro ⟨s48_631, nn632⟩ wr632 ⟨hL632, h⟩
         obtain ⟨n632, e632, rfl, h, hm632⟩ := Go.L.itr_some h
         refine W_pz 1 rfl ?_
         refine W_seq ?_
         refine W_if rfl (fun hc634 => ?_) (fun hc634 => ?_)
         ·replace h := Go.L.ite_p hc634 h
          refine W_skip ?_
          refine At_seq ?_
          refine W_seq ?_
          refine W_block ?_
          refine W_p 1 rfl ?_
          obtain ⟨hk637, h⟩ := Go.L.chk_some h
          refine S_index rfl rfl underlying52 zr3 h0_0 s48_631.toNat (Int.toNat_of_nonneg hk637.1).symm (idx_lt hk637) rfl ?_
          rintro p636 _ rfl hp636
          refine S_v (r_load1 rfl underlying3 rfl hp636 (hH.trans hL632.arg)) rfl ?_
          refine S_pz 2 rfl ?_
          refine W_p 3 rfl ?_
          refine S_or 3 2 rfl rfl rfl rfl rfl rfl ?_
          refine S_pu 1 rfl ?_
          refine S_split (s := 60) rfl (fun hg638 => ?_) (fun hg638 => ?_)
          ·replace h := Go.L.ite_p (of_decide_eq_true hg638) h
           iterate 3 refine S_unwanted rfl rfl hg638 rfl ?_
           iterate 8 refine S_unwanted2 rfl rfl rfl ?_
           refine S_unwanted rfl rfl hg638 rfl ?_
           refine S_v (r_pickT rfl hg638 rfl) rfl ?_
           refine S_seqnil ?_
           refine W_true rfl ?_
           refine W_pz 1 rfl ?_
           refine W_ret ?_
           refine At_block_ret ?_
           refine At_seq_ret ?_
           refine At_loop_ret ?_
           replace h := Go.L.Nxt.out h hm632
           refine At_block_ret ?_
           refine At_cut_ret ?_
           obtain rfl := Option.some.inj h
           refine At_body rfl rfl ?_
           exact ⟨hL632.ext, rfl⟩
          ·replace h := Go.L.ite_n (of_decide_eq_false hg638) h
           refine S_guarded rfl rfl hg638 ?_
           refine S_v (RunsAt_pu rfl) rfl ?_
           refine S_guarded rfl rfl hg638 ?_
           refine S_v (RunsAt_pu rfl) rfl ?_
           refine S_guarded rfl rfl hg638 ?_
           refine S_v (RunsAt_pu rfl) rfl ?_
           refine S_split (s := 63) rfl (fun hg641 => ?_) (fun hg641 => ?_)
           ·replace h := Go.L.ite_p (of_decide_eq_true hg641) h
            refine S_guarded rfl rfl hg641 ?_
            refine S_v (RunsAt_pu rfl) rfl ?_
            refine S_guarded rfl rfl hg641 ?_
            refine S_v (r_field rfl underlying96 rfl zr52 (by decide)) rfl ?_
            refine S_guarded rfl rfl hg641 ?_
            refine S_v (r_loadB1 0 rfl underlying52 rfl hL632 rfl rfl) rfl ?_
            refine S_guarded rfl rfl hg641 ?_
            refine S_v (RunsAt_pu rfl) rfl ?_
            refine S_guarded rfl rfl hg641 ?_
            obtain ⟨hk643, h⟩ := Go.L.chk_some h
            refine S_v (r_ar64 rfl rfl rfl hk643) rfl ?_
            refine S_guarded rfl rfl hg641 ?_
            obtain ⟨hk645, h⟩ := Go.L.chk_some h
            refine S_index rfl rfl underlying52 zr3 h0_0 ((s48_631 - (1 : Int)).toNat) (Int.toNat_of_nonneg hk645.1).symm (idx_lt hk645) rfl ?_
            rintro p644 _ rfl hp644
            refine S_guarded rfl rfl hg641 ?_
            refine S_v (r_load1 rfl underlying3 rfl hp644 (hH.trans hL632.arg)) rfl ?_
            refine S_guarded rfl rfl hg641 ?_
            refine S_v (RunsAt_pu rfl) rfl ?_
            refine S_guarded rfl rfl hg638 ?_
            refine S_v (r_pickT rfl hg641 rfl) rfl ?_
            refine S_v (r_pickF rfl hg638 rfl) rfl ?_
            refine S_seqnil ?_
            refine W_if rfl (fun hc646 => ?_) (fun hc646 => ?_)
            ·replace h := Go.L.ite_p hc646 h
             refine W_pz 1 rfl ?_
             refine W_ret ?_
             refine At_block_ret ?_
             refine At_seq_ret ?_
             refine At_loop_ret ?_
             replace h := Go.L.Nxt.out h hm632
             refine At_block_ret ?_
             refine At_cut_ret ?_
             obtain rfl := Option.some.inj h
             refine At_body rfl rfl ?_
             exact ⟨hL632.ext, rfl⟩
            ·replace h := Go.L.ite_n hc646 h
             refine W_skip ?_
             refine At_block ?_
             refine At_seq ?_
             refine W_region ?_
             obtain ⟨hk649, h⟩ := Go.L.chk_some h
             refine S_v (r_ar64 rfl rfl rfl hk649) rfl ?_
             refine S_pu 1 rfl ?_
             refine S_nil ?_
             have h := Go.L.Nxt.again h hm632
             refine At_round ((s48_631 + (1 : Int)), n632) (.cons rfl (.cons rfl (.cons rfl (.cons rfl (.cons rfl (Sub.nil _)))))) ⟨hL632, h⟩ (Nat.lt_succ_self _)
           ·replace h := Go.L.ite_n (of_decide_eq_false hg641) h
            iterate 8 refine S_unwanted rfl rfl hg641 rfl ?_
            refine S_guarded rfl rfl hg638 ?_
            refine S_v (r_pickF rfl hg641 rfl) rfl ?_
            refine S_v (r_pickF rfl hg638 rfl) rfl ?_
            refine S_seqnil ?_
            refine W_false rfl ?_
            refine W_skip ?_
            refine At_block ?_
            refine At_seq ?_
            refine W_region ?_
            obtain ⟨hk651, h⟩ := Go.L.chk_some h
            refine S_v (r_ar64 rfl rfl rfl hk651) rfl ?_
            refine S_pu 1 rfl ?_
            refine S_nil ?_
            have h := Go.L.Nxt.again h hm632
            refine At_round ((s48_631 + (1 : Int)), n632) (.cons rfl (.cons rfl (.cons rfl (.cons rfl (.cons rfl (Sub.nil _)))))) ⟨hL632, h⟩ (Nat.lt_succ_self _)
         ·replace h := Go.L.ite_n hc634 h
          refine W_exit ?_
          refine At_seq_exit ?_
          refine At_loop_exit ?_
          replace h := Go.L.Nxt.out h hm632
          refine At_exit ?_
          refine At_cut () (Sub.nil _) ⟨hL632, h⟩
        ·rintro _ wr609 ⟨hL609, h⟩
         refine W_pz 1 rfl ?_
         refine W_ret ?_
         obtain rfl := Option.some.inj h
         refine At_body rfl rfl ?_
         exact ⟨hL609.ext, rfl⟩
    ·replace h := Go.L.ite_p (not_dec_f hg283) h
     iterate 4 refine S_unwanted rfl rfl hg283 rfl ?_
     refine S_v (r_pickF rfl hg283 rfl) rfl ?_
     refine S_pz 1 rfl ?_
     refine W_false rfl ?_
     refine W_seqr ?_
     refine S_v (r_field rfl underlying96 rfl zr84 (by decide)) rfl ?_
     refine S_v (r_field rfl underlying84 rfl zr9 (by decide)) rfl ?_
     refine S_v (r_loadB1 0 rfl underlying9 rfl hL3 rfl rfl) rfl ?_
     refine S_v (r_sne rfl rfl) rfl ?_
     refine S_pu 1 rfl ?_
     refine S_split (s := 35) rfl (fun hg655 => ?_) (fun hg655 => ?_)
     ·replace h := Go.L.ite_n (not_dec_t hg655) h
      refine S_guarded rfl rfl hg655 ?_
      refine S_v (r_field rfl underlying96 rfl zr84 (by decide)) rfl ?_
      refine S_guarded rfl rfl hg655 ?_
      refine S_v (r_field rfl underlying84 rfl zr3 (by decide)) rfl ?_
      refine S_guarded rfl rfl hg655 ?_
      refine S_v (r_loadB1 0 rfl underlying3 rfl hL3 rfl rfl) rfl ?_
      refine S_guarded rfl rfl hg655 ?_
      refine S_v (RunsAt_pu rfl) rfl ?_
      refine S_v (r_pickT rfl hg655 rfl) rfl ?_
      refine S_pz 1 rfl ?_
      refine W_ifn rfl (fun hc657 => ?_) (fun hc657 => ?_)
      ·replace h := Go.L.ite_n hc657 h
       refine W_skip ?_
       refine At_seq ?_
       refine W_ifn rfl (fun hc659 => ?_) (fun hc659 => ?_)
       ·replace h := Go.L.ite_n hc659 h
        refine W_pz 1 rfl ?_
        refine W_ret ?_
        refine At_block_ret ?_
        refine At_seq_ret ?_
        obtain rfl := Option.some.inj h
        refine At_body rfl rfl ?_
        exact ⟨hL3.ext, rfl⟩
       ·replace h := Go.L.ite_p hc659 h
        refine W_skip ?_
        refine At_block ?_
        refine At_seq ?_
        refine W_cut (σ := Unit) (fun (_ : Unit) => []) (fun (_ : Unit) wr => Lcl w [.box b1 [.string ⟨(a0.1.1).toArray⟩, .int .i64 a0.1.2.1, .int .i64 a0.1.2.2.1, .string ⟨(a0.1.2.2.2).toArray⟩, v0_0] 96] wr ∧ shapes_entry_valid_k15 = some r) ?_ ?_
        ·refine W_seqr ?_
         refine S_v (r_field rfl underlying96 rfl zr52 (by decide)) rfl ?_
         refine S_v (r_loadB1 0 rfl underlying52 rfl hL3 rfl rfl) rfl ?_
         refine S_v (r_len rfl underlying52 h0_0) rfl ?_
         refine S_pz 1 rfl ?_
         refine W_block ?_
         obtain ⟨n727, h⟩ := Go.L.run_some h
         refine W_loop (σ := Int × Nat) (fun ⟨s48_726, n⟩ => [(1, .int .i64 a1), (2, .pointer (some ⟨b1, 0, none⟩)), (46, v0_0), (47, .int .i64 (a0.2.length : Int)), (48, .int .i64 s48_726)]) (fun ⟨s48_726, n⟩ wr => Lcl w [.box b1 [.string ⟨(a0.1.1).toArray⟩, .int .i64 a0.1.2.1, .int .i64 a0.1.2.2.1, .string ⟨(a0.1.2.2.2).toArray⟩, v0_0] 96] wr ∧ Go.L.itr (shapes_entry_valid_bl16 a0 a1) n s48_726 = some r) (fun ⟨s48_726, n⟩ => n) ((0 : Int), n727) (.cons rfl (.cons rfl (.cons rfl (.cons rfl (.cons rfl (Sub.nil _)))))) ⟨hL3, h⟩ ?_
         rintro ⟨s48_726, nn727⟩ wr727 ⟨hL727, h⟩
         obtain ⟨n727, e727, rfl, h, hm727⟩ := Go.L.itr_some h
         refine W_pz 1 rfl ?_
         refine W_seq ?_
         refine W_if rfl (fun hc729 => ?_) (fun hc729 => ?_)
         ·replace h := Go.L.ite_p hc729 h
          refine W_skip ?_
          refine At_seq ?_
          refine W_seq ?_
          refine W_block ?_
          refine W_p 1 rfl ?_
          obtain ⟨hk732, h⟩ := Go.L.chk_some h
          refine S_index rfl rfl underlying52 zr3 h0_0 s48_726.toNat (Int.toNat_of_nonneg hk732.1).symm (idx_lt hk732) rfl ?_
          rintro p731 _ rfl hp731
          refine S_v (r_load1 rfl underlying3 rfl hp731 (hH.trans hL727.arg)) rfl ?_
          refine S_pz 2 rfl ?_
          refine W_p 3 rfl ?_
          refine S_or 3 2 rfl rfl rfl rfl rfl rfl ?_
          refine S_pu 1 rfl ?_
          refine S_split (s := 60) rfl (fun hg733 => ?_) (fun hg733 => ?_)
          ·replace h := Go.L.ite_p (of_decide_eq_true hg733) h
           iterate 3 refine S_unwanted rfl rfl hg733 rfl ?_
           iterate 8 refine S_unwanted2 rfl rfl rfl ?_
           refine S_unwanted rfl rfl hg733 rfl ?_
           refine S_v (r_pickT rfl hg733 rfl) rfl ?_
           refine S_seqnil ?_
           refine W_true rfl ?_
           refine W_pz 1 rfl ?_
           refine W_ret ?_
           refine At_block_ret ?_
           refine At_seq_ret ?_
           refine At_loop_ret ?_
           replace h := Go.L.Nxt.out h hm727
           refine At_block_ret ?_
           refine At_cut_ret ?_
           obtain rfl := Option.some.inj h
           refine At_body rfl rfl ?_
           exact ⟨hL727.ext, rfl⟩
          ·replace h := Go.L.ite_n (of_decide_eq_false hg733) h
           refine S_guarded rfl rfl hg733 ?_
           refine S_v (RunsAt_pu rfl) rfl ?_
           refine S_guarded rfl rfl hg733 ?_
           refine S_v (RunsAt_pu rfl) rfl ?_
           refine S_guarded rfl rfl hg733 ?_
           refine S_v (RunsAt_pu rfl) rfl ?_
           refine S_split (s := 63) rfl (fun hg736 => ?_) (fun hg736 => ?_)
           ·replace h := Go.L.ite_p (of_decide_eq_true hg736) h
            refine S_guarded rfl rfl hg736 ?_
            refine S_v (RunsAt_pu rfl) rfl ?_
            refine S_guarded rfl rfl hg736 ?_
            refine S_v (r_field rfl underlying96 rfl zr52 (by decide)) rfl ?_
            refine S_guarded rfl rfl hg736 ?_
            refine S_v (r_loadB1 0 rfl underlying52 rfl hL727 rfl rfl) rfl ?_
            refine S_guarded rfl rfl hg736 ?_
            refine S_v (RunsAt_pu rfl) rfl ?_
            refine S_guarded rfl rfl hg736 ?_
            obtain ⟨hk738, h⟩ := Go.L.chk_some h
            refine S_v (r_ar64 rfl rfl rfl hk738) rfl ?_
            refine S_guarded rfl rfl hg736 ?_
            obtain ⟨hk740, h⟩ := Go.L.chk_some h
            refine S_index rfl rfl underlying52 zr3 h0_0 ((s48_726 - (1 : Int)).toNat) (Int.toNat_of_nonneg hk740.1).symm (idx_lt hk740) rfl ?_
            rintro p739 _ rfl hp739
            refine S_guarded rfl rfl hg736 ?_
            refine S_v (r_load1 rfl underlying3 rfl hp739 (hH.trans hL727.arg)) rfl ?_
            refine S_guarded rfl rfl hg736 ?_
            refine S_v (RunsAt_pu rfl) rfl ?_
            refine S_guarded rfl rfl hg733 ?_
            refine S_v (r_pickT rfl hg736 rfl) rfl ?_
            refine S_v (r_pickF rfl hg733 rfl) rfl ?_
            refine S_seqnil ?_
            refine W_if rfl (fun hc741 => ?_) (fun hc741 => ?_)
            ·replace h := Go.L.ite_p hc741 h
             refine W_pz 1 rfl ?_
             refine W_ret ?_
             refine At_block_ret ?_
             refine At_seq_ret ?_
             refine At_loop_ret ?_
             replace h := Go.L.Nxt.out h hm727
             refine At_block_ret ?_
             refine At_cut_ret ?_
             obtain rfl := Option.some.inj h
             refine At_body rfl rfl ?_
             exact ⟨hL727.ext, rfl⟩
            ·replace h := Go.L.ite_n hc741 h
             refine W_skip ?_
             refine At_block ?_
             refine At_seq ?_
             refine W_region ?_
             obtain ⟨hk744, h⟩ := Go.L.chk_some h
             refine S_v (r_ar64 rfl rfl rfl hk744) rfl ?_
             refine S_pu 1 rfl ?_
             refine S_nil ?_
             have h := Go.L.Nxt.again h hm727
             refine At_round ((s48_726 + (1 : Int)), n727) (.cons rfl (.cons rfl (.cons rfl (.cons rfl (.cons rfl (Sub.nil _)))))) ⟨hL727, h⟩ (Nat.lt_succ_self _)
           ·replace h := Go.L.ite_n (of_decide_eq_false hg736) h
            iterate 8 refine S_unwanted rfl rfl hg736 rfl ?_
            refine S_guarded rfl rfl hg733 ?_
            refine S_v (r_pickF rfl hg736 rfl) rfl ?_
            refine S_v (r_pickF rfl hg733 rfl) rfl ?_
            refine S_seqnil ?_
            refine W_false rfl ?_
            refine W_skip ?_
            refine At_block ?_
            refine At_seq ?_
            refine W_region ?_
            obtain ⟨hk746, h⟩ := Go.L.chk_some h
            refine S_v (r_ar64 rfl rfl rfl hk746) rfl ?_
            refine S_pu 1 rfl ?_
            refine S_nil ?_
            have h := Go.L.Nxt.again h hm727
            refine At_round ((s48_726 + (1 : Int)), n727) (.cons rfl (.cons rfl (.cons rfl (.cons rfl (.cons rfl (Sub.nil _)))))) ⟨hL727, h⟩ (Nat.lt_succ_self _)
         ·replace h := Go.L.ite_n hc729 h
          refine W_exit ?_
          refine At_seq_exit ?_
          refine At_loop_exit ?_
          replace h := Go.L.Nxt.out h hm727
          refine At_exit ?_
          refine At_cut () (Sub.nil _) ⟨hL727, h⟩
        ·rintro _ wr704 ⟨hL704, h⟩
         refine W_pz 1 rfl ?_
         refine W_ret ?_
         obtain rfl := Option.some.inj h
         refine At_body rfl rfl ?_
         exact ⟨hL704.ext, rfl⟩
      ·replace h := Go.L.ite_p hc657 h
       refine W_region ?_
       refine S_v (r_field rfl underlying96 rfl zr52 (by decide)) rfl ?_
       refine S_v (r_loadB1 0 rfl underlying52 rfl hL3 rfl rfl) rfl ?_
       refine S_v (r_len rfl underlying52 h0_0) rfl ?_
       refine S_pu 2 rfl ?_
       refine S_nil ?_
       refine At_seq ?_
       refine W_if rfl (fun hc750 => ?_) (fun hc750 => ?_)
       ·replace h := Go.L.ite_p hc750 h
        refine W_pz 1 rfl ?_
        refine W_ret ?_
        refine At_block_ret ?_
        refine At_seq_ret ?_
        obtain rfl := Option.some.inj h
        refine At_body rfl rfl ?_
        exact ⟨hL3.ext, rfl⟩
       ·replace h := Go.L.ite_n hc750 h
        refine W_skip ?_
        refine At_block ?_
        refine At_seq ?_
        refine W_cut (σ := Unit) (fun (_ : Unit) => []) (fun (_ : Unit) wr => Lcl w [.box b1 [.string ⟨(a0.1.1).toArray⟩, .int .i64 a0.1.2.1, .int .i64 a0.1.2.2.1, .string ⟨(a0.1.2.2.2).toArray⟩, v0_0] 96] wr ∧ shapes_entry_valid_k17 = some r) ?_ ?_
        ·refine W_seqr ?_
         refine S_v (r_field rfl underlying96 rfl zr52 (by decide)) rfl ?_
         refine S_v (r_loadB1 0 rfl underlying52 rfl hL3 rfl rfl) rfl ?_
         refine S_v (r_len rfl underlying52 h0_0) rfl ?_
         refine S_pz 1 rfl ?_
         refine W_block ?_
         obtain ⟨n818, h⟩ := Go.L.run_some h
         refine W_loop (σ := Int × Nat) (fun ⟨s48_817, n⟩ => [(1, .int .i64 a1), (2, .pointer (some ⟨b1, 0, none⟩)), (46, v0_0), (47, .int .i64 (a0.2.length : Int)), (48, .int .i64 s48_817)]) (fun ⟨s48_817, n⟩ wr => Lcl w [.box b1 [.string ⟨(a0.1.1).toArray⟩, .int .i64 a0.1.2.1, .int .i64 a0.1.2.2.1, .string ⟨(a0.1.2.2.2).toArray⟩, v0_0] 96] wr ∧ Go.L.itr (shapes_entry_valid_bl18 a0 a1) n s48_817 = some r) (fun ⟨s48_817, n⟩ => n) ((0 : Int), n818) (.cons rfl (.cons rfl (.cons rfl (.cons rfl (.cons rfl (Sub.nil _)))))) ⟨hL3, h⟩ ?_
         rintro ⟨s48_817, nn818⟩ wr818 ⟨hL818, h⟩
         obtain ⟨n818, e818, rfl, h, hm818⟩ := Go.L.itr_some h
         refine W_pz 1 rfl ?_
         refine W_seq ?_
         refine W_if rfl (fun hc820 => ?_) (fun hc820 => ?_)
         ·replace h := Go.L.ite_p hc820 h
          refine W_skip ?_
          refine At_seq ?_
          refine W_seq ?_
          refine W_block ?_
          refine W_p 1 rfl ?_
          obtain ⟨hk823, h⟩ := Go.L.chk_some h
          refine S_index rfl rfl underlying52 zr3 h0_0 s48_817.toNat (Int.toNat_of_nonneg hk823.1).symm (idx_lt hk823) rfl ?_
          rintro p822 _ rfl hp822
          refine S_v (r_load1 rfl underlying3 rfl hp822 (hH.trans hL818.arg)) rfl ?_
          refine S_pz 2 rfl ?_
          refine W_p 3 rfl ?_
          refine S_or 3 2 rfl rfl rfl rfl rfl rfl ?_
          refine S_pu 1 rfl ?_
          refine S_split (s := 60) rfl (fun hg824 => ?_) (fun hg824 => ?_)
          ·replace h := Go.L.ite_p (of_decide_eq_true hg824) h
           iterate 3 refine S_unwanted rfl rfl hg824 rfl ?_
           iterate 8 refine S_unwanted2 rfl rfl rfl ?_
           refine S_unwanted rfl rfl hg824 rfl ?_
           refine S_v (r_pickT rfl hg824 rfl) rfl ?_
           refine S_seqnil ?_
           refine W_true rfl ?_
           refine W_pz 1 rfl ?_
           refine W_ret ?_
           refine At_block_ret ?_
           refine At_seq_ret ?_
           refine At_loop_ret ?_
           replace h := Go.L.Nxt.out h hm818
           refine At_block_ret ?_
           refine At_cut_ret ?_
           obtain rfl := Option.some.inj h
           refine At_body rfl rfl ?_
           exact ⟨hL818.ext, rfl⟩
          ·replace h := Go.L.ite_n (of_decide_eq_false hg824) h
           refine S_guarded rfl rfl hg824 ?_
           refine S_v (RunsAt_pu rfl) rfl ?_
           refine S_guarded rfl rfl hg824 ?_
           refine S_v (RunsAt_pu rfl) rfl ?_
           refine S_guarded rfl rfl hg824 ?_
           refine S_v (RunsAt_pu rfl) rfl ?_
           refine S_split (s := 63) rfl (fun hg827 => ?_) (fun hg827 => ?_)
           ·replace h := Go.L.ite_p (of_decide_eq_true hg827) h
            refine S_guarded rfl rfl hg827 ?_
            refine S_v (RunsAt_pu rfl) rfl ?_
            refine S_guarded rfl rfl hg827 ?_
            refine S_v (r_field rfl underlying96 rfl zr52 (by decide)) rfl ?_
            refine S_guarded rfl rfl hg827 ?_
            refine S_v (r_loadB1 0 rfl underlying52 rfl hL818 rfl rfl) rfl ?_
            refine S_guarded rfl rfl hg827 ?_
            refine S_v (RunsAt_pu rfl) rfl ?_
            refine S_guarded rfl rfl hg827 ?_
            obtain ⟨hk829, h⟩ := Go.L.chk_some h
            refine S_v (r_ar64 rfl rfl rfl hk829) rfl ?_
            refine S_guarded rfl rfl hg827 ?_
            obtain ⟨hk831, h⟩ := Go.L.chk_some h
            refine S_index rfl rfl underlying52 zr3 h0_0 ((s48_817 - (1 : Int)).toNat) (Int.toNat_of_nonneg hk831.1).symm (idx_lt hk831) rfl ?_
            rintro p830 _ rfl hp830
            refine S_guarded rfl rfl hg827 ?_
            refine S_v (r_load1 rfl underlying3 rfl hp830 (hH.trans hL818.arg)) rfl ?_
            refine S_guarded rfl rfl hg827 ?_
            refine S_v (RunsAt_pu rfl) rfl ?_
            refine S_guarded rfl rfl hg824 ?_
            refine S_v (r_pickT rfl hg827 rfl) rfl ?_
            refine S_v (r_pickF rfl hg824 rfl) rfl ?_
            refine S_seqnil ?_
            refine W_if rfl (fun hc832 => ?_) (fun hc832 => ?_)
            ·replace h := Go.L.ite_p hc832 h
             refine W_pz 1 rfl ?_
             refine W_ret ?_
             refine At_block_ret ?_
             refine At_seq_ret ?_
             refine At_loop_ret ?_
             replace h := Go.L.Nxt.out h hm818
             refine At_block_ret ?_
             refine At_cut_ret ?_
             obtain rfl := Option.some.inj h
             refine At_body rfl rfl ?_
             exact ⟨hL818.ext, rfl⟩
            ·replace h := Go.L.ite_n hc832 h
             refine W_skip ?_
             refine At_block ?_
             refine At_seq ?_
             refine W_region ?_
             obtain ⟨hk835, h⟩ := Go.L.chk_some h
             refine S_v (r_ar64 rfl rfl rfl hk835) rfl ?_
             refine S_pu 1 rfl ?_
             refine S_nil ?_
             have h := Go.L.Nxt.again h hm818
             refine At_round ((s48_817 + (1 : Int)), n818) (.cons rfl (.cons rfl (.cons rfl (.cons rfl (.cons rfl (Sub.nil _)))))) ⟨hL818, h⟩ (Nat.lt_succ_self _)
           ·replace h := Go.L.ite_n (of_decide_eq_false hg827) h
            iterate 8 refine S_unwanted rfl rfl hg827 rfl ?_
            refine S_guarded rfl rfl hg824 ?_
            refine S_v (r_pickF rfl hg827 rfl) rfl ?_
            refine S_v (r_pickF rfl hg824 rfl) rfl ?_
            refine S_seqnil ?_
            refine W_false rfl ?_
            refine W_skip ?_
            refine At_block ?_
            refine At_seq ?_
            refine W_region ?_
            obtain ⟨hk837, h⟩ := Go.L.chk_some h
            refine S_v (r_ar64 rfl rfl rfl hk837) rfl ?_
            refine S_pu 1 rfl ?_
            refine S_nil ?_
            have h := Go.L.Nxt.again h hm818
            refine At_round ((s48_817 + (1 : Int)), n818) (.cons rfl (.cons rfl (.cons rfl (.cons rfl (.cons rfl (Sub.nil _)))))) ⟨hL818, h⟩ (Nat.lt_succ_self _)
         ·replace h := Go.L.ite_n hc820 h
          refine W_exit ?_
          refine At_seq_exit ?_
          refine At_loop_exit ?_
          replace h := Go.L.Nxt.out h hm818
          refine At_exit ?_
          refine At_cut () (Sub.nil _) ⟨hL818, h⟩
        ·rintro _ wr795 ⟨hL795, h⟩
         refine W_pz 1 rfl ?_
         refine W_ret ?_
         obtain rfl := Option.some.inj h
         refine At_body rfl rfl ?_
         exact ⟨hL795.ext, rfl⟩
     ·replace h := Go.L.ite_p (not_dec_f hg655) h
      iterate 4 refine S_unwanted rfl rfl hg655 rfl ?_
      refine S_v (r_pickF rfl hg655 rfl) rfl ?_
      refine S_pz 1 rfl ?_
      refine W_false rfl ?_
      refine W_region ?_
      refine S_v (r_field rfl underlying96 rfl zr52 (by decide)) rfl ?_
      refine S_v (r_loadB1 0 rfl underlying52 rfl hL3 rfl rfl) rfl ?_
      refine S_v (r_len rfl underlying52 h0_0) rfl ?_
      refine S_pu 2 rfl ?_
      refine S_nil ?_
      refine At_seq ?_
      refine W_if rfl (fun hc841 => ?_) (fun hc841 => ?_)
      ·replace h := Go.L.ite_p hc841 h
       refine W_pz 1 rfl ?_
       refine W_ret ?_
       refine At_block_ret ?_
       refine At_seq_ret ?_
       obtain rfl := Option.some.inj h
       refine At_body rfl rfl ?_
       exact ⟨hL3.ext, rfl⟩
      ·replace h := Go.L.ite_n hc841 h
       refine W_skip ?_
       refine At_block ?_
       refine At_seq ?_
       refine W_cut (σ := Unit) (fun (_ : Unit) => []) (fun (_ : Unit) wr => Lcl w [.box b1 [.string ⟨(a0.1.1).toArray⟩, .int .i64 a0.1.2.1, .int .i64 a0.1.2.2.1, .string ⟨(a0.1.2.2.2).toArray⟩, v0_0] 96] wr ∧ shapes_entry_valid_k19 = some r) ?_ ?_
       ·refine W_seqr ?_
        refine S_v (r_field rfl underlying96 rfl zr52 (by decide)) rfl ?_
        refine S_v (r_loadB1 0 rfl underlying52 rfl hL3 rfl rfl) rfl ?_
        refine S_v (r_len rfl underlying52 h0_0) rfl ?_
        refine S_pz 1 rfl ?_
        refine W_block ?_
        obtain ⟨n909, h⟩ := Go.L.run_some h
        refine W_loop (σ := Int × Nat) (fun ⟨s48_908, n⟩ => [(1, .int .i64 a1), (2, .pointer (some ⟨b1, 0, none⟩)), (46, v0_0), (47, .int .i64 (a0.2.length : Int)), (48, .int .i64 s48_908)]) (fun ⟨s48_908, n⟩ wr => Lcl w [.box b1 [.string ⟨(a0.1.1).toArray⟩, .int .i64 a0.1.2.1, .int .i64 a0.1.2.2.1, .string ⟨(a0.1.2.2.2).toArray⟩, v0_0] 96] wr ∧ Go.L.itr (shapes_entry_valid_bl20 a0 a1) n s48_908 = some r) (fun ⟨s48_908, n⟩ => n) ((0 : Int), n909) (.cons rfl (.cons rfl (.cons rfl (.cons rfl (.cons rfl (Sub.nil _)))))) ⟨hL3, h⟩ ?_
        rintro ⟨s48_908, nn909⟩ wr909 ⟨hL909, h⟩
        obtain ⟨n909, e909, rfl, h, hm909⟩ := Go.L.itr_some h
        refine W_pz 1 rfl ?_
        refine W_seq ?_
        refine W_if rfl (fun hc911 => ?_) (fun hc911 => ?_)
        ·replace h := Go.L.ite_p hc911 h
         refine W_skip ?_
         refine At_seq ?_
         refine W_seq ?_
         refine W_block ?_
         refine W_p 1 rfl ?_
         obtain ⟨hk914, h⟩ := Go.L.chk_some h
         refine S_index rfl rfl underlying52 zr3 h0_0 s48_908.toNat (Int.toNat_of_nonneg hk914.1).symm (idx_lt hk914) rfl ?_
         rintro p913 _ rfl hp913
         refine S_v (r_load1 rfl underlying3 rfl hp913 (hH.trans hL909.arg)) rfl ?_
         refine S_pz 2 rfl ?_
         refine W_p 3 rfl ?_
         refine S_or 3 2 rfl rfl rfl rfl rfl rfl ?_
         refine S_pu 1 rfl ?_
         refine S_split (s := 60) rfl (fun hg915 => ?_) (fun hg915 => ?_)
         ·replace h := Go.L.ite_p (of_decide_eq_true hg915) h
          iterate 3 refine S_unwanted rfl rfl hg915 rfl ?_
          iterate 8 refine S_unwanted2 rfl rfl rfl ?_
          refine S_unwanted rfl rfl hg915 rfl ?_
          refine S_v (r_pickT rfl hg915 rfl) rfl ?_
          refine S_seqnil ?_
          refine W_true rfl ?_
          refine W_pz 1 rfl ?_
          refine W_ret ?_
          refine At_block_ret ?_
          refine At_seq_ret ?_
          refine At_loop_ret ?_
          replace h := Go.L.Nxt.out h hm909
          refine At_block_ret ?_
          refine At_cut_ret ?_
          obtain rfl := Option.some.inj h
          refine At_body rfl rfl ?_
          exact ⟨hL909.ext, rfl⟩
         ·replace h := Go.L.ite_n (of_decide_eq_false hg915) h
          refine S_guarded rfl rfl hg915 ?_
          refine S_v (RunsAt_pu rfl) rfl ?_
          refine S_guarded rfl rfl hg915 ?_
          refine S_v (RunsAt_pu rfl) rfl ?_
          refine S_guarded rfl rfl hg915 ?_
          refine S_v (RunsAt_pu rfl) rfl ?_
          refine S_split (s := 63) rfl (fun hg918 => ?_) (fun hg918 => ?_)
          ·replace h := Go.L.ite_p (of_decide_eq_true hg918) h
           refine S_guarded rfl rfl hg918 ?_
           refine S_v (RunsAt_pu rfl) rfl ?_
           refine S_guarded rfl rfl hg918 ?_
           refine S_v (r_field rfl underlying96 rfl zr52 (by decide)) rfl ?_
           refine S_guarded rfl rfl hg918 ?_
           refine S_v (r_loadB1 0 rfl underlying52 rfl hL909 rfl rfl) rfl ?_
           refine S_guarded rfl rfl hg918 ?_
           refine S_v (RunsAt_pu rfl) rfl ?_
           refine S_guarded rfl rfl hg918 ?_
           obtain ⟨hk920, h⟩ := Go.L.chk_some h
           refine S_v (r_ar64 rfl rfl rfl hk920) rfl ?_
           refine S_guarded rfl rfl hg918 ?_
           obtain ⟨hk922, h⟩ := Go.L.chk_some h
           refine S_index rfl rfl underlying52 zr3 h0_0 ((s48_908 - (1 : Int)).toNat) (Int.toNat_of_nonneg hk922.1).symm (idx_lt hk922) rfl ?_
           rintro p921 _ rfl hp921
           refine S_guarded rfl rfl hg918 ?_
           refine S_v (r_load1 rfl underlying3 rfl hp921 (hH.trans hL909.arg)) rfl ?_
           refine S_guarded rfl rfl hg918 ?_
           refine S_v (RunsAt_pu rfl) rfl ?_
           refine S_guarded rfl rfl hg915 ?_
           refine S_v (r_pickT rfl hg918 rfl) rfl ?_
           refine S_v (r_pickF rfl hg915 rfl) rfl ?_
           refine S_seqnil ?_
           refine W_if rfl (fun hc923 => ?_) (fun hc923 => ?_)
           ·replace h := Go.L.ite_p hc923 h
            refine W_pz 1 rfl ?_
            refine W_ret ?_
            refine At_block_ret ?_
            refine At_seq_ret ?_
            refine At_loop_ret ?_
            replace h := Go.L.Nxt.out h hm909
            refine At_block_ret ?_
            refine At_cut_ret ?_
            obtain rfl := Option.some.inj h
            refine At_body rfl rfl ?_
            exact ⟨hL909.ext, rfl⟩
           ·replace h := Go.L.ite_n hc923 h
            refine W_skip ?_
            refine At_block ?_
            refine At_seq ?_
            refine W_region ?_
            obtain ⟨hk926, h⟩ := Go.L.chk_some h
            refine S_v (r_ar64 rfl rfl rfl hk926) rfl ?_
            refine S_pu 1 rfl ?_
            refine S_nil ?_
            have h := Go.L.Nxt.again h hm909
            refine At_round ((s48_908 + (1 : Int)), n909) (.cons rfl (.cons rfl (.cons rfl (.cons rfl (.cons rfl (Sub.nil _)))))) ⟨hL909, h⟩ (Nat.lt_succ_self _)
          ·replace h := Go.L.ite_n (of_decide_eq_false hg918) h
           iterate 8 refine S_unwanted rfl rfl hg918 rfl ?_
           refine S_guarded rfl rfl hg915 ?_
           refine S_v (r_pickF rfl hg918 rfl) rfl ?_
           refine S_v (r_pickF rfl hg915 rfl) rfl ?_
           refine S_seqnil ?_
           refine W_false rfl ?_
           refine W_skip ?_
           refine At_block ?_
           refine At_seq ?_
           refine W_region ?_
           obtain ⟨hk928, h⟩ := Go.L.chk_some h
           refine S_v (r_ar64 rfl rfl rfl hk928) rfl ?_
           refine S_pu 1 rfl ?_
           refine S_nil ?_
           have h := Go.L.Nxt.again h hm909
           refine At_round ((s48_908 + (1 : Int)), n909) (.cons rfl (.cons rfl (.cons rfl (.cons rfl (.cons rfl (Sub.nil _)))))) ⟨hL909, h⟩ (Nat.lt_succ_self _)
        ·replace h := Go.L.ite_n hc911 h
         refine W_exit ?_
         refine At_seq_exit ?_
         refine At_loop_exit ?_
         replace h := Go.L.Nxt.out h hm909
         refine At_exit ?_
         refine At_cut () (Sub.nil _) ⟨hL909, h⟩
       ·rintro _ wr886 ⟨hL886, h⟩
        refine W_pz 1 rfl ?_
        refine W_ret ?_
        obtain rfl := Option.some.inj h
        refine At_body rfl rfl ?_
        exact ⟨hL886.ext, rfl⟩
noncomputable def shapes_Open_k1 (c26 : Int) (c27 : Int) (c28 : Int) : Option ((Int × (List (((List UInt8) × Int × Int × (List UInt8)) × (List Int)))) × (Int × Int)) :=
 some ((c28, []), (c26, c27))
noncomputable def shapes_Open_k2 (c50 : Int) (c51 : Int) (c52 : Int) : Option ((Int × (List (((List UInt8) × Int × Int × (List UInt8)) × (List Int)))) × (Int × Int)) :=
 some ((c52, []), (c50, c51))
noncomputable def shapes_Open_k5 (c255 : Int) (c256 : Int) (c257 : Int) : Option ((Int) ⊕ ((Int × (List (((List UInt8) × Int × Int × (List UInt8)) × (List Int)))) × (Int × Int))) :=
 Option.map Sum.inr (some ((c257, []), (c255, c256)))
noncomputable def shapes_Open_k6 (c286 : Int) (c287 : Int) (c288 : Int) : Option ((Int) ⊕ ((Int × (List (((List UInt8) × Int × Int × (List UInt8)) × (List Int)))) × (Int × Int))) :=
 Option.map Sum.inr (some ((c288, []), (c286, c287)))
noncomputable def shapes_Open_k7 (c322 : Int) (c323 : Int) (c324 : Int) : Option ((Int × (List (((List UInt8) × Int × Int × (List UInt8)) × (List Int)))) × (Int × Int)) :=
 some ((c324, []), (c322, c323))
noncomputable def shapes_Open_k3 (a0 : List UInt8) (x10 : (Int × Int)) (x14 : Int × Int × (Int × Int)) (x39 : (List (((List UInt8) × Int × Int × (List UInt8)) × (List Int))) × Int × (Int × Int)) : Option ((Int × (List (((List UInt8) × Int × Int × (List UInt8)) × (List Int)))) × (Int × Int)) :=
 Option.bind (shapes_Index_Bytes (x14.1, x39.1)) (fun x310 => Option.bind (bytes_Equal x310 a0) (fun x312 => if !x312 then shapes_Open_k7 x10.1 x10.2 (0 : Int) else some ((x14.1, x39.1), ((0 : Int), (0 : Int)))))
noncomputable def shapes_Open_bl4 (a0 : List UInt8) (x10 : (Int × Int)) (x14 : Int × Int × (Int × Int)) (x39 : (List (((List UInt8) × Int × Int × (List UInt8)) × (List Int))) × Int × (Int × Int)) : Int → Option ((Int) ⊕ ((Int × (List (((List UInt8) × Int × Int × (List UInt8)) × (List Int)))) × (Int × Int))) := fun s54_232 =>
 if s54_232 < (x39.1.length : Int) then Go.L.chk (0 ≤ s54_232 ∧ s54_232 < (x39.1.length : Int)) (Option.bind (shapes_entry_valid ((((x39.1.getD s54_232.toNat default).1).1, ((x39.1.getD s54_232.toNat default).1).2.1, ((x39.1.getD s54_232.toNat default).1).2.2.1, ((x39.1.getD s54_232.toNat default).1).2.2.2), (x39.1.getD s54_232.toNat default).2) x14.1) (fun x243 => if !x243 then shapes_Open_k5 x10.1 x10.2 (0 : Int) else if (0 : Int) < s54_232 then Go.L.chk (Go.L.I64 (s54_232 - (1 : Int))) (Go.L.chk (0 ≤ (s54_232 - (1 : Int)) ∧ (s54_232 - (1 : Int)) < (x39.1.length : Int)) (Option.bind (shapes_leaf_compare (((x39.1.getD s54_232.toNat default).1).1, ((x39.1.getD s54_232.toNat default).1).2.1, ((x39.1.getD s54_232.toNat default).1).2.2.1, ((x39.1.getD s54_232.toNat default).1).2.2.2) (((x39.1.getD ((s54_232 - (1 : Int)).toNat) default).1).1, ((x39.1.getD ((s54_232 - (1 : Int)).toNat) default).1).2.1, ((x39.1.getD ((s54_232 - (1 : Int)).toNat) default).1).2.2.1, ((x39.1.getD ((s54_232 - (1 : Int)).toNat) default).1).2.2.2)) (fun x274 => if x274 ≤ (0 : Int) then shapes_Open_k6 x10.1 x10.2 (0 : Int) else Go.L.chk (Go.L.I64 (s54_232 + (1 : Int))) (some (Sum.inl (s54_232 + (1 : Int))))))) else Go.L.chk (Go.L.I64 (s54_232 + (1 : Int))) (some (Sum.inl (s54_232 + (1 : Int)))))) else Option.map Sum.inr ((shapes_Open_k3 a0 x10 x14 x39))
noncomputable def shapes_Open_l4 (a0 : List UInt8) (x10 : (Int × Int)) (x14 : Int × Int × (Int × Int)) (x39 : (List (((List UInt8) × Int × Int × (List UInt8)) × (List Int))) × Int × (Int × Int)) (s : Int) : Option ((Int × (List (((List UInt8) × Int × Int × (List UInt8)) × (List Int)))) × (Int × Int)) := Go.L.run (shapes_Open_bl4 a0 x10 x14 x39) s
noncomputable def shapes_Open (a0 : List UInt8) : Option ((Int × (List (((List UInt8) × Int × Int × (List UInt8)) × (List Int)))) × (Int × Int)) :=
 if (16384 : Int) < (a0.length : Int) then Option.bind (shapes_fault (3 : Int) (-1 : Int)) (fun x5 => some (((0 : Int), []), (x5.1, x5.2))) else Option.bind (shapes_fault (16 : Int) (-1 : Int)) (fun x10 => Option.bind (wire_ReadNumber a0 (0 : Int)) (fun x14 => if (bif (bif !decide (x14.2.2.1 = (0 : Int) ∧ x14.2.2.2 = (0 : Int)) then true else decide (x14.1 < (0 : Int))) then true else decide ((64 : Int) < x14.1)) then shapes_Open_k1 x10.1 x10.2 (0 : Int) else Option.bind (wreads_entry a0 x14.2.1 (a0.length : Int)) (fun x39 => if x39.2.2.1 = (0 : Int) ∧ x39.2.2.2 = (0 : Int) then (shapes_Open_l4 a0 x10 x14 x39) (0 : Int) else shapes_Open_k2 x10.1 x10.2 (0 : Int))))
theorem shapes_Open_ok (w : World) (H : PH) (hH : Le H (hp w)) {a0 : List UInt8} {v0_0 : Value} (h0_0 : Vec .byte H v0_0 (a0)) {r : (Int × (List (((List UInt8) × Int × Int × (List UInt8)) × (List Int)))) × (Int × Int)} (h : shapes_Open a0 = some r) :
  Ok Tryz.prog 36 [v0_0] w (fun v w' => Ext w w' ∧ ∃ u0, v = .tuple #[.agg #[.int .i64 r.1.1, u0], .agg #[.int .i64 r.2.1, .int .i64 r.2.2]] ∧ Vec (.pair (.pair .st (.pair (.int .i64) (.pair (.int .i64) .st))) (.vec (.int .i64))) (un H (nw w w')) u0 (r.1.2)) := by
 refine Ok_enter (n := 94) [(0, v0_0)] func36 rfl rfl rfl rfl rfl ?_
 have hL := Lcl.start w
 refine W_seqr ?_
 refine S_alloc zr47 rfl rfl hL ?_
 intro w1 b1 hL1 hle1 _
 refine S_alloc zr23 rfl rfl hL1 ?_
 intro w2 b2 hL2 hle2 _
 refine S_seqnil ?_
 refine W_seq ?_
 refine W_p 1 rfl ?_
 refine S_v (r_len rfl underlying35 h0_0) rfl ?_
 refine S_pz 1 rfl ?_
 refine W_if rfl (fun hc3 => ?_) (fun hc3 => ?_)
 ·replace h := Go.L.ite_p hc3 h
  refine W_seqr ?_
  refine S_v (r_build rfl (fun _ => bld47_z _)) rfl ?_
  obtain ⟨x5, hb5, h⟩ := Go.L.bind_some h
  refine S_callL rfl rfl hL2 (shapes_fault_ok _ _ (gz_le hH hL2) hb5) ?_
  rintro _ w6 rfl hx6 hL6 hle6
  refine S_storeBN 1 rfl rfl rfl zr47 hL6 rfl rfl (onc rfl (onc rfl on0)) ?_
  intro w7 hL7 hle7
  refine S_storeBN 0 rfl rfl rfl zr23 hL7 rfl rfl (onc rfl (onc rfl on0)) ?_
  intro w8 hL8 hle8
  refine S_seqnil ?_
  refine W_ret ?_
  refine At_seq_ret ?_
  obtain rfl := Option.some.inj h
  refine At_got2 rfl (.cell rfl underlying47 rfl zr47 (box_ptr (i := 1) hL8 rfl)) (.cell rfl underlying23 rfl zr23 (box_ptr (i := 0) hL8 rfl)) ?_
  exact ⟨hL8.ext, _, rfl, (Vec.nil _ _)⟩
 ·replace h := Go.L.ite_n hc3 h
  refine W_skip ?_
  refine At_seq ?_
  refine W_seqr ?_
  obtain ⟨x10, hb10, h⟩ := Go.L.bind_some h
  refine S_callL rfl rfl hL2 (shapes_fault_ok _ _ (gz_le hH hL2) hb10) ?_
  rintro _ w11 rfl hx11 hL11 hle11
  refine S_alloc zr23 rfl rfl hL11 ?_
  intro w12 b12 hL12 hle12 _
  refine S_storeBN 0 rfl rfl rfl zr23 hL12 rfl rfl (onc rfl (onc rfl on0)) ?_
  intro w13 hL13 hle13
  refine S_seqnil ?_
  refine W_p 1 rfl ?_
  obtain ⟨x14, hb14, h⟩ := Go.L.bind_some h
  refine S_callL rfl rfl hL13 (wire_ReadNumber_ok _ _ (gz_le hH hL13) (h0_0.mono (gz_left hH)) hb14) ?_
  rintro _ w15 rfl hx15 hL15 hle15
  refine S_pu 4 rfl ?_
  refine S_alloc zr23 rfl rfl hL15 ?_
  intro w16 b16 hL16 hle16 _
  refine S_pu 2 rfl ?_
  refine S_storeBN 0 rfl rfl rfl zr23 hL16 rfl rfl (onc rfl (onc rfl on0)) ?_
  intro w17 hL17 hle17
  refine S_seqnil ?_
  refine W_seq ?_
  refine W_seqr ?_
  refine S_v (r_loadBN 0 rfl underlying23 rfl zr23 hL17 rfl) rfl ?_
  refine S_v (r_build rfl (fun _ => bld23_z _)) rfl ?_
  refine S_v (r_neA rfl rfl eqg23 (eq23 _ _ _ _ )) rfl ?_
  refine S_pu 1 rfl ?_
  refine S_pickF 2 3 rfl rfl rfl rfl rfl rfl rfl ?_
  refine S_pu 1 rfl ?_
  refine S_pickF 2 7 rfl rfl rfl rfl rfl rfl rfl ?_
  refine S_seqnil ?_
  refine W_cond rfl (fun hc18 => ?_) (fun hc18 => ?_)
  ·replace h := Go.L.ite_t hc18 h
   refine W_cut (σ := Int × Int × Int) (fun ⟨c26, c27, c28⟩ => [(2, .pointer (some ⟨b1, 0, none⟩)), (3, .pointer (some ⟨b2, 0, none⟩))]) (fun ⟨c26, c27, c28⟩ wr => Lcl w [.box b16 [.int .i64 x14.2.2.1, .int .i64 x14.2.2.2] 23, .box b12 [.int .i64 x10.1, .int .i64 x10.2] 23, .box b2 [.int .i64 c26, .int .i64 c27] 23, .box b1 [.int .i64 c28, .slice none 0 0] 47] wr ∧ shapes_Open_k1 c26 c27 c28 = some r) ?_ ?_
   ·refine W_naiveI (fun z0 z => Le (gz H w z0 [.box b16 [.int .i64 x14.2.2.1, .int .i64 x14.2.2.2] 23, .box b12 [.int .i64 x10.1, .int .i64 x10.2] 23, .box b2 [.int .i64 (0 : Int), .int .i64 (0 : Int)] 23, .box b1 [.int .i64 (0 : Int), .slice none 0 0] 47]) (hp z) ∧ z.heap[b16]? = some (.cells [.int .i64 x14.2.2.1, .int .i64 x14.2.2.2].toArray 23 (0, 0)) ∧ z.heap[b12]? = some (.cells [.int .i64 x10.1, .int .i64 x10.2].toArray 23 (0, 0)) ∧ z.heap[b2]? = some (.cells [.int .i64 (0 : Int), .int .i64 (0 : Int)].toArray 23 (0, 0))) mixed rfl (fun w32 hx32 => ?_)
    have hL33 := hL17.call hx32
    have hG34 := hL33.rG H
    refine NI_hoist 0 (np_cut (np_seq np_body)) ⟨hG34.trans (gz_le hH hL33), hL33.at (i := 0) rfl, hL33.at (i := 1) rfl, hL33.at (i := 2) rfl⟩ (by kernel_rfl) rfl (fun _ _ => r_build rfl (fun _ => bld47_z _)) rfl ?_
    refine NI_hoist 1 (np_cut (np_seq np_body)) ⟨hG34.trans (gz_le hH hL33), hL33.at (i := 0) rfl, hL33.at (i := 1) rfl, hL33.at (i := 2) rfl⟩ (by kernel_rfl) rfl (fun _ hI => r_loadHN rfl underlying23 rfl zr23 hI.2.2.1) rfl ?_
    refine NI1 (i := 2) (by kernel_rfl) rfl ?_
    refine S_storeBN 3 rfl rfl rfl zr47 hL33 rfl rfl (onc rfl (onc rfl on0)) ?_
    intro w35 hL35 hle35
    replace hG34 := hG34.trans (gz_mono hH hle35)
    refine NI_nil ⟨hG34.trans (gz_le hH hL35), hL35.at (i := 0) rfl, hL35.at (i := 1) rfl, hL35.at (i := 2) rfl⟩ ?_
    refine NI1 (i := 3) (by kernel_rfl) rfl ?_
    refine S_storeBN 2 rfl rfl rfl zr23 hL35 rfl rfl (onc rfl (onc rfl on0)) ?_
    intro w36 hL36 hle36
    replace hG34 := hG34.trans (gz_mono hH hle36)
    refine NI_last (by kernel_rfl) ?_
    refine NI_end (by kernel_rfl) ?_
    refine At_cut (x10.1, x10.2, (0 : Int)) (.cons rfl (.cons rfl (Sub.nil _))) ⟨hL36, h⟩
   ·rintro ⟨c26, c27, c28⟩ wr30 ⟨hL30, h⟩
    refine W_ret ?_
    refine At_seq_ret ?_
    obtain rfl := Option.some.inj h
    refine At_got2 rfl (.cell rfl underlying47 rfl zr47 (box_ptr (i := 3) hL30 rfl)) (.cell rfl underlying23 rfl zr23 (box_ptr (i := 2) hL30 rfl)) ?_
    exact ⟨hL30.ext, _, rfl, (Vec.nil _ _)⟩
  ·replace h := Go.L.ite_f hc18 h
   refine W_skip ?_
   refine At_seq ?_
   refine W_p 3 rfl ?_
   refine S_v (r_len rfl underlying35 h0_0) rfl ?_
   obtain ⟨x39, hb39, h⟩ := Go.L.bind_some h
   refine S_callL rfl rfl hL17 (wreads_entry_ok _ _ (gz_le hH hL17) (h0_0.mono (gz_left hH)) hb39) ?_
   rintro _ w40 ⟨u40_0, rfl, hR40_0⟩ hx40 hL40 hle40
   have hv40_0 := hR40_0.vecG hH hL17 hx40
   refine S_pu 6 rfl ?_
   refine S_storeBN 0 rfl rfl rfl zr23 hL40 rfl rfl (onc rfl (onc rfl on0)) ?_
   intro w41 hL41 hle41
   replace hv40_0 := hv40_0.mono (gz_mono hH hle41)
   refine S_seqnil ?_
   refine W_seq ?_
   refine W_seqr ?_
   refine S_v (r_loadBN 0 rfl underlying23 rfl zr23 hL41 rfl) rfl ?_
   refine S_v (r_build rfl (fun _ => bld23_z _)) rfl ?_
   refine S_v (r_neA rfl rfl eqg23 (eq23 _ _ _ _ )) rfl ?_
   refine S_seqnil ?_
   refine W_ifn rfl (fun hc42 => ?_) (fun hc42 => ?_)
   ·replace h := Go.L.ite_n hc42 h
    refine W_cut (σ := Int × Int × Int) (fun ⟨c50, c51, c52⟩ => [(2, .pointer (some ⟨b1, 0, none⟩)), (3, .pointer (some ⟨b2, 0, none⟩))]) (fun ⟨c50, c51, c52⟩ wr => Lcl w [.box b16 [.int .i64 x39.2.2.1, .int .i64 x39.2.2.2] 23, .box b12 [.int .i64 x10.1, .int .i64 x10.2] 23, .box b2 [.int .i64 c50, .int .i64 c51] 23, .box b1 [.int .i64 c52, .slice none 0 0] 47] wr ∧ shapes_Open_k2 c50 c51 c52 = some r) ?_ ?_
    ·refine W_naiveI (fun z0 z => Le (gz H w z0 [.box b16 [.int .i64 x39.2.2.1, .int .i64 x39.2.2.2] 23, .box b12 [.int .i64 x10.1, .int .i64 x10.2] 23, .box b2 [.int .i64 (0 : Int), .int .i64 (0 : Int)] 23, .box b1 [.int .i64 (0 : Int), .slice none 0 0] 47]) (hp z) ∧ z.heap[b16]? = some (.cells [.int .i64 x39.2.2.1, .int .i64 x39.2.2.2].toArray 23 (0, 0)) ∧ z.heap[b12]? = some (.cells [.int .i64 x10.1, .int .i64 x10.2].toArray 23 (0, 0)) ∧ z.heap[b2]? = some (.cells [.int .i64 (0 : Int), .int .i64 (0 : Int)].toArray 23 (0, 0))) mixed rfl (fun w56 hx56 => ?_)
     have hL57 := hL41.call hx56
     have hG58 := hL57.rG H
     refine NI_hoist 0 (np_cut (np_seq np_body)) ⟨hG58.trans (gz_le hH hL57), hL57.at (i := 0) rfl, hL57.at (i := 1) rfl, hL57.at (i := 2) rfl⟩ (by kernel_rfl) rfl (fun _ _ => r_build rfl (fun _ => bld47_z _)) rfl ?_
     refine NI_hoist 1 (np_cut (np_seq np_body)) ⟨hG58.trans (gz_le hH hL57), hL57.at (i := 0) rfl, hL57.at (i := 1) rfl, hL57.at (i := 2) rfl⟩ (by kernel_rfl) rfl (fun _ hI => r_loadHN rfl underlying23 rfl zr23 hI.2.2.1) rfl ?_
     refine NI1 (i := 2) (by kernel_rfl) rfl ?_
     refine S_storeBN 3 rfl rfl rfl zr47 hL57 rfl rfl (onc rfl (onc rfl on0)) ?_
     intro w59 hL59 hle59
     replace hG58 := hG58.trans (gz_mono hH hle59)
     refine NI_nil ⟨hG58.trans (gz_le hH hL59), hL59.at (i := 0) rfl, hL59.at (i := 1) rfl, hL59.at (i := 2) rfl⟩ ?_
     refine NI1 (i := 3) (by kernel_rfl) rfl ?_
     refine S_storeBN 2 rfl rfl rfl zr23 hL59 rfl rfl (onc rfl (onc rfl on0)) ?_
     intro w60 hL60 hle60
     replace hG58 := hG58.trans (gz_mono hH hle60)
     refine NI_last (by kernel_rfl) ?_
     refine NI_end (by kernel_rfl) ?_
     refine At_cut (x10.1, x10.2, (0 : Int)) (.cons rfl (.cons rfl (Sub.nil _))) ⟨hL60, h⟩
    ·rintro ⟨c50, c51, c52⟩ wr54 ⟨hL54, h⟩
     refine W_ret ?_
     refine At_seq_ret ?_
     obtain rfl := Option.some.inj h
     refine At_got2 rfl (.cell rfl underlying47 rfl zr47 (box_ptr (i := 3) hL54 rfl)) (.cell rfl underlying23 rfl zr23 (box_ptr (i := 2) hL54 rfl)) ?_
     exact ⟨hL54.ext, _, rfl, (Vec.nil _ _)⟩
   ·replace h := Go.L.ite_p hc42 h
    refine W_skip ?_
    refine At_seq ?_
    refine W_cut (σ := Unit) (fun (_ : Unit) => [(0, v0_0), (2, .pointer (some ⟨b1, 0, none⟩)), (3, .pointer (some ⟨b2, 0, none⟩)), (4, .pointer (some ⟨b12, 0, none⟩)), (5, .int .i64 x14.1), (8, u40_0)]) (fun (_ : Unit) wr => InO w [.box b16 [.int .i64 x39.2.2.1, .int .i64 x39.2.2.2] 23, .box b12 [.int .i64 x10.1, .int .i64 x10.2] 23, .box b2 [.int .i64 (0 : Int), .int .i64 (0 : Int)] 23, .box b1 [.int .i64 (0 : Int), .slice none 0 0] 47] wr fun Oz => Vec (.pair (.pair .st (.pair (.int .i64) (.pair (.int .i64) .st))) (.vec (.int .i64))) (gz H w wr Oz) (u40_0) (x39.1) ∧ (shapes_Open_k3 a0 x10 x14 x39) = some r) ?_ ?_
    ·refine W_p 1 rfl ?_
     refine S_v (r_len rfl underlying45 hv40_0) rfl ?_
     refine S_pz 1 rfl ?_
     refine W_block ?_
     obtain ⟨n233, h⟩ := Go.L.run_some h
     refine W_loop (σ := Int × Nat) (fun ⟨s54_232, n⟩ => [(0, v0_0), (2, .pointer (some ⟨b1, 0, none⟩)), (3, .pointer (some ⟨b2, 0, none⟩)), (4, .pointer (some ⟨b12, 0, none⟩)), (5, .int .i64 x14.1), (8, u40_0), (52, u40_0), (53, .int .i64 (x39.1.length : Int)), (54, .int .i64 s54_232)]) (fun ⟨s54_232, n⟩ wr => InO w [.box b16 [.int .i64 x39.2.2.1, .int .i64 x39.2.2.2] 23, .box b12 [.int .i64 x10.1, .int .i64 x10.2] 23, .box b2 [.int .i64 (0 : Int), .int .i64 (0 : Int)] 23, .box b1 [.int .i64 (0 : Int), .slice none 0 0] 47] wr fun Oz => Vec (.pair (.pair .st (.pair (.int .i64) (.pair (.int .i64) .st))) (.vec (.int .i64))) (gz H w wr Oz) (u40_0) (x39.1) ∧ Go.L.itr (shapes_Open_bl4 a0 x10 x14 x39) n s54_232 = some r) (fun ⟨s54_232, n⟩ => n) ((0 : Int), n233) (.cons rfl (.cons rfl (.cons rfl (.cons rfl (.cons rfl (.cons rfl (.cons rfl (.cons rfl (.cons rfl (Sub.nil _)))))))))) ⟨hL41, hv40_0, h⟩ ?_
     rintro ⟨s54_232, nn233⟩ wr233 ⟨hL233, hf233_0, h⟩
     obtain ⟨n233, e233, rfl, h, hm233⟩ := Go.L.itr_some h
     refine W_pz 1 rfl ?_
     refine W_seq ?_
     refine W_if rfl (fun hc235 => ?_) (fun hc235 => ?_)
     ·replace h := Go.L.ite_p hc235 h
      refine W_skip ?_
      refine At_seq ?_
      refine W_seq ?_
      refine W_block ?_
      refine W_p 1 rfl ?_
      obtain ⟨hk238, h⟩ := Go.L.chk_some h
      refine S_index rfl rfl underlying45 zr96 hf233_0 s54_232.toNat (Int.toNat_of_nonneg hk238.1).symm (idx_lt hk238) rfl ?_
      rintro p237 _ ⟨_, _, rfl, ⟨_, _, rfl, rfl, ⟨_, _, rfl, rfl, ⟨_, _, rfl, rfl, rfl⟩⟩⟩, ⟨e237v4, rfl, e237h4⟩⟩ hp237
      refine S_v (r_loadN rfl underlying96 rfl zr96 hp237 (gz_le hH hL233)) rfl ?_
      refine S_alloc zr96 rfl rfl hL233 ?_
      intro w239 b239 hL239 hle239 _
      replace hf233_0 := hf233_0.mono (gz_mono hH hle239)
      replace hp237 := hp237.mono (gz_mono hH hle239)
      replace e237h4 := e237h4.mono (gz_mono hH hle239)
      refine S_pu 1 rfl ?_
      refine S_storeBN 0 rfl rfl rfl zr96 hL239 rfl rfl (onc rfl (onc rfl (onc rfl (onc rfl (onc e237h4.one on0))))) ?_
      intro w240 hL240 hle240
      replace hf233_0 := hf233_0.mono (gz_mono hH hle240)
      replace hp237 := hp237.mono (gz_mono hH hle240)
      replace e237h4 := e237h4.mono (gz_mono hH hle240)
      refine S_seqnil ?_
      refine W_seqd (.q 0 (.q 1 (.q 2 (.q 3 (.q 4 (.q 5 (.q 6 (.q 7 (.q 8 (.q 9 (.q 10 (.q 11 (.q 12 (.q 13 (.q 14 (.q 15 (.q 16 (.q 17 (.q 18 (.q 19 (.tail 20))))))))))))))))))))) mixed (by kernel_rfl) (fun w241 hx241 => ?_)
      have hL242 := hL240.call hx241
      have hle242 := fz_ext hL240 hx241
      replace hf233_0 := hf233_0.mono (gz_mono hH hle242)
      replace e237h4 := e237h4.mono (gz_mono hH hle242)
      refine D_v (r_loadBN 0 rfl underlying96 rfl zr96 hL242 rfl) rfl rfl ?_
      refine D_pu 1 rfl ?_
      obtain ⟨x243, hb243, h⟩ := Go.L.bind_some h
      have hok244 := (fun (w244 : World) (hx244 : Ext w241 w244) => shapes_entry_valid_ok w244 _ (Le.refl _) ((e237h4.mono (gz_le hH hL242)).mono hx244.le) hb243)
      refine D_call rfl rfl rfl hok244 ?_
      refine D_pu 2 rfl ?_
      refine D_split (s := 63) rfl (fun hg245 => ?_) (fun hg245 => ?_)
      ·replace h := Go.L.ite_t hg245 h
       iterate 3 refine D_no rfl rfl rfl rfl hg245 rfl ?_
       iterate 10 refine D_no2 rfl rfl rfl rfl rfl ?_
       refine D_no rfl rfl rfl rfl hg245 rfl ?_
       refine D_v (r_pickT rfl hg245 rfl) rfl rfl ?_
       refine D_tail (fun w247 hx247 => ?_)
       have hL248 := hL242.call hx247
       have hle248 := fz_ext hL242 hx247
       replace hf233_0 := hf233_0.mono (gz_mono hH hle248)
       replace e237h4 := e237h4.mono (gz_mono hH hle248)
       refine S_seqnil ?_
       refine W_true rfl ?_
       refine W_cut (σ := Int × Int × Int) (fun ⟨c255, c256, c257⟩ => [(2, .pointer (some ⟨b1, 0, none⟩)), (3, .pointer (some ⟨b2, 0, none⟩))]) (fun ⟨c255, c256, c257⟩ wr => InO w [.box b239 [.string ⟨(((x39.1.getD s54_232.toNat default).1).1).toArray⟩, .int .i64 (((x39.1.getD s54_232.toNat default).1).2.1), .int .i64 (((x39.1.getD s54_232.toNat default).1).2.2.1), .string ⟨(((x39.1.getD s54_232.toNat default).1).2.2.2).toArray⟩, e237v4] 96, .box b16 [.int .i64 x39.2.2.1, .int .i64 x39.2.2.2] 23, .box b12 [.int .i64 x10.1, .int .i64 x10.2] 23, .box b2 [.int .i64 c255, .int .i64 c256] 23, .box b1 [.int .i64 c257, .slice none 0 0] 47] wr fun Oz => Vec (.int .i64) (gz H w wr Oz) (e237v4) ((x39.1.getD s54_232.toNat default).2) ∧ shapes_Open_k5 c255 c256 c257 = some e233) ?_ ?_
       ·refine W_naiveI (fun z0 z => Le (gz H w z0 [.box b239 [.string ⟨(((x39.1.getD s54_232.toNat default).1).1).toArray⟩, .int .i64 (((x39.1.getD s54_232.toNat default).1).2.1), .int .i64 (((x39.1.getD s54_232.toNat default).1).2.2.1), .string ⟨(((x39.1.getD s54_232.toNat default).1).2.2.2).toArray⟩, e237v4] 96, .box b16 [.int .i64 x39.2.2.1, .int .i64 x39.2.2.2] 23, .box b12 [.int .i64 x10.1, .int .i64 x10.2] 23, .box b2 [.int .i64 (0 : Int), .int .i64 (0 : Int)] 23, .box b1 [.int .i64 (0 : Int), .slice none 0 0] 47]) (hp z) ∧ z.heap[b239]? = some (.cells [.string ⟨(((x39.1.getD s54_232.toNat default).1).1).toArray⟩, .int .i64 (((x39.1.getD s54_232.toNat default).1).2.1), .int .i64 (((x39.1.getD s54_232.toNat default).1).2.2.1), .string ⟨(((x39.1.getD s54_232.toNat default).1).2.2.2).toArray⟩, e237v4].toArray 96 (0, 0)) ∧ z.heap[b16]? = some (.cells [.int .i64 x39.2.2.1, .int .i64 x39.2.2.2].toArray 23 (0, 0)) ∧ z.heap[b12]? = some (.cells [.int .i64 x10.1, .int .i64 x10.2].toArray 23 (0, 0)) ∧ z.heap[b2]? = some (.cells [.int .i64 (0 : Int), .int .i64 (0 : Int)].toArray 23 (0, 0))) mixed rfl (fun w261 hx261 => ?_)
        have hL262 := hL248.call hx261
        have hle262 := fz_ext hL248 hx261
        replace hf233_0 := hf233_0.mono (gz_mono hH hle262)
        replace e237h4 := e237h4.mono (gz_mono hH hle262)
        have hG263 := hL262.rG H
        refine NI_hoist 0 (np_cut (np_block (np_seq (np_loop (np_block (np_cut np_body)))))) ⟨hG263.trans (gz_le hH hL262), hL262.at (i := 0) rfl, hL262.at (i := 1) rfl, hL262.at (i := 2) rfl, hL262.at (i := 3) rfl⟩ (by kernel_rfl) rfl (fun _ _ => r_build rfl (fun _ => bld47_z _)) rfl ?_
        refine NI_hoist 1 (np_cut (np_block (np_seq (np_loop (np_block (np_cut np_body)))))) ⟨hG263.trans (gz_le hH hL262), hL262.at (i := 0) rfl, hL262.at (i := 1) rfl, hL262.at (i := 2) rfl, hL262.at (i := 3) rfl⟩ (by kernel_rfl) rfl (fun _ hI => r_loadHN rfl underlying23 rfl zr23 hI.2.2.2.1) rfl ?_
        refine NI1 (i := 2) (by kernel_rfl) rfl ?_
        refine S_storeBN 4 rfl rfl rfl zr47 hL262 rfl rfl (onc rfl (onc rfl on0)) ?_
        intro w264 hL264 hle264
        replace hG263 := hG263.trans (gz_mono hH hle264)
        refine NI_nil ⟨hG263.trans (gz_le hH hL264), hL264.at (i := 0) rfl, hL264.at (i := 1) rfl, hL264.at (i := 2) rfl, hL264.at (i := 3) rfl⟩ ?_
        refine NI1 (i := 3) (by kernel_rfl) rfl ?_
        refine S_storeBN 3 rfl rfl rfl zr23 hL264 rfl rfl (onc rfl (onc rfl on0)) ?_
        intro w265 hL265 hle265
        replace hG263 := hG263.trans (gz_mono hH hle265)
        refine NI_last (by kernel_rfl) ?_
        refine NI_end (by kernel_rfl) ?_
        refine At_cut (x10.1, x10.2, (0 : Int)) (.cons rfl (.cons rfl (Sub.nil _))) ⟨hL265, (e237h4.mono hG263), h⟩
       ·rintro ⟨c255, c256, c257⟩ wr259 ⟨hL259, hf259_0, h⟩
        refine W_ret ?_
        refine At_block_ret ?_
        refine At_seq_ret ?_
        refine At_loop_ret ?_
        replace h := Go.L.Nxt.out h hm233
        refine At_block_ret ?_
        refine At_cut_ret ?_
        obtain rfl := Option.some.inj h
        refine At_got2 rfl (.cell rfl underlying47 rfl zr47 (box_ptr (i := 4) hL259 rfl)) (.cell rfl underlying23 rfl zr23 (box_ptr (i := 3) hL259 rfl)) ?_
        exact ⟨hL259.ext, _, rfl, (Vec.nil _ _)⟩
      ·replace h := Go.L.ite_f hg245 h
       iterate 3 refine D_vg (RunsAt_pu rfl) rfl rfl rfl rfl hg245 rfl ?_
       refine D_split (s := 66) rfl (fun hg268 => ?_) (fun hg268 => ?_)
       ·replace h := Go.L.ite_p (of_decide_eq_true hg268) h
        refine D_vg (r_field rfl underlying96 rfl zr84 (by decide)) rfl rfl rfl rfl hg268 rfl ?_
        refine D_vg (r_loadBP 0 4 rfl underlying84 rfl zr84 hL242 rfl rfl) rfl rfl rfl rfl hg268 rfl ?_
        iterate 2 refine D_vg (RunsAt_pu rfl) rfl rfl rfl rfl hg268 rfl ?_
        obtain ⟨hk270, h⟩ := Go.L.chk_some h
        refine D_vg (r_ar64 rfl rfl rfl hk270) rfl rfl rfl rfl hg268 rfl ?_
        obtain ⟨hk272, h⟩ := Go.L.chk_some h
        refine D_indexg rfl rfl rfl rfl hg268 rfl rfl underlying45 zr96 hf233_0 ((s54_232 - (1 : Int)).toNat) (Int.toNat_of_nonneg hk272.1).symm (idx_lt hk272) rfl ?_
        rintro p271 _ ⟨_, _, rfl, ⟨_, _, rfl, rfl, ⟨_, _, rfl, rfl, ⟨_, _, rfl, rfl, rfl⟩⟩⟩, ⟨e271v4, rfl, e271h4⟩⟩ hp271
        refine D_vg (r_field rfl underlying96 rfl zr84 (by decide)) rfl rfl rfl rfl hg268 rfl ?_
        have hp273 := hp271.add 0
        refine D_vg (r_loadP 4 rfl underlying84 rfl zr84 hp273 (gz_le hH hL242) rfl) rfl rfl rfl rfl hg268 rfl ?_
        obtain ⟨x274, hb274, h⟩ := Go.L.bind_some h
        have hok275 := (fun (w275 : World) (hx275 : Ext w241 w275) => shapes_leaf_compare_ok w275 _ (Le.refl _) hb274)
        refine D_callg rfl rfl rfl rfl hg268 rfl rfl hok275 ?_
        refine D_vg (RunsAt_pu rfl) rfl rfl rfl rfl hg268 rfl ?_
        refine D_vg (r_pickT rfl hg268 rfl) rfl rfl rfl rfl hg245 rfl ?_
        refine D_v (r_pickF rfl hg245 rfl) rfl rfl ?_
        refine D_tail (fun w276 hx276 => ?_)
        have hL277 := hL242.call hx276
        have hle277 := fz_ext hL242 hx276
        replace hf233_0 := hf233_0.mono (gz_mono hH hle277)
        replace e237h4 := e237h4.mono (gz_mono hH hle277)
        replace hp271 := hp271.mono (gz_mono hH hle277)
        replace e271h4 := e271h4.mono (gz_mono hH hle277)
        replace hp273 := hp273.mono (gz_mono hH hle277)
        refine S_seqnil ?_
        refine W_if rfl (fun hc278 => ?_) (fun hc278 => ?_)
        ·replace h := Go.L.ite_p hc278 h
         refine W_cut (σ := Int × Int × Int) (fun ⟨c286, c287, c288⟩ => [(2, .pointer (some ⟨b1, 0, none⟩)), (3, .pointer (some ⟨b2, 0, none⟩))]) (fun ⟨c286, c287, c288⟩ wr => InO w [.box b239 [.string ⟨(((x39.1.getD s54_232.toNat default).1).1).toArray⟩, .int .i64 (((x39.1.getD s54_232.toNat default).1).2.1), .int .i64 (((x39.1.getD s54_232.toNat default).1).2.2.1), .string ⟨(((x39.1.getD s54_232.toNat default).1).2.2.2).toArray⟩, e237v4] 96, .box b16 [.int .i64 x39.2.2.1, .int .i64 x39.2.2.2] 23, .box b12 [.int .i64 x10.1, .int .i64 x10.2] 23, .box b2 [.int .i64 c286, .int .i64 c287] 23, .box b1 [.int .i64 c288, .slice none 0 0] 47] wr fun Oz => Vec (.int .i64) (gz H w wr Oz) (e237v4) ((x39.1.getD s54_232.toNat default).2) ∧ shapes_Open_k6 c286 c287 c288 = some e233) ?_ ?_
         ·refine W_naiveI (fun z0 z => Le (gz H w z0 [.box b239 [.string ⟨(((x39.1.getD s54_232.toNat default).1).1).toArray⟩, .int .i64 (((x39.1.getD s54_232.toNat default).1).2.1), .int .i64 (((x39.1.getD s54_232.toNat default).1).2.2.1), .string ⟨(((x39.1.getD s54_232.toNat default).1).2.2.2).toArray⟩, e237v4] 96, .box b16 [.int .i64 x39.2.2.1, .int .i64 x39.2.2.2] 23, .box b12 [.int .i64 x10.1, .int .i64 x10.2] 23, .box b2 [.int .i64 (0 : Int), .int .i64 (0 : Int)] 23, .box b1 [.int .i64 (0 : Int), .slice none 0 0] 47]) (hp z) ∧ z.heap[b239]? = some (.cells [.string ⟨(((x39.1.getD s54_232.toNat default).1).1).toArray⟩, .int .i64 (((x39.1.getD s54_232.toNat default).1).2.1), .int .i64 (((x39.1.getD s54_232.toNat default).1).2.2.1), .string ⟨(((x39.1.getD s54_232.toNat default).1).2.2.2).toArray⟩, e237v4].toArray 96 (0, 0)) ∧ z.heap[b16]? = some (.cells [.int .i64 x39.2.2.1, .int .i64 x39.2.2.2].toArray 23 (0, 0)) ∧ z.heap[b12]? = some (.cells [.int .i64 x10.1, .int .i64 x10.2].toArray 23 (0, 0)) ∧ z.heap[b2]? = some (.cells [.int .i64 (0 : Int), .int .i64 (0 : Int)].toArray 23 (0, 0))) mixed rfl (fun w292 hx292 => ?_)
          have hL293 := hL277.call hx292
          have hle293 := fz_ext hL277 hx292
          replace e237h4 := e237h4.mono (gz_mono hH hle293)
          have hG294 := hL293.rG H
          refine NI_hoist 0 (np_cut (np_block (np_seq (np_loop (np_block (np_cut np_body)))))) ⟨hG294.trans (gz_le hH hL293), hL293.at (i := 0) rfl, hL293.at (i := 1) rfl, hL293.at (i := 2) rfl, hL293.at (i := 3) rfl⟩ (by kernel_rfl) rfl (fun _ _ => r_build rfl (fun _ => bld47_z _)) rfl ?_
          refine NI_hoist 1 (np_cut (np_block (np_seq (np_loop (np_block (np_cut np_body)))))) ⟨hG294.trans (gz_le hH hL293), hL293.at (i := 0) rfl, hL293.at (i := 1) rfl, hL293.at (i := 2) rfl, hL293.at (i := 3) rfl⟩ (by kernel_rfl) rfl (fun _ hI => r_loadHN rfl underlying23 rfl zr23 hI.2.2.2.1) rfl ?_
          refine NI1 (i := 2) (by kernel_rfl) rfl ?_
          refine S_storeBN 4 rfl rfl rfl zr47 hL293 rfl rfl (onc rfl (onc rfl on0)) ?_
          intro w295 hL295 hle295
          replace hG294 := hG294.trans (gz_mono hH hle295)
          refine NI_nil ⟨hG294.trans (gz_le hH hL295), hL295.at (i := 0) rfl, hL295.at (i := 1) rfl, hL295.at (i := 2) rfl, hL295.at (i := 3) rfl⟩ ?_
          refine NI1 (i := 3) (by kernel_rfl) rfl ?_
          refine S_storeBN 3 rfl rfl rfl zr23 hL295 rfl rfl (onc rfl (onc rfl on0)) ?_
          intro w296 hL296 hle296
          replace hG294 := hG294.trans (gz_mono hH hle296)
          refine NI_last (by kernel_rfl) ?_
          refine NI_end (by kernel_rfl) ?_
          refine At_cut (x10.1, x10.2, (0 : Int)) (.cons rfl (.cons rfl (Sub.nil _))) ⟨hL296, (e237h4.mono hG294), h⟩
         ·rintro ⟨c286, c287, c288⟩ wr290 ⟨hL290, hf290_0, h⟩
          refine W_ret ?_
          refine At_block_ret ?_
          refine At_seq_ret ?_
          refine At_loop_ret ?_
          replace h := Go.L.Nxt.out h hm233
          refine At_block_ret ?_
          refine At_cut_ret ?_
          obtain rfl := Option.some.inj h
          refine At_got2 rfl (.cell rfl underlying47 rfl zr47 (box_ptr (i := 4) hL290 rfl)) (.cell rfl underlying23 rfl zr23 (box_ptr (i := 3) hL290 rfl)) ?_
          exact ⟨hL290.ext, _, rfl, (Vec.nil _ _)⟩
        ·replace h := Go.L.ite_n hc278 h
         refine W_skip ?_
         refine At_block ?_
         refine At_seq ?_
         refine W_region ?_
         obtain ⟨hk299, h⟩ := Go.L.chk_some h
         refine S_v (r_ar64 rfl rfl rfl hk299) rfl ?_
         refine S_pu 1 rfl ?_
         refine S_nil ?_
         have hL300 := hL277.dropAt (i := 0) rfl
         replace hf233_0 := hf233_0.mono (gz_mono hH (fz_dropAt (i := 0) rfl))
         replace e237h4 := e237h4.mono (gz_mono hH (fz_dropAt (i := 0) rfl))
         have h := Go.L.Nxt.again h hm233
         refine At_round ((s54_232 + (1 : Int)), n233) (.cons rfl (.cons rfl (.cons rfl (.cons rfl (.cons rfl (.cons rfl (.cons rfl (.cons rfl (.cons rfl (Sub.nil _)))))))))) ⟨hL300, hf233_0, h⟩ (Nat.lt_succ_self _)
       ·replace h := Go.L.ite_n (of_decide_eq_false hg268) h
        iterate 10 refine D_no rfl rfl rfl rfl hg268 rfl ?_
        refine D_vg (r_pickF rfl hg268 rfl) rfl rfl rfl rfl hg245 rfl ?_
        refine D_v (r_pickF rfl hg245 rfl) rfl rfl ?_
        refine D_tail (fun w302 hx302 => ?_)
        have hL303 := hL242.call hx302
        have hle303 := fz_ext hL242 hx302
        replace hf233_0 := hf233_0.mono (gz_mono hH hle303)
        replace e237h4 := e237h4.mono (gz_mono hH hle303)
        refine S_seqnil ?_
        refine W_false rfl ?_
        refine W_skip ?_
        refine At_block ?_
        refine At_seq ?_
        refine W_region ?_
        obtain ⟨hk304, h⟩ := Go.L.chk_some h
        refine S_v (r_ar64 rfl rfl rfl hk304) rfl ?_
        refine S_pu 1 rfl ?_
        refine S_nil ?_
        have hL305 := hL303.dropAt (i := 0) rfl
        replace hf233_0 := hf233_0.mono (gz_mono hH (fz_dropAt (i := 0) rfl))
        replace e237h4 := e237h4.mono (gz_mono hH (fz_dropAt (i := 0) rfl))
        have h := Go.L.Nxt.again h hm233
        refine At_round ((s54_232 + (1 : Int)), n233) (.cons rfl (.cons rfl (.cons rfl (.cons rfl (.cons rfl (.cons rfl (.cons rfl (.cons rfl (.cons rfl (Sub.nil _)))))))))) ⟨hL305, hf233_0, h⟩ (Nat.lt_succ_self _)
     ·replace h := Go.L.ite_n hc235 h
      refine W_exit ?_
      refine At_seq_exit ?_
      refine At_loop_exit ?_
      replace h := Go.L.Nxt.out h hm233
      refine At_exit ?_
      refine At_cut () (.cons rfl (.cons rfl (.cons rfl (.cons rfl (.cons rfl (.cons rfl (Sub.nil _))))))) ⟨hL233, hf233_0, h⟩
    ·rintro _ wr175 ⟨hL175, hf175_0, h⟩
     refine W_p 2 rfl ?_
     refine S_v (r_build rfl (fun _ => bld47_0_1 _ _ hf175_0.one _)) rfl ?_
     refine S_alloc zr47 rfl rfl hL175 ?_
     intro w308 b308 hL308 hle308 _
     replace hf175_0 := hf175_0.mono (gz_mono hH hle308)
     refine S_storeBN 0 rfl rfl rfl zr47 hL308 rfl rfl (onc rfl (onc hf175_0.one on0)) ?_
     intro w309 hL309 hle309
     replace hf175_0 := hf175_0.mono (gz_mono hH hle309)
     refine S_seqnil ?_
     refine W_seq ?_
     refine W_seqr ?_
     refine S_v (r_loadBN 0 rfl underlying47 rfl zr47 hL309 rfl) rfl ?_
     obtain ⟨x310, hb310, h⟩ := Go.L.bind_some h
     refine S_callL rfl rfl hL309 (shapes_Index_Bytes_ok (a0 := (x14.1, x39.1)) _ _ (gz_le hH hL309) hf175_0 hb310) ?_
     rintro u311_0 w311 ⟨_, rfl, hR311_0⟩ hx311 hL311 hle311
     have hv311_0 := hR311_0.vecG hH hL309 hx311
     replace hf175_0 := hf175_0.mono (gz_mono hH hle311)
     refine S_pu 1 rfl ?_
     obtain ⟨x312, hb312, h⟩ := Go.L.bind_some h
     refine S_callL rfl rfl hL311 (bytes_Equal_ok _ _ (gz_le hH hL311) hv311_0 (h0_0.mono (gz_left hH)) hb312) ?_
     rintro _ w313 rfl hx313 hL313 hle313
     replace hf175_0 := hf175_0.mono (gz_mono hH hle313)
     replace hv311_0 := hv311_0.mono (gz_mono hH hle313)
     refine S_pz 1 rfl ?_
     refine W_cond rfl (fun hc314 => ?_) (fun hc314 => ?_)
     ·replace h := Go.L.ite_t hc314 h
      refine W_cut (σ := Int × Int × Int) (fun ⟨c322, c323, c324⟩ => [(2, .pointer (some ⟨b1, 0, none⟩)), (3, .pointer (some ⟨b2, 0, none⟩))]) (fun ⟨c322, c323, c324⟩ wr => InO w [.box b308 [.int .i64 x14.1, u40_0] 47, .box b16 [.int .i64 x39.2.2.1, .int .i64 x39.2.2.2] 23, .box b12 [.int .i64 x10.1, .int .i64 x10.2] 23, .box b2 [.int .i64 c322, .int .i64 c323] 23, .box b1 [.int .i64 c324, .slice none 0 0] 47] wr fun Oz => Vec (.pair (.pair .st (.pair (.int .i64) (.pair (.int .i64) .st))) (.vec (.int .i64))) (gz H w wr Oz) (u40_0) (x39.1) ∧ shapes_Open_k7 c322 c323 c324 = some r) ?_ ?_
      ·refine W_naiveI (fun z0 z => Le (gz H w z0 [.box b308 [.int .i64 x14.1, u40_0] 47, .box b16 [.int .i64 x39.2.2.1, .int .i64 x39.2.2.2] 23, .box b12 [.int .i64 x10.1, .int .i64 x10.2] 23, .box b2 [.int .i64 (0 : Int), .int .i64 (0 : Int)] 23, .box b1 [.int .i64 (0 : Int), .slice none 0 0] 47]) (hp z) ∧ z.heap[b308]? = some (.cells [.int .i64 x14.1, u40_0].toArray 47 (0, 0)) ∧ z.heap[b16]? = some (.cells [.int .i64 x39.2.2.1, .int .i64 x39.2.2.2].toArray 23 (0, 0)) ∧ z.heap[b12]? = some (.cells [.int .i64 x10.1, .int .i64 x10.2].toArray 23 (0, 0)) ∧ z.heap[b2]? = some (.cells [.int .i64 (0 : Int), .int .i64 (0 : Int)].toArray 23 (0, 0))) mixed rfl (fun w328 hx328 => ?_)
       have hL329 := hL313.call hx328
       have hle329 := fz_ext hL313 hx328
       replace hf175_0 := hf175_0.mono (gz_mono hH hle329)
       have hG330 := hL329.rG H
       refine NI_hoist 0 (np_cut (np_seq np_body)) ⟨hG330.trans (gz_le hH hL329), hL329.at (i := 0) rfl, hL329.at (i := 1) rfl, hL329.at (i := 2) rfl, hL329.at (i := 3) rfl⟩ (by kernel_rfl) rfl (fun _ _ => r_build rfl (fun _ => bld47_z _)) rfl ?_
       refine NI_hoist 1 (np_cut (np_seq np_body)) ⟨hG330.trans (gz_le hH hL329), hL329.at (i := 0) rfl, hL329.at (i := 1) rfl, hL329.at (i := 2) rfl, hL329.at (i := 3) rfl⟩ (by kernel_rfl) rfl (fun _ hI => r_loadHN rfl underlying23 rfl zr23 hI.2.2.2.1) rfl ?_
       refine NI1 (i := 2) (by kernel_rfl) rfl ?_
       refine S_storeBN 4 rfl rfl rfl zr47 hL329 rfl rfl (onc rfl (onc rfl on0)) ?_
       intro w331 hL331 hle331
       replace hG330 := hG330.trans (gz_mono hH hle331)
       refine NI_nil ⟨hG330.trans (gz_le hH hL331), hL331.at (i := 0) rfl, hL331.at (i := 1) rfl, hL331.at (i := 2) rfl, hL331.at (i := 3) rfl⟩ ?_
       refine NI1 (i := 3) (by kernel_rfl) rfl ?_
       refine S_storeBN 3 rfl rfl rfl zr23 hL331 rfl rfl (onc rfl (onc rfl on0)) ?_
       intro w332 hL332 hle332
       replace hG330 := hG330.trans (gz_mono hH hle332)
       refine NI_last (by kernel_rfl) ?_
       refine NI_end (by kernel_rfl) ?_
       refine At_cut (x10.1, x10.2, (0 : Int)) (.cons rfl (.cons rfl (Sub.nil _))) ⟨hL332, (hf175_0.mono hG330), h⟩
      ·rintro ⟨c322, c323, c324⟩ wr326 ⟨hL326, hf326_0, h⟩
       refine W_ret ?_
       refine At_seq_ret ?_
       obtain rfl := Option.some.inj h
       refine At_got2 rfl (.cell rfl underlying47 rfl zr47 (box_ptr (i := 4) hL326 rfl)) (.cell rfl underlying23 rfl zr23 (box_ptr (i := 3) hL326 rfl)) ?_
       exact ⟨hL326.ext, _, rfl, (Vec.nil _ _)⟩
     ·replace h := Go.L.ite_f hc314 h
      refine W_skip ?_
      refine At_seq ?_
      refine W_seqr ?_
      refine S_v (r_loadBN 0 rfl underlying47 rfl zr47 hL313 rfl) rfl ?_
      refine S_v (r_build rfl (fun _ => bld23_z _)) rfl ?_
      refine S_storeBN 4 rfl rfl rfl zr47 hL313 rfl rfl (onc rfl (onc hf175_0.one on0)) ?_
      intro w335 hL335 hle335
      replace hf175_0 := hf175_0.mono (gz_mono hH hle335)
      refine S_storeBN 3 rfl rfl rfl zr23 hL335 rfl rfl (onc rfl (onc rfl on0)) ?_
      intro w336 hL336 hle336
      replace hf175_0 := hf175_0.mono (gz_mono hH hle336)
      refine S_seqnil ?_
      refine W_ret ?_
      obtain rfl := Option.some.inj h
      refine At_got2 rfl (.cell rfl underlying47 rfl zr47 (box_ptr (i := 4) hL336 rfl)) (.cell rfl underlying23 rfl zr23 (box_ptr (i := 3) hL336 rfl)) ?_
      exact ⟨hL336.ext, _, rfl, (hf175_0.mono (gz_res hH))⟩
end Go.Proofs.YtmfiaecglndldaaGreatDoor
end
section
namespace Go.Proofs.YtmfiaecglndldaaGreatDoor
open Go Go.E Go.RowKit
set_option maxHeartbeats 1000000
set_option maxRecDepth 10000
open _root_.Go.Proofs.Tryz
noncomputable def ref3_In (a0 : Int) (a1 : Int) (a2 : Int) : Option (Bool) :=
 some (decide ((a1 ≤ a0) ∧ (a0 ≤ a2)))
theorem ref3_In_ok (w : World) (H : PH) (_hH : Le H (hp w)) {a0 : Int} {a1 : Int} {a2 : Int}   {r : Bool} (h : ref3_In a0 a1 a2 = some r) :
  Ok Tryz.prog 20 [.int .i64 a0, .int .i64 a1, .int .i64 a2] w (fun v w' => Ext w w' ∧ v = .bool r) := by
 refine Ok_enter (n := 15) [(0, .int .i64 a0), (1, .int .i64 a1), (2, .int .i64 a2)] func20 rfl rfl rfl rfl rfl ?_
 have hL := Lcl.start w
 refine W_pz 1 rfl ?_
 refine W_p 4 rfl ?_
 refine S_and 3 3 rfl rfl rfl rfl rfl rfl ?_
 refine S_pz 1 rfl ?_
 refine W_ret ?_
 obtain rfl := Option.some.inj h
 refine At_body rfl rfl ?_
 exact ⟨hL.ext, rfl⟩
noncomputable def ref3_At (a0 : Int) (a1 : Int) : Option ((Int × Int)) :=
 some ((a0, a1))
theorem ref3_At_ok (w : World) (H : PH) (_hH : Le H (hp w)) {a0 : Int} {a1 : Int}   {r : (Int × Int)} (h : ref3_At a0 a1 = some r) :
  Ok Tryz.prog 16 [.int .i64 a0, .int .i64 a1] w (fun v w' => Ext w w' ∧ v = .agg #[.int .i64 r.1, .int .i64 r.2]) := by
 refine Ok_enter (n := 8) [(0, .int .i64 a0), (1, .int .i64 a1)] func16 rfl rfl rfl rfl rfl ?_
 have hL := Lcl.start w
 refine W_seqr ?_
 refine S_alloc zr23 rfl rfl hL ?_
 intro w1 b1 hL1 hle1 _
 refine S_seqnil ?_
 refine W_p 2 rfl ?_
 refine S_v (r_build rfl (fun _ => bld23_0_1 _ _ _)) rfl ?_
 refine S_storeBN 0 rfl rfl rfl zr23 hL1 rfl rfl (onc rfl (onc rfl on0)) ?_
 intro w2 hL2 hle2
 refine S_seqnil ?_
 refine W_ret ?_
 obtain rfl := Option.some.inj h
 refine At_got1 rfl (.cell rfl underlying23 rfl zr23 (box_ptr (i := 0) hL2 rfl)) ?_
 exact ⟨hL2.ext, rfl⟩
noncomputable def ref3_Ints_k1 : Option (Bool) :=
 some (true)
noncomputable def ref3_Ints_bl2 (a0 : List Int) (a1 : List Int) : Int → Option ((Int) ⊕ (Bool)) := fun s5_40 =>
 if s5_40 < (a0.length : Int) then Go.L.chk (0 ≤ s5_40 ∧ s5_40 < (a0.length : Int)) (Go.L.chk (0 ≤ s5_40 ∧ s5_40 < (a1.length : Int)) (if a0.getD s5_40.toNat default = a1.getD s5_40.toNat default then Go.L.chk (Go.L.I64 (s5_40 + (1 : Int))) (some (Sum.inl (s5_40 + (1 : Int)))) else Option.map Sum.inr (some (false)))) else Option.map Sum.inr (ref3_Ints_k1)
noncomputable def ref3_Ints_l2 (a0 : List Int) (a1 : List Int) (s : Int) : Option (Bool) := Go.L.run (ref3_Ints_bl2 a0 a1) s
noncomputable def ref3_Ints (a0 : List Int) (a1 : List Int) : Option (Bool) :=
 if (a0.length : Int) = (a1.length : Int) then (ref3_Ints_l2 a0 a1) (0 : Int) else some (false)
theorem ref3_Ints_ok (w : World) (H : PH) (hH : Le H (hp w)) {a0 : List Int} {a1 : List Int} {v0_0 : Value} {v1_0 : Value} (h0_0 : Vec (.int .i64) H v0_0 (a0)) (h1_0 : Vec (.int .i64) H v1_0 (a1)) {r : Bool} (h : ref3_Ints a0 a1 = some r) :
  Ok Tryz.prog 34 [v0_0, v1_0] w (fun v w' => Ext w w' ∧ v = .bool r) := by
 refine Ok_enter (n := 26) [(0, v0_0), (1, v1_0)] func34 rfl rfl rfl rfl rfl ?_
 have hL := Lcl.start w
 refine W_pz 1 rfl ?_
 refine W_seq ?_
 refine W_p 1 rfl ?_
 refine S_v (r_len rfl underlying52 h0_0) rfl ?_
 refine S_pu 1 rfl ?_
 refine S_v (r_len rfl underlying52 h1_0) rfl ?_
 refine S_pz 1 rfl ?_
 refine W_ifn rfl (fun hc1 => ?_) (fun hc1 => ?_)
 ·replace h := Go.L.ite_n hc1 h
  refine W_pz 1 rfl ?_
  refine W_ret ?_
  refine At_seq_ret ?_
  obtain rfl := Option.some.inj h
  refine At_body rfl rfl ?_
  exact ⟨hL.ext, rfl⟩
 ·replace h := Go.L.ite_p hc1 h
  refine W_skip ?_
  refine At_seq ?_
  refine W_cut (σ := Unit) (fun (_ : Unit) => []) (fun (_ : Unit) wr => Lcl w [] wr ∧ ref3_Ints_k1 = some r) ?_ ?_
  ·refine W_pz 1 rfl ?_
   refine W_block ?_
   obtain ⟨n41, h⟩ := Go.L.run_some h
   refine W_loop (σ := Int × Nat) (fun ⟨s5_40, n⟩ => [(0, v0_0), (1, v1_0), (5, .int .i64 s5_40)]) (fun ⟨s5_40, n⟩ wr => Lcl w [] wr ∧ Go.L.itr (ref3_Ints_bl2 a0 a1) n s5_40 = some r) (fun ⟨s5_40, n⟩ => n) ((0 : Int), n41) (.cons rfl (.cons rfl (.cons rfl (Sub.nil _)))) ⟨hL, h⟩ ?_
   rintro ⟨s5_40, nn41⟩ wr41 ⟨hL41, h⟩
   obtain ⟨n41, e41, rfl, h, hm41⟩ := Go.L.itr_some h
   refine W_seq ?_
   refine W_p 2 rfl ?_
   refine S_v (r_len rfl underlying52 h0_0) rfl ?_
   refine S_pz 1 rfl ?_
   refine W_if rfl (fun hc43 => ?_) (fun hc43 => ?_)
   ·replace h := Go.L.ite_p hc43 h
    refine W_skip ?_
    refine At_seq ?_
    refine W_seq ?_
    refine W_block ?_
    refine W_seqd (.q 0 (.q 1 (.q 2 (.q 3 (.q 4 (.q 5 (.q 6 (.q 7 (.q 8 (.tail 9)))))))))) mixed (by kernel_rfl) (fun w45 hx45 => ?_)
    have hL46 := hL41.call hx45
    refine D_pu 2 rfl ?_
    obtain ⟨hk48, h⟩ := Go.L.chk_some h
    refine D_index rfl rfl rfl underlying52 zr3 h0_0 s5_40.toNat (Int.toNat_of_nonneg hk48.1).symm (idx_lt hk48) rfl ?_
    rintro p47 _ rfl hp47
    refine D_v (r_load1 rfl underlying3 rfl hp47 (hH.trans hL46.arg)) rfl rfl ?_
    refine D_pu 2 rfl ?_
    obtain ⟨hk50, h⟩ := Go.L.chk_some h
    refine D_index rfl rfl rfl underlying52 zr3 h1_0 s5_40.toNat (Int.toNat_of_nonneg hk50.1).symm (idx_lt hk50) rfl ?_
    rintro p49 _ rfl hp49
    refine D_v (r_load1 rfl underlying3 rfl hp49 (hH.trans hL46.arg)) rfl rfl ?_
    refine D_pu 1 rfl ?_
    refine D_tail (fun w51 hx51 => ?_)
    have hL52 := hL46.call hx51
    refine S_seqnil ?_
    refine W_ifn rfl (fun hc53 => ?_) (fun hc53 => ?_)
    ·replace h := Go.L.ite_n hc53 h
     refine W_pz 1 rfl ?_
     refine W_ret ?_
     refine At_block_ret ?_
     refine At_seq_ret ?_
     refine At_loop_ret ?_
     replace h := Go.L.Nxt.out h hm41
     refine At_block_ret ?_
     refine At_cut_ret ?_
     obtain rfl := Option.some.inj h
     refine At_body rfl rfl ?_
     exact ⟨hL52.ext, rfl⟩
    ·replace h := Go.L.ite_p hc53 h
     refine W_skip ?_
     refine At_block ?_
     refine At_seq ?_
     refine W_region ?_
     refine S_pu 1 rfl ?_
     obtain ⟨hk56, h⟩ := Go.L.chk_some h
     refine S_v (r_ar64 rfl rfl rfl hk56) rfl ?_
     refine S_pu 1 rfl ?_
     refine S_nil ?_
     have h := Go.L.Nxt.again h hm41
     refine At_round ((s5_40 + (1 : Int)), n41) (.cons rfl (.cons rfl (.cons rfl (Sub.nil _)))) ⟨hL52, h⟩ (Nat.lt_succ_self _)
   ·replace h := Go.L.ite_n hc43 h
    refine W_exit ?_
    refine At_seq_exit ?_
    refine At_loop_exit ?_
    replace h := Go.L.Nxt.out h hm41
    refine At_exit ?_
    refine At_cut () (Sub.nil _) ⟨hL41, h⟩
  ·rintro _ wr22 ⟨hL22, h⟩
   refine W_pz 1 rfl ?_
   refine W_ret ?_
   obtain rfl := Option.some.inj h
   refine At_body rfl rfl ?_
   exact ⟨hL22.ext, rfl⟩
noncomputable def ref4_Texts_k1 : Option (Bool) :=
 some (true)
noncomputable def ref4_Texts_bl2 (a0 : List (List UInt8)) (a1 : List (List UInt8)) : Int → Option ((Int) ⊕ (Bool)) := fun s5_40 =>
 if s5_40 < (a0.length : Int) then Go.L.chk (0 ≤ s5_40 ∧ s5_40 < (a0.length : Int)) (Go.L.chk (0 ≤ s5_40 ∧ s5_40 < (a1.length : Int)) (if a0.getD s5_40.toNat default = a1.getD s5_40.toNat default then Go.L.chk (Go.L.I64 (s5_40 + (1 : Int))) (some (Sum.inl (s5_40 + (1 : Int)))) else Option.map Sum.inr (some (false)))) else Option.map Sum.inr (ref4_Texts_k1)
noncomputable def ref4_Texts_l2 (a0 : List (List UInt8)) (a1 : List (List UInt8)) (s : Int) : Option (Bool) := Go.L.run (ref4_Texts_bl2 a0 a1) s
noncomputable def ref4_Texts (a0 : List (List UInt8)) (a1 : List (List UInt8)) : Option (Bool) :=
 if (a0.length : Int) = (a1.length : Int) then (ref4_Texts_l2 a0 a1) (0 : Int) else some (false)
theorem ref4_Texts_ok (w : World) (H : PH) (hH : Le H (hp w)) {a0 : List (List UInt8)} {a1 : List (List UInt8)} {v0_0 : Value} {v1_0 : Value} (h0_0 : Vec .st H v0_0 (a0)) (h1_0 : Vec .st H v1_0 (a1)) {r : Bool} (h : ref4_Texts a0 a1 = some r) :
  Ok Tryz.prog 23 [v0_0, v1_0] w (fun v w' => Ext w w' ∧ v = .bool r) := by
 refine Ok_enter (n := 26) [(0, v0_0), (1, v1_0)] func23 rfl rfl rfl rfl rfl ?_
 have hL := Lcl.start w
 refine W_pz 1 rfl ?_
 refine W_seq ?_
 refine W_p 1 rfl ?_
 refine S_v (r_len rfl underlying30 h0_0) rfl ?_
 refine S_pu 1 rfl ?_
 refine S_v (r_len rfl underlying30 h1_0) rfl ?_
 refine S_pz 1 rfl ?_
 refine W_ifn rfl (fun hc1 => ?_) (fun hc1 => ?_)
 ·replace h := Go.L.ite_n hc1 h
  refine W_pz 1 rfl ?_
  refine W_ret ?_
  refine At_seq_ret ?_
  obtain rfl := Option.some.inj h
  refine At_body rfl rfl ?_
  exact ⟨hL.ext, rfl⟩
 ·replace h := Go.L.ite_p hc1 h
  refine W_skip ?_
  refine At_seq ?_
  refine W_cut (σ := Unit) (fun (_ : Unit) => []) (fun (_ : Unit) wr => Lcl w [] wr ∧ ref4_Texts_k1 = some r) ?_ ?_
  ·refine W_pz 1 rfl ?_
   refine W_block ?_
   obtain ⟨n41, h⟩ := Go.L.run_some h
   refine W_loop (σ := Int × Nat) (fun ⟨s5_40, n⟩ => [(0, v0_0), (1, v1_0), (5, .int .i64 s5_40)]) (fun ⟨s5_40, n⟩ wr => Lcl w [] wr ∧ Go.L.itr (ref4_Texts_bl2 a0 a1) n s5_40 = some r) (fun ⟨s5_40, n⟩ => n) ((0 : Int), n41) (.cons rfl (.cons rfl (.cons rfl (Sub.nil _)))) ⟨hL, h⟩ ?_
   rintro ⟨s5_40, nn41⟩ wr41 ⟨hL41, h⟩
   obtain ⟨n41, e41, rfl, h, hm41⟩ := Go.L.itr_some h
   refine W_seq ?_
   refine W_p 2 rfl ?_
   refine S_v (r_len rfl underlying30 h0_0) rfl ?_
   refine S_pz 1 rfl ?_
   refine W_if rfl (fun hc43 => ?_) (fun hc43 => ?_)
   ·replace h := Go.L.ite_p hc43 h
    refine W_skip ?_
    refine At_seq ?_
    refine W_seq ?_
    refine W_block ?_
    refine W_seqd (.q 0 (.q 1 (.q 2 (.q 3 (.q 4 (.q 5 (.q 6 (.q 7 (.q 8 (.tail 9)))))))))) mixed (by kernel_rfl) (fun w45 hx45 => ?_)
    have hL46 := hL41.call hx45
    refine D_pu 2 rfl ?_
    obtain ⟨hk48, h⟩ := Go.L.chk_some h
    refine D_index rfl rfl rfl underlying30 zr9 h0_0 s5_40.toNat (Int.toNat_of_nonneg hk48.1).symm (idx_lt hk48) rfl ?_
    rintro p47 _ rfl hp47
    refine D_v (r_load1 rfl underlying9 rfl hp47 (hH.trans hL46.arg)) rfl rfl ?_
    refine D_pu 2 rfl ?_
    obtain ⟨hk50, h⟩ := Go.L.chk_some h
    refine D_index rfl rfl rfl underlying30 zr9 h1_0 s5_40.toNat (Int.toNat_of_nonneg hk50.1).symm (idx_lt hk50) rfl ?_
    rintro p49 _ rfl hp49
    refine D_v (r_load1 rfl underlying9 rfl hp49 (hH.trans hL46.arg)) rfl rfl ?_
    refine D_v (r_sne rfl rfl) rfl rfl ?_
    refine D_tail (fun w51 hx51 => ?_)
    have hL52 := hL46.call hx51
    refine S_seqnil ?_
    refine W_ifn rfl (fun hc53 => ?_) (fun hc53 => ?_)
    ·replace h := Go.L.ite_n hc53 h
     refine W_pz 1 rfl ?_
     refine W_ret ?_
     refine At_block_ret ?_
     refine At_seq_ret ?_
     refine At_loop_ret ?_
     replace h := Go.L.Nxt.out h hm41
     refine At_block_ret ?_
     refine At_cut_ret ?_
     obtain rfl := Option.some.inj h
     refine At_body rfl rfl ?_
     exact ⟨hL52.ext, rfl⟩
    ·replace h := Go.L.ite_p hc53 h
     refine W_skip ?_
     refine At_block ?_
     refine At_seq ?_
     refine W_region ?_
     refine S_pu 1 rfl ?_
     obtain ⟨hk56, h⟩ := Go.L.chk_some h
     refine S_v (r_ar64 rfl rfl rfl hk56) rfl ?_
     refine S_pu 1 rfl ?_
     refine S_nil ?_
     have h := Go.L.Nxt.again h hm41
     refine At_round ((s5_40 + (1 : Int)), n41) (.cons rfl (.cons rfl (.cons rfl (Sub.nil _)))) ⟨hL52, h⟩ (Nat.lt_succ_self _)
   ·replace h := Go.L.ite_n hc43 h
    refine W_exit ?_
    refine At_seq_exit ?_
    refine At_loop_exit ?_
    replace h := Go.L.Nxt.out h hm41
    refine At_exit ?_
    refine At_cut () (Sub.nil _) ⟨hL41, h⟩
  ·rintro _ wr22 ⟨hL22, h⟩
   refine W_pz 1 rfl ?_
   refine W_ret ?_
   obtain rfl := Option.some.inj h
   refine At_body rfl rfl ?_
   exact ⟨hL22.ext, rfl⟩
noncomputable def law4_number (a0 : Int) : Option (Go.L.Pv) :=
 some ((Go.L.Pv.mk (1 : Int) a0 ([]) ([]) ([])))
theorem law4_number_ok (w : World) (H : PH) (_hH : Le H (hp w)) {a0 : Int}   {r : Go.L.Pv} (h : law4_number a0 = some r) :
  Ok Tryz.prog 46 [.int .i64 a0] w (fun v w' => Ext w w' ∧ ∃ u0 u1 u2, v = .agg #[.int .i64 r.f.1, .int .i64 r.f.2.1, u0, u1, u2] ∧ OwnH 5 .byte H w w' u0 (r.f.2.2.1) ∧ OwnH 9 .st H w w' u1 (r.f.2.2.2.1) ∧ OwnH 38 .tree H w w' u2 (r.f.2.2.2.2)) := by
 refine Ok_enter (n := 5) [(0, .int .i64 a0)] func46 rfl rfl rfl rfl rfl ?_
 have hL := Lcl.start w
 refine W_seqr ?_
 refine S_alloc zr38 rfl rfl hL ?_
 intro w1 b1 hL1 hle1 _
 refine S_seqnil ?_
 refine W_p 1 rfl ?_
 refine S_v (r_build rfl (fun _ => bld38_0_1 _ _ _)) rfl ?_
 refine S_storeBN 0 rfl rfl rfl zr38 hL1 rfl rfl (onc rfl (onc rfl (onc rfl (onc rfl (onc rfl on0))))) ?_
 intro w2 hL2 hle2
 refine S_seqnil ?_
 refine W_ret ?_
 obtain rfl := Option.some.inj h
 refine At_got1 rfl (.cell rfl underlying38 rfl zr38 (box_ptr (i := 0) hL2 rfl)) ?_
 exact ⟨hL2.ext, _, _, _, rfl, OwnH.nil, OwnH.nil, OwnH.nil⟩
noncomputable def law4_record (a0 : Int) : Option (Go.L.Pv) :=
 Option.bind (law4_number a0) (fun x3 => some ((Go.L.Pv.mk (4 : Int) (0 : Int) ([]) ([([97] : List UInt8)]) ([x3]))))
theorem law4_record_ok (w : World) (H : PH) (hH : Le H (hp w)) {a0 : Int}   {r : Go.L.Pv} (h : law4_record a0 = some r) :
  Ok Tryz.prog 45 [.int .i64 a0] w (fun v w' => Ext w w' ∧ ∃ u0 u1 u2, v = .agg #[.int .i64 r.f.1, .int .i64 r.f.2.1, u0, u1, u2] ∧ OwnH 5 .byte H w w' u0 (r.f.2.2.1) ∧ Vec .st (un H (nw w w')) u1 (r.f.2.2.2.1) ∧ Vec .tree (un H (nw w w')) u2 (r.f.2.2.2.2)) := by
 refine Ok_enter (n := 8) [(0, .int .i64 a0)] func45 rfl rfl rfl rfl rfl ?_
 have hL := Lcl.start w
 refine W_seqr ?_
 refine S_alloc zr38 rfl rfl hL ?_
 intro w1 b1 hL1 hle1 _
 refine S_seqnil ?_
 refine W_seqr ?_
 refine S_litE (r := .st) (l := [([97] : List UInt8)]) rfl (fun _ => bsl30_1 _ rfl _) rfl (show 1 ≤ 9223372036854775807 by decide) hH hL1 (.c1 rfl .nil) ?_
 intro v2 w2 hx2 hL2 hle2 hv2
 refine S_pu 1 rfl ?_
 obtain ⟨x3, hb3, h⟩ := Go.L.bind_some h
 refine S_callL rfl rfl hL2 (law4_number_ok _ _ (gz_le hH hL2) hb3) ?_
 rintro _ w4 ⟨u4_0, u4_1, u4_2, rfl, hR4_0, hR4_1, hR4_2⟩ hx4 hL4 hle4
 have hv4_0 := hR4_0.vecG hH hL2 hx4
 have hv4_1 := hR4_1.vecG hH hL2 hx4
 have hv4_2 := hR4_2.vecG hH hL2 hx4
 replace hv2 := hv2.mono (gz_mono hH hle4)
 refine S_litE (r := .tree) (l := [x3]) rfl (fun _ => bsl36_1 _ _ _ _ _ _) rfl (show 1 ≤ 9223372036854775807 by decide) hH hL4 (.c5 (Go.E.Rp.tree_close ⟨_, _, rfl, rfl, ⟨_, _, rfl, rfl, ⟨_, _, rfl, ⟨_, rfl, hv4_0⟩, ⟨_, _, rfl, ⟨_, rfl, hv4_1⟩, ⟨_, rfl, hv4_2⟩⟩⟩⟩⟩) .nil) ?_
 intro v5 w5 hx5 hL5 hle5 hv5
 replace hv2 := hv2.mono (gz_mono hH hle5)
 replace hv4_0 := hv4_0.mono (gz_mono hH hle5)
 replace hv4_1 := hv4_1.mono (gz_mono hH hle5)
 replace hv4_2 := hv4_2.mono (gz_mono hH hle5)
 refine S_v (r_build rfl (fun _ => bld38_0_3_4 _ _ hv2.one _ hv5.one _)) rfl ?_
 refine S_storeBN 0 rfl rfl rfl zr38 hL5 rfl rfl (onc rfl (onc rfl (onc rfl (onc hv2.one (onc hv5.one on0))))) ?_
 intro w6 hL6 hle6
 replace hv2 := hv2.mono (gz_mono hH hle6)
 replace hv4_0 := hv4_0.mono (gz_mono hH hle6)
 replace hv4_1 := hv4_1.mono (gz_mono hH hle6)
 replace hv4_2 := hv4_2.mono (gz_mono hH hle6)
 replace hv5 := hv5.mono (gz_mono hH hle6)
 refine S_seqnil ?_
 refine W_ret ?_
 obtain rfl := Option.some.inj h
 refine At_got1 rfl (.cell rfl underlying38 rfl zr38 (box_ptr (i := 0) hL6 rfl)) ?_
 exact ⟨hL6.ext, _, _, _, rfl, OwnH.nil, (hv2.mono (gz_res hH)), (hv5.mono (gz_res hH))⟩
end Go.Proofs.YtmfiaecglndldaaGreatDoor
end
section
namespace Go.L
/-- The parts between slashes, the first one behind some letters. -/
def pcs : List UInt8 → List UInt8 → List (List UInt8)
  | cur, [] => [cur]
  | cur, c :: s => if c = 47 then cur :: pcs [] s else pcs (cur ++ [c]) s
theorem pcs_cur : ∀ (s cur : List UInt8), pcs cur s = (cur ++ (pcs [] s).headD []) :: (pcs [] s).tail
  | [], cur => by simp [pcs]
  | c :: s, cur => by
    unfold pcs
    by_cases h : c = 47
    · rw [if_pos h, if_pos h]; simp
    · rw [if_neg h, if_neg h, pcs_cur s (cur ++ [c]), pcs_cur s ([] ++ [c])]
      simp
theorem pcs_len : ∀ (s cur : List UInt8), (pcs cur s).length ≤ s.length + 1
  | [], _ => by simp [pcs]
  | c :: s, cur => by
    unfold pcs
    split
    · have := pcs_len s []; simp only [List.length_cons]; omega
    · have := pcs_len s (cur ++ [c]); simp only [List.length_cons]; omega
/-- The bytes of steps, each with a slash. -/
def tot : List (List UInt8) → Nat
  | [] => 0
  | x :: l => x.length + 1 + tot l
theorem splitK_pcs : ∀ s : List UInt8, Lib.splitK [47] 0 (s.count 47) s = pcs [] s
  | [] => rfl
  | c :: s => by
    have ih := splitK_pcs s
    have hi : Lib.index (c :: s) [47] = if c == 47 then 0 else if Lib.index s [47] == -1 then -1 else Lib.index s [47] + 1 := by
      rw [Lib.index_one, Lib.index_one]; rfl
    by_cases h : c = 47
    · subst h
      rw [List.count_cons_self]
      unfold Lib.splitK pcs
      rw [hi]
      simp [ih]
    · have hb : (c == 47) = false := by simpa using h
      rw [List.count_cons_of_ne (fun e => h e)]
      have hp : pcs [] (c :: s) = ([c] ++ (pcs [] s).headD []) :: (pcs [] s).tail := by
        conv => lhs; unfold pcs
        rw [if_neg h, pcs_cur s ([] ++ [c])]; rfl
      rw [hp, ← ih]
      cases hk : s.count 47 with
      | zero => rfl
      | succ k =>
        unfold Lib.splitK
        rw [hi, hb]
        by_cases h1 : (Lib.index s [47] == -1) = true
        · simp [h1]
        · have hge : -1 ≤ Lib.index s [47] := Lib.index_ge s [47]
          have h2 : 0 ≤ Lib.index s [47] := by have : Lib.index s [47] ≠ -1 := fun e => h1 (by simp [e]); omega
          obtain ⟨i, hi2⟩ := Int.eq_ofNat_of_zero_le h2
          have h3 : ((i : Int) + 1 == -1) = false := by simp; omega
          have h4 : ((i : Int) == -1) = false := by simp
          rw [hi2] at h1 ⊢
          simp [h3, h4, show ((i : Int) + 1).toNat = i + 1 by omega]
/-- The steps of a path or pattern. -/
def sl (s : List UInt8) : List (List UInt8) := if s = [] then [] else pcs [] s
theorem sl_len (s : List UInt8) : (sl s).length ≤ s.length + 1 := by unfold sl; split; simp; exact pcs_len s []
/-- A letter of a name. -/
def nch (c : UInt8) : Bool := decide ((97 ≤ c.toNat ∧ c.toNat ≤ 122) ∨ (48 ≤ c.toNat ∧ c.toNat ≤ 57) ∨ c.toNat = 45 ∨ c.toNat = 95 ∨ c.toNat = 46)
/-- A name. -/
def nok (s : List UInt8) : Bool := decide (1 ≤ s.length ∧ s.length ≤ 32 ∧ 97 ≤ (s.getD 0 default).toNat ∧ (s.getD 0 default).toNat ≤ 122) && s.all nch
/-- The place of the first wrong step, or -1. -/
def wr (w : Bool) : Int → List (List UInt8) → Int
  | _, [] => -1
  | a, x :: l => if (nok x || decide (x = [35]) || (w && (decide (x = [42]) || decide (x = [42, 42])))) = true then wr w (a + x.length + 1) l else a
theorem drop_cons {α : Type} [Inhabited α] {l : List α} {i : Nat} (h : i < l.length) : l.drop i = l.getD i default :: l.drop (i + 1) := by
  rw [List.drop_eq_getElem_cons h]; simp [List.getD_eq_getElem?_getD, List.getElem?_eq_getElem h]
theorem getD_mem {α : Type} [Inhabited α] {l : List α} {i : Nat} (h : i < l.length) : l.getD i default ∈ l := by
  rw [List.getD_eq_getElem?_getD, List.getElem?_eq_getElem h]; exact List.getElem_mem h
end Go.L
namespace Go.Proofs.YtmfiaecglndldaaGreatDoor
open Go Go.L
theorem steps_eq {s : List UInt8} (h : s.length < 4294967281) : shapes_steps s = some (sl s) := by
  unfold shapes_steps sl
  by_cases hs : s = []
  · rw [if_pos hs, if_pos hs]
  · rw [if_neg hs, if_neg hs]
    unfold strings_Split genSplitL
    rw [chk_pos ⟨h, rfl, rfl, rfl⟩]
    show some (pieces s) = some (pcs [] s)
    unfold pieces Lib.split
    rw [Lib.count_one, splitK_pcs]
/-! ### Names -/
theorem get_bang (l : List UInt8) (k : Nat) : ((ByteArray.mk l.toArray).get! k).toNat = (l.getD k default).toNat := by
  simp [ByteArray.get!, List.getD_eq_getElem?_getD, getElem!_def]
  cases l[k]? <;> rfl
theorem dec_low {l : List UInt8} {p : Nat} (h : (l.getD p default).toNat < 128) : Utf8.decode ⟨l.toArray⟩ p = ((l.getD p default).toNat, 1) := by
  unfold Utf8.decode
  simp only [Nat.add_zero, get_bang]
  rw [if_pos h]
theorem dec_high {l : List UInt8} {p : Nat} (h : ¬ (l.getD p default).toNat < 128) : 128 ≤ (Utf8.decode ⟨l.toArray⟩ p).1 := by
  unfold Utf8.decode
  simp only [Nat.add_zero, get_bang]
  rw [if_neg h]
  split
  · split
    · rename_i h2; simpa using h2
    · decide
  · split
    · split
      · rename_i h2; simp only [ge_iff_le, Bool.and_eq_true, decide_eq_true_eq] at h2; show 128 ≤ _; omega
      · decide
    · split
      · split
        · rename_i h2; simp only [ge_iff_le, Bool.and_eq_true, decide_eq_true_eq] at h2; show 128 ≤ _; omega
        · decide
      · decide
theorem badR_nch (c : UInt8) : badR c.toNat = !(nch c) := by
  unfold badR nch
  generalize c.toNat = n
  rw [Bool.eq_iff_iff]
  simp
  omega
theorem cf_run {a : List UInt8} : ∀ (f p : Nat), a.length ≤ p + f → (0 ≤ Lib.idxFuncFrom badR true ⟨a.toArray⟩ f p ↔ (a.drop p).all nch = false)
  | 0, p, h => by
    rw [List.drop_eq_nil_of_le (by omega)]
    simp [Lib.idxFuncFrom]
  | f + 1, p, h => by
    have hsz : (ByteArray.mk a.toArray).size = a.length := by simp [ByteArray.size]
    unfold Lib.idxFuncFrom
    rw [hsz]
    by_cases hp : p < a.length
    · rw [if_pos hp, drop_cons hp, List.all_cons]
      by_cases hc : (a.getD p default).toNat < 128
      · rw [dec_low hc]
        simp only [badR_nch]
        by_cases hn : nch (a.getD p default) = true
        · rw [hn, if_neg (by decide), Bool.true_and]
          exact cf_run f (p + 1) (by omega)
        · have hn' : nch (a.getD p default) = false := by simpa using hn
          rw [hn', if_pos (by decide)]
          simp
      · have hb : badR (Utf8.decode ⟨a.toArray⟩ p).1 = true := by
          have := dec_high hc
          unfold badR
          simp
          omega
        have hn : nch (a.getD p default) = false := by
          unfold nch
          rw [decide_eq_false_iff_not]
          omega
        rw [hb, if_pos rfl, hn]
        simp
    · rw [if_neg hp, List.drop_eq_nil_of_le (by omega)]
      simp
theorem nameCF_eq (a : List UInt8) : nameCF a = some (!(a.all nch)) := by
  unfold nameCF Lib.idxFunc
  congr 1
  have := cf_run (a := a) (ByteArray.mk a.toArray).size 0 (by simp [ByteArray.size])
  rw [List.drop_zero] at this
  rw [Bool.eq_iff_iff, decide_eq_true_eq, this]
  simp
theorem name_eq (s : List UInt8) : value_Name s = some (nok s) := by
  unfold value_Name nok
  by_cases h0 : s = []
  · subst h0; rfl
  · have hl : 0 < s.length := List.length_pos_iff.2 h0
    rw [if_neg h0]
    by_cases h1 : (32 : Int) < (s.length : Int)
    · rw [if_pos h1, show decide (1 ≤ s.length ∧ s.length ≤ 32 ∧ 97 ≤ (s.getD 0 default).toNat ∧ (s.getD 0 default).toNat ≤ 122) = false by rw [decide_eq_false_iff_not]; omega]
      rfl
    · rw [if_neg h1, chk_pos (by omega), Int.toNat_zero]
      by_cases h2 : ((s.getD 0 default).toNat : Int) < 97
      · rw [if_pos h2, show decide (1 ≤ s.length ∧ s.length ≤ 32 ∧ 97 ≤ (s.getD 0 default).toNat ∧ (s.getD 0 default).toNat ≤ 122) = false by rw [decide_eq_false_iff_not]; omega]
        rfl
      · rw [if_neg h2, chk_pos (by omega)]
        by_cases h3 : 122 < ((s.getD 0 default).toNat : Int)
        · rw [if_pos h3, show decide (1 ≤ s.length ∧ s.length ≤ 32 ∧ 97 ≤ (s.getD 0 default).toNat ∧ (s.getD 0 default).toNat ≤ 122) = false by rw [decide_eq_false_iff_not]; omega]
          rfl
        · rw [if_neg h3, nameCF_eq, show decide (1 ≤ s.length ∧ s.length ≤ 32 ∧ 97 ≤ (s.getD 0 default).toNat ∧ (s.getD 0 default).toNat ≤ 122) = true by rw [decide_eq_true_eq]; omega]
          simp
/-! ### Checks -/
theorem isp1_eq (x : List UInt8) : shapes_isPath_1 x = some (!(nok x || decide (x = [35]))) := by
  unfold shapes_isPath_1
  rw [name_eq]
  by_cases h : x = [35] <;> simp [h]
theorem idxp_run {l : List (List UInt8)} (hl : l.length ≤ 1000000000000) : ∀ (d i : Nat), i + d = l.length → ∀ a : Int, 0 ≤ a → ∃ r, Go.L.run (idxf_isPath_1_bl2 l) (i : Int) = some r ∧ (0 ≤ r ↔ 0 ≤ wr false a (l.drop i)) := by
  intro d
  induction d with
  | zero =>
    intro i hi a ha
    rw [List.drop_eq_nil_of_le (by omega)]
    refine ⟨-1, run_inr (m := some (-1)) ?_, by unfold wr; omega⟩
    unfold idxf_isPath_1_bl2
    rw [if_neg (by omega)]
    rfl
  | succ d ih =>
    intro i hi a ha
    have hil : i < l.length := by omega
    rw [drop_cons hil]
    unfold wr
    have hb : idxf_isPath_1_bl2 l (i : Int) = if (nok (l.getD i default) || decide (l.getD i default = [35])) = true then some (.inl ((i + 1 : Nat) : Int)) else some (.inr (i : Int)) := by
      unfold idxf_isPath_1_bl2
      simp only [Int.toNat_natCast]
      rw [if_pos (by omega), chk_pos (by omega), isp1_eq, chk_pos (by unfold I64; omega)]
      cases (nok (l.getD i default) || decide (l.getD i default = [35])) <;> rfl
    simp only [Bool.false_and, Bool.or_false]
    by_cases hc : (nok (l.getD i default) || decide (l.getD i default = [35])) = true
    · rw [if_pos hc] at hb ⊢
      rw [run_inl hb]
      exact ih (i + 1) (by omega) _ (by omega)
    · rw [if_neg hc] at hb ⊢
      exact ⟨_, run_inr (m := some (i : Int)) hb, by omega⟩
theorem isPath_eq (s : List UInt8) : shapes_isPath s = some (decide (s.length ≤ 330 ∧ ¬ 0 ≤ wr false 0 (sl s))) := by
  unfold shapes_isPath
  by_cases h : s.length ≤ 330
  · rw [if_pos (by omega), steps_eq (by omega), Option.bind_some]
    have h1 := sl_len s
    obtain ⟨r, h2, h3⟩ := idxp_run (l := sl s) (by omega) (sl s).length 0 (by omega) 0 (Int.le_refl _)
    unfold conf_isPath_1 idxf_isPath_1 idxf_isPath_1_l2
    rw [show ((0 : Int)) = ((0 : Nat) : Int) from rfl, h2]
    simp only [Option.bind_some]
    rw [List.drop_zero] at h3
    congr 1
    rw [Bool.eq_iff_iff]
    simp [h, h3]
  · rw [if_neg (by omega)]
    simp [h]
end Go.Proofs.YtmfiaecglndldaaGreatDoor
end
section
namespace Go.L
/-- A number without its sign. -/
def zz (a : Int) : Nat := if 0 ≤ a then (2 * a).toNat else (-2 * a - 1).toNat
theorem zz_lt {a : Int} (h : I64 a) : zz a < 18446744073709551616 := by unfold zz; unfold I64 at h; split <;> omega
/-- Groups of seven bits, the lowest first. -/
def vintN : Nat → Nat → List UInt8
  | 0, _ => []
  | n + 1, u => if 128 ≤ u then UInt8.ofNat (u % 128 + 128) :: vintN n (u / 128) else [UInt8.ofNat u]
def vint (u : Nat) : List UInt8 := vintN 10 u
theorem vintN_len : ∀ n u, (vintN n u).length ≤ n
  | 0, _ => by simp [vintN]
  | n + 1, u => by
    unfold vintN
    split
    · have := vintN_len n (u / 128); simp only [List.length_cons]; omega
    · simp
theorem vint_len (u : Nat) : (vint u).length ≤ 10 := vintN_len 10 u
set_option maxRecDepth 20000 in
theorem or128 (u : Nat) : u8 (u : Int) ||| 128 = UInt8.ofNat (u % 128 + 128) := by
  have h : ∀ b : Fin 256, (UInt8.ofNat b.val ||| 128) = UInt8.ofNat (b.val % 128 + 128) := by decide
  have := h ⟨u % 256, Nat.mod_lt _ (by decide)⟩
  dsimp only at this
  unfold u8
  rw [show ((u : Int) % 256).toNat = u % 256 by omega, this]
  congr 2
  omega
theorem u8_small {u : Nat} : u8 (u : Int) = UInt8.ofNat u := by
  unfold u8
  rw [show ((u : Int) % 256).toNat = u % 256 by omega]
  apply UInt8.toNat.inj
  simp
end Go.L
namespace Go.Proofs.YtmfiaecglndldaaGreatDoor
open Go Go.L
theorem wnum_run : ∀ (n u : Nat) (L : List UInt8), u < 128 ^ n → L.length + n ≤ 1000 → n ≤ 10 → 1 ≤ n → Go.L.run wire_Number_bl2 (L, (u : Int)) = some (L ++ vintN n u)
  | 0, _, _, _, _, _, h => absurd h (by omega)
  | n + 1, u, L, hu, hL, hn, _ => by
    unfold vintN
    by_cases h : 128 ≤ u
    · have h1 : 1 ≤ n := by
        rcases Nat.eq_zero_or_pos n with h0 | h0
        · subst h0; simp at hu; omega
        · exact h0
      have e : wire_Number_bl2 (L, (u : Int)) = some (.inl (L ++ [UInt8.ofNat (u % 128 + 128)], ((u / 128 : Nat) : Int))) := by
        unfold wire_Number_bl2
        dsimp only
        rw [if_pos (by omega), chk_pos (by unfold Go.E.Cap; simp; omega), or128]
        rfl
      rw [run_inl e, wnum_run n (u / 128) _ (Nat.div_lt_of_lt_mul (by rw [Nat.pow_succ, Nat.mul_comm] at hu; exact hu)) (by simp; omega) (by omega) h1, if_pos h]
      simp
    · rw [if_neg h]
      refine run_inr (m := some (L ++ [UInt8.ofNat u])) ?_
      unfold wire_Number_bl2 wire_Number_k1
      dsimp only
      rw [if_neg (by omega), chk_pos (by unfold Go.E.Cap; simp; omega), u8_small]
theorem wrap_u {x : Int} : IntKind.u64.wrap x = x % 18446744073709551616 := by
  simp only [IntKind.wrap]
  simp [IntKind.bits, IntKind.signed]
theorem xor_all {k : Nat} (h : k < 2 ^ 64) : k ^^^ 18446744073709551615 = 18446744073709551615 - k := by
  have h2 : (BitVec.ofNat 64 k ^^^ BitVec.allOnes 64).toNat = (~~~ (BitVec.ofNat 64 k)).toNat := by rw [BitVec.xor_allOnes]
  rw [BitVec.toNat_xor, BitVec.toNat_not, BitVec.toNat_ofNat, BitVec.toNat_allOnes, Nat.mod_eq_of_lt h] at h2
  exact h2
theorem number_eq {a : Int} (h : I64 a) : wire_Number a = some (vint (zz a)) := by
  have hz := zz_lt h
  unfold I64 at h
  unfold wire_Number
  simp only [wrap_u]
  rw [chk_pos (by omega)]
  unfold wire_Number_l2 vint
  have key : ((((a % 18446744073709551616 * 2 % 18446744073709551616).toNat ^^^ (a / 9223372036854775808 % 18446744073709551616).toNat : Nat)) : Int) = ((zz a : Nat) : Int) := by
    unfold zz
    by_cases h0 : 0 ≤ a
    · rw [if_pos h0, show a / 9223372036854775808 % 18446744073709551616 = 0 by omega]
      simp only [Int.toNat_zero, Nat.xor_zero]
      omega
    · rw [if_neg h0, show (a / 9223372036854775808 % 18446744073709551616).toNat = 18446744073709551615 by omega, xor_all (by omega)]
      omega
  rw [key, wnum_run 10 (zz a) [] (Nat.lt_trans hz (by decide)) (by decide) (by decide) (by decide)]
  rfl
end Go.Proofs.YtmfiaecglndldaaGreatDoor
end
section
namespace Go.L
structure NodeOk (v : Pv) : Prop where
  kind : v.f.1 = 1 ∨ v.f.1 = 2 ∨ v.f.1 = 3 ∨ v.f.1 = 4
  num : v.f.1 = 1 ∨ v.f.2.1 = 0
  bytes : v.f.1 = 2 ∨ v.f.2.2.1 = []
  names : v.f.1 = 4 ∨ v.f.2.2.2.1 = []
  parts : v.f.1 = 3 ∨ v.f.1 = 4 ∨ v.f.2.2.2.2 = []
  same : v.f.1 = 4 → v.f.2.2.2.1.length = v.f.2.2.2.2.length
  many : v.f.2.2.2.2.length ≤ 600
  nok : ∀ x ∈ v.f.2.2.2.1, nok x = true
  nd : v.f.2.2.2.1.Nodup
/-- Valid, of at most so many levels. -/
def Vd : Nat → Pv → Prop
  | 0, _ => False
  | d + 1, v => NodeOk v ∧ ∀ p ∈ v.f.2.2.2.2, Vd d p
/-- Nothing in it is greater than that. -/
def Sm (B : Nat) : Nat → Pv → Prop
  | 0, _ => True
  | d + 1, v => v.f.2.2.1.length ≤ B ∧ v.f.2.2.2.1.length ≤ B ∧ v.f.2.2.2.2.length ≤ B ∧ (∀ x ∈ v.f.2.2.2.1, x.length ≤ B) ∧ I64 v.f.1 ∧ I64 v.f.2.1 ∧ ∀ p ∈ v.f.2.2.2.2, Sm B d p
/-- The nodes of some levels. -/
def nodes : Nat → Pv → Nat
  | 0, _ => 0
  | d + 1, v => 1 + (v.f.2.2.2.2.map (nodes d)).sum
end Go.L
namespace Go.Proofs.YtmfiaecglndldaaGreatDoor
open Go Go.L
theorem cont_int {l : List Int} (hl : l.length ≤ 1000) (a : Int) : slices_Contains_int_int l a = some (decide (a ∈ l)) := by
  have key : ∀ (d i : Nat), i + d = l.length → ∃ r, Go.L.run (slices_Index_int_int_bl2 l a) (i : Int) = some r ∧ (0 ≤ r ↔ a ∈ l.drop i) := by
    intro d
    induction d with
    | zero =>
      intro i hi
      refine ⟨-1, run_inr (m := some (-1)) ?_, by rw [List.drop_eq_nil_of_le (by omega)]; simp⟩
      unfold slices_Index_int_int_bl2 slices_Index_int_int_k1
      rw [if_neg (by omega)]
    | succ d ih =>
      intro i hi
      have hil : i < l.length := by omega
      rw [drop_cons hil]
      have hb : slices_Index_int_int_bl2 l a (i : Int) = if a = l.getD i default then some (.inr (i : Int)) else some (.inl ((i + 1 : Nat) : Int)) := by
        unfold slices_Index_int_int_bl2
        rw [if_pos (by omega), chk_pos (by omega), Int.toNat_natCast, chk_pos (by unfold I64; omega)]
        rfl
      by_cases h : a = l.getD i default
      · rw [if_pos h] at hb
        exact ⟨_, run_inr (m := some (i : Int)) hb, by rw [h]; simp⟩
      · rw [if_neg h] at hb
        obtain ⟨r, h1, h2⟩ := ih (i + 1) (by omega)
        refine ⟨r, by rw [run_inl hb, h1], h2.trans ?_⟩
        rw [List.mem_cons]
        exact ⟨.inr, fun hh => hh.resolve_left h⟩
  unfold slices_Contains_int_int slices_Index_int_int slices_Index_int_int_l2
  obtain ⟨r, h1, h2⟩ := key l.length 0 (by omega)
  rw [show ((0 : Int)) = ((0 : Nat) : Int) from rfl, h1, Option.bind_some]
  rw [List.drop_zero] at h2
  congr 1
  rw [Bool.eq_iff_iff, decide_eq_true_eq, decide_eq_true_eq]
  exact h2
theorem cont_str {l : List (List UInt8)} (hl : l.length ≤ 1000000000000) (a : List UInt8) : slices_Contains_string_string l a = some (decide (a ∈ l)) := by
  have key : ∀ (d i : Nat), i + d = l.length → ∃ r, Go.L.run (slices_Index_string_string_bl2 l a) (i : Int) = some r ∧ (0 ≤ r ↔ a ∈ l.drop i) := by
    intro d
    induction d with
    | zero =>
      intro i hi
      refine ⟨-1, run_inr (m := some (-1)) ?_, by rw [List.drop_eq_nil_of_le (by omega)]; simp⟩
      unfold slices_Index_string_string_bl2 slices_Index_string_string_k1
      rw [if_neg (by omega)]
    | succ d ih =>
      intro i hi
      have hil : i < l.length := by omega
      rw [drop_cons hil]
      have hb : slices_Index_string_string_bl2 l a (i : Int) = if a = l.getD i default then some (.inr (i : Int)) else some (.inl ((i + 1 : Nat) : Int)) := by
        unfold slices_Index_string_string_bl2
        rw [if_pos (by omega), chk_pos (by omega), Int.toNat_natCast, chk_pos (by unfold I64; omega)]
        rfl
      by_cases h : a = l.getD i default
      · rw [if_pos h] at hb
        exact ⟨_, run_inr (m := some (i : Int)) hb, by rw [h]; simp⟩
      · rw [if_neg h] at hb
        obtain ⟨r, h1, h2⟩ := ih (i + 1) (by omega)
        refine ⟨r, by rw [run_inl hb, h1], h2.trans ?_⟩
        rw [List.mem_cons]
        exact ⟨.inr, fun hh => hh.resolve_left h⟩
  unfold slices_Contains_string_string slices_Index_string_string slices_Index_string_string_l2
  obtain ⟨r, h1, h2⟩ := key l.length 0 (by omega)
  rw [show ((0 : Int)) = ((0 : Nat) : Int) from rfl, h1, Option.bind_some]
  rw [List.drop_zero] at h2
  congr 1
  rw [Bool.eq_iff_iff, decide_eq_true_eq, decide_eq_true_eq]
  exact h2
theorem cn2_eq {l : List (List UInt8)} (hl : l.length ≤ 1000000000000) : conf_checkNode_2 l = some (l.any fun x => !nok x) := by
  have key : ∀ (d i : Nat), i + d = l.length → ∃ r, Go.L.run (idxf_checkNode_2_bl2 l) (i : Int) = some r ∧ (0 ≤ r ↔ (l.drop i).any (fun x => !nok x) = true) := by
    intro d
    induction d with
    | zero =>
      intro i hi
      refine ⟨-1, run_inr (m := some (-1)) ?_, by rw [List.drop_eq_nil_of_le (by omega)]; simp⟩
      unfold idxf_checkNode_2_bl2 idxf_checkNode_2_k1
      rw [if_neg (by omega)]
    | succ d ih =>
      intro i hi
      have hil : i < l.length := by omega
      rw [drop_cons hil]
      have hb : idxf_checkNode_2_bl2 l (i : Int) = if (!nok (l.getD i default)) = true then some (.inr (i : Int)) else some (.inl ((i + 1 : Nat) : Int)) := by
        unfold idxf_checkNode_2_bl2 value_checkNode_2
        rw [if_pos (by omega), chk_pos (by omega), Int.toNat_natCast, name_eq, chk_pos (by unfold I64; omega)]
        rfl
      by_cases h : (!nok (l.getD i default)) = true
      · rw [if_pos h] at hb
        exact ⟨_, run_inr (m := some (i : Int)) hb, by rw [List.any_cons, h]; simp⟩
      · rw [if_neg h] at hb
        obtain ⟨r, h1, h2⟩ := ih (i + 1) (by omega)
        refine ⟨r, by rw [run_inl hb, h1], h2.trans ?_⟩
        have hf : (!nok (l.getD i default)) = false := by simpa using h
        rw [List.any_cons, hf, Bool.false_or]
  unfold conf_checkNode_2 idxf_checkNode_2 idxf_checkNode_2_l2
  obtain ⟨r, h1, h2⟩ := key l.length 0 (by omega)
  rw [show ((0 : Int)) = ((0 : Nat) : Int) from rfl, h1, Option.bind_some]
  rw [List.drop_zero] at h2
  congr 1
  rw [Bool.eq_iff_iff, decide_eq_true_eq]
  exact h2
theorem dup_run {l : List (List UInt8)} (hl : l.length ≤ 1000000000000) : ∀ (d i : Nat), i + d = l.length → (l.take i).Nodup → ∃ c, Go.L.run (value_checkNode_bl3 l) (i : Int) = some c ∧ (c = 0 → l.Nodup)
  | 0, i, hi, hn => by
    refine ⟨0, run_inr (m := some 0) ?_, fun _ => ?_⟩
    · unfold value_checkNode_bl3 value_checkNode_k2
      rw [if_neg (by omega)]
    · rwa [List.take_of_length_le (by omega)] at hn
  | d + 1, i, hi, hn => by
    have hil : i < l.length := by omega
    have hb : value_checkNode_bl3 l (i : Int) = if l.getD i default ∈ l.take i then some (.inr 8) else some (.inl ((i + 1 : Nat) : Int)) := by
      unfold value_checkNode_bl3
      rw [if_pos (by omega), chk_pos (by omega), chk_pos (by omega), Int.toNat_natCast, cont_str (by rw [List.length_take]; omega), Option.bind_some, chk_pos (by unfold I64; omega)]
      by_cases h : l.getD i default ∈ l.take i <;> simp [h]
    by_cases h : l.getD i default ∈ l.take i
    · rw [if_pos h] at hb
      exact ⟨8, run_inr (m := some 8) hb, fun hc => by cases hc⟩
    · rw [if_neg h] at hb
      obtain ⟨c, h1, h2⟩ := dup_run hl d (i + 1) (by omega) (by
        rw [List.take_add_one, List.getElem?_eq_getElem hil]
        have e : l[i] = l.getD i default := by rw [List.getD_eq_getElem?_getD, List.getElem?_eq_getElem hil]; rfl
        rw [e]
        exact List.nodup_append.2 ⟨hn, List.pairwise_singleton _ _, fun a ha b hb e => by rw [Option.toList_some, List.mem_singleton] at hb; subst hb; subst e; exact h ha⟩)
      exact ⟨c, by rw [run_inl hb, h1], h2⟩
theorem cn_k1 (a b : Int) (c : List UInt8) {ns : List (List UInt8)} (hn : ns.length ≤ 1000000000000) (ps : List Pv) (fl : Bool) : ∃ r, value_checkNode_k1 a b c ns ps fl = some r ∧ (r = 0 → fl = false ∧ ps.length ≤ 600 ∧ (∀ x ∈ ns, nok x = true) ∧ ns.Nodup) := by
  unfold value_checkNode_k1
  cases fl with
  | true => exact ⟨6, rfl, fun h => by cases h⟩
  | false =>
    rw [if_neg (by decide)]
    by_cases h1 : (600 : Int) < (ps.length : Int)
    · rw [if_pos h1]; exact ⟨14, rfl, fun h => by cases h⟩
    · rw [if_neg h1, cn2_eq hn, Option.bind_some]
      by_cases h2 : (ns.any fun x => !nok x) = true
      · rw [if_pos h2]; exact ⟨7, rfl, fun h => by cases h⟩
      · rw [if_neg h2]
        obtain ⟨r, h3, h4⟩ := dup_run hn ns.length 0 (by omega) (by simp)
        refine ⟨r, h3, fun h => ⟨rfl, by omega, fun x hx => ?_, h4 h⟩⟩
        cases hk : nok x with
        | true => rfl
        | false => exact absurd (List.any_eq_true.2 ⟨x, hx, by simp [hk]⟩) h2
theorem vc1 {l : List Int} (hl : l.length ≤ 1000) (v : Pv) : value_checkNode_1 l v = some (decide (v.f.1 ∈ l), v) := by
  unfold value_checkNode_1
  rw [cont_int hl]
  rfl
set_option maxHeartbeats 4000000 in
theorem checkNode_ex (v : Pv) (hn : v.f.2.2.2.1.length ≤ 1000000000000) : ∃ c, value_checkNode v = some c ∧ (c = 0 → NodeOk v) := by
  have fin : ∀ fl : Bool, (fl = false → (v.f.1 = 1 ∨ v.f.1 = 2 ∨ v.f.1 = 3 ∨ v.f.1 = 4) ∧ (v.f.1 = 1 ∨ v.f.2.1 = 0) ∧ (v.f.1 = 2 ∨ v.f.2.2.1 = []) ∧ (v.f.1 = 4 ∨ v.f.2.2.2.1 = []) ∧ (v.f.1 = 3 ∨ v.f.1 = 4 ∨ v.f.2.2.2.2 = []) ∧ (v.f.1 = 4 → v.f.2.2.2.1.length = v.f.2.2.2.2.length)) →
      ∃ c, value_checkNode_k1 v.f.1 v.f.2.1 v.f.2.2.1 v.f.2.2.2.1 v.f.2.2.2.2 fl = some c ∧ (c = 0 → NodeOk v) := by
    intro fl hfl
    obtain ⟨r, h1, h2⟩ := cn_k1 v.f.1 v.f.2.1 v.f.2.2.1 hn v.f.2.2.2.2 fl
    refine ⟨r, h1, fun hr => ?_⟩
    obtain ⟨k1, k2, k3, k4⟩ := h2 hr
    obtain ⟨g1, g2, g3, g4, g5, g6⟩ := hfl k1
    exact ⟨g1, g2, g3, g4, g5, g6, k2, k3, k4⟩
  have e0 := vc1 (l := [1, 2, 3, 4]) (by decide) v
  have e1 := vc1 (l := [1]) (by decide) v
  have e2 := vc1 (l := [2]) (by decide) v
  have e3 := vc1 (l := [3, 4]) (by decide) v
  have e4 := vc1 (l := [4]) (by decide) v
  by_cases hk : v.f.1 = 1 ∨ v.f.1 = 2 ∨ v.f.1 = 3 ∨ v.f.1 = 4
  · unfold value_checkNode
    simp only [e0, e1, e2, e3, e4, Option.bind_some]
    generalize v.f.1 = k at *
    generalize v.f.2.1 = n at *
    generalize v.f.2.2.1 = b at *
    generalize v.f.2.2.2.1 = ns at *
    generalize v.f.2.2.2.2 = ps at *
    have hb : b = [] ∨ (0 : Int) < (b.length : Int) := by cases b with
      | nil => exact .inl rfl
      | cons _ _ => exact .inr (by simp only [List.length_cons]; omega)
    have hm : ns = [] ∨ (0 : Int) < (ns.length : Int) := by cases ns with
      | nil => exact .inl rfl
      | cons _ _ => exact .inr (by simp only [List.length_cons]; omega)
    have hp : ps = [] ∨ (0 : Int) < (ps.length : Int) := by cases ps with
      | nil => exact .inl rfl
      | cons _ _ => exact .inr (by simp only [List.length_cons]; omega)
    rcases hk with rfl | rfl | rfl | rfl <;> by_cases hz : n = 0 <;> rcases hb with rfl | hb <;> rcases hm with rfl | hm <;> rcases hp with rfl | hp <;>
      simp +decide only [*, if_true, if_false, List.length_nil, Bool.not_true, Bool.not_false, Bool.false_eq_true, decide_true, decide_false, Int.lt_irrefl, Int.natCast_zero] <;>
      (refine fin _ fun hfl => ?_) <;> simp_all <;> omega
  · refine ⟨5, ?_, fun h => by cases h⟩
    unfold value_checkNode
    rw [e0, Option.bind_some]
    rw [if_pos (by simp [hk])]
end Go.Proofs.YtmfiaecglndldaaGreatDoor
end
section
namespace Go.L
/-- A number with its sign again. -/
def unzz (u : Nat) : Int := if u % 2 = 0 then ((u / 2 : Nat) : Int) else -((u / 2 : Nat) : Int) - 1
theorem unzz_i64 {u : Nat} (h : u < 2 ^ 64) : I64 (unzz u) := by unfold unzz I64; split <;> omega
theorem unzz_zz (a : Int) : unzz (zz a) = a := by unfold zz unzz; split <;> split <;> omega
def nu (u i : Nat) (c : UInt8) : Nat := u ||| ((c &&& 127).toNat * 2 ^ (7 * i) % 18446744073709551616)
theorem nu_lt {u i : Nat} {c : UInt8} (h : u < 2 ^ 64) : nu u i c < 2 ^ 64 := Nat.or_lt_two_pow h (by have := Nat.mod_lt ((c &&& 127).toNat * 2 ^ (7 * i)) (show 0 < 18446744073709551616 by decide); omega)
theorem xorI_sign {k : Nat} (h : k < 2 ^ 63) : xorI (k : Int) 0 = k ∧ xorI (k : Int) (-1) = -(k : Int) - 1 := by
  have e : (BitVec.ofInt 64 (k : Int)).toNat = k := by simp; omega
  have wp : ∀ x : Nat, x < 2 ^ 63 → Go.IntKind.i64.wrap (x : Int) = x := fun x hx => by
    simp only [Go.IntKind.wrap]; simp [Go.IntKind.bits, Go.IntKind.signed]; omega
  have wn : ∀ x : Nat, 2 ^ 63 ≤ x → x < 2 ^ 64 → Go.IntKind.i64.wrap (x : Int) = (x : Int) - 18446744073709551616 := fun x hx hx2 => by
    simp only [Go.IntKind.wrap]; simp [Go.IntKind.bits, Go.IntKind.signed]; omega
  constructor
  · unfold xorI
    rw [BitVec.toNat_xor, e]
    rw [show (BitVec.ofInt 64 0).toNat = 0 from rfl, Nat.xor_zero]
    exact wp k h
  · unfold xorI
    rw [show BitVec.ofInt 64 (-1) = BitVec.allOnes 64 from rfl, BitVec.xor_allOnes, BitVec.toNat_not, e, wn _ (by omega) (by omega)]
    omega
theorem wrap64_lt {k : Nat} (h : k < 2 ^ 63) : Go.IntKind.i64.wrap (k : Int) = k := by
  simp only [Go.IntKind.wrap]; simp [Go.IntKind.bits, Go.IntKind.signed]; omega
end Go.L
namespace Go.Proofs.YtmfiaecglndldaaGreatDoor
open Go Go.L
theorem rn_step {b : List UInt8} (hb : b.length ≤ 1000000) {a u i : Nat} (hi : i < 10) (hu : u < 2 ^ 64) (ha : a + i < b.length) :
    wire_ReadNumber_bl2 b (a : Int) ((u : Int), (i : Int)) = if (i = 9 ∧ 1 < (b.getD (a + i) default).toNat) ∨ (0 < i ∧ (b.getD (a + i) default).toNat = 0) then some (.inr (0, 0, (1, (a : Int))))
      else if (b.getD (a + i) default).toNat < 128 then some (.inr (unzz (nu u i (b.getD (a + i) default)), ((a + i + 1 : Nat) : Int), (0, 0)))
      else some (.inl ((nu u i (b.getD (a + i) default) : Nat), ((i + 1 : Nat) : Int))) := by
  unfold wire_ReadNumber_bl2 wire_ReadNumber_k1 wire_fault
  dsimp only
  have e1 : ((a : Int) + (i : Int)).toNat = a + i := by omega
  have e2 : ((7 : Int) * (i : Int)).toNat = 7 * i := by omega
  simp only [e1, e2]
  generalize b.getD (a + i) default = c
  have hE : IntKind.u64.wrap (IntKind.u64.wrap ((c &&& 127).toNat : Int) * 2 ^ (7 * i)) = (((c &&& 127).toNat * 2 ^ (7 * i) % 18446744073709551616 : Nat) : Int) := by
    rw [wrap_u, wrap_u, show ((c &&& 127).toNat : Int) % 18446744073709551616 = ((c &&& 127).toNat : Int) by have := (c &&& 127).toNat_lt; omega]
    rw [Int.natCast_emod, Int.natCast_mul, Int.natCast_pow]
    rfl
  simp only [hE, Int.toNat_natCast]
  have hM : (c &&& 127).toNat * 2 ^ (7 * i) % 18446744073709551616 < 18446744073709551616 := Nat.mod_lt _ (by decide)
  have hn : (u ||| (c &&& 127).toNat * 2 ^ (7 * i) % 18446744073709551616) = nu u i c := rfl
  simp only [hn]
  have hnl := nu_lt (i := i) (c := c) hu
  generalize nu u i c = v at *
  generalize (c &&& 127).toNat * 2 ^ (7 * i) % 18446744073709551616 = M at *
  have k1 : I64 ((a : Int) + (i : Int)) := by unfold I64; omega
  have k2 : 0 ≤ (a : Int) + (i : Int) ∧ (a : Int) + (i : Int) < (b.length : Int) := by omega
  have k3 : I64 (7 * (i : Int)) := by unfold I64; omega
  have k4 : 0 ≤ 7 * (i : Int) ∧ 7 * (i : Int) ≤ 63 := by omega
  have k5 : ((0 : Int) ≤ (u : Int) ∧ (u : Int) < 2 ^ 64) ∧ (0 : Int) ≤ (M : Int) ∧ (M : Int) < 2 ^ 64 := by omega
  have k6 : ((0 : Int) ≤ (v : Int) ∧ (v : Int) < 2 ^ 64) ∧ (0 : Int) ≤ (1 : Int) ∧ (1 : Int) < 2 ^ 64 := by omega
  have h1 : v &&& (1 : Int).toNat = v % 2 := Nat.and_one_is_mod v
  have h2 : IntKind.i64.wrap ((v % 2 : Nat) : Int) = ((v % 2 : Nat) : Int) := wrap64_lt (by omega)
  have h3 : (v : Int) / 2 = ((v / 2 : Nat) : Int) := by omega
  have h4 : IntKind.i64.wrap ((v / 2 : Nat) : Int) = ((v / 2 : Nat) : Int) := wrap64_lt (by omega)
  have k7 : I64 (-((v % 2 : Nat) : Int)) := by unfold I64; omega
  have k8 : I64 ((a : Int) + (i : Int) + 1) := by unfold I64; omega
  have k9 : I64 ((i : Int) + 1) := by unfold I64; omega
  have hx : xorI ((v / 2 : Nat) : Int) (-((v % 2 : Nat) : Int)) = unzz v := by
    have := xorI_sign (k := v / 2) (by omega)
    unfold unzz
    rcases Nat.mod_two_eq_zero_or_one v with h | h
    · rw [h, if_pos rfl]; exact this.1
    · rw [h, if_neg (by decide)]; exact this.2
  simp only [chk_pos k1, chk_pos k2, chk_pos k3, chk_pos k4, chk_pos k5, chk_pos k6, chk_pos k8, chk_pos k9, h1, h2, h3, h4, hx]
  simp only [chk_pos k7, Option.bind_some]
  rw [if_pos (by omega), if_neg (by omega)]
  by_cases c1 : i = 9 ∧ 1 < c.toNat
  · rw [if_pos (by omega), if_pos (.inl c1)]; rfl
  · rw [if_neg (by omega)]
    by_cases c2 : 0 < i
    · rw [if_pos (by omega)]
      by_cases c3 : c.toNat = 0
      · rw [if_pos (by omega), if_pos (.inr ⟨c2, c3⟩)]; rfl
      · rw [if_neg (show ¬ ((c.toNat : Int) = 0) by omega), if_neg (show ¬ ((i = 9 ∧ 1 < c.toNat) ∨ 0 < i ∧ c.toNat = 0) by omega)]
        by_cases c4 : c.toNat < 128
        · rw [if_pos (by omega), if_pos c4]; rfl
        · rw [if_neg (by omega), if_neg c4]; rfl
    · rw [if_neg (show ¬ ((0 : Int) < (i : Int)) by omega), if_neg (show ¬ ((i = 9 ∧ 1 < c.toNat) ∨ 0 < i ∧ c.toNat = 0) by omega)]
      by_cases c4 : c.toNat < 128
      · rw [if_pos (by omega), if_pos c4]; rfl
      · rw [if_neg (by omega), if_neg c4]; rfl
theorem rn_run {b : List UInt8} (hb : b.length ≤ 1000000) {a : Nat} (ha : a ≤ b.length) : ∀ (k i u : Nat), i + k = 10 → a + i ≤ b.length → u < 2 ^ 64 → ∃ r, Go.L.run (wire_ReadNumber_bl2 b (a : Int)) ((u : Int), (i : Int)) = some r ∧ ((r.2.2 = (0, 0) ∧ I64 r.1 ∧ ∃ m : Nat, r.2.1 = m ∧ a < m ∧ m ≤ b.length) ∨ r.2.2.1 ≠ 0)
  | 0, i, u, hi, _, _ => by
    refine ⟨(0, 0, (1, (a : Int))), run_inr (m := some (0, 0, (1, (a : Int)))) ?_, .inr (by simp)⟩
    unfold wire_ReadNumber_bl2 wire_ReadNumber_k1 wire_fault
    dsimp only
    rw [if_neg (by omega)]
    rfl
  | k + 1, i, u, hi, hai, hu => by
    by_cases he : a + i = b.length
    · refine ⟨(0, 0, (15, (a : Int))), run_inr (m := some (0, 0, (15, (a : Int)))) ?_, .inr (by simp)⟩
      unfold wire_ReadNumber_bl2 wire_fault
      dsimp only
      rw [if_pos (by omega), chk_pos (by unfold I64; omega), if_pos (by omega)]
      rfl
    · have hs := rn_step hb (a := a) (u := u) (i := i) (by omega) hu (by omega)
      generalize b.getD (a + i) default = c at hs
      split at hs
      · exact ⟨_, run_inr (m := some (0, 0, (1, (a : Int)))) hs, .inr (by simp)⟩
      · split at hs
        · exact ⟨_, run_inr (m := some (unzz (nu u i c), ((a + i + 1 : Nat) : Int), (0, 0))) hs, .inl ⟨rfl, unzz_i64 (nu_lt hu), a + i + 1, rfl, by omega, by omega⟩⟩
        · rw [run_inl hs]
          exact rn_run hb ha k (i + 1) _ (by omega) (by omega) (nu_lt hu)
/-- What a reader yields: something behind, or a fault. -/
def RdOk (b : List UInt8) (a : Nat) {α : Type} (r : α × Int × (Int × Int)) (P : α → Prop) : Prop := (r.2.2 = (0, 0) ∧ P r.1 ∧ ∃ m : Nat, r.2.1 = m ∧ a < m ∧ m ≤ b.length) ∨ r.2.2.1 ≠ 0
theorem rnum {b : List UInt8} (hb : b.length ≤ 1000000) {a : Nat} (ha : a ≤ b.length) : ∃ r, wire_ReadNumber b (a : Int) = some r ∧ RdOk b a r (fun n => I64 n) := by
  unfold wire_ReadNumber
  rw [if_neg (by omega), if_neg (by omega)]
  exact rn_run hb ha 10 0 0 (by omega) (by omega) (by decide)
theorem rchunk {b : List UInt8} (hb : b.length ≤ 1000000) {a : Nat} (ha : a ≤ b.length) : ∃ r, wire_ReadChunk b (a : Int) = some r ∧ RdOk b a r (fun l => l.length ≤ b.length) := by
  unfold wire_ReadChunk wire_fault
  obtain ⟨⟨n, nx, f⟩, h1, h2⟩ := rnum hb ha
  rw [h1, Option.bind_some]
  rcases h2 with ⟨hf, hn, m, hm, h3, h4⟩ | hf
  · simp only at hf hn hm
    subst hf; subst hm
    dsimp only
    rw [if_pos ⟨rfl, rfl⟩]
    by_cases c1 : n < 0
    · rw [if_pos c1]; exact ⟨_, rfl, .inr (by simp)⟩
    · rw [if_neg c1, chk_pos (by unfold I64; omega)]
      by_cases c2 : (b.length : Int) - (m : Int) < n
      · rw [if_pos c2]; exact ⟨_, rfl, .inr (by simp)⟩
      · have hln : ((b.drop (m : Int).toNat).take (((m : Int) + n).toNat - (m : Int).toNat)).length ≤ b.length := by
          rw [List.length_take, List.length_drop]; omega
        rw [if_neg c2, chk_pos (by unfold I64; omega), chk_pos (by omega), chk_pos (by unfold Go.E.Cap; simp only [List.length_nil]; omega), chk_pos (by unfold I64; omega)]
        exact ⟨_, rfl, .inl ⟨rfl, by simpa using hln, m + n.toNat, by show (m : Int) + n = _; omega, by omega, by omega⟩⟩
  · dsimp only
    rw [if_neg (fun h => hf h.1)]
    exact ⟨_, rfl, .inr hf⟩
theorem rnums_run {b : List UInt8} (hb : b.length ≤ 1000000) {a0 : Nat} {x2 : Int × Int × (Int × Int)} (hx : x2.1 ≤ 1000000) : ∀ (k j : Nat) (l : List Int) (a : Nat), (j : Int) + k = x2.1 → a0 < a → a ≤ b.length → l.length = j → (∀ z ∈ l, I64 z) →
    ∃ r, Go.L.run (wreads_Number_bl2 b x2) (l, (a : Int), (j : Int)) = some r ∧ RdOk b a0 r (fun l => (∀ z ∈ l, I64 z) ∧ (l.length : Int) = x2.1)
  | 0, j, l, a, hj, h0, ha, hl, hz => by
    refine ⟨(l, (a : Int), (0, 0)), run_inr (m := some (l, (a : Int), (0, 0))) ?_, .inl ⟨rfl, ⟨hz, by show (l.length : Int) = _; omega⟩, a, rfl, h0, ha⟩⟩
    unfold wreads_Number_bl2 wreads_Number_k1
    dsimp only
    rw [if_neg (by omega)]
  | k + 1, j, l, a, hj, h0, ha, hl, hz => by
    obtain ⟨⟨n, nx, f⟩, h1, h2⟩ := rnum hb ha
    rcases h2 with ⟨hf, hn, m, hm, h3, h4⟩ | hf
    · simp only at hf hn hm
      subst hf; subst hm
      have hs : wreads_Number_bl2 b x2 (l, (a : Int), (j : Int)) = some (.inl (l ++ [n], (m : Int), ((j + 1 : Nat) : Int))) := by
        unfold wreads_Number_bl2
        dsimp only
        rw [if_pos (by omega), h1, Option.bind_some]
        dsimp only
        rw [if_pos ⟨rfl, rfl⟩, chk_pos (by unfold Go.E.Cap; simp; omega), chk_pos (by unfold I64; omega)]
        rfl
      rw [run_inl hs]
      exact rnums_run hb hx k (j + 1) _ m (by omega) (by omega) h4 (by simp; omega) (fun z hz' => by
        rcases List.mem_append.1 hz' with h | h
        · exact hz z h
        · rw [List.mem_singleton] at h; subst h; exact hn)
    · refine ⟨([], 0, f), run_inr (m := some ([], 0, f)) ?_, .inr hf⟩
      unfold wreads_Number_bl2
      dsimp only
      rw [if_pos (by omega), h1, Option.bind_some]
      dsimp only
      rw [if_neg (fun h => hf h.1)]
theorem rnums {b : List UInt8} (hb : b.length ≤ 1000000) {a : Nat} (ha : a ≤ b.length) {most : Int} (hm0 : most ≤ 1000000) : ∃ r, wreads_Number b (a : Int) most = some r ∧ RdOk b a r (fun l => (∀ z ∈ l, I64 z) ∧ (l.length : Int) ≤ most) := by
  unfold wreads_Number wire_fault
  obtain ⟨⟨n, nx, f⟩, h1, h2⟩ := rnum hb ha
  rw [h1, Option.bind_some]
  rcases h2 with ⟨hf, hn, m, hm, h3, h4⟩ | hf
  · simp only at hf hn hm
    subst hf; subst hm
    dsimp only
    rw [if_pos ⟨rfl, rfl⟩]
    by_cases c1 : n < 0 ∨ most < n
    · rw [if_pos c1]; exact ⟨_, rfl, .inr (by simp)⟩
    · rw [if_neg c1]
      obtain ⟨r, k1, k2⟩ := rnums_run hb (a0 := a) (x2 := (n, (m : Int), (0, 0))) (by show n ≤ _; omega) n.toNat 0 [] m (by show ((0 : Nat) : Int) + (n.toNat : Int) = n; omega) h3 h4 rfl (fun z hz => by cases hz)
      refine ⟨r, k1, ?_⟩
      rcases k2 with ⟨q1, ⟨q2, q3⟩, q4⟩ | q
      · exact .inl ⟨q1, ⟨q2, by have : (r.1.length : Int) = n := q3; omega⟩, q4⟩
      · exact .inr q
  · dsimp only
    rw [if_neg (fun h => hf h.1)]
    exact ⟨_, rfl, .inr hf⟩
abbrev En : Type := Lf × List Int
/-- What is read of an entry. -/
def EnOk (b : List UInt8) (e : En) : Prop := e.1.1.length ≤ b.length ∧ I64 e.1.2.1 ∧ I64 e.1.2.2.1 ∧ e.1.2.2.2.length ≤ b.length ∧ (∀ z ∈ e.2, I64 z) ∧ e.2.length ≤ 64
theorem rentry {b : List UInt8} (hb : b.length ≤ 1000000) {a : Nat} (ha : a ≤ b.length) : ∃ r, shapes_readEntry b (a : Int) = some r ∧ RdOk b a r (EnOk b) := by
  unfold shapes_readEntry shapes_readEntry_k1 shapes_readEntry_k2 shapes_readEntry_k3 shapes_readEntry_k4 shapes_readEntry_k5
  obtain ⟨⟨p, n1, f1⟩, h1, g1⟩ := rchunk hb ha
  rw [h1, Option.bind_some]
  rcases g1 with ⟨hf, hp, m1, hm, l1, l1'⟩ | hf
  rotate_left
  · dsimp only; rw [if_neg (fun h => hf h.1)]; exact ⟨_, rfl, .inr hf⟩
  simp only at hf hp hm; subst hf; subst hm; dsimp only; rw [if_pos ⟨rfl, rfl⟩]
  obtain ⟨⟨k, n2, f2⟩, h2, g2⟩ := rnum hb l1'
  rw [h2, Option.bind_some]
  rcases g2 with ⟨hf, hk, m2, hm, l2, l2'⟩ | hf
  rotate_left
  · dsimp only; rw [if_neg (fun h => hf h.1)]; exact ⟨_, rfl, .inr hf⟩
  simp only at hf hk hm; subst hf; subst hm; dsimp only; rw [if_pos ⟨rfl, rfl⟩]
  obtain ⟨⟨v, n3, f3⟩, h3, g3⟩ := rnum hb l2'
  rw [h3, Option.bind_some]
  rcases g3 with ⟨hf, hv, m3, hm, l3, l3'⟩ | hf
  rotate_left
  · dsimp only; rw [if_neg (fun h => hf h.1)]; exact ⟨_, rfl, .inr hf⟩
  simp only at hf hv hm; subst hf; subst hm; dsimp only; rw [if_pos ⟨rfl, rfl⟩]
  obtain ⟨⟨t, n4, f4⟩, h4, g4⟩ := rchunk hb l3'
  rw [h4, Option.bind_some]
  rcases g4 with ⟨hf, ht, m4, hm, l4, l4'⟩ | hf
  rotate_left
  · dsimp only; rw [if_neg (fun h => hf h.1)]; exact ⟨_, rfl, .inr hf⟩
  simp only at hf ht hm; subst hf; subst hm; dsimp only; rw [if_pos ⟨rfl, rfl⟩]
  obtain ⟨⟨i, n5, f5⟩, h5, g5⟩ := rnums hb l4' (most := 64) (by decide)
  rw [h5, Option.bind_some]
  rcases g5 with ⟨hf, hi, m5, hm, l5, l5'⟩ | hf
  rotate_left
  · dsimp only; rw [if_neg (fun h => hf h.1)]; exact ⟨_, rfl, .inr hf⟩
  simp only at hf hi hm; subst hf; subst hm; dsimp only; rw [if_pos ⟨rfl, rfl⟩]
  exact ⟨_, rfl, .inl ⟨rfl, ⟨hp, hk, hv, ht, hi.1, by have := hi.2; show i.length ≤ 64; omega⟩, m5, rfl, by omega, l5'⟩⟩
theorem rentries_run {b : List UInt8} (hb : b.length ≤ 1000000) {a0 : Nat} {x2 : Int × Int × (Int × Int)} (hx : x2.1 ≤ 1000000) : ∀ (k j : Nat) (l : List En) (a : Nat), (j : Int) + k = x2.1 → a0 < a → a ≤ b.length → l.length = j → (∀ z ∈ l, EnOk b z) →
    ∃ r, Go.L.run (wreads_entry_bl2 b x2) (l, (a : Int), (j : Int)) = some r ∧ RdOk b a0 r (fun l => (∀ z ∈ l, EnOk b z) ∧ (l.length : Int) = x2.1)
  | 0, j, l, a, hj, h0, ha, hl, hz => by
    refine ⟨(l, (a : Int), (0, 0)), run_inr (m := some (l, (a : Int), (0, 0))) ?_, .inl ⟨rfl, ⟨hz, by show (l.length : Int) = _; omega⟩, a, rfl, h0, ha⟩⟩
    unfold wreads_entry_bl2 wreads_entry_k1
    dsimp only
    rw [if_neg (by omega)]
  | k + 1, j, l, a, hj, h0, ha, hl, hz => by
    obtain ⟨⟨n, nx, f⟩, h1, h2⟩ := rentry hb ha
    rcases h2 with ⟨hf, hn, m, hm, h3, h4⟩ | hf
    · simp only at hf hn hm
      subst hf; subst hm
      have hs : wreads_entry_bl2 b x2 (l, (a : Int), (j : Int)) = some (.inl (l ++ [n], (m : Int), ((j + 1 : Nat) : Int))) := by
        unfold wreads_entry_bl2
        dsimp only
        rw [if_pos (by omega), h1, Option.bind_some]
        dsimp only
        rw [if_pos ⟨rfl, rfl⟩, chk_pos (by unfold Go.E.Cap; simp; omega), chk_pos (by unfold I64; omega)]
        rfl
      rw [run_inl hs]
      exact rentries_run hb hx k (j + 1) _ m (by omega) (by omega) h4 (by simp; omega) (fun z hz' => by
        rcases List.mem_append.1 hz' with h | h
        · exact hz z h
        · rw [List.mem_singleton] at h; subst h; exact hn)
    · refine ⟨([], 0, f), run_inr (m := some ([], 0, f)) ?_, .inr hf⟩
      unfold wreads_entry_bl2
      dsimp only
      rw [if_pos (by omega), h1, Option.bind_some]
      dsimp only
      rw [if_neg (fun h => hf h.1)]
theorem rentries {b : List UInt8} (hb : b.length ≤ 1000000) {a : Nat} (ha : a ≤ b.length) {most : Int} (hm0 : most ≤ 1000000) : ∃ r, wreads_entry b (a : Int) most = some r ∧ RdOk b a r (fun l => (∀ z ∈ l, EnOk b z) ∧ (l.length : Int) ≤ most) := by
  unfold wreads_entry wire_fault
  obtain ⟨⟨n, nx, f⟩, h1, h2⟩ := rnum hb ha
  rw [h1, Option.bind_some]
  rcases h2 with ⟨hf, hn, m, hm, h3, h4⟩ | hf
  · simp only at hf hn hm
    subst hf; subst hm
    dsimp only
    rw [if_pos ⟨rfl, rfl⟩]
    by_cases c1 : n < 0 ∨ most < n
    · rw [if_pos c1]; exact ⟨_, rfl, .inr (by simp)⟩
    · rw [if_neg c1]
      obtain ⟨r, k1, k2⟩ := rentries_run hb (a0 := a) (x2 := (n, (m : Int), (0, 0))) (by show n ≤ _; omega) n.toNat 0 [] m (by show ((0 : Nat) : Int) + (n.toNat : Int) = n; omega) h3 h4 rfl (fun z hz => by cases hz)
      refine ⟨r, k1, ?_⟩
      rcases k2 with ⟨q1, ⟨q2, q3⟩, q4⟩ | q
      · exact .inl ⟨q1, ⟨q2, by have : (r.1.length : Int) = n := q3; omega⟩, q4⟩
      · exact .inr q
  · dsimp only
    rw [if_neg (fun h => hf h.1)]
    exact ⟨_, rfl, .inr hf⟩
end Go.Proofs.YtmfiaecglndldaaGreatDoor
end
section
namespace Go.L
def chunkF (s : List UInt8) : List UInt8 := vint (zz (s.length : Int)) ++ s
def itemsF (l : List Int) : List UInt8 := vint (zz (l.length : Int)) ++ l.flatMap fun i => vint (zz i)
end Go.L
namespace Go.Proofs.YtmfiaecglndldaaGreatDoor
open Go Go.L
/-- The form of an entry, of an index. -/
def lform (e : En) : List UInt8 := [chunkF e.1.1, vint (zz e.1.2.1), vint (zz e.1.2.2.1), chunkF e.1.2.2.2, itemsF e.2].flatten
def iform (n : Int) (es : List En) : List UInt8 := vint (zz n) ++ (vint (zz (es.length : Int)) ++ es.flatMap lform)
/-- Not too great for a machine. -/
def EnS (e : En) : Prop := e.1.1.length ≤ 2000000 ∧ I64 e.1.2.1 ∧ I64 e.1.2.2.1 ∧ e.1.2.2.2.length ≤ 2000000 ∧ (∀ z ∈ e.2, I64 z) ∧ e.2.length ≤ 1000000
theorem flatMap_vint_len (l : List Int) : (l.flatMap fun i => vint (zz i)).length ≤ 10 * l.length := by
  induction l with
  | nil => simp
  | cons a l ih => rw [List.flatMap_cons, List.length_append, List.length_cons]; have := vint_len (zz a); omega
theorem take_succ_flatMap {α β : Type} [Inhabited α] (f : α → List β) {l : List α} {i : Nat} (h : i < l.length) : (l.take (i + 1)).flatMap f = (l.take i).flatMap f ++ f (l.getD i default) := by
  rw [List.take_add_one, List.getElem?_eq_getElem h, Option.toList_some, List.flatMap_append]
  simp [List.getD_eq_getElem?_getD, List.getElem?_eq_getElem h]
theorem wsliceN {l : List Int} (h : ∀ z ∈ l, I64 z) (hl : l.length ≤ 1000000) : wslice_Number l = some (itemsF l) := by
  unfold wslice_Number
  rw [number_eq (by unfold I64; omega), Option.bind_some]
  unfold wslice_Number_l2
  have h0 := vint_len (zz (l.length : Int))
  refine run_count (fun i => (vint (zz (l.length : Int)) ++ (l.take i).flatMap (fun i => vint (zz i)), ((i : Nat) : Int))) l.length (fun i hi => ?_) ?_ 0 (Nat.zero_le _) |> fun hh => by simpa using hh
  · unfold wslice_Number_bl2
    dsimp only
    have h1 := flatMap_vint_len (l.take i)
    have h2 := vint_len (zz (l.getD i default))
    rw [List.length_take] at h1
    rw [if_pos (by omega), chk_pos (by omega), Int.toNat_natCast, number_eq (h _ (getD_mem hi)), Option.bind_some, chk_pos (by unfold Go.E.Cap; simp only [List.length_append]; omega), chk_pos (by unfold I64; omega), take_succ_flatMap _ hi, List.append_assoc]
    rfl
  · unfold wslice_Number_bl2 wslice_Number_k1
    dsimp only
    rw [if_neg (by omega), List.take_length]
    rfl
theorem flat_take_len {α : Type} : ∀ (L : List (List α)) (i : Nat), (L.take i).flatten.length ≤ L.flatten.length
  | [], i => by simp
  | x :: L, 0 => by simp
  | x :: L, i + 1 => by have := flat_take_len L i; simp only [List.take_succ_cons, List.flatten_cons, List.length_append]; omega
theorem take_succ_flatten {α : Type} {L : List (List α)} {i : Nat} (h : i < L.length) : (L.take (i + 1)).flatten = (L.take i).flatten ++ L.getD i default := by
  rw [List.take_add_one, List.getElem?_eq_getElem h, Option.toList_some, List.flatten_append]
  simp [List.getD_eq_getElem?_getD, List.getElem?_eq_getElem h]
theorem grow_eq {n : Int} (h : 0 ≤ n ∧ n ≤ 1000000000000) : slices_Grow_byte_byte [] n = some [] := by
  unfold slices_Grow_byte_byte slices_Grow_byte_byte_k1
  rw [if_neg (by omega), chk_pos (by unfold I64; omega), chk_pos (by unfold I64; omega)]
  split
  · rw [chk_pos (by omega)]
  · rfl
theorem concat_eq {L : List (List UInt8)} (hL : L.length ≤ 1000) (ht : L.flatten.length ≤ 1000000000000) : slices_Concat_byte_byte L = some L.flatten := by
  have hx : ∀ i, i < L.length → (L.take i).flatten.length + (L.getD i default).length ≤ 1000000000000 := fun i hi => by
    have h1 := flat_take_len L (i + 1)
    rw [take_succ_flatten hi, List.length_append] at h1
    omega
  have k1 : slices_Concat_byte_byte_k1 L (L.flatten.length : Int) = some L.flatten := by
    unfold slices_Concat_byte_byte_k1
    rw [grow_eq (by omega), Option.bind_some]
    unfold slices_Concat_byte_byte_l4
    refine run_count (fun i => ((L.take i).flatten, ((i : Nat) : Int))) L.length (fun i hi => ?_) ?_ 0 (Nat.zero_le _)
    · unfold slices_Concat_byte_byte_bl4
      dsimp only
      have := hx i hi
      rw [if_pos (by omega), chk_pos (by omega), Int.toNat_natCast, chk_pos (by unfold Go.E.Cap; omega), chk_pos (by unfold I64; omega), take_succ_flatten hi]
      rfl
    · unfold slices_Concat_byte_byte_bl4 slices_Concat_byte_byte_k3
      dsimp only
      rw [if_neg (by omega), List.take_length]
  unfold slices_Concat_byte_byte slices_Concat_byte_byte_l2
  refine run_count (fun i => (((L.take i).flatten.length : Int), ((i : Nat) : Int))) L.length (fun i hi => ?_) ?_ 0 (Nat.zero_le _)
  · unfold slices_Concat_byte_byte_bl2
    dsimp only
    have := hx i hi
    rw [if_pos (by omega), chk_pos (by omega), Int.toNat_natCast, chk_pos (by unfold I64; omega), if_neg (by omega), chk_pos (by unfold I64; omega), take_succ_flatten hi, List.length_append]
    rfl
  · unfold slices_Concat_byte_byte_bl2
    dsimp only
    rw [if_neg (by omega), List.take_length, k1]
theorem lform_len {e : En} (h : EnS e) : (lform e).length ≤ 20000000 := by
  obtain ⟨h1, _, _, h4, _, h6⟩ := h
  unfold lform chunkF itemsF
  simp only [List.flatten_cons, List.flatten_nil, List.length_append, List.length_nil]
  have := flatMap_vint_len e.2
  have := vint_len (zz (e.1.1.length : Int))
  have := vint_len (zz e.1.2.1)
  have := vint_len (zz e.1.2.2.1)
  have := vint_len (zz (e.1.2.2.2.length : Int))
  have := vint_len (zz (e.2.length : Int))
  omega
theorem chunk_eq {s : List UInt8} (h : s.length ≤ 2000000) : wire_Chunk s = some (chunkF s) := by
  unfold wire_Chunk chunkF
  have := vint_len (zz (s.length : Int))
  rw [number_eq (by unfold I64; omega), Option.bind_some, chk_pos (by unfold Go.E.Cap; omega)]
theorem form_eq {e : En} (h : EnS e) : shapes_form e = some (lform e) := by
  have hl := lform_len h
  obtain ⟨h1, h2, h3, h4, h5, h6⟩ := h
  unfold shapes_form
  rw [chk_pos (by omega), chunk_eq h1, Option.bind_some, number_eq h2, Option.bind_some, number_eq h3, Option.bind_some, chk_pos (by omega), chunk_eq h4, Option.bind_some, wsliceN h5 h6, Option.bind_some, concat_eq (by simp) (by unfold lform at hl; omega)]
  rfl
theorem flatMap_len_le {α β : Type} (f : α → List β) (B : Nat) : ∀ {l : List α}, (∀ x ∈ l, (f x).length ≤ B) → (l.flatMap f).length ≤ l.length * B
  | [], _ => by simp
  | x :: l, h => by
    rw [List.flatMap_cons, List.length_append, List.length_cons, Nat.add_mul]
    have := h x (.head _)
    have := flatMap_len_le f B fun y hy => h y (.tail _ hy)
    omega
theorem bytes_eq {n : Int} {es : List En} (hn : I64 n) (hl : es.length ≤ 1000000) (h : ∀ e ∈ es, EnS e) : shapes_Index_Bytes (n, es) = some (iform n es) := by
  have ht := flatMap_len_le lform 20000000 (l := es) fun x hx => lform_len (h x hx)
  have h0 := vint_len (zz (es.length : Int))
  have h1 := vint_len (zz n)
  have hw : wslice_form es = some (vint (zz (es.length : Int)) ++ es.flatMap lform) := by
    unfold wslice_form
    rw [number_eq (by unfold I64; omega), Option.bind_some]
    unfold wslice_form_l2
    refine run_count (fun i => (vint (zz (es.length : Int)) ++ (es.take i).flatMap lform, ((i : Nat) : Int))) es.length (fun i hi => ?_) ?_ 0 (Nat.zero_le _) |> fun hh => by simpa using hh
    · unfold wslice_form_bl2
      dsimp only
      have k1 := flatMap_len_le lform 20000000 (l := es.take i) fun x hx => lform_len (h x (List.mem_of_mem_take hx))
      rw [List.length_take] at k1
      have k2 := lform_len (h _ (getD_mem hi))
      have k3 : min i es.length * 20000000 ≤ 1000000 * 20000000 := Nat.mul_le_mul_right _ (by omega)
      rw [if_pos (by omega), chk_pos (by omega), Int.toNat_natCast]
      show (shapes_form (es.getD i default)).bind _ = _
      rw [form_eq (h _ (getD_mem hi)), Option.bind_some, chk_pos (by unfold Go.E.Cap; simp only [List.length_append]; omega), chk_pos (by unfold I64; omega), take_succ_flatMap _ hi, List.append_assoc]
      rfl
    · unfold wslice_form_bl2 wslice_form_k1
      dsimp only
      rw [if_neg (by omega), List.take_length]
  unfold shapes_Index_Bytes
  dsimp only
  have k4 : es.length * 20000000 ≤ 1000000 * 20000000 := Nat.mul_le_mul_right _ hl
  rw [number_eq hn, Option.bind_some, hw, Option.bind_some, chk_pos (by unfold Go.E.Cap; simp only [List.length_append]; omega)]
  rfl
/-! ### Valid entries -/
structure EV (n : Int) (e : En) : Prop where
  path : e.1.1.length ≤ 330 ∧ ¬ 0 ≤ wr false 0 (sl e.1.1)
  kind : 1 ≤ e.1.2.1 ∧ e.1.2.1 ≤ 4
  num : e.1.2.2.1 = 0 ∨ e.1.2.1 = 1
  text : e.1.2.2.2 = [] ∨ e.1.2.1 = 2
  ne : e.2 ≠ []
  items : ∀ z ∈ e.2, 0 ≤ z ∧ z < n
  inc : e.2.Pairwise (fun a b => a < b)
theorem inc_of {l : List Int} (h : ∀ j, 0 < j → j < l.length → l.getD (j - 1) default < l.getD j default) : l.Pairwise (fun a b => a < b) := by
  rw [List.pairwise_iff_getElem]
  intro i j hi hj hij
  have key : ∀ d, i + d + 1 < l.length → l.getD i default < l.getD (i + d + 1) default := by
    intro d
    induction d with
    | zero => intro hd; exact h (i + 1) (by omega) hd
    | succ d ih =>
      intro hd
      have h1 := ih (by omega)
      have h2 := h (i + (d + 1) + 1) (by omega) hd
      rw [show i + (d + 1) + 1 - 1 = i + d + 1 by omega] at h2
      omega
  have := key (j - i - 1) (by omega)
  rw [show i + (j - i - 1) + 1 = j by omega] at this
  simpa [List.getD_eq_getElem?_getD, List.getElem?_eq_getElem hi, List.getElem?_eq_getElem hj] using this
theorem val_run {e : En} {n : Int} (hl : e.2.length ≤ 1000000) : ∀ (k i : Nat), i + k = e.2.length → ∃ c, Go.L.run (shapes_entry_valid_bl20 e n) (i : Int) = some c ∧
    (c = true ↔ ∀ j, i ≤ j → j < e.2.length → (0 ≤ e.2.getD j default ∧ e.2.getD j default < n) ∧ (0 < j → e.2.getD (j - 1) default < e.2.getD j default))
  | 0, i, hi => by
    refine ⟨true, run_inr (m := some true) ?_, by simp; intro j h1 h2; omega⟩
    unfold shapes_entry_valid_bl20 shapes_entry_valid_k19
    rw [if_neg (by omega)]
  | k + 1, i, hi => by
    have hil : i < e.2.length := by omega
    have hb : shapes_entry_valid_bl20 e n (i : Int) = if (0 ≤ e.2.getD i default ∧ e.2.getD i default < n) ∧ (0 < i → e.2.getD (i - 1) default < e.2.getD i default) then some (.inl ((i + 1 : Nat) : Int)) else some (.inr false) := by
      unfold shapes_entry_valid_bl20
      have k1 : I64 ((i : Int) + 1) := by unfold I64; omega
      have k2 : I64 ((i : Int) - 1) := by unfold I64; omega
      simp only [chk_pos k1, chk_pos k2]
      rw [if_pos (by omega), chk_pos (by omega), Int.toNat_natCast, show ((i : Int) - 1).toNat = i - 1 by omega]
      generalize e.2.getD i default = z
      generalize e.2.getD (i - 1) default = y
      by_cases c1 : z < 0 ∨ n ≤ z
      · rw [if_pos c1, if_neg (by omega)]; rfl
      · rw [if_neg c1]
        by_cases c2 : 0 < i
        · rw [if_pos (by omega), chk_pos (by omega)]
          by_cases c3 : z ≤ y
          · rw [if_pos c3, if_neg (by omega)]; rfl
          · rw [if_neg c3, if_pos (by omega)]; rfl
        · rw [if_neg (by omega), if_pos (by omega)]; rfl
    by_cases hc : (0 ≤ e.2.getD i default ∧ e.2.getD i default < n) ∧ (0 < i → e.2.getD (i - 1) default < e.2.getD i default)
    · rw [if_pos hc] at hb
      obtain ⟨c, h1, h2⟩ := val_run hl k (i + 1) (by omega)
      refine ⟨c, by rw [run_inl hb, h1], h2.trans ⟨fun h j hj hj2 => ?_, fun h j hj hj2 => h j (by omega) hj2⟩⟩
      by_cases hji : j = i
      · subst hji; exact hc
      · exact h j (by omega) hj2
    · rw [if_neg hc] at hb
      exact ⟨false, run_inr (m := some false) hb, by simp only [Bool.false_eq_true, false_iff]; exact fun h => hc (h i (Nat.le_refl _) hil)⟩
theorem valid_ex (e : En) (n : Int) (hl : e.2.length ≤ 1000000) : ∃ c, shapes_entry_valid e n = some c ∧ (c = true ↔ EV n e) := by
  have b2 : shapes_entry_valid_bl2 = shapes_entry_valid_bl20 := rfl
  have b4 : shapes_entry_valid_bl4 = shapes_entry_valid_bl20 := rfl
  have b6 : shapes_entry_valid_bl6 = shapes_entry_valid_bl20 := rfl
  have b8 : shapes_entry_valid_bl8 = shapes_entry_valid_bl20 := rfl
  have b10 : shapes_entry_valid_bl10 = shapes_entry_valid_bl20 := rfl
  have b12 : shapes_entry_valid_bl12 = shapes_entry_valid_bl20 := rfl
  have b14 : shapes_entry_valid_bl14 = shapes_entry_valid_bl20 := rfl
  have b16 : shapes_entry_valid_bl16 = shapes_entry_valid_bl20 := rfl
  have b18 : shapes_entry_valid_bl18 = shapes_entry_valid_bl20 := rfl
  obtain ⟨c, h1, h2⟩ := val_run (e := e) (n := n) hl e.2.length 0 (by omega)
  have hrun : ((e.1.1.length ≤ 330 ∧ ¬ 0 ≤ wr false 0 (sl e.1.1)) ∧ (1 ≤ e.1.2.1 ∧ e.1.2.1 ≤ 4) ∧ (e.1.2.2.1 = 0 ∨ e.1.2.1 = 1) ∧ (e.1.2.2.2 = [] ∨ e.1.2.1 = 2) ∧ e.2 ≠ []) → ∃ c, Go.L.run (shapes_entry_valid_bl20 e n) 0 = some c ∧ (c = true ↔ EV n e) := by
    rintro ⟨g1, g2, g3, g4, g5⟩
    refine ⟨c, h1, h2.trans ⟨fun h => ⟨g1, g2, g3, g4, g5, fun z hz => ?_, inc_of fun j h0 hj => (h j (Nat.zero_le _) hj).2 h0⟩, fun h j _ hj => ⟨h.items _ (getD_mem hj), fun h0 => ?_⟩⟩⟩
    · obtain ⟨j, hj, rfl⟩ := List.getElem_of_mem hz
      have := (h j (Nat.zero_le _) hj).1
      simpa [List.getD_eq_getElem?_getD, List.getElem?_eq_getElem hj] using this
    · have := List.pairwise_iff_getElem.1 h.inc (j - 1) j (by omega) hj (by omega)
      simpa [List.getD_eq_getElem?_getD, List.getElem?_eq_getElem hj, List.getElem?_eq_getElem (show j - 1 < e.2.length by omega)] using this
  have no : ¬ ((e.1.1.length ≤ 330 ∧ ¬ 0 ≤ wr false 0 (sl e.1.1)) ∧ (1 ≤ e.1.2.1 ∧ e.1.2.1 ≤ 4) ∧ (e.1.2.2.1 = 0 ∨ e.1.2.1 = 1) ∧ (e.1.2.2.2 = [] ∨ e.1.2.1 = 2) ∧ e.2 ≠ []) → ∃ c, (some false : Option Bool) = some c ∧ (c = true ↔ EV n e) := fun h => ⟨false, rfl, by simp only [Bool.false_eq_true, false_iff]; exact fun hv => h ⟨hv.path, hv.kind, hv.num, hv.text, hv.ne⟩⟩
  have hne : (e.2.length : Int) = 0 ↔ e.2 = [] := by rw [← List.length_eq_zero_iff]; omega
  unfold shapes_entry_valid shapes_entry_valid_l2 shapes_entry_valid_l4 shapes_entry_valid_l6 shapes_entry_valid_l8 shapes_entry_valid_l10 shapes_entry_valid_l12 shapes_entry_valid_l14 shapes_entry_valid_l16 shapes_entry_valid_l18 shapes_entry_valid_l20
  rw [b2, b4, b6, b8, b10, b12, b14, b16, b18, isPath_eq, Option.bind_some]
  by_cases g1 : e.1.1.length ≤ 330 ∧ ¬ 0 ≤ wr false 0 (sl e.1.1)
  · have d1 : (!decide (e.1.1.length ≤ 330 ∧ ¬ 0 ≤ wr false 0 (sl e.1.1))) = false := by simp [g1]
    rw [d1, if_neg (by decide)]
    by_cases g2 : e.1.2.1 < 1
    · rw [if_pos g2, if_pos g2]; exact no (fun h => by omega)
    · rw [if_neg g2]
      by_cases g3 : 4 < e.1.2.1
      · rw [if_pos g3, if_pos g3]; exact no (fun h => by omega)
      · rw [if_neg g3]
        by_cases g4 : e.1.2.2.1 = 0 <;> by_cases g5 : e.1.2.2.2 = [] <;> by_cases g6 : e.1.2.1 = 2 <;> by_cases g7 : e.1.2.1 = 1 <;> by_cases g8 : e.2 = [] <;>
          first
          | (exfalso; omega)
          | (simp only [g4, g5, g6, g7, hne, g8, if_true, if_false]
             first
             | exact hrun ⟨g1, by omega, by omega, by first | exact .inl g5 | exact .inr g6, g8⟩
             | exact no fun h => by first | exact absurd h.2.2.1 (by omega) | exact h.2.2.2.1.elim g5 g6 | exact h.2.2.2.2 g8)
  · have d1 : (!decide (e.1.1.length ≤ 330 ∧ ¬ 0 ≤ wr false 0 (sl e.1.1))) = true := by simp only [decide_eq_false g1, Bool.not_false]
    rw [d1, if_pos rfl, if_pos rfl]
    exact no (fun h => g1 h.1)
end Go.Proofs.YtmfiaecglndldaaGreatDoor
end
section
namespace Go.L
/-- What m yields, m' yields. -/
def Ap {α : Type} (m m' : Option α) : Prop := ∀ r, m = some r → m' = some r
theorem apR {α : Type} (m : Option α) : Ap m m := fun _ h => h
theorem apB {α β : Type} {m m' : Option α} {f f' : α → Option β} (h : Ap m m') (k : ∀ x, Ap (f x) (f' x)) : Ap (Option.bind m f) (Option.bind m' f') := fun r e => by
  obtain ⟨x, h1, h2⟩ := bind_some e
  rw [h x h1, Option.bind_some]
  exact k x r h2
theorem apC {α : Type} {p : Prop} [Decidable p] {m m' : Option α} (h : Ap m m') : Ap (Go.L.chk p m) (Go.L.chk p m') := fun r e => by
  obtain ⟨h1, h2⟩ := chk_some e
  rw [chk_pos h1]
  exact h r h2
theorem apI {α : Type} {p : Prop} [Decidable p] {a b a' b' : Option α} (h : Ap a a') (k : Ap b b') : Ap (if p then a else b) (if p then a' else b') := fun r e => by
  by_cases hp : p
  · rw [if_pos hp] at e ⊢; exact h r e
  · rw [if_neg hp] at e ⊢; exact k r e
theorem apM {α β : Type} {f : α → β} {m m' : Option α} (h : Ap m m') : Ap (Option.map f m) (Option.map f m') := fun r e => by
  cases m with
  | none => cases e
  | some x => rw [h x rfl]; exact e
theorem apO {α β : Type} {x : Option α} {ex ex' : Option β} {k k' : α → Option β} (h : Ap ex ex') (hk : ∀ y, Ap (k y) (k' y)) : Ap (Go.L.onX x ex k) (Go.L.onX x ex' k') := by
  cases x with
  | none => exact h
  | some y => exact hk y
theorem Ap.itr {σ ρ : Type} {b b' : σ → Option (σ ⊕ ρ)} (h : ∀ s, Ap (b s) (b' s)) : ∀ (n : Nat) (s : σ), Ap (itr b n s) (itr b' n s)
  | 0, _ => fun _ e => by cases e
  | n + 1, s => fun r e => by
    obtain ⟨m, x, hm, h1, h2⟩ := itr_some e
    obtain rfl : n = m := by omega
    rw [Go.L.itr, h s x h1]
    cases x with
    | inl s' => exact Ap.itr h n s' r h2
    | inr y => exact congrArg some h2
theorem Ap.run {σ ρ : Type} {b b' : σ → Option (σ ⊕ ρ)} (h : ∀ s, Ap (b s) (b' s)) (n : Nat) (s : σ) : Ap (Go.L.itr b n s) (Go.L.run b' s) := fun r e => run_of (Ap.itr h n s r e)
/-- A computation with its loops cut off. -/
class Mi {α : Type} (m : Option α) where
  c : Option α
  h : Ap c m
noncomputable instance {α : Type} (x : α) : Mi (some x) := ⟨some x, apR _⟩
noncomputable instance {α : Type} : Mi (none : Option α) := ⟨none, apR _⟩
noncomputable instance iB {α β : Type} (m : Option α) (f : α → Option β) [i : Mi m] [j : ∀ x, Mi (f x)] : Mi (Option.bind m f) := ⟨Option.bind i.c fun x => (j x).c, apB i.h fun x => (j x).h⟩
noncomputable instance iC {α : Type} (p : Prop) [Decidable p] (m : Option α) [i : Mi m] : Mi (Go.L.chk p m) := ⟨Go.L.chk p i.c, apC i.h⟩
noncomputable instance iI {α : Type} (p : Prop) [Decidable p] (a b : Option α) [i : Mi a] [j : Mi b] : Mi (if p then a else b) := ⟨if p then i.c else j.c, apI i.h j.h⟩
noncomputable instance {α β : Type} (f : α → β) (m : Option α) [i : Mi m] : Mi (Option.map f m) := ⟨Option.map f i.c, apM i.h⟩
noncomputable instance {α β : Type} (x : Option α) (ex : Option β) (k : α → Option β) [i : Mi ex] [j : ∀ y, Mi (k y)] : Mi (Go.L.onX x ex k) := ⟨Go.L.onX x i.c fun y => (j y).c, apO i.h fun y => (j y).h⟩
noncomputable instance {σ ρ : Type} (b : σ → Option (σ ⊕ ρ)) (s : σ) [i : ∀ s, Mi (b s)] : Mi (Go.L.run b s) := ⟨Go.L.itr (fun s => (i s).c) 200 s, Ap.run (fun s => (i s).h) 200 s⟩
end Go.L
namespace Go.L
/-! ### Sorting by insertion -/
def insB {α : Type} (le : α → α → Bool) (a : α) : List α → List α
  | [] => [a]
  | b :: l => if le a b then a :: b :: l else b :: insB le a l
def isB {α : Type} (le : α → α → Bool) : List α → List α
  | [] => []
  | a :: l => insB le a (isB le l)
section
variable {α : Type} {le : α → α → Bool}
theorem insB_perm (a : α) : ∀ l : List α, (insB le a l).Perm (a :: l)
  | [] => .refl _
  | b :: l => by
    unfold insB
    split
    · exact .refl _
    · exact ((insB_perm a l).cons b).trans (.swap a b l)
theorem isB_perm : ∀ l : List α, (isB le l).Perm l
  | [] => .refl _
  | a :: l => (insB_perm a _).trans ((isB_perm l).cons a)
theorem insB_sorted (htr : ∀ a b c, le a b = true → le b c = true → le a c = true) (hto : ∀ a b, le a b = true ∨ le b a = true) (a : α) : ∀ l : List α, l.Pairwise (fun x y => le x y = true) → (insB le a l).Pairwise fun x y => le x y = true
  | [], _ => List.pairwise_singleton _ _
  | b :: l, h => by
    unfold insB
    split
    · rename_i h1
      refine .cons (fun x hx => ?_) h
      rcases List.mem_cons.1 hx with rfl | hx
      · exact h1
      · exact htr _ _ _ h1 ((List.pairwise_cons.1 h).1 x hx)
    · rename_i h1
      have h2 : le b a = true := by rcases hto a b with h | h; exact absurd h h1; exact h
      refine .cons (fun x hx => ?_) (insB_sorted htr hto a l (List.pairwise_cons.1 h).2)
      rcases List.mem_cons.1 ((insB_perm a l).mem_iff.1 hx) with rfl | hx
      · exact h2
      · exact (List.pairwise_cons.1 h).1 x hx
theorem isB_sorted (htr : ∀ a b c, le a b = true → le b c = true → le a c = true) (hto : ∀ a b, le a b = true ∨ le b a = true) : ∀ l : List α, (isB le l).Pairwise fun x y => le x y = true
  | [] => .nil
  | a :: l => insB_sorted htr hto a _ (isB_sorted htr hto l)
theorem sorted_eq (has : ∀ a b, le a b = true → le b a = true → a = b) : ∀ {l m : List α}, l.Perm m → l.Pairwise (fun x y => le x y = true) → m.Pairwise (fun x y => le x y = true) → l = m
  | [], m, hp, _, _ => hp.nil_eq
  | a :: l, m, hp, hl, hm => by
    cases m with
    | nil => exact absurd hp.symm.nil_eq (by simp)
    | cons b m =>
      obtain ⟨l1, l2⟩ := List.pairwise_cons.1 hl
      obtain ⟨m1, m2⟩ := List.pairwise_cons.1 hm
      have hab : a = b := by
        rcases List.mem_cons.1 (hp.mem_iff.1 (.head _)) with h1 | h1
        · exact h1
        · rcases List.mem_cons.1 (hp.mem_iff.2 (.head _)) with h2 | h2
          · exact h2.symm
          · exact has a b (l1 b h2) (m1 a h1)
      subst hab
      rw [sorted_eq has hp.cons_inv l2 m2]
theorem isB_eq (htr : ∀ a b c, le a b = true → le b c = true → le a c = true) (hto : ∀ a b, le a b = true ∨ le b a = true) (has : ∀ a b, le a b = true → le b a = true → a = b) (l : List α) : isB le l = l.mergeSort le :=
  sorted_eq has ((isB_perm l).trans (List.mergeSort_perm l _).symm) (isB_sorted htr hto l) (List.pairwise_mergeSort htr (fun a b => by simpa using hto a b) l)
end
def isS (l : List (List UInt8)) : List (List UInt8) := isB (fun x y => decide (x ≤ y)) l
def isI (l : List Int) : List Int := isB (fun x y => decide (x ≤ y)) l
def isL (l : List Lf) : List Lf := isB (fun x y => !(Go.Proofs.ltOf lfCmp) y x) l
theorem isI_eq (l : List Int) : isI l = Go.E.srtI l := isB_eq (fun a b c h1 h2 => by simp only [decide_eq_true_eq] at *; omega) (fun a b => by simp only [decide_eq_true_eq]; omega) (fun a b h1 h2 => by simp only [decide_eq_true_eq] at *; omega) l
theorem isS_eq (l : List (List UInt8)) : isS l = Go.E.srtS l := isB_eq (fun a b c h1 h2 => by simp only [decide_eq_true_eq] at *; exact List.le_trans h1 h2) (fun a b => by simp only [decide_eq_true_eq]; exact List.le_total a b) (fun a b h1 h2 => by simp only [decide_eq_true_eq] at *; exact List.le_antisymm h1 h2) l
theorem isL_eq (l : List Lf) : isL l = srtL l := by
  have hlt : ∀ a b, (!(Go.Proofs.ltOf lfCmp) b a) = true ↔ ¬ lfCmp b a < 0 := fun a b => by simp [Go.Proofs.ltOf]
  refine isB_eq (fun a b c h1 h2 => ?_) (fun a b => ?_) (fun a b h1 h2 => ?_) l
  · rw [hlt] at *
    intro h3
    have s1 := ordLf.swap a b
    rcases Int.lt_trichotomy (lfCmp a b) 0 with h4 | h4 | h4
    · exact h2 (ordLf.trans c a b h3 h4)
    · rw [ordLf.zero a b h4] at h3; exact h2 h3
    · omega
  · rw [hlt, hlt]
    have s1 := ordLf.swap a b
    omega
  · exact ordLf.parts a b (by simpa using h2) (by simpa using h1)
end Go.L
namespace Go.Proofs.YtmfiaecglndldaaGreatDoor
open Go Go.E Go.L
noncomputable def sortedKi (l : List (Lf × List Int)) : Option (List Lf) := Go.L.chk (Go.E.Cap 48 l.length) (some (isL (l.map Prod.fst)))
theorem sortedKi_eq (l : List (Lf × List Int)) : sortedKi l = sortedK l := by unfold sortedKi sortedK; rw [isL_eq]
noncomputable instance (l : List (Lf × List Int)) : Mi (sortedK l) := ⟨sortedKi l, by rw [sortedKi_eq]; exact apR _⟩
end Go.Proofs.YtmfiaecglndldaaGreatDoor
end
section
namespace Go.L
section
variable {α : Type} {le : α → α → Prop}
theorem compactUpTo_spec [Inhabited α] [DecidableEq α] (hre : ∀ a, le a a) (htr : ∀ a b c, le a b → le b c → le a c) (has : ∀ a b, le a b → le b a → a = b) (d : Array α) (hs : ∀ i j, i < j → j < d.size → le d[i]! d[j]!) : ∀ m, m ≤ d.size →
    (Lib.compactUpTo d m).Pairwise (fun a b => le a b ∧ a ≠ b) ∧ (∀ x, x ∈ Lib.compactUpTo d m ↔ ∃ j, j < m ∧ x = d[j]!)
  | 0, _ => ⟨by simp [Lib.compactUpTo], fun x => by simp [Lib.compactUpTo]⟩
  | m + 1, hm => by
    obtain ⟨h1, h2⟩ := compactUpTo_spec hre htr has d hs m (by omega)
    rw [Lib.compactUpTo_succ]
    by_cases hk : Lib.keeps d m = true
    · rw [if_pos hk]
      refine ⟨List.pairwise_append.2 ⟨h1, List.pairwise_singleton _ _, fun a ha b hb => ?_⟩, fun x => ?_⟩
      · rw [List.mem_singleton] at hb
        subst hb
        obtain ⟨j, hj, rfl⟩ := (h2 a).1 ha
        refine ⟨hs j m hj (by omega), fun e => ?_⟩
        unfold Lib.keeps at hk
        rw [decide_eq_true_eq] at hk
        rcases hk with hk | hk
        · omega
        · refine hk (has _ _ ?_ ?_)
          · by_cases hjm : j = m - 1
            · rw [← e, hjm]; exact hre _
            · rw [← e]; exact hs j (m - 1) (by omega) (by omega)
          · exact hs (m - 1) m (by omega) (by omega)
      · rw [List.mem_append, h2, List.mem_singleton]
        constructor
        · rintro (⟨j, hj, rfl⟩ | rfl)
          · exact ⟨j, by omega, rfl⟩
          · exact ⟨m, by omega, rfl⟩
        · rintro ⟨j, hj, rfl⟩
          by_cases hjm : j = m
          · subst hjm; exact .inr rfl
          · exact .inl ⟨j, by omega, rfl⟩
    · have hk' : ¬ (m = 0 ∨ d[m]! ≠ d[m - 1]!) := by
        unfold Lib.keeps at hk
        simpa using hk
      rw [if_neg hk, List.append_nil]
      refine ⟨h1, fun x => (h2 x).trans ?_⟩
      constructor
      · rintro ⟨j, hj, rfl⟩; exact ⟨j, by omega, rfl⟩
      · rintro ⟨j, hj, rfl⟩
        by_cases hjm : j = m
        · subst hjm
          have e : d[j]! = d[j - 1]! := Decidable.not_not.1 fun h => hk' (.inr h)
          have h0 : j ≠ 0 := fun h => hk' (.inl h)
          exact ⟨j - 1, by omega, e⟩
        · exact ⟨j, by omega, rfl⟩
theorem compact_spec [Inhabited α] [DecidableEq α] (hre : ∀ a, le a a) (htr : ∀ a b c, le a b → le b c → le a c) (has : ∀ a b, le a b → le b a → a = b) {l : List α} (hs : l.Pairwise le) : (Lib.compact l).Pairwise (fun a b => le a b ∧ a ≠ b) ∧ ∀ x, x ∈ Lib.compact l ↔ x ∈ l := by
  have hget : ∀ i, i < l.length → l.toArray[i]! = l.getD i default := fun i hi => by simp [hi]
  have := compactUpTo_spec hre htr has l.toArray (fun i j hij hj => by
    have hj' : j < l.length := by simpa using hj
    have hi' : i < l.length := by omega
    have := List.pairwise_iff_getElem.1 hs i j hi' hj' hij
    simpa [hi', hj'] using this) l.length (by simp)
  refine ⟨this.1, fun x => (this.2 x).trans ?_⟩
  constructor
  · rintro ⟨j, hj, rfl⟩
    simp [hj]
  · intro hx
    obtain ⟨j, hj, rfl⟩ := List.getElem_of_mem hx
    exact ⟨j, hj, by simp [hj]⟩
end
theorem srtI_perm (l : List Int) : (Go.E.srtI l).Perm l := List.mergeSort_perm l _
theorem srtI_sorted (l : List Int) : (Go.E.srtI l).Pairwise (fun x y => x ≤ y) := by
  have := List.pairwise_mergeSort (le := fun x y : Int => decide (x ≤ y)) (fun a b c h1 h2 => by simp only [decide_eq_true_eq] at *; omega) (fun a b => by simpa using Int.le_total a b) l
  exact this.imp fun h => by simpa using h
def setI (l : List Int) : List Int := Lib.compact (Go.E.srtI l)
theorem setI_spec (l : List Int) : (setI l).Pairwise (fun a b => a ≤ b ∧ a ≠ b) ∧ ∀ x, x ∈ setI l ↔ x ∈ l := by
  have := compact_spec (le := fun a b : Int => a ≤ b) Int.le_refl (fun _ _ _ => Int.le_trans) (fun _ _ => Int.le_antisymm) (srtI_sorted l)
  exact ⟨this.1, fun x => (this.2 x).trans (srtI_perm l).mem_iff⟩
end Go.L
end
