/- Texts of a claim, merged. -/
import Derived.Test.YtmfiaecglndldaaGreatDoorKa2
import Derived.KernelRfl
import Derived.Shelf.Strings.FuncGrows
set_option linter.unusedVariables false
set_option linter.unusedSimpArgs false
section
namespace Go.Proofs.YtmfiaecglndldaaGreatDoor
open Go Go.E Go.RowKit
set_option maxHeartbeats 1000000
set_option maxRecDepth 10000
open _root_.Go.Proofs.Tryz
noncomputable def shapes_fault (a0 : Int) (a1 : Int) : Option ((Int × Int)) :=
 some ((a0, a1))
theorem shapes_fault_ok (w : World) (H : PH) (_hH : Le H (hp w)) {a0 : Int} {a1 : Int}   {r : (Int × Int)} (h : shapes_fault a0 a1 = some r) :
  Ok Tryz.prog 42 [.int .i64 a0, .int .i64 a1] w (fun v w' => Ext w w' ∧ v = .agg #[.int .i64 r.1, .int .i64 r.2]) := by
 refine Ok_enter (n := 8) [(0, .int .i64 a0), (1, .int .i64 a1)] func42 rfl rfl rfl rfl rfl ?_
 have hL := Lcl.start w
 refine W_seqr ?_
 refine S_alloc zr23 rfl rfl hL ?_
 intro w1 b1 hL1 hle1 _
 refine S_seqnil ?_
 refine W_p 2 rfl ?_
 refine S_v (r_build rfl (fun _ => bld23_0_1 _ _ _)) rfl ?_
 refine S_storeBN 0 rfl rfl rfl zr23 hL1 rfl rfl (onc rfl (onc rfl on0)) ?_
 intro w2 hL2 hle2
 refine S_seqnil ?_
 refine W_ret ?_
 obtain rfl := Option.some.inj h
 refine At_got1 rfl (.cell rfl underlying23 rfl zr23 (box_ptr (i := 0) hL2 rfl)) ?_
 exact ⟨hL2.ext, rfl⟩
noncomputable def value_fault (a0 : Int) (a1 : Int) : Option ((Int × Int)) :=
 some ((a0, a1))
theorem value_fault_ok (w : World) (H : PH) (_hH : Le H (hp w)) {a0 : Int} {a1 : Int}   {r : (Int × Int)} (h : value_fault a0 a1 = some r) :
  Ok Tryz.prog 95 [.int .i64 a0, .int .i64 a1] w (fun v w' => Ext w w' ∧ v = .agg #[.int .i64 r.1, .int .i64 r.2]) := by
 refine Ok_enter (n := 8) [(0, .int .i64 a0), (1, .int .i64 a1)] func95 rfl rfl rfl rfl rfl ?_
 have hL := Lcl.start w
 refine W_seqr ?_
 refine S_alloc zr23 rfl rfl hL ?_
 intro w1 b1 hL1 hle1 _
 refine S_seqnil ?_
 refine W_p 2 rfl ?_
 refine S_v (r_build rfl (fun _ => bld23_0_1 _ _ _)) rfl ?_
 refine S_storeBN 0 rfl rfl rfl zr23 hL1 rfl rfl (onc rfl (onc rfl on0)) ?_
 intro w2 hL2 hle2
 refine S_seqnil ?_
 refine W_ret ?_
 obtain rfl := Option.some.inj h
 refine At_got1 rfl (.cell rfl underlying23 rfl zr23 (box_ptr (i := 0) hL2 rfl)) ?_
 exact ⟨hL2.ext, rfl⟩
noncomputable def wire_fault (a0 : Int) (a1 : Int) : Option ((Int × Int)) :=
 some ((a0, a1))
theorem wire_fault_ok (w : World) (H : PH) (_hH : Le H (hp w)) {a0 : Int} {a1 : Int}   {r : (Int × Int)} (h : wire_fault a0 a1 = some r) :
  Ok Tryz.prog 102 [.int .i64 a0, .int .i64 a1] w (fun v w' => Ext w w' ∧ v = .agg #[.int .i64 r.1, .int .i64 r.2]) := by
 refine Ok_enter (n := 8) [(0, .int .i64 a0), (1, .int .i64 a1)] func102 rfl rfl rfl rfl rfl ?_
 have hL := Lcl.start w
 refine W_seqr ?_
 refine S_alloc zr23 rfl rfl hL ?_
 intro w1 b1 hL1 hle1 _
 refine S_seqnil ?_
 refine W_p 2 rfl ?_
 refine S_v (r_build rfl (fun _ => bld23_0_1 _ _ _)) rfl ?_
 refine S_storeBN 0 rfl rfl rfl zr23 hL1 rfl rfl (onc rfl (onc rfl on0)) ?_
 intro w2 hL2 hle2
 refine S_seqnil ?_
 refine W_ret ?_
 obtain rfl := Option.some.inj h
 refine At_got1 rfl (.cell rfl underlying23 rfl zr23 (box_ptr (i := 0) hL2 rfl)) ?_
 exact ⟨hL2.ext, rfl⟩
noncomputable def strings_Split (a0 : List UInt8) (a1 : List UInt8) : Option ((List (List UInt8))) :=
 Option.bind (genSplitL a0 a1 (0 : Int) (-1 : Int)) (fun x1 => some (x1))
theorem strings_Split_ok (w : World) (H : PH) (hH : Le H (hp w)) {a0 : List UInt8} {a1 : List UInt8}   {r : (List (List UInt8))} (h : strings_Split a0 a1 = some r) :
  Ok Tryz.prog 85 [.string ⟨(a0).toArray⟩, .string ⟨(a1).toArray⟩] w (fun v w' => Ext w w' ∧ ∃ u0, v = u0 ∧ OwnH 9 .st H w w' u0 (r)) := by
 refine Ok_enter (n := 8) [(0, .string ⟨(a0).toArray⟩), (1, .string ⟨(a1).toArray⟩)] func85 rfl rfl rfl rfl rfl ?_
 have hL := Lcl.start w
 refine W_pz 1 rfl ?_
 refine W_p 2 rfl ?_
 obtain ⟨x1, hb1, h⟩ := Go.L.bind_some h
 refine S_callL rfl rfl hL (genSplit_ok _ _ (gz_le hH hL) hb1) ?_
 rintro u2_0 w2 ⟨_, rfl, hR2_0⟩ hx2 hL2 hle2
 obtain ⟨xs2, hL2, hle2, he2⟩ := hR2_0.take hH hL hx2
 refine S_pz 1 rfl ?_
 refine W_ret ?_
 obtain rfl := Option.some.inj h
 refine At_body rfl rfl ?_
 exact ⟨hL2.ext, _, rfl, (hL2.ownH hH (i := 0) rfl he2)⟩
noncomputable def shapes_steps (a0 : List UInt8) : Option ((List (List UInt8))) :=
 if a0 = ([] : List UInt8) then some ([]) else Option.bind (strings_Split a0 ([47] : List UInt8)) (fun x4 => some (x4))
theorem shapes_steps_ok (w : World) (H : PH) (hH : Le H (hp w)) {a0 : List UInt8}   {r : (List (List UInt8))} (h : shapes_steps a0 = some r) :
  Ok Tryz.prog 47 [.string ⟨(a0).toArray⟩] w (fun v w' => Ext w w' ∧ ∃ u0, v = u0 ∧ OwnH 9 .st H w w' u0 (r)) := by
 refine Ok_enter (n := 7) [(0, .string ⟨(a0).toArray⟩)] func47 rfl rfl rfl rfl rfl ?_
 have hL := Lcl.start w
 refine W_pz 1 rfl ?_
 refine W_seq ?_
 refine W_p 1 rfl ?_
 refine S_v (r_seq rfl rfl) rfl ?_
 refine S_seqnil ?_
 refine W_if rfl (fun hc1 => ?_) (fun hc1 => ?_)
 ·replace h := Go.L.ite_p hc1 h
  refine W_pz 1 rfl ?_
  refine W_ret ?_
  refine At_seq_ret ?_
  obtain rfl := Option.some.inj h
  refine At_body rfl rfl ?_
  exact ⟨hL.ext, _, rfl, OwnH.nil⟩
 ·replace h := Go.L.ite_n hc1 h
  refine W_skip ?_
  refine At_seq ?_
  refine W_p 1 rfl ?_
  obtain ⟨x4, hb4, h⟩ := Go.L.bind_some h
  refine S_callL rfl rfl hL (strings_Split_ok _ _ (gz_le hH hL) hb4) ?_
  rintro u5_0 w5 ⟨_, rfl, hR5_0⟩ hx5 hL5 hle5
  obtain ⟨xs5, hL5, hle5, he5⟩ := hR5_0.take hH hL hx5
  refine S_pz 1 rfl ?_
  refine W_ret ?_
  obtain rfl := Option.some.inj h
  refine At_body rfl rfl ?_
  exact ⟨hL5.ext, _, rfl, (hL5.ownH hH (i := 0) rfl he5)⟩
noncomputable def unicode_utf8_ValidRune (a0 : Int) : Option (Bool) :=
 if ((0 : Int) ≤ a0) ∧ (a0 < (55296 : Int)) then some (true) else (if ((57343 : Int) < a0) ∧ (a0 ≤ (1114111 : Int)) then some (true) else some (false))
theorem unicode_utf8_ValidRune_ok (w : World) (H : PH) (_hH : Le H (hp w)) {a0 : Int}   {r : Bool} (h : unicode_utf8_ValidRune a0 = some r) :
  Ok Tryz.prog 141 [.int .i32 a0] w (fun v w' => Ext w w' ∧ v = .bool r) := by
 refine Ok_enter (n := 17) [(0, .int .i32 a0)] func141 rfl rfl rfl rfl rfl ?_
 have hL := Lcl.start w
 refine W_pz 1 rfl ?_
 refine W_seq ?_
 refine W_block ?_
 refine W_p 3 rfl ?_
 refine S_and 2 2 rfl rfl rfl rfl rfl rfl ?_
 refine S_pz 1 rfl ?_
 refine W_if rfl (fun hc1 => ?_) (fun hc1 => ?_)
 ·replace h := Go.L.ite_p hc1 h
  refine W_pz 1 rfl ?_
  refine W_ret ?_
  refine At_block_ret ?_
  refine At_seq_ret ?_
  obtain rfl := Option.some.inj h
  refine At_body rfl rfl ?_
  exact ⟨hL.ext, rfl⟩
 ·replace h := Go.L.ite_n hc1 h
  refine W_p 3 rfl ?_
  refine S_and 2 2 rfl rfl rfl rfl rfl rfl ?_
  refine S_pz 1 rfl ?_
  refine W_if rfl (fun hc4 => ?_) (fun hc4 => ?_)
  ·replace h := Go.L.ite_p hc4 h
   refine W_pz 1 rfl ?_
   refine W_ret ?_
   refine At_block_ret ?_
   refine At_seq_ret ?_
   obtain rfl := Option.some.inj h
   refine At_body rfl rfl ?_
   exact ⟨hL.ext, rfl⟩
  ·replace h := Go.L.ite_n hc4 h
   refine W_skip ?_
   refine At_block ?_
   refine At_seq ?_
   refine W_pz 1 rfl ?_
   refine W_ret ?_
   obtain rfl := Option.some.inj h
   refine At_body rfl rfl ?_
   exact ⟨hL.ext, rfl⟩
noncomputable def strings_IndexRune_k1 : Option (Int) :=
 some ((-1 : Int))
noncomputable def strings_IndexRune_bl2 (a0 : List UInt8) : Nat → Option ((Nat) ⊕ (Int)) := fun l27 =>
 if l27 < a0.length then (if ((Go.L.rdec a0 l27).1 : Int) = (65533 : Int) then Option.map Sum.inr (some ((l27 : Int))) else some (Sum.inl (l27 + (Go.L.rdec a0 l27).2))) else Option.map Sum.inr (strings_IndexRune_k1)
noncomputable def strings_IndexRune_l2 (a0 : List UInt8) (s : Nat) : Option (Int) := Go.L.run (strings_IndexRune_bl2 a0) s
noncomputable def strings_IndexRune_k6 (a1 : Int) (s9_177 : Int) : Option ((Int) ⊕ (Int)) :=
 Go.L.chk (Go.L.I64 (s9_177 - (((Go.L.runeS a1).length : Int) - (1 : Int)))) (Option.map Sum.inr (some ((s9_177 - (((Go.L.runeS a1).length : Int) - (1 : Int))))))
noncomputable def strings_IndexRune_bl7 (a0 : List UInt8) (a1 : Int) (s9_177 : Int) : Int → Option ((Int) ⊕ ((Int) ⊕ (Int))) := fun s12_241 =>
 if s12_241 < ((Go.L.runeS a1).length : Int) then Go.L.chk (Go.L.I64 (s9_177 - s12_241)) (Go.L.chk (0 ≤ (s9_177 - s12_241) ∧ (s9_177 - s12_241) < (a0.length : Int)) (Go.L.chk (Go.L.I64 ((((Go.L.runeS a1).length : Int) - (1 : Int)) - s12_241)) (Go.L.chk (0 ≤ ((((Go.L.runeS a1).length : Int) - (1 : Int)) - s12_241) ∧ ((((Go.L.runeS a1).length : Int) - (1 : Int)) - s12_241) < ((Go.L.runeS a1).length : Int)) (if ((a0.getD (s9_177 - s12_241).toNat default).toNat : Int) = (((Go.L.runeS a1).getD ((((Go.L.runeS a1).length : Int) - (1 : Int)) - s12_241).toNat default).toNat : Int) then Go.L.chk (Go.L.I64 (s12_241 + (1 : Int))) (some (Sum.inl (s12_241 + (1 : Int)))) else none)))) else Option.map Sum.inr ((strings_IndexRune_k6 a1 s9_177))
noncomputable def strings_IndexRune_l7 (a0 : List UInt8) (a1 : Int) (s9_177 : Int) (s : Int) : Option ((Int) ⊕ (Int)) := Go.L.run (strings_IndexRune_bl7 a0 a1 s9_177) s
noncomputable def strings_IndexRune_k5 (a0 : List UInt8) (a1 : Int) (s9_177 : Int) : Option ((Int) ⊕ (Int)) :=
 (strings_IndexRune_l7 a0 a1 s9_177) (1 : Int)
noncomputable def strings_IndexRune_k3 : Option (Int) :=
 some ((-1 : Int))
noncomputable def strings_IndexRune_bl4 (a0 : List UInt8) (a1 : Int) : Int → Option ((Int) ⊕ (Int)) := fun s9_147 =>
 if s9_147 < (a0.length : Int) then Go.L.chk (0 ≤ s9_147 ∧ s9_147 < (a0.length : Int)) (Go.L.chk (0 ≤ (((Go.L.runeS a1).length : Int) - (1 : Int)) ∧ (((Go.L.runeS a1).length : Int) - (1 : Int)) < ((Go.L.runeS a1).length : Int)) (if ((a0.getD s9_147.toNat default).toNat : Int) = (((Go.L.runeS a1).getD (((Go.L.runeS a1).length : Int) - (1 : Int)).toNat default).toNat : Int) then (strings_IndexRune_k5 a0 a1) s9_147 else Go.L.chk (Go.L.I64 (s9_147 + (1 : Int))) (Go.L.chk (0 ≤ (s9_147 + (1 : Int)) ∧ (s9_147 + (1 : Int)) ≤ (a0.length : Int)) (Go.L.chk (0 ≤ (((Go.L.runeS a1).length : Int) - (1 : Int)) ∧ (((Go.L.runeS a1).length : Int) - (1 : Int)) < ((Go.L.runeS a1).length : Int)) (Option.bind (idxbL (a0.drop (s9_147 + (1 : Int)).toNat) ((Go.L.runeS a1).getD (((Go.L.runeS a1).length : Int) - (1 : Int)).toNat default)) (fun x194 => if x194 < (0 : Int) then Option.map Sum.inr (some ((-1 : Int))) else Go.L.chk (Go.L.I64 (x194 + (1 : Int))) (Go.L.chk (Go.L.I64 (s9_147 + (x194 + (1 : Int)))) ((strings_IndexRune_k5 a0 a1) (s9_147 + (x194 + (1 : Int))))))))))) else Option.map Sum.inr (strings_IndexRune_k3)
noncomputable def strings_IndexRune_l4 (a0 : List UInt8) (a1 : Int) (s : Int) : Option (Int) := Go.L.run (strings_IndexRune_bl4 a0 a1) s
noncomputable def strings_IndexRune (a0 : List UInt8) (a1 : Int) : Option (Int) :=
 if ((0 : Int) ≤ a1) ∧ (a1 < (128 : Int)) then Option.bind (idxbL a0 (Go.L.u8 a1)) (fun x3 => some (x3)) else (if a1 = (65533 : Int) then (strings_IndexRune_l2 a0) (0 : Nat) else Option.bind (unicode_utf8_ValidRune a1) (fun x39 => if !x39 then some ((-1 : Int)) else Go.L.chk (Go.L.I64 (((Go.L.runeS a1).length : Int) - (1 : Int))) ((strings_IndexRune_l4 a0 a1) (((Go.L.runeS a1).length : Int) - (1 : Int)))))
theorem strings_IndexRune_ok (w : World) (H : PH) (hH : Le H (hp w)) {a0 : List UInt8} {a1 : Int}   {r : Int} (h : strings_IndexRune a0 a1 = some r) :
  Ok Tryz.prog 115 [.string ⟨(a0).toArray⟩, .int .i32 a1] w (fun v w' => Ext w w' ∧ v = .int .i64 r) := by
 refine Ok_enter (n := 187) [(0, .string ⟨(a0).toArray⟩), (1, .int .i32 a1)] func115 rfl rfl rfl rfl rfl ?_
 have hL := Lcl.start w
 refine W_pz 1 rfl ?_
 refine W_block ?_
 refine W_p 3 rfl ?_
 refine S_and 2 2 rfl rfl rfl rfl rfl rfl ?_
 refine S_pz 1 rfl ?_
 refine W_if rfl (fun hc1 => ?_) (fun hc1 => ?_)
 ·replace h := Go.L.ite_p hc1 h
  refine W_p 2 rfl ?_
  refine S_v (r_conv underlying21 underlying5 rfl (conv_64_u8 _)) rfl ?_
  obtain ⟨x3, hb3, h⟩ := Go.L.bind_some h
  refine S_callL rfl rfl hL (idxb_ok _ _ (gz_le hH hL) hb3) ?_
  rintro _ w4 rfl hx4 hL4 hle4
  refine S_pz 1 rfl ?_
  refine W_ret ?_
  refine At_block_ret ?_
  obtain rfl := Option.some.inj h
  refine At_body rfl rfl ?_
  exact ⟨hL4.ext, rfl⟩
 ·replace h := Go.L.ite_n hc1 h
  refine W_pz 3 rfl ?_
  refine W_if rfl (fun hc6 => ?_) (fun hc6 => ?_)
  ·replace h := Go.L.ite_p hc6 h
   refine W_cut (σ := Unit) (fun (_ : Unit) => []) (fun (_ : Unit) wr => Lcl w [] wr ∧ strings_IndexRune_k1 = some r) ?_ ?_
   ·refine W_p 1 rfl ?_
    refine S_rangeS rfl underlying9 rfl hL ?_
    intro w19 b19 hL19 hle19
    refine S_seqnil ?_
    refine W_block ?_
    obtain ⟨n28, h⟩ := Go.L.run_some h
    refine W_loop (σ := Nat × Nat) (fun ⟨l27, n⟩ => [(175, .pointer (some ⟨b19, 0, none⟩))]) (fun ⟨l27, n⟩ wr => Lcl w [.obj b19 (.stringIter ⟨(a0).toArray⟩ l27)] wr ∧ Go.L.itr (strings_IndexRune_bl2 a0) n l27 = some r) (fun ⟨l27, n⟩ => n) ((0 : Nat), n28) (.cons rfl (Sub.nil _)) ⟨hL19, h⟩ ?_
    rintro ⟨l27, nn28⟩ wr28 ⟨hL28, h⟩
    obtain ⟨n28, e28, rfl, h, hm28⟩ := Go.L.itr_some h
    refine W_seqr ?_
    refine S_nextS (l := a0) (p := l27) 0 rfl rfl hL28 rfl (fun hc30 => ?_) (fun hc30 => ?_)
    ·replace h := Go.L.ite_p hc30 h
     intro w30 hL30 hle30
     refine S_pz 1 rfl ?_
     refine W_seq ?_
     refine W_true rfl ?_
     refine W_skip ?_
     refine At_seq ?_
     refine W_block ?_
     refine W_pz 4 rfl ?_
     refine W_pz 2 rfl ?_
     refine W_if rfl (fun hc32 => ?_) (fun hc32 => ?_)
     ·replace h := Go.L.ite_p hc32 h
      refine W_pz 2 rfl ?_
      refine W_ret ?_
      refine At_block_ret ?_
      refine At_loop_ret ?_
      replace h := Go.L.Nxt.out h hm28
      refine At_block_ret ?_
      refine At_cut_ret ?_
      refine At_block_ret ?_
      obtain rfl := Option.some.inj h
      refine At_body rfl rfl ?_
      exact ⟨hL30.ext, rfl⟩
     ·replace h := Go.L.ite_n hc32 h
      refine W_skip ?_
      refine At_block ?_
      have h := Go.L.Nxt.again h hm28
      refine At_round ((l27 + (Go.L.rdec a0 l27).2), n28) (.cons rfl (Sub.nil _)) ⟨hL30, h⟩ (Nat.lt_succ_self _)
    ·replace h := Go.L.ite_n hc30 h
     refine S_pz 1 rfl ?_
     refine W_seq ?_
     refine W_false rfl ?_
     refine W_exit ?_
     refine At_seq_exit ?_
     refine At_loop_exit ?_
     replace h := Go.L.Nxt.out h hm28
     refine At_exit ?_
     have hL36 := hL28.dropAt (i := 0) rfl
     refine At_cut () (Sub.nil _) ⟨hL36, h⟩
   ·rintro _ wr17 ⟨hL17, h⟩
    refine W_pz 1 rfl ?_
    refine W_ret ?_
    refine At_block_ret ?_
    obtain rfl := Option.some.inj h
    refine At_body rfl rfl ?_
    exact ⟨hL17.ext, rfl⟩
  ·replace h := Go.L.ite_n hc6 h
   refine W_p 1 rfl ?_
   obtain ⟨x39, hb39, h⟩ := Go.L.bind_some h
   refine S_callL rfl rfl hL (unicode_utf8_ValidRune_ok _ _ (gz_le hH hL) hb39) ?_
   rintro _ w40 rfl hx40 hL40 hle40
   refine S_pz 2 rfl ?_
   refine W_cond rfl (fun hc41 => ?_) (fun hc41 => ?_)
   ·replace h := Go.L.ite_t hc41 h
    refine W_pz 1 rfl ?_
    refine W_ret ?_
    refine At_block_ret ?_
    obtain rfl := Option.some.inj h
    refine At_body rfl rfl ?_
    exact ⟨hL40.ext, rfl⟩
   ·replace h := Go.L.ite_f hc41 h
    refine W_scope ?_
    refine W_p 1 rfl ?_
    refine S_v (r_i2s rfl underlying21 underlying9) rfl ?_
    refine S_pz 1 rfl ?_
    refine W_p 1 rfl ?_
    refine S_v (r_lenS rfl underlying9) rfl ?_
    obtain ⟨hk44, h⟩ := Go.L.chk_some h
    refine S_v (r_ar64 rfl rfl rfl hk44) rfl ?_
    refine S_pz 1 rfl ?_
    refine W_pz 2 rfl ?_
    refine W_pz 1 rfl ?_
    refine W_cut (σ := Unit) (fun (_ : Unit) => []) (fun (_ : Unit) wr => Lcl w [] wr ∧ strings_IndexRune_k3 = some r) ?_ ?_
    ·refine W_block ?_
     obtain ⟨n148, h⟩ := Go.L.run_some h
     refine W_loop (σ := Int × Nat) (fun ⟨s9_147, n⟩ => [(0, .string ⟨(a0).toArray⟩), (7, .string ⟨((Go.L.runeS a1)).toArray⟩), (8, .int .i64 (((Go.L.runeS a1).length : Int) - (1 : Int))), (9, .int .i64 s9_147)]) (fun ⟨s9_147, n⟩ wr => Lcl w [] wr ∧ Go.L.itr (strings_IndexRune_bl4 a0 a1) n s9_147 = some r) (fun ⟨s9_147, n⟩ => n) ((((Go.L.runeS a1).length : Int) - (1 : Int)), n148) (.cons rfl (.cons rfl (.cons rfl (.cons rfl (Sub.nil _))))) ⟨hL40, h⟩ ?_
     rintro ⟨s9_147, nn148⟩ wr148 ⟨hL148, h⟩
     obtain ⟨n148, e148, rfl, h, hm148⟩ := Go.L.itr_some h
     refine W_seq ?_
     refine W_p 2 rfl ?_
     refine S_v (r_lenS rfl underlying9) rfl ?_
     refine S_pz 1 rfl ?_
     refine W_if rfl (fun hc150 => ?_) (fun hc150 => ?_)
     ·replace h := Go.L.ite_p hc150 h
      refine W_skip ?_
      refine At_seq ?_
      refine W_block ?_
      refine W_scope ?_
      refine W_cut (σ := Int) (fun s9_177 => [(0, .string ⟨(a0).toArray⟩), (7, .string ⟨((Go.L.runeS a1)).toArray⟩), (8, .int .i64 (((Go.L.runeS a1).length : Int) - (1 : Int))), (9, .int .i64 s9_177)]) (fun s9_177 wr => Lcl w [] wr ∧ (strings_IndexRune_k5 a0 a1) s9_177 = some e148) ?_ ?_
      ·refine W_seqd (.q 0 (.q 1 (.q 2 (.q 3 (.q 4 (.q 5 (.q 6 (.tail 7)))))))) mixed (by kernel_rfl) (fun w180 hx180 => ?_)
       have hL181 := hL148.call hx180
       refine D_pu 2 rfl ?_
       obtain ⟨hk182, h⟩ := Go.L.chk_some h
       refine D_v (r_sidx rfl rfl underlying9 hk182) rfl rfl ?_
       refine D_pu 2 rfl ?_
       obtain ⟨hk183, h⟩ := Go.L.chk_some h
       refine D_v (r_sidx rfl rfl underlying9 hk183) rfl rfl ?_
       refine D_pu 1 rfl ?_
       refine D_tail (fun w184 hx184 => ?_)
       have hL185 := hL181.call hx184
       refine S_seqnil ?_
       refine W_ifn rfl (fun hc186 => ?_) (fun hc186 => ?_)
       ·replace h := Go.L.ite_n hc186 h
        refine W_seqd (.q 0 (.q 1 (.q 2 (.q 3 (.q 4 (.q 5 (.q 6 (.q 7 (.q 8 (.tail 9)))))))))) mixed (by kernel_rfl) (fun w188 hx188 => ?_)
        have hL189 := hL185.call hx188
        refine D_pu 2 rfl ?_
        obtain ⟨hk190, h⟩ := Go.L.chk_some h
        refine D_v (r_ar64 rfl rfl rfl hk190) rfl rfl ?_
        obtain ⟨hk192, h⟩ := Go.L.chk_some h
        refine D_v (r_sslL rfl rfl underlying9 hk192) rfl rfl ?_
        refine D_pu 2 rfl ?_
        obtain ⟨hk193, h⟩ := Go.L.chk_some h
        refine D_v (r_sidx rfl rfl underlying9 hk193) rfl rfl ?_
        obtain ⟨x194, hb194, h⟩ := Go.L.bind_some h
        refine D_call rfl rfl rfl (fun w195 hx195 => idxb_ok _ _ (Le.refl _) hb194) ?_
        refine D_pu 1 rfl ?_
        refine D_tail (fun w196 hx196 => ?_)
        have hL197 := hL189.call hx196
        refine S_seqnil ?_
        refine W_seq ?_
        refine W_pz 2 rfl ?_
        refine W_if rfl (fun hc198 => ?_) (fun hc198 => ?_)
        ·replace h := Go.L.ite_p hc198 h
         refine W_pz 1 rfl ?_
         refine W_ret ?_
         refine At_seq_ret ?_
         refine At_cut_ret ?_
         refine At_scope_ret ?_
         refine At_block_ret ?_
         refine At_loop_ret ?_
         replace h := Go.L.Nxt.out h hm148
         refine At_block_ret ?_
         refine At_cut_ret ?_
         refine At_scope_ret ?_
         refine At_block_ret ?_
         obtain rfl := Option.some.inj h
         refine At_body rfl rfl ?_
         exact ⟨hL197.ext, rfl⟩
        ·replace h := Go.L.ite_n hc198 h
         refine W_skip ?_
         refine At_seq ?_
         refine W_region ?_
         refine S_pu 2 rfl ?_
         obtain ⟨hk201, h⟩ := Go.L.chk_some h
         refine S_v (r_ar64 rfl rfl rfl hk201) rfl ?_
         obtain ⟨hk202, h⟩ := Go.L.chk_some h
         refine S_v (r_ar64 rfl rfl rfl hk202) rfl ?_
         refine S_pu 1 rfl ?_
         refine S_nil ?_
         refine At_cut (s9_147 + (x194 + (1 : Int))) (.cons rfl (.cons rfl (.cons rfl (.cons rfl (Sub.nil _))))) ⟨hL197, h⟩
       ·replace h := Go.L.ite_p hc186 h
        refine W_skip ?_
        refine At_cut s9_147 (.cons rfl (.cons rfl (.cons rfl (.cons rfl (Sub.nil _))))) ⟨hL185, h⟩
      ·rintro s9_177 wr178 ⟨hL178, h⟩
       refine W_cut (σ := Unit) (fun (_ : Unit) => [(8, .int .i64 (((Go.L.runeS a1).length : Int) - (1 : Int))), (9, .int .i64 s9_177)]) (fun (_ : Unit) wr => Lcl w [] wr ∧ (strings_IndexRune_k6 a1 s9_177) = some e148) ?_ ?_
       ·refine W_pz 1 rfl ?_
        refine W_block ?_
        obtain ⟨n242, h⟩ := Go.L.run_some h
        refine W_loop (σ := Int × Nat) (fun ⟨s12_241, n⟩ => [(0, .string ⟨(a0).toArray⟩), (7, .string ⟨((Go.L.runeS a1)).toArray⟩), (8, .int .i64 (((Go.L.runeS a1).length : Int) - (1 : Int))), (9, .int .i64 s9_177), (12, .int .i64 s12_241)]) (fun ⟨s12_241, n⟩ wr => Lcl w [] wr ∧ Go.L.itr (strings_IndexRune_bl7 a0 a1 s9_177) n s12_241 = some e148) (fun ⟨s12_241, n⟩ => n) ((1 : Int), n242) (.cons rfl (.cons rfl (.cons rfl (.cons rfl (.cons rfl (Sub.nil _)))))) ⟨hL178, h⟩ ?_
        rintro ⟨s12_241, nn242⟩ wr242 ⟨hL242, h⟩
        obtain ⟨n242, e242, rfl, h, hm242⟩ := Go.L.itr_some h
        refine W_seq ?_
        refine W_p 2 rfl ?_
        refine S_v (r_lenS rfl underlying9) rfl ?_
        refine S_pz 1 rfl ?_
        refine W_if rfl (fun hc244 => ?_) (fun hc244 => ?_)
        ·replace h := Go.L.ite_p hc244 h
         refine W_skip ?_
         refine At_seq ?_
         refine W_seq ?_
         refine W_block ?_
         refine W_seqd (.q 0 (.q 1 (.q 2 (.q 3 (.q 4 (.q 5 (.q 6 (.q 7 (.q 8 (.q 9 (.q 10 (.tail 11)))))))))))) mixed (by kernel_rfl) (fun w246 hx246 => ?_)
         have hL247 := hL242.call hx246
         refine D_pu 3 rfl ?_
         obtain ⟨hk248, h⟩ := Go.L.chk_some h
         refine D_v (r_ar64 rfl rfl rfl hk248) rfl rfl ?_
         obtain ⟨hk249, h⟩ := Go.L.chk_some h
         refine D_v (r_sidx rfl rfl underlying9 hk249) rfl rfl ?_
         refine D_pu 3 rfl ?_
         obtain ⟨hk250, h⟩ := Go.L.chk_some h
         refine D_v (r_ar64 rfl rfl rfl hk250) rfl rfl ?_
         obtain ⟨hk251, h⟩ := Go.L.chk_some h
         refine D_v (r_sidx rfl rfl underlying9 hk251) rfl rfl ?_
         refine D_pu 1 rfl ?_
         refine D_tail (fun w252 hx252 => ?_)
         have hL253 := hL247.call hx252
         refine S_seqnil ?_
         refine W_ifn rfl (fun hc254 => ?_) (fun hc254 => ?_)
         ·replace h := Go.L.ite_n hc254 h
          cases h
         ·replace h := Go.L.ite_p hc254 h
          refine W_skip ?_
          refine At_block ?_
          refine At_seq ?_
          refine W_region ?_
          refine S_pu 1 rfl ?_
          obtain ⟨hk257, h⟩ := Go.L.chk_some h
          refine S_v (r_ar64 rfl rfl rfl hk257) rfl ?_
          refine S_pu 1 rfl ?_
          refine S_nil ?_
          have h := Go.L.Nxt.again h hm242
          refine At_round ((s12_241 + (1 : Int)), n242) (.cons rfl (.cons rfl (.cons rfl (.cons rfl (.cons rfl (Sub.nil _)))))) ⟨hL253, h⟩ (Nat.lt_succ_self _)
        ·replace h := Go.L.ite_n hc244 h
         refine W_exit ?_
         refine At_seq_exit ?_
         refine At_loop_exit ?_
         replace h := Go.L.Nxt.out h hm242
         refine At_exit ?_
         refine At_cut () (.cons rfl (.cons rfl (Sub.nil _))) ⟨hL242, h⟩
       ·rintro _ wr223 ⟨hL223, h⟩
        refine W_seq ?_
        refine W_p 2 rfl ?_
        obtain ⟨hk260, h⟩ := Go.L.chk_some h
        refine S_v (r_ar64 rfl rfl rfl hk260) rfl ?_
        refine S_pz 1 rfl ?_
        refine W_ret ?_
        refine At_seq_ret ?_
        refine At_scope_ret ?_
        refine At_block_ret ?_
        refine At_loop_ret ?_
        replace h := Go.L.Nxt.out h hm148
        refine At_block_ret ?_
        refine At_cut_ret ?_
        refine At_scope_ret ?_
        refine At_block_ret ?_
        obtain rfl := Option.some.inj h
        refine At_body rfl rfl ?_
        exact ⟨hL223.ext, rfl⟩
     ·replace h := Go.L.ite_n hc150 h
      refine W_exit ?_
      refine At_seq_exit ?_
      refine At_loop_exit ?_
      replace h := Go.L.Nxt.out h hm148
      refine At_exit ?_
      refine At_cut () (Sub.nil _) ⟨hL148, h⟩
    ·rintro _ wr96 ⟨hL96, h⟩
     refine W_seq ?_
     refine W_pz 1 rfl ?_
     refine W_ret ?_
     refine At_seq_ret ?_
     refine At_scope_ret ?_
     refine At_block_ret ?_
     obtain rfl := Option.some.inj h
     refine At_body rfl rfl ?_
     exact ⟨hL96.ext, rfl⟩
noncomputable def strings_ContainsRune (a0 : List UInt8) (a1 : Int) : Option (Bool) :=
 Option.bind (strings_IndexRune a0 a1) (fun x1 => some (decide ((0 : Int) ≤ x1)))
theorem strings_ContainsRune_ok (w : World) (H : PH) (hH : Le H (hp w)) {a0 : List UInt8} {a1 : Int}   {r : Bool} (h : strings_ContainsRune a0 a1 = some r) :
  Ok Tryz.prog 88 [.string ⟨(a0).toArray⟩, .int .i32 a1] w (fun v w' => Ext w w' ∧ v = .bool r) := by
 refine Ok_enter (n := 9) [(0, .string ⟨(a0).toArray⟩), (1, .int .i32 a1)] func88 rfl rfl rfl rfl rfl ?_
 have hL := Lcl.start w
 refine W_pz 1 rfl ?_
 refine W_p 2 rfl ?_
 obtain ⟨x1, hb1, h⟩ := Go.L.bind_some h
 refine S_callL rfl rfl hL (strings_IndexRune_ok _ _ (gz_le hH hL) hb1) ?_
 rintro _ w2 rfl hx2 hL2 hle2
 refine S_pz 2 rfl ?_
 refine W_ret ?_
 obtain rfl := Option.some.inj h
 refine At_body rfl rfl ?_
 exact ⟨hL2.ext, rfl⟩
noncomputable def value_Name_1 (a0 : Int) : Option (Bool) :=
 if (a0 < (97 : Int)) ∨ ((122 : Int) < a0) then if a0 < (48 : Int) then Option.bind (strings_ContainsRune ([45, 95, 46] : List UInt8) a0) (fun x5 => some (!x5)) else if (57 : Int) < a0 then Option.bind (strings_ContainsRune ([45, 95, 46] : List UInt8) a0) (fun x10 => some (!x10)) else some (false) else some (false)
theorem value_Name_1_ok (w : World) (H : PH) (hH : Le H (hp w)) {a0 : Int}   {r : Bool} (h : value_Name_1 a0 = some r) :
  Ok Tryz.prog 87 [.int .i32 a0] w (fun v w' => Ext w w' ∧ v = .bool r) := by
 refine Ok_enter (n := 22) [(0, .int .i32 a0)] func87 rfl rfl rfl rfl rfl ?_
 have hL := Lcl.start w
 refine W_pz 1 rfl ?_
 refine W_p 3 rfl ?_
 refine S_or 2 2 rfl rfl rfl rfl rfl rfl ?_
 refine S_pu 1 rfl ?_
 refine S_split (s := 9) rfl (fun hg1 => ?_) (fun hg1 => ?_)
 ·replace h := Go.L.ite_p (of_decide_eq_true hg1) h
  refine S_guarded rfl rfl hg1 ?_
  refine S_v (RunsAt_pu rfl) rfl ?_
  refine S_guarded rfl rfl hg1 ?_
  refine S_v (RunsAt_pu rfl) rfl ?_
  refine S_guarded rfl rfl hg1 ?_
  refine S_v (RunsAt_pu rfl) rfl ?_
  refine S_split (s := 12) rfl (fun hg3 => ?_) (fun hg3 => ?_)
  ·replace h := Go.L.ite_p (of_decide_eq_true hg3) h
   iterate 2 refine S_unwanted rfl rfl hg3 rfl ?_
   refine S_guarded rfl rfl hg1 ?_
   refine S_v (r_pickT rfl hg3 rfl) rfl ?_
   refine S_v (r_pickT rfl hg1 rfl) rfl ?_
   refine S_pu 1 rfl ?_
   refine S_guarded rfl rfl rfl ?_
   refine S_v (RunsAt_pu rfl) rfl ?_
   refine S_guarded rfl rfl rfl ?_
   obtain ⟨x5, hb5, h⟩ := Go.L.bind_some h
   refine S_callL rfl rfl hL (strings_ContainsRune_ok _ _ (gz_le hH hL) hb5) ?_
   rintro _ w6 rfl hx6 hL6 hle6
   refine S_guarded rfl rfl rfl ?_
   refine S_v (RunsAt_pu rfl) rfl ?_
   refine S_v (r_pickT rfl rfl rfl) rfl ?_
   refine S_pz 1 rfl ?_
   refine W_ret ?_
   obtain rfl := Option.some.inj h
   refine At_body rfl rfl ?_
   exact ⟨hL6.ext, rfl⟩
  ·replace h := Go.L.ite_n (of_decide_eq_false hg3) h
   refine S_guarded rfl rfl hg3 ?_
   refine S_v (RunsAt_pu rfl) rfl ?_
   refine S_guarded rfl rfl hg3 ?_
   refine S_v (RunsAt_pu rfl) rfl ?_
   refine S_guarded rfl rfl hg1 ?_
   refine S_v (r_pickF rfl hg3 rfl) rfl ?_
   refine S_v (r_pickT rfl hg1 rfl) rfl ?_
   refine S_pu 1 rfl ?_
   refine S_split (s := 17) rfl (fun hg8 => ?_) (fun hg8 => ?_)
   ·replace h := Go.L.ite_p (of_decide_eq_true hg8) h
    refine S_guarded rfl rfl hg8 ?_
    refine S_v (RunsAt_pu rfl) rfl ?_
    refine S_guarded rfl rfl hg8 ?_
    obtain ⟨x10, hb10, h⟩ := Go.L.bind_some h
    refine S_callL rfl rfl hL (strings_ContainsRune_ok _ _ (gz_le hH hL) hb10) ?_
    rintro _ w11 rfl hx11 hL11 hle11
    refine S_guarded rfl rfl hg8 ?_
    refine S_v (RunsAt_pu rfl) rfl ?_
    refine S_v (r_pickT rfl hg8 rfl) rfl ?_
    refine S_pz 1 rfl ?_
    refine W_ret ?_
    obtain rfl := Option.some.inj h
    refine At_body rfl rfl ?_
    exact ⟨hL11.ext, rfl⟩
   ·replace h := Go.L.ite_n (of_decide_eq_false hg8) h
    iterate 3 refine S_unwanted rfl rfl hg8 rfl ?_
    refine S_v (r_pickF rfl hg8 rfl) rfl ?_
    refine S_pz 1 rfl ?_
    refine W_ret ?_
    obtain rfl := Option.some.inj h
    refine At_body rfl rfl ?_
    exact ⟨hL.ext, rfl⟩
 ·replace h := Go.L.ite_n (of_decide_eq_false hg1) h
  iterate 3 refine S_unwanted rfl rfl hg1 rfl ?_
  iterate 2 refine S_unwanted2 rfl rfl rfl ?_
  refine S_unwanted rfl rfl hg1 rfl ?_
  refine S_v (r_pickF rfl hg1 rfl) rfl ?_
  refine S_pu 1 rfl ?_
  iterate 3 refine S_unwanted rfl rfl rfl rfl ?_
  refine S_v (r_pickF rfl rfl rfl) rfl ?_
  refine S_pz 1 rfl ?_
  refine W_ret ?_
  obtain rfl := Option.some.inj h
  refine At_body rfl rfl ?_
  exact ⟨hL.ext, rfl⟩
end Go.Proofs.YtmfiaecglndldaaGreatDoor
end
section
namespace Go.L
set_option maxRecDepth 20000 in
theorem runeS_end {x : Int} (h : 128 ≤ x) (hx : x ≤ 1114111) (hv : Go.Utf8.valid x = true) : ∃ k : Nat, (runeS x).length = k ∧ 2 ≤ k ∧ k ≤ 4 ∧ 128 ≤ ((runeS x).getD (k - 1) default).toNat := by
  obtain ⟨c, rfl⟩ := Int.eq_ofNat_of_zero_le (show 0 ≤ x by omega)
  have hm : ∀ j : Nat, (128 + j % 64) % 256 = 128 + j % 64 := fun j => Nat.mod_eq_of_lt (by omega)
  unfold runeS Go.Utf8.encode
  simp only [hv, if_true, Int.toNat_natCast]
  rw [if_neg (by omega)]
  have h8 : ∀ j : Nat, 128 ≤ (UInt8.ofNat (128 + j % 64)).toNat := fun j => by rw [UInt8.toNat_ofNat', hm]; omega
  have g2 : ∀ a b : UInt8, ((ByteArray.mk #[a, b]).data.toList.length = 2) ∧ (ByteArray.mk #[a, b]).data.toList.getD (2 - 1) default = b := fun _ _ => ⟨rfl, rfl⟩
  have g3 : ∀ a b c : UInt8, ((ByteArray.mk #[a, b, c]).data.toList.length = 3) ∧ (ByteArray.mk #[a, b, c]).data.toList.getD (3 - 1) default = c := fun _ _ _ => ⟨rfl, rfl⟩
  have g4 : ∀ a b c d : UInt8, ((ByteArray.mk #[a, b, c, d]).data.toList.length = 4) ∧ (ByteArray.mk #[a, b, c, d]).data.toList.getD (4 - 1) default = d := fun _ _ _ _ => ⟨rfl, rfl⟩
  by_cases h1 : c < 2048
  · rw [if_pos h1]
    refine ⟨2, (g2 _ _).1, by omega, by omega, ?_⟩
    rw [(g2 _ _).2]
    exact h8 _
  · rw [if_neg h1]
    by_cases h2 : c < 65536
    · rw [if_pos h2]
      refine ⟨3, (g3 _ _ _).1, by omega, by omega, ?_⟩
      rw [(g3 _ _ _).2]
      exact h8 _
    · rw [if_neg h2]
      refine ⟨4, (g4 _ _ _ _).1, by omega, by omega, ?_⟩
      rw [(g4 _ _ _ _).2]
      exact h8 _
end Go.L
namespace Go.Proofs.YtmfiaecglndldaaGreatDoor
open Go Go.L
theorem ascii_dash : ∀ n : Fin 128, (0 ≤ Lib.indexByte [45, 95, 46] (u8 (n.val : Int)) ↔ (n.val = 45 ∨ n.val = 95 ∨ n.val = 46)) := by decide
theorem err_dash : strings_IndexRune_l2 [45, 95, 46] 0 = some (-1) := by
  unfold strings_IndexRune_l2
  have r0 : strings_IndexRune_bl2 [45, 95, 46] 0 = some (.inl 1) := by rfl
  have r1 : strings_IndexRune_bl2 [45, 95, 46] 1 = some (.inl 2) := by rfl
  have r2 : strings_IndexRune_bl2 [45, 95, 46] 2 = some (.inl 3) := by rfl
  have r3 : strings_IndexRune_bl2 [45, 95, 46] 3 = some (.inr (-1)) := by rfl
  rw [run_inl r0, run_inl r1, run_inl r2]
  exact run_inr (m := some (-1)) r3
theorem rune_dash {x : Int} (h0 : 0 ≤ x) (hx : x ≤ 1114111) : ∃ i, strings_IndexRune [45, 95, 46] x = some i ∧ (0 ≤ i ↔ (x = 45 ∨ x = 95 ∨ x = 46)) := by
  unfold strings_IndexRune
  by_cases h1 : x < 128
  · rw [if_pos ⟨h0, h1⟩]
    have := ascii_dash ⟨x.toNat, by omega⟩
    simp only [Int.toNat_of_nonneg h0] at this
    exact ⟨_, rfl, by rw [this]; omega⟩
  · rw [if_neg (by omega)]
    have hn : ¬ (x = 45 ∨ x = 95 ∨ x = 46) := by omega
    by_cases h2 : x = 65533
    · rw [if_pos h2, err_dash]
      exact ⟨_, rfl, by omega⟩
    · rw [if_neg h2]
      by_cases hv : Go.Utf8.valid x = true
      · have e : unicode_utf8_ValidRune x = some true := by
          unfold unicode_utf8_ValidRune
          simp only [Go.Utf8.valid, Bool.or_eq_true, Bool.and_eq_true, decide_eq_true_eq] at hv
          by_cases h3 : 0 ≤ x ∧ x < 55296
          · rw [if_pos h3]
          · rw [if_neg h3, if_pos (by omega)]
        rw [e]
        obtain ⟨k, hk, k1, k2, hl⟩ := runeS_end (by omega) hx hv
        simp only [Option.bind_some, Bool.not_true, Bool.false_eq_true, if_false, hk]
        rw [chk_pos (by unfold I64; omega)]
        refine ⟨-1, run_inr ?_, by omega⟩
        unfold strings_IndexRune_bl4
        have e1 : ((k : Int) - 1).toNat = k - 1 := by omega
        have key : ∀ (l : List UInt8) (c : UInt8), (∀ b ∈ l, b.toNat < 128) → 128 ≤ c.toNat → Lib.indexByte l c = -1 := by
          intro l c hl hc
          induction l with
          | nil => rfl
          | cons b l ih =>
            have hb := hl b (.head _)
            have hne : (b == c) = false := by
              cases hh : b == c with
              | false => rfl
              | true => have := beq_iff_eq.1 hh; subst this; omega
            unfold Lib.indexByte
            rw [ih (fun b hb => hl b (.tail _ hb)), hne]
            rfl
        have hk3 : k = 2 ∨ k = 3 ∨ k = 4 := by omega
        simp only [hk, e1]
        rcases hk3 with rfl | rfl | rfl
        · rw [if_pos (by decide), chk_pos (by decide), chk_pos (by decide), if_neg (by intro hh; have : (([45, 95, 46] : List UInt8).getD 1 default).toNat = 95 := rfl; simp only [Nat.reduceSub] at hl hh; omega), chk_pos (by unfold I64; decide), chk_pos (by decide), chk_pos (by decide)]
          unfold idxbL
          rw [Option.bind_some, key _ _ (by decide) hl, if_pos (by decide)]
        · rw [if_pos (by decide), chk_pos (by decide), chk_pos (by decide), if_neg (by intro hh; have : (([45, 95, 46] : List UInt8).getD 2 default).toNat = 46 := rfl; simp only [Nat.reduceSub] at hl hh; omega), chk_pos (by unfold I64; decide), chk_pos (by decide), chk_pos (by decide)]
          unfold idxbL
          rw [Option.bind_some, key _ _ (by decide) hl, if_pos (by decide)]
        · rw [if_neg (by decide)]
          rfl
      · have e : unicode_utf8_ValidRune x = some false := by
          unfold unicode_utf8_ValidRune
          simp only [Go.Utf8.valid, Bool.or_eq_true, Bool.and_eq_true, decide_eq_true_eq] at hv
          rw [if_neg (by omega), if_neg (by omega)]
        rw [e]
        exact ⟨-1, rfl, by omega⟩
/-- A rune that no name has. -/
def badR (n : Nat) : Bool := !((decide (97 ≤ n ∧ n ≤ 122)) || (decide (48 ≤ n ∧ n ≤ 57)) || (decide (n = 45 ∨ n = 95 ∨ n = 46)))
theorem name1_eq {n : Nat} (hx : n ≤ 1114111) : value_Name_1 (n : Int) = some (badR n) := by
  obtain ⟨i, hi, hd⟩ := rune_dash (x := (n : Int)) (by omega) (by omega)
  have hc : strings_ContainsRune [45, 95, 46] (n : Int) = some (decide (0 ≤ i)) := by unfold strings_ContainsRune; rw [hi]; rfl
  have hd' : decide (0 ≤ i) = decide (n = 45 ∨ n = 95 ∨ n = 46) := by
    rw [Bool.eq_iff_iff, decide_eq_true_eq, decide_eq_true_eq, hd]
    omega
  unfold value_Name_1 badR
  rw [hc, hd']
  simp only [Option.bind_some]
  by_cases h1 : (n : Int) < 97 ∨ (122 : Int) < n
  · rw [if_pos h1]
    have e1 : decide (97 ≤ n ∧ n ≤ 122) = false := decide_eq_false (by omega)
    by_cases h2 : (n : Int) < 48
    · rw [if_pos h2]
      have e2 : decide (48 ≤ n ∧ n ≤ 57) = false := decide_eq_false (by omega)
      rw [e1, e2]; rfl
    · rw [if_neg h2]
      by_cases h3 : (57 : Int) < n
      · rw [if_pos h3]
        have e2 : decide (48 ≤ n ∧ n ≤ 57) = false := decide_eq_false (by omega)
        rw [e1, e2]; rfl
      · rw [if_neg h3]
        have e2 : decide (48 ≤ n ∧ n ≤ 57) = true := decide_eq_true (by omega)
        rw [e1, e2]; rfl
  · rw [if_neg h1]
    have e1 : decide (97 ≤ n ∧ n ≤ 122) = true := decide_eq_true (by omega)
    rw [e1]; rfl
end Go.Proofs.YtmfiaecglndldaaGreatDoor
end
section
namespace Go.Proofs.YtmfiaecglndldaaGreatDoor
open Go Go.E Go.RowKit Go.Shelf
noncomputable def nameCF (a : List UInt8) : Option Bool := some (decide (0 ≤ Lib.idxFunc badR true ⟨a.toArray⟩))
theorem nameCF_ok (w : World) (H : PH) (_hH : Le H (hp w)) {a0 : List UInt8} {r : Bool} (h : nameCF a0 = some r) :
    Ok Tryz.prog 86 [.string ⟨a0.toArray⟩, .func (.func 87) #[] #[]] w (fun v w' => Ext w w' ∧ v = .bool r) := by
  obtain rfl := Option.some.inj h
  refine ⟨⟨Tryz.f86, _, Tryz.func86, rfl, rfl⟩, (Any.strings_ContainsFunc_grows Tryz.layCF 87 #[] (enters_of Tryz.func87 (by kernel_rfl) rfl) badR ⟨a0.toArray⟩ w ?_).mono fun e w' he => ?_⟩
  · intro W x hx _
    refine (value_Name_1_ok W (hp W) (Le.refl _) (name1_eq hx)).2.mono fun e w' he => ?_
    obtain ⟨v, rfl, hx, rfl⟩ := he
    exact ⟨rfl, hx.toBelow⟩
  · obtain ⟨rfl, hb⟩ := he
    exact ⟨_, rfl, Ext.off hb, rfl⟩
end Go.Proofs.YtmfiaecglndldaaGreatDoor
end
section
namespace Go.Proofs.YtmfiaecglndldaaGreatDoor
open Go Go.E Go.RowKit
set_option maxHeartbeats 1000000
set_option maxRecDepth 10000
open _root_.Go.Proofs.Tryz
noncomputable def value_Name (a0 : List UInt8) : Option (Bool) :=
 if a0 = ([] : List UInt8) then some (false) else if (32 : Int) < (a0.length : Int) then some (false) else Go.L.chk (0 ≤ (0 : Int) ∧ (0 : Int) < (a0.length : Int)) (if ((a0.getD (0 : Int).toNat default).toNat : Int) < 97 then some (false) else Go.L.chk (0 ≤ (0 : Int) ∧ (0 : Int) < (a0.length : Int)) (if 122 < ((a0.getD (0 : Int).toNat default).toNat : Int) then some (false) else Option.bind (nameCF a0) (fun x15 => some (!x15))))
theorem value_Name_ok (w : World) (H : PH) (hH : Le H (hp w)) {a0 : List UInt8}   {r : Bool} (h : value_Name a0 = some r) :
  Ok Tryz.prog 48 [.string ⟨(a0).toArray⟩] w (fun v w' => Ext w w' ∧ v = .bool r) := by
 refine Ok_enter (n := 23) [(0, .string ⟨(a0).toArray⟩)] func48 rfl rfl rfl rfl rfl ?_
 have hL := Lcl.start w
 refine W_pz 1 rfl ?_
 refine W_seq ?_
 refine W_p 1 rfl ?_
 refine S_v (r_seq rfl rfl) rfl ?_
 refine S_pu 1 rfl ?_
 refine S_split (s := 5) rfl (fun hg1 => ?_) (fun hg1 => ?_)
 ·replace h := Go.L.ite_p (of_decide_eq_true hg1) h
  iterate 3 refine S_unwanted rfl rfl hg1 rfl ?_
  refine S_v (r_pickT rfl hg1 rfl) rfl ?_
  refine S_pu 1 rfl ?_
  iterate 3 refine S_unwanted rfl rfl rfl rfl ?_
  refine S_v (r_pickT rfl rfl rfl) rfl ?_
  refine S_pu 1 rfl ?_
  iterate 3 refine S_unwanted rfl rfl rfl rfl ?_
  refine S_v (r_pickT rfl rfl rfl) rfl ?_
  refine S_seqnil ?_
  refine W_true rfl ?_
  refine W_pz 1 rfl ?_
  refine W_ret ?_
  refine At_seq_ret ?_
  obtain rfl := Option.some.inj h
  refine At_body rfl rfl ?_
  exact ⟨hL.ext, rfl⟩
 ·replace h := Go.L.ite_n (of_decide_eq_false hg1) h
  refine S_guarded rfl rfl hg1 ?_
  refine S_v (RunsAt_pu rfl) rfl ?_
  refine S_guarded rfl rfl hg1 ?_
  refine S_v (r_lenS rfl underlying9) rfl ?_
  refine S_guarded rfl rfl hg1 ?_
  refine S_v (RunsAt_pu rfl) rfl ?_
  refine S_v (r_pickF rfl hg1 rfl) rfl ?_
  refine S_pu 1 rfl ?_
  refine S_split (s := 10) rfl (fun hg4 => ?_) (fun hg4 => ?_)
  ·replace h := Go.L.ite_p (of_decide_eq_true hg4) h
   iterate 3 refine S_unwanted rfl rfl hg4 rfl ?_
   refine S_v (r_pickT rfl hg4 rfl) rfl ?_
   refine S_pu 1 rfl ?_
   iterate 3 refine S_unwanted rfl rfl rfl rfl ?_
   refine S_v (r_pickT rfl rfl rfl) rfl ?_
   refine S_seqnil ?_
   refine W_true rfl ?_
   refine W_pz 1 rfl ?_
   refine W_ret ?_
   refine At_seq_ret ?_
   obtain rfl := Option.some.inj h
   refine At_body rfl rfl ?_
   exact ⟨hL.ext, rfl⟩
  ·replace h := Go.L.ite_n (of_decide_eq_false hg4) h
   refine S_guarded rfl rfl hg4 ?_
   refine S_v (RunsAt_pu rfl) rfl ?_
   refine S_guarded rfl rfl hg4 ?_
   obtain ⟨hk7, h⟩ := Go.L.chk_some h
   refine S_v (r_sidx rfl rfl underlying9 hk7) rfl ?_
   refine S_guarded rfl rfl hg4 ?_
   refine S_v (RunsAt_pu rfl) rfl ?_
   refine S_v (r_pickF rfl hg4 rfl) rfl ?_
   refine S_pu 1 rfl ?_
   refine S_split (s := 15) rfl (fun hg8 => ?_) (fun hg8 => ?_)
   ·replace h := Go.L.ite_p (of_decide_eq_true hg8) h
    iterate 3 refine S_unwanted rfl rfl hg8 rfl ?_
    refine S_v (r_pickT rfl hg8 rfl) rfl ?_
    refine S_seqnil ?_
    refine W_true rfl ?_
    refine W_pz 1 rfl ?_
    refine W_ret ?_
    refine At_seq_ret ?_
    obtain rfl := Option.some.inj h
    refine At_body rfl rfl ?_
    exact ⟨hL.ext, rfl⟩
   ·replace h := Go.L.ite_n (of_decide_eq_false hg8) h
    refine S_guarded rfl rfl hg8 ?_
    refine S_v (RunsAt_pu rfl) rfl ?_
    refine S_guarded rfl rfl hg8 ?_
    obtain ⟨hk11, h⟩ := Go.L.chk_some h
    refine S_v (r_sidx rfl rfl underlying9 hk11) rfl ?_
    refine S_guarded rfl rfl hg8 ?_
    refine S_v (RunsAt_pu rfl) rfl ?_
    refine S_v (r_pickF rfl hg8 rfl) rfl ?_
    refine S_seqnil ?_
    refine W_if rfl (fun hc12 => ?_) (fun hc12 => ?_)
    ·replace h := Go.L.ite_p hc12 h
     refine W_pz 1 rfl ?_
     refine W_ret ?_
     refine At_seq_ret ?_
     obtain rfl := Option.some.inj h
     refine At_body rfl rfl ?_
     exact ⟨hL.ext, rfl⟩
    ·replace h := Go.L.ite_n hc12 h
     refine W_skip ?_
     refine At_seq ?_
     refine W_p 1 rfl ?_
     obtain ⟨x15, hb15, h⟩ := Go.L.bind_some h
     refine S_callL rfl rfl hL (nameCF_ok _ _ (gz_le hH hL) hb15) ?_
     rintro _ w16 rfl hx16 hL16 hle16
     refine S_pz 2 rfl ?_
     refine W_ret ?_
     obtain rfl := Option.some.inj h
     refine At_body rfl rfl ?_
     exact ⟨hL16.ext, rfl⟩
noncomputable def shapes_Check_k1 : Option ((Int × Int)) :=
 some (((0 : Int), (0 : Int)))
noncomputable def shapes_Check_bl2 (x85 : (List (List UInt8))) : Int × Int → Option ((Int × Int) ⊕ ((Int × Int))) := fun ⟨s3_122, s13_123⟩ =>
 if s13_123 < (x85.length : Int) then Go.L.chk (0 ≤ s13_123 ∧ s13_123 < (x85.length : Int)) (if x85.getD s13_123.toNat default = ([35] : List UInt8) then Go.L.chk (Go.L.I64 (((x85.getD s13_123.toNat default).length : Int) + (1 : Int))) (Go.L.chk (Go.L.I64 (s3_122 + (((x85.getD s13_123.toNat default).length : Int) + (1 : Int)))) (Go.L.chk (Go.L.I64 (s13_123 + (1 : Int))) (some (Sum.inl ((s3_122 + (((x85.getD s13_123.toNat default).length : Int) + (1 : Int))), (s13_123 + (1 : Int))))))) else if x85.getD s13_123.toNat default = ([42] : List UInt8) then Go.L.chk (Go.L.I64 (((x85.getD s13_123.toNat default).length : Int) + (1 : Int))) (Go.L.chk (Go.L.I64 (s3_122 + (((x85.getD s13_123.toNat default).length : Int) + (1 : Int)))) (Go.L.chk (Go.L.I64 (s13_123 + (1 : Int))) (some (Sum.inl ((s3_122 + (((x85.getD s13_123.toNat default).length : Int) + (1 : Int))), (s13_123 + (1 : Int))))))) else if x85.getD s13_123.toNat default = ([42, 42] : List UInt8) then Go.L.chk (Go.L.I64 (((x85.getD s13_123.toNat default).length : Int) + (1 : Int))) (Go.L.chk (Go.L.I64 (s3_122 + (((x85.getD s13_123.toNat default).length : Int) + (1 : Int)))) (Go.L.chk (Go.L.I64 (s13_123 + (1 : Int))) (some (Sum.inl ((s3_122 + (((x85.getD s13_123.toNat default).length : Int) + (1 : Int))), (s13_123 + (1 : Int))))))) else Option.bind (value_Name (x85.getD s13_123.toNat default)) (fun x136 => if !x136 then Option.bind (shapes_fault (1 : Int) s3_122) (fun x140 => Option.map Sum.inr (some ((x140.1, x140.2)))) else Go.L.chk (Go.L.I64 (((x85.getD s13_123.toNat default).length : Int) + (1 : Int))) (Go.L.chk (Go.L.I64 (s3_122 + (((x85.getD s13_123.toNat default).length : Int) + (1 : Int)))) (Go.L.chk (Go.L.I64 (s13_123 + (1 : Int))) (some (Sum.inl ((s3_122 + (((x85.getD s13_123.toNat default).length : Int) + (1 : Int))), (s13_123 + (1 : Int))))))))) else Option.map Sum.inr (shapes_Check_k1)
noncomputable def shapes_Check_l2 (x85 : (List (List UInt8))) (s : Int × Int) : Option ((Int × Int)) := Go.L.run (shapes_Check_bl2 x85) s
noncomputable def shapes_Check (a0 : List UInt8) : Option ((Int × Int)) :=
 if (64 : Int) < (a0.length : Int) then Option.bind (shapes_fault (3 : Int) (-1 : Int)) (fun x4 => some ((x4.1, x4.2))) else Option.bind (shapes_steps a0) (fun x85 => (shapes_Check_l2 x85) ((0 : Int), (0 : Int)))
theorem shapes_Check_ok (w : World) (H : PH) (hH : Le H (hp w)) {a0 : List UInt8}   {r : (Int × Int)} (h : shapes_Check a0 = some r) :
  Ok Tryz.prog 15 [.string ⟨(a0).toArray⟩] w (fun v w' => Ext w w' ∧ v = .agg #[.int .i64 r.1, .int .i64 r.2]) := by
 refine Ok_enter (n := 41) [(0, .string ⟨(a0).toArray⟩)] func15 rfl rfl rfl rfl rfl ?_
 have hL := Lcl.start w
 refine W_seqr ?_
 refine S_alloc zr23 rfl rfl hL ?_
 intro w1 b1 hL1 hle1 _
 refine S_seqnil ?_
 refine W_seq ?_
 refine W_p 1 rfl ?_
 refine S_v (r_lenS rfl underlying9) rfl ?_
 refine S_pz 1 rfl ?_
 refine W_if rfl (fun hc2 => ?_) (fun hc2 => ?_)
 ·replace h := Go.L.ite_p hc2 h
  refine W_seqr ?_
  obtain ⟨x4, hb4, h⟩ := Go.L.bind_some h
  refine S_callL rfl rfl hL1 (shapes_fault_ok _ _ (gz_le hH hL1) hb4) ?_
  rintro _ w5 rfl hx5 hL5 hle5
  refine S_storeBN 0 rfl rfl rfl zr23 hL5 rfl rfl (onc rfl (onc rfl on0)) ?_
  intro w6 hL6 hle6
  refine S_seqnil ?_
  refine W_ret ?_
  refine At_seq_ret ?_
  obtain rfl := Option.some.inj h
  refine At_got1 rfl (.cell rfl underlying23 rfl zr23 (box_ptr (i := 0) hL6 rfl)) ?_
  exact ⟨hL6.ext, rfl⟩
 ·replace h := Go.L.ite_n hc2 h
  refine W_skip ?_
  refine At_seq ?_
  refine W_pz 1 rfl ?_
  refine W_cut (σ := Unit) (fun (_ : Unit) => [(2, .pointer (some ⟨b1, 0, none⟩))]) (fun (_ : Unit) wr => Lcl w [.box b1 [.int .i64 (0 : Int), .int .i64 (0 : Int)] 23] wr ∧ shapes_Check_k1 = some r) ?_ ?_
  ·refine W_p 1 rfl ?_
   obtain ⟨x85, hb85, h⟩ := Go.L.bind_some h
   refine S_callL rfl rfl hL1 (shapes_steps_ok _ _ (gz_le hH hL1) hb85) ?_
   rintro u86_0 w86 ⟨_, rfl, hR86_0⟩ hx86 hL86 hle86
   have hv86_0 := hR86_0.vecG hH hL1 hx86
   refine S_v (r_len rfl underlying30 hv86_0) rfl ?_
   refine S_pz 1 rfl ?_
   refine W_block ?_
   obtain ⟨n124, h⟩ := Go.L.run_some h
   refine W_loop (σ := Int × Int × Nat) (fun ⟨s3_122, s13_123, n⟩ => [(2, .pointer (some ⟨b1, 0, none⟩)), (3, .int .i64 s3_122), (11, u86_0), (12, .int .i64 (x85.length : Int)), (13, .int .i64 s13_123)]) (fun ⟨s3_122, s13_123, n⟩ wr => InO w [.box b1 [.int .i64 (0 : Int), .int .i64 (0 : Int)] 23] wr fun Oz => Vec .st (gz H w wr Oz) (u86_0) (x85) ∧ Go.L.itr (shapes_Check_bl2 x85) n (s3_122, s13_123) = some r) (fun ⟨s3_122, s13_123, n⟩ => n) ((0 : Int), (0 : Int), n124) (.cons rfl (.cons rfl (.cons rfl (.cons rfl (.cons rfl (Sub.nil _)))))) ⟨hL86, hv86_0, h⟩ ?_
   rintro ⟨s3_122, s13_123, nn124⟩ wr124 ⟨hL124, hf124_0, h⟩
   obtain ⟨n124, e124, rfl, h, hm124⟩ := Go.L.itr_some h
   refine W_pz 1 rfl ?_
   refine W_seq ?_
   refine W_if rfl (fun hc126 => ?_) (fun hc126 => ?_)
   ·replace h := Go.L.ite_p hc126 h
    refine W_skip ?_
    refine At_seq ?_
    refine W_seq ?_
    refine W_block ?_
    refine W_seqr ?_
    obtain ⟨hk129, h⟩ := Go.L.chk_some h
    refine S_index rfl rfl underlying30 zr9 hf124_0 s13_123.toNat (Int.toNat_of_nonneg hk129.1).symm (idx_lt hk129) rfl ?_
    rintro p128 _ rfl hp128
    refine S_v (r_load1 rfl underlying9 rfl hp128 (gz_le hH hL124)) rfl ?_
    refine S_pz 1 rfl ?_
    refine W_seq ?_
    refine W_p 1 rfl ?_
    refine S_v (r_sne rfl rfl) rfl ?_
    refine S_pu 1 rfl ?_
    refine S_split (s := 19) rfl (fun hg130 => ?_) (fun hg130 => ?_)
    ·replace h := Go.L.ite_n (not_dec_t hg130) h
     refine S_guarded rfl rfl hg130 ?_
     refine S_v (RunsAt_pu rfl) rfl ?_
     refine S_guarded rfl rfl hg130 ?_
     refine S_v (r_sne rfl rfl) rfl ?_
     refine S_v (r_pickT rfl hg130 rfl) rfl ?_
     refine S_pu 1 rfl ?_
     refine S_split (s := 23) rfl (fun hg132 => ?_) (fun hg132 => ?_)
     ·replace h := Go.L.ite_n (not_dec_t hg132) h
      refine S_guarded rfl rfl hg132 ?_
      refine S_v (RunsAt_pu rfl) rfl ?_
      refine S_guarded rfl rfl hg132 ?_
      refine S_v (r_sne rfl rfl) rfl ?_
      refine S_v (r_pickT rfl hg132 rfl) rfl ?_
      refine S_pu 1 rfl ?_
      refine S_split (s := 27) rfl (fun hg134 => ?_) (fun hg134 => ?_)
      ·replace h := Go.L.ite_n (not_dec_t hg134) h
       refine S_guarded rfl rfl hg134 ?_
       refine S_v (RunsAt_pu rfl) rfl ?_
       refine S_guarded rfl rfl hg134 ?_
       obtain ⟨x136, hb136, h⟩ := Go.L.bind_some h
       refine S_callL rfl rfl hL124 (value_Name_ok _ _ (gz_le hH hL124) hb136) ?_
       rintro _ w137 rfl hx137 hL137 hle137
       replace hf124_0 := hf124_0.mono (gz_mono hH hle137)
       refine S_guarded rfl rfl hg134 ?_
       refine S_v (RunsAt_pu rfl) rfl ?_
       refine S_v (r_pickT rfl hg134 rfl) rfl ?_
       refine S_seqnil ?_
       refine W_cond rfl (fun hc138 => ?_) (fun hc138 => ?_)
       ·replace h := Go.L.ite_t hc138 h
        refine W_p 1 rfl ?_
        obtain ⟨x140, hb140, h⟩ := Go.L.bind_some h
        refine S_callL rfl rfl hL137 (shapes_fault_ok _ _ (gz_le hH hL137) hb140) ?_
        rintro _ w141 rfl hx141 hL141 hle141
        refine S_storeBN 0 rfl rfl rfl zr23 hL141 rfl rfl (onc rfl (onc rfl on0)) ?_
        intro w142 hL142 hle142
        refine S_seqnil ?_
        refine W_ret ?_
        refine At_seq_ret ?_
        refine At_block_ret ?_
        refine At_seq_ret ?_
        refine At_loop_ret ?_
        replace h := Go.L.Nxt.out h hm124
        refine At_block_ret ?_
        refine At_cut_ret ?_
        obtain rfl := Option.some.inj h
        refine At_got1 rfl (.cell rfl underlying23 rfl zr23 (box_ptr (i := 0) hL142 rfl)) ?_
        exact ⟨hL142.ext, rfl⟩
       ·replace h := Go.L.ite_f hc138 h
        refine W_skip ?_
        refine At_seq ?_
        refine W_region ?_
        refine S_pu 2 rfl ?_
        refine S_v (r_lenS rfl underlying9) rfl ?_
        obtain ⟨hk144, h⟩ := Go.L.chk_some h
        refine S_v (r_ar64 rfl rfl rfl hk144) rfl ?_
        obtain ⟨hk145, h⟩ := Go.L.chk_some h
        refine S_v (r_ar64 rfl rfl rfl hk145) rfl ?_
        refine S_pu 1 rfl ?_
        refine S_nil ?_
        refine At_block ?_
        refine At_seq ?_
        refine W_region ?_
        obtain ⟨hk146, h⟩ := Go.L.chk_some h
        refine S_v (r_ar64 rfl rfl rfl hk146) rfl ?_
        refine S_pu 1 rfl ?_
        refine S_nil ?_
        have h := Go.L.Nxt.again h hm124
        refine At_round ((s3_122 + (((x85.getD s13_123.toNat default).length : Int) + (1 : Int))), (s13_123 + (1 : Int)), n124) (.cons rfl (.cons rfl (.cons rfl (.cons rfl (.cons rfl (Sub.nil _)))))) ⟨hL137, hf124_0, h⟩ (Nat.lt_succ_self _)
      ·replace h := Go.L.ite_p (not_dec_f hg134) h
       iterate 3 refine S_unwanted rfl rfl hg134 rfl ?_
       refine S_v (r_pickF rfl hg134 rfl) rfl ?_
       refine S_seqnil ?_
       refine W_false rfl ?_
       refine W_skip ?_
       refine At_seq ?_
       refine W_region ?_
       refine S_pu 2 rfl ?_
       refine S_v (r_lenS rfl underlying9) rfl ?_
       obtain ⟨hk148, h⟩ := Go.L.chk_some h
       refine S_v (r_ar64 rfl rfl rfl hk148) rfl ?_
       obtain ⟨hk149, h⟩ := Go.L.chk_some h
       refine S_v (r_ar64 rfl rfl rfl hk149) rfl ?_
       refine S_pu 1 rfl ?_
       refine S_nil ?_
       refine At_block ?_
       refine At_seq ?_
       refine W_region ?_
       obtain ⟨hk150, h⟩ := Go.L.chk_some h
       refine S_v (r_ar64 rfl rfl rfl hk150) rfl ?_
       refine S_pu 1 rfl ?_
       refine S_nil ?_
       have h := Go.L.Nxt.again h hm124
       refine At_round ((s3_122 + (((x85.getD s13_123.toNat default).length : Int) + (1 : Int))), (s13_123 + (1 : Int)), n124) (.cons rfl (.cons rfl (.cons rfl (.cons rfl (.cons rfl (Sub.nil _)))))) ⟨hL124, hf124_0, h⟩ (Nat.lt_succ_self _)
     ·replace h := Go.L.ite_p (not_dec_f hg132) h
      iterate 2 refine S_unwanted rfl rfl hg132 rfl ?_
      refine S_v (r_pickF rfl hg132 rfl) rfl ?_
      refine S_pu 1 rfl ?_
      iterate 3 refine S_unwanted rfl rfl rfl rfl ?_
      refine S_v (r_pickF rfl rfl rfl) rfl ?_
      refine S_seqnil ?_
      refine W_false rfl ?_
      refine W_skip ?_
      refine At_seq ?_
      refine W_region ?_
      refine S_pu 2 rfl ?_
      refine S_v (r_lenS rfl underlying9) rfl ?_
      obtain ⟨hk152, h⟩ := Go.L.chk_some h
      refine S_v (r_ar64 rfl rfl rfl hk152) rfl ?_
      obtain ⟨hk153, h⟩ := Go.L.chk_some h
      refine S_v (r_ar64 rfl rfl rfl hk153) rfl ?_
      refine S_pu 1 rfl ?_
      refine S_nil ?_
      refine At_block ?_
      refine At_seq ?_
      refine W_region ?_
      obtain ⟨hk154, h⟩ := Go.L.chk_some h
      refine S_v (r_ar64 rfl rfl rfl hk154) rfl ?_
      refine S_pu 1 rfl ?_
      refine S_nil ?_
      have h := Go.L.Nxt.again h hm124
      refine At_round ((s3_122 + (((x85.getD s13_123.toNat default).length : Int) + (1 : Int))), (s13_123 + (1 : Int)), n124) (.cons rfl (.cons rfl (.cons rfl (.cons rfl (.cons rfl (Sub.nil _)))))) ⟨hL124, hf124_0, h⟩ (Nat.lt_succ_self _)
    ·replace h := Go.L.ite_p (not_dec_f hg130) h
     iterate 2 refine S_unwanted rfl rfl hg130 rfl ?_
     refine S_v (r_pickF rfl hg130 rfl) rfl ?_
     refine S_pu 1 rfl ?_
     iterate 2 refine S_unwanted rfl rfl rfl rfl ?_
     refine S_v (r_pickF rfl rfl rfl) rfl ?_
     refine S_pu 1 rfl ?_
     iterate 3 refine S_unwanted rfl rfl rfl rfl ?_
     refine S_v (r_pickF rfl rfl rfl) rfl ?_
     refine S_seqnil ?_
     refine W_false rfl ?_
     refine W_skip ?_
     refine At_seq ?_
     refine W_region ?_
     refine S_pu 2 rfl ?_
     refine S_v (r_lenS rfl underlying9) rfl ?_
     obtain ⟨hk156, h⟩ := Go.L.chk_some h
     refine S_v (r_ar64 rfl rfl rfl hk156) rfl ?_
     obtain ⟨hk157, h⟩ := Go.L.chk_some h
     refine S_v (r_ar64 rfl rfl rfl hk157) rfl ?_
     refine S_pu 1 rfl ?_
     refine S_nil ?_
     refine At_block ?_
     refine At_seq ?_
     refine W_region ?_
     obtain ⟨hk158, h⟩ := Go.L.chk_some h
     refine S_v (r_ar64 rfl rfl rfl hk158) rfl ?_
     refine S_pu 1 rfl ?_
     refine S_nil ?_
     have h := Go.L.Nxt.again h hm124
     refine At_round ((s3_122 + (((x85.getD s13_123.toNat default).length : Int) + (1 : Int))), (s13_123 + (1 : Int)), n124) (.cons rfl (.cons rfl (.cons rfl (.cons rfl (.cons rfl (Sub.nil _)))))) ⟨hL124, hf124_0, h⟩ (Nat.lt_succ_self _)
   ·replace h := Go.L.ite_n hc126 h
    refine W_exit ?_
    refine At_seq_exit ?_
    refine At_loop_exit ?_
    replace h := Go.L.Nxt.out h hm124
    refine At_exit ?_
    refine At_cut () (.cons rfl (Sub.nil _)) ⟨hL124, h⟩
  ·rintro _ wr83 ⟨hL83, h⟩
   refine W_seqr ?_
   refine S_v (r_build rfl (fun _ => bld23_z _)) rfl ?_
   refine S_storeBN 0 rfl rfl rfl zr23 hL83 rfl rfl (onc rfl (onc rfl on0)) ?_
   intro w161 hL161 hle161
   refine S_seqnil ?_
   refine W_ret ?_
   obtain rfl := Option.some.inj h
   refine At_got1 rfl (.cell rfl underlying23 rfl zr23 (box_ptr (i := 0) hL161 rfl)) ?_
   exact ⟨hL161.ext, rfl⟩
noncomputable def shapes_isPath_1 (a0 : List UInt8) : Option (Bool) :=
 if a0 = ([35] : List UInt8) then some (false) else Option.bind (value_Name a0) (fun x3 => some (!x3))
theorem shapes_isPath_1_ok (w : World) (H : PH) (hH : Le H (hp w)) {a0 : List UInt8}   {r : Bool} (h : shapes_isPath_1 a0 = some r) :
  Ok Tryz.prog 81 [.string ⟨(a0).toArray⟩] w (fun v w' => Ext w w' ∧ v = .bool r) := by
 refine Ok_enter (n := 10) [(0, .string ⟨(a0).toArray⟩)] func81 rfl rfl rfl rfl rfl ?_
 have hL := Lcl.start w
 refine W_pz 1 rfl ?_
 refine W_p 1 rfl ?_
 refine S_v (r_sne rfl rfl) rfl ?_
 refine S_pu 1 rfl ?_
 refine S_split (s := 5) rfl (fun hg1 => ?_) (fun hg1 => ?_)
 ·replace h := Go.L.ite_n (not_dec_t hg1) h
  refine S_guarded rfl rfl hg1 ?_
  refine S_v (RunsAt_pu rfl) rfl ?_
  refine S_guarded rfl rfl hg1 ?_
  obtain ⟨x3, hb3, h⟩ := Go.L.bind_some h
  refine S_callL rfl rfl hL (value_Name_ok _ _ (gz_le hH hL) hb3) ?_
  rintro _ w4 rfl hx4 hL4 hle4
  refine S_guarded rfl rfl hg1 ?_
  refine S_v (RunsAt_pu rfl) rfl ?_
  refine S_v (r_pickT rfl hg1 rfl) rfl ?_
  refine S_pz 1 rfl ?_
  refine W_ret ?_
  obtain rfl := Option.some.inj h
  refine At_body rfl rfl ?_
  exact ⟨hL4.ext, rfl⟩
 ·replace h := Go.L.ite_p (not_dec_f hg1) h
  iterate 3 refine S_unwanted rfl rfl hg1 rfl ?_
  refine S_v (r_pickF rfl hg1 rfl) rfl ?_
  refine S_pz 1 rfl ?_
  refine W_ret ?_
  obtain rfl := Option.some.inj h
  refine At_body rfl rfl ?_
  exact ⟨hL.ext, rfl⟩
noncomputable def value_checkNode_2 (a0 : List UInt8) : Option (Bool) :=
 Option.bind (value_Name a0) (fun x1 => some (!x1))
theorem value_checkNode_2_ok (w : World) (H : PH) (hH : Le H (hp w)) {a0 : List UInt8}   {r : Bool} (h : value_checkNode_2 a0 = some r) :
  Ok Tryz.prog 154 [.string ⟨(a0).toArray⟩] w (fun v w' => Ext w w' ∧ v = .bool r) := by
 refine Ok_enter (n := 6) [(0, .string ⟨(a0).toArray⟩)] func154 rfl rfl rfl rfl rfl ?_
 have hL := Lcl.start w
 refine W_pz 1 rfl ?_
 refine W_p 1 rfl ?_
 obtain ⟨x1, hb1, h⟩ := Go.L.bind_some h
 refine S_callL rfl rfl hL (value_Name_ok _ _ (gz_le hH hL) hb1) ?_
 rintro _ w2 rfl hx2 hL2 hle2
 refine S_pz 2 rfl ?_
 refine W_ret ?_
 obtain rfl := Option.some.inj h
 refine At_body rfl rfl ?_
 exact ⟨hL2.ext, rfl⟩
noncomputable def shapes_matches_1 (a0 : List UInt8) (a1 : List UInt8) : Option (Bool) :=
 if a0 = ([42, 42] : List UInt8) then some (decide (a1 = ([42, 42] : List UInt8))) else some (false)
theorem shapes_matches_1_ok (w : World) (H : PH) (_hH : Le H (hp w)) {a0 : List UInt8} {a1 : List UInt8}   {r : Bool} (h : shapes_matches_1 a0 a1 = some r) :
  Ok Tryz.prog 83 [.string ⟨(a0).toArray⟩, .string ⟨(a1).toArray⟩] w (fun v w' => Ext w w' ∧ v = .bool r) := by
 refine Ok_enter (n := 11) [(0, .string ⟨(a0).toArray⟩), (1, .string ⟨(a1).toArray⟩)] func83 rfl rfl rfl rfl rfl ?_
 have hL := Lcl.start w
 refine W_pz 1 rfl ?_
 refine W_p 1 rfl ?_
 refine S_v (r_seq rfl rfl) rfl ?_
 refine S_pu 1 rfl ?_
 refine S_split (s := 7) rfl (fun hg1 => ?_) (fun hg1 => ?_)
 ·replace h := Go.L.ite_p (of_decide_eq_true hg1) h
  refine S_guarded rfl rfl hg1 ?_
  refine S_v (RunsAt_pu rfl) rfl ?_
  refine S_guarded rfl rfl hg1 ?_
  refine S_v (r_seq rfl rfl) rfl ?_
  refine S_v (r_pickT rfl hg1 rfl) rfl ?_
  refine S_pz 1 rfl ?_
  refine W_ret ?_
  obtain rfl := Option.some.inj h
  refine At_body rfl rfl ?_
  exact ⟨hL.ext, rfl⟩
 ·replace h := Go.L.ite_n (of_decide_eq_false hg1) h
  iterate 2 refine S_unwanted rfl rfl hg1 rfl ?_
  refine S_v (r_pickF rfl hg1 rfl) rfl ?_
  refine S_pz 1 rfl ?_
  refine W_ret ?_
  obtain rfl := Option.some.inj h
  refine At_body rfl rfl ?_
  exact ⟨hL.ext, rfl⟩
noncomputable def shapes_match_body_k2 : Option (Bool) :=
 some (false)
noncomputable def shapes_match_body_bl3 (a0 : List (List UInt8)) (a1 : List (List UInt8)) (self : (List (List UInt8)) → (List (List UInt8)) → Option (Bool)) : Int → Option ((Int) ⊕ (Bool)) := fun s19_79 =>
 if s19_79 < ((a1.length : Int) + (1 : Int)) then Go.L.chk (0 ≤ (1 : Int) ∧ (1 : Int) ≤ (a0.length : Int)) (Go.L.chk (0 ≤ s19_79 ∧ s19_79 ≤ (a1.length : Int)) (Option.bind (self (a0.drop (1 : Int).toNat) (a1.drop s19_79.toNat)) (fun x90 => if x90 then Option.map Sum.inr (some (true)) else Go.L.chk (Go.L.I64 (s19_79 + (1 : Int))) (some (Sum.inl (s19_79 + (1 : Int))))))) else Option.map Sum.inr (shapes_match_body_k2)
noncomputable def shapes_match_body_l3 (a0 : List (List UInt8)) (a1 : List (List UInt8)) (self : (List (List UInt8)) → (List (List UInt8)) → Option (Bool)) (s : Int) : Option (Bool) := Go.L.run (shapes_match_body_bl3 a0 a1 self) s
noncomputable def shapes_match_body_k1 (a0 : List (List UInt8)) (a1 : List (List UInt8)) (self : (List (List UInt8)) → (List (List UInt8)) → Option (Bool)) : Option (Bool) :=
 if (0 : Int) < (a1.length : Int) then Go.L.chk (0 ≤ (0 : Int) ∧ (0 : Int) < (a0.length : Int)) (if a0.getD ((0 : Int).toNat) default = ([42] : List UInt8) then Go.L.chk (0 ≤ (1 : Int) ∧ (1 : Int) ≤ (a0.length : Int)) (Go.L.chk (0 ≤ (1 : Int) ∧ (1 : Int) ≤ (a1.length : Int)) (Option.bind (self (a0.drop (1 : Int).toNat) (a1.drop (1 : Int).toNat)) (fun x114 => some (x114)))) else Go.L.chk (0 ≤ (0 : Int) ∧ (0 : Int) < (a0.length : Int)) (Go.L.chk (0 ≤ (0 : Int) ∧ (0 : Int) < (a1.length : Int)) (if a0.getD ((0 : Int).toNat) default = a1.getD ((0 : Int).toNat) default then Go.L.chk (0 ≤ (1 : Int) ∧ (1 : Int) ≤ (a0.length : Int)) (Go.L.chk (0 ≤ (1 : Int) ∧ (1 : Int) ≤ (a1.length : Int)) (Option.bind (self (a0.drop (1 : Int).toNat) (a1.drop (1 : Int).toNat)) (fun x129 => some (x129)))) else some (false)))) else some (false)
noncomputable def shapes_match_body (self : (List (List UInt8)) → (List (List UInt8)) → Option (Bool)) (a0 : List (List UInt8)) (a1 : List (List UInt8)) : Option (Bool) :=
 if (a0.length : Int) = (0 : Int) then some (decide ((a1.length : Int) = (0 : Int))) else Go.L.chk (0 ≤ (0 : Int) ∧ (0 : Int) < (a0.length : Int)) (if a0.getD ((0 : Int).toNat) default = ([42, 42] : List UInt8) then Go.L.chk (Go.L.I64 ((a1.length : Int) + (1 : Int))) ((shapes_match_body_l3 a0 a1 self) (0 : Int)) else (shapes_match_body_k1 a0 a1 self))
noncomputable def shapes_match_n : Nat → (List (List UInt8)) → (List (List UInt8)) → Option (Bool)
 | 0 => fun _ _ => none
 | n + 1 => shapes_match_body (shapes_match_n n)
noncomputable def shapes_match : (List (List UInt8)) → (List (List UInt8)) → Option (Bool) := shapes_match_n 1000
theorem shapes_match_body_ok (self : (List (List UInt8)) → (List (List UInt8)) → Option (Bool)) (hself : ∀ (w : World) (H : PH) (hH : Le H (hp w)) {a0 : List (List UInt8)} {a1 : List (List UInt8)} {v0_0 : Value} {v1_0 : Value} (h0_0 : Vec .st H v0_0 (a0)) (h1_0 : Vec .st H v1_0 (a1)) {r : Bool} (h : self a0 a1 = some r), Ok Tryz.prog 84 [v0_0, v1_0] w (fun v w' => Ext w w' ∧ v = .bool r)) (w : World) (H : PH) (hH : Le H (hp w)) {a0 : List (List UInt8)} {a1 : List (List UInt8)} {v0_0 : Value} {v1_0 : Value} (h0_0 : Vec .st H v0_0 (a0)) (h1_0 : Vec .st H v1_0 (a1)) {r : Bool} (h : shapes_match_body self a0 a1 = some r) :
  Ok Tryz.prog 84 [v0_0, v1_0] w (fun v w' => Ext w w' ∧ v = .bool r) := by
 refine Ok_enter (n := 54) [(0, v0_0), (1, v1_0)] func84 rfl rfl rfl rfl rfl ?_
 have hL := Lcl.start w
 refine W_pz 1 rfl ?_
 refine W_seq ?_
 refine W_p 1 rfl ?_
 refine S_v (r_len rfl underlying30 h0_0) rfl ?_
 refine S_pz 1 rfl ?_
 refine W_if rfl (fun hc1 => ?_) (fun hc1 => ?_)
 ·replace h := Go.L.ite_p hc1 h
  refine W_p 1 rfl ?_
  refine S_v (r_len rfl underlying30 h1_0) rfl ?_
  refine S_pz 2 rfl ?_
  refine W_ret ?_
  refine At_seq_ret ?_
  obtain rfl := Option.some.inj h
  refine At_body rfl rfl ?_
  exact ⟨hL.ext, rfl⟩
 ·replace h := Go.L.ite_n hc1 h
  refine W_skip ?_
  refine At_seq ?_
  refine W_cut (σ := Unit) (fun (_ : Unit) => [(0, v0_0), (1, v1_0)]) (fun (_ : Unit) wr => Lcl w [] wr ∧ (shapes_match_body_k1 a0 a1 self) = some r) ?_ ?_
  ·refine W_p 1 rfl ?_
   obtain ⟨hk34, h⟩ := Go.L.chk_some h
   refine S_index rfl rfl underlying30 zr9 h0_0 ((0 : Int).toNat) (Int.toNat_of_nonneg hk34.1).symm (idx_lt hk34) rfl ?_
   rintro p33 _ rfl hp33
   refine S_v (r_load1 rfl underlying9 rfl hp33 (hH.trans hL.arg)) rfl ?_
   refine S_v (r_seq rfl rfl) rfl ?_
   refine S_seqnil ?_
   refine W_if rfl (fun hc35 => ?_) (fun hc35 => ?_)
   ·replace h := Go.L.ite_p hc35 h
    refine W_cut (σ := Unit) (fun (_ : Unit) => []) (fun (_ : Unit) wr => Lcl w [] wr ∧ shapes_match_body_k2 = some r) ?_ ?_
    ·refine W_p 1 rfl ?_
     refine S_v (r_len rfl underlying30 h1_0) rfl ?_
     obtain ⟨hk60, h⟩ := Go.L.chk_some h
     refine S_v (r_ar64 rfl rfl rfl hk60) rfl ?_
     refine S_pz 1 rfl ?_
     refine W_block ?_
     obtain ⟨n80, h⟩ := Go.L.run_some h
     refine W_loop (σ := Int × Nat) (fun ⟨s19_79, n⟩ => [(0, v0_0), (1, v1_0), (18, .int .i64 ((a1.length : Int) + (1 : Int))), (19, .int .i64 s19_79)]) (fun ⟨s19_79, n⟩ wr => Lcl w [] wr ∧ Go.L.itr (shapes_match_body_bl3 a0 a1 self) n s19_79 = some r) (fun ⟨s19_79, n⟩ => n) ((0 : Int), n80) (.cons rfl (.cons rfl (.cons rfl (.cons rfl (Sub.nil _))))) ⟨hL, h⟩ ?_
     rintro ⟨s19_79, nn80⟩ wr80 ⟨hL80, h⟩
     obtain ⟨n80, e80, rfl, h, hm80⟩ := Go.L.itr_some h
     refine W_pz 1 rfl ?_
     refine W_seq ?_
     refine W_if rfl (fun hc82 => ?_) (fun hc82 => ?_)
     ·replace h := Go.L.ite_p hc82 h
      refine W_skip ?_
      refine At_seq ?_
      refine W_seq ?_
      refine W_block ?_
      refine W_pz 2 rfl ?_
      refine W_seqd (.q 0 (.q 1 (.q 2 (.q 3 (.q 4 (.q 5 (.tail 6))))))) mixed (by kernel_rfl) (fun w84 hx84 => ?_)
      have hL85 := hL80.call hx84
      refine D_pu 1 rfl ?_
      obtain ⟨hk87, h⟩ := Go.L.chk_some h
      refine D_sliceL rfl rfl rfl underlying30 zr9 h0_0 hk87 rfl ?_
      intro v86 hv86
      refine D_pu 2 rfl ?_
      obtain ⟨hk89, h⟩ := Go.L.chk_some h
      refine D_sliceL rfl rfl rfl underlying30 zr9 h1_0 hk89 rfl ?_
      intro v88 hv88
      obtain ⟨x90, hb90, h⟩ := Go.L.bind_some h
      refine D_call rfl rfl rfl (fun w91 hx91 => hself _ _ (Le.refl _) ((hv86.mono (hH.trans hL85.arg)).mono hx91.le) ((hv88.mono (hH.trans hL85.arg)).mono hx91.le) hb90) ?_
      refine D_tail (fun w92 hx92 => ?_)
      have hL93 := hL85.call hx92
      refine S_seqnil ?_
      refine W_cond rfl (fun hc94 => ?_) (fun hc94 => ?_)
      ·replace h := Go.L.ite_t hc94 h
       refine W_pz 1 rfl ?_
       refine W_ret ?_
       refine At_block_ret ?_
       refine At_seq_ret ?_
       refine At_loop_ret ?_
       replace h := Go.L.Nxt.out h hm80
       refine At_block_ret ?_
       iterate 2 refine At_cut_ret ?_
       obtain rfl := Option.some.inj h
       refine At_body rfl rfl ?_
       exact ⟨hL93.ext, rfl⟩
      ·replace h := Go.L.ite_f hc94 h
       refine W_skip ?_
       refine At_block ?_
       refine At_seq ?_
       refine W_region ?_
       obtain ⟨hk97, h⟩ := Go.L.chk_some h
       refine S_v (r_ar64 rfl rfl rfl hk97) rfl ?_
       refine S_pu 1 rfl ?_
       refine S_nil ?_
       have h := Go.L.Nxt.again h hm80
       refine At_round ((s19_79 + (1 : Int)), n80) (.cons rfl (.cons rfl (.cons rfl (.cons rfl (Sub.nil _))))) ⟨hL93, h⟩ (Nat.lt_succ_self _)
     ·replace h := Go.L.ite_n hc82 h
      refine W_exit ?_
      refine At_seq_exit ?_
      refine At_loop_exit ?_
      replace h := Go.L.Nxt.out h hm80
      refine At_exit ?_
      refine At_cut () (Sub.nil _) ⟨hL80, h⟩
    ·rintro _ wr58 ⟨hL58, h⟩
     refine W_pz 1 rfl ?_
     refine W_ret ?_
     refine At_cut_ret ?_
     obtain rfl := Option.some.inj h
     refine At_body rfl rfl ?_
     exact ⟨hL58.ext, rfl⟩
   ·replace h := Go.L.ite_n hc35 h
    refine W_skip ?_
    refine At_cut () (.cons rfl (.cons rfl (Sub.nil _))) ⟨hL, h⟩
  ·rintro _ wr31 ⟨hL31, h⟩
   refine W_seqd (.q 0 (.q 1 (.q 2 (.q 3 (.q 4 (.q 5 (.q 6 (.q 7 (.q 8 (.q 9 (.q 10 (.q 11 (.q 12 (.q 13 (.q 14 (.q 15 (.q 16 (.q 17 (.q 18 (.q 19 (.q 20 (.q 21 (.q 22 (.q 23 (.q 24 (.q 25 (.tail 26))))))))))))))))))))))))))) mixed (by kernel_rfl) (fun w102 hx102 => ?_)
   have hL103 := hL31.call hx102
   refine D_pu 1 rfl ?_
   refine D_v (r_len rfl underlying30 h1_0) rfl rfl ?_
   refine D_pu 2 rfl ?_
   refine D_split (s := 32) rfl (fun hg104 => ?_) (fun hg104 => ?_)
   ·replace h := Go.L.ite_p (of_decide_eq_true hg104) h
    refine D_vg (RunsAt_pu rfl) rfl rfl rfl rfl hg104 rfl ?_
    obtain ⟨hk107, h⟩ := Go.L.chk_some h
    refine D_indexg rfl rfl rfl rfl hg104 rfl rfl underlying30 zr9 h0_0 ((0 : Int).toNat) (Int.toNat_of_nonneg hk107.1).symm (idx_lt hk107) rfl ?_
    rintro p106 _ rfl hp106
    refine D_vg (r_load1 rfl underlying9 rfl hp106 (hH.trans hL103.arg)) rfl rfl rfl rfl hg104 rfl ?_
    refine D_vg (r_seq rfl rfl) rfl rfl rfl rfl hg104 rfl ?_
    refine D_vg (RunsAt_pu rfl) rfl rfl rfl rfl hg104 rfl ?_
    refine D_split (s := 37) rfl (fun hg108 => ?_) (fun hg108 => ?_)
    ·replace h := Go.L.ite_p (of_decide_eq_true hg108) h
     iterate 7 refine D_no rfl rfl rfl rfl hg108 rfl ?_
     refine D_vg (r_pickT rfl hg108 rfl) rfl rfl rfl rfl hg104 rfl ?_
     refine D_v (r_pickT rfl hg104 rfl) rfl rfl ?_
     refine D_pu 1 rfl ?_
     refine D_vg (RunsAt_pu rfl) rfl rfl rfl rfl rfl rfl ?_
     obtain ⟨hk111, h⟩ := Go.L.chk_some h
     refine D_sliceLg rfl rfl rfl rfl rfl rfl rfl underlying30 zr9 h0_0 hk111 rfl ?_
     intro v110 hv110
     refine D_vg (RunsAt_pu rfl) rfl rfl rfl rfl rfl rfl ?_
     obtain ⟨hk113, h⟩ := Go.L.chk_some h
     refine D_sliceLg rfl rfl rfl rfl rfl rfl rfl underlying30 zr9 h1_0 hk113 rfl ?_
     intro v112 hv112
     obtain ⟨x114, hb114, h⟩ := Go.L.bind_some h
     refine D_callg rfl rfl rfl rfl rfl rfl rfl (fun w115 hx115 => hself _ _ (Le.refl _) ((hv110.mono (hH.trans hL103.arg)).mono hx115.le) ((hv112.mono (hH.trans hL103.arg)).mono hx115.le) hb114) ?_
     refine D_v (r_pickT rfl rfl rfl) rfl rfl ?_
     refine D_pu 1 rfl ?_
     refine D_tail (fun w116 hx116 => ?_)
     have hL117 := hL103.call hx116
     refine S_seqnil ?_
     refine W_ret ?_
     obtain rfl := Option.some.inj h
     refine At_body rfl rfl ?_
     exact ⟨hL117.ext, rfl⟩
    ·replace h := Go.L.ite_n (of_decide_eq_false hg108) h
     refine D_vg (RunsAt_pu rfl) rfl rfl rfl rfl hg108 rfl ?_
     obtain ⟨hk120, h⟩ := Go.L.chk_some h
     refine D_indexg rfl rfl rfl rfl hg108 rfl rfl underlying30 zr9 h0_0 ((0 : Int).toNat) (Int.toNat_of_nonneg hk120.1).symm (idx_lt hk120) rfl ?_
     rintro p119 _ rfl hp119
     refine D_vg (r_load1 rfl underlying9 rfl hp119 (hH.trans hL103.arg)) rfl rfl rfl rfl hg108 rfl ?_
     refine D_vg (RunsAt_pu rfl) rfl rfl rfl rfl hg108 rfl ?_
     obtain ⟨hk122, h⟩ := Go.L.chk_some h
     refine D_indexg rfl rfl rfl rfl hg108 rfl rfl underlying30 zr9 h1_0 ((0 : Int).toNat) (Int.toNat_of_nonneg hk122.1).symm (idx_lt hk122) rfl ?_
     rintro p121 _ rfl hp121
     refine D_vg (r_load1 rfl underlying9 rfl hp121 (hH.trans hL103.arg)) rfl rfl rfl rfl hg108 rfl ?_
     refine D_vg (r_seq rfl rfl) rfl rfl rfl rfl hg108 rfl ?_
     refine D_vg (r_pickF rfl hg108 rfl) rfl rfl rfl rfl hg104 rfl ?_
     refine D_v (r_pickT rfl hg104 rfl) rfl rfl ?_
     refine D_pu 1 rfl ?_
     refine D_split (s := 47) rfl (fun hg123 => ?_) (fun hg123 => ?_)
     ·replace h := Go.L.ite_p (of_decide_eq_true hg123) h
      refine D_vg (RunsAt_pu rfl) rfl rfl rfl rfl hg123 rfl ?_
      obtain ⟨hk126, h⟩ := Go.L.chk_some h
      refine D_sliceLg rfl rfl rfl rfl hg123 rfl rfl underlying30 zr9 h0_0 hk126 rfl ?_
      intro v125 hv125
      refine D_vg (RunsAt_pu rfl) rfl rfl rfl rfl hg123 rfl ?_
      obtain ⟨hk128, h⟩ := Go.L.chk_some h
      refine D_sliceLg rfl rfl rfl rfl hg123 rfl rfl underlying30 zr9 h1_0 hk128 rfl ?_
      intro v127 hv127
      obtain ⟨x129, hb129, h⟩ := Go.L.bind_some h
      refine D_callg rfl rfl rfl rfl hg123 rfl rfl (fun w130 hx130 => hself _ _ (Le.refl _) ((hv125.mono (hH.trans hL103.arg)).mono hx130.le) ((hv127.mono (hH.trans hL103.arg)).mono hx130.le) hb129) ?_
      refine D_v (r_pickT rfl hg123 rfl) rfl rfl ?_
      refine D_pu 1 rfl ?_
      refine D_tail (fun w131 hx131 => ?_)
      have hL132 := hL103.call hx131
      refine S_seqnil ?_
      refine W_ret ?_
      obtain rfl := Option.some.inj h
      refine At_body rfl rfl ?_
      exact ⟨hL132.ext, rfl⟩
     ·replace h := Go.L.ite_n (of_decide_eq_false hg123) h
      iterate 5 refine D_no rfl rfl rfl rfl hg123 rfl ?_
      refine D_v (r_pickF rfl hg123 rfl) rfl rfl ?_
      refine D_pu 1 rfl ?_
      refine D_tail (fun w134 hx134 => ?_)
      have hL135 := hL103.call hx134
      refine S_seqnil ?_
      refine W_ret ?_
      obtain rfl := Option.some.inj h
      refine At_body rfl rfl ?_
      exact ⟨hL135.ext, rfl⟩
   ·replace h := Go.L.ite_n (of_decide_eq_false hg104) h
    iterate 5 refine D_no rfl rfl rfl rfl hg104 rfl ?_
    iterate 7 refine D_no2 rfl rfl rfl rfl rfl ?_
    refine D_no rfl rfl rfl rfl hg104 rfl ?_
    refine D_v (r_pickF rfl hg104 rfl) rfl rfl ?_
    refine D_pu 1 rfl ?_
    iterate 5 refine D_no rfl rfl rfl rfl rfl rfl ?_
    refine D_v (r_pickF rfl rfl rfl) rfl rfl ?_
    refine D_pu 1 rfl ?_
    refine D_tail (fun w137 hx137 => ?_)
    have hL138 := hL103.call hx137
    refine S_seqnil ?_
    refine W_ret ?_
    obtain rfl := Option.some.inj h
    refine At_body rfl rfl ?_
    exact ⟨hL138.ext, rfl⟩
theorem shapes_match_n_ok (n : Nat) : ∀ (w : World) (H : PH) (hH : Le H (hp w)) {a0 : List (List UInt8)} {a1 : List (List UInt8)} {v0_0 : Value} {v1_0 : Value} (h0_0 : Vec .st H v0_0 (a0)) (h1_0 : Vec .st H v1_0 (a1)) {r : Bool} (h : shapes_match_n n a0 a1 = some r), Ok Tryz.prog 84 [v0_0, v1_0] w (fun v w' => Ext w w' ∧ v = .bool r) := by
 induction n with
 | zero => intros; rename_i h; cases h
 | succ n ih => exact @shapes_match_body_ok (shapes_match_n n) ih
theorem shapes_match_ok (w : World) (H : PH) (hH : Le H (hp w)) {a0 : List (List UInt8)} {a1 : List (List UInt8)} {v0_0 : Value} {v1_0 : Value} (h0_0 : Vec .st H v0_0 (a0)) (h1_0 : Vec .st H v1_0 (a1)) {r : Bool} (h : shapes_match a0 a1 = some r) : Ok Tryz.prog 84 [v0_0, v1_0] w (fun v w' => Ext w w' ∧ v = .bool r) := shapes_match_n_ok 1000 w H hH h0_0 h1_0 h
noncomputable def idxf_isPath_1_k1 : Option (Int) :=
 some ((-1 : Int))
noncomputable def idxf_isPath_1_bl2 (a0 : List (List UInt8)) : Int → Option ((Int) ⊕ (Int)) := fun s8_29 =>
 if s8_29 < (a0.length : Int) then Go.L.chk (0 ≤ s8_29 ∧ s8_29 < (a0.length : Int)) (Option.bind (shapes_isPath_1 (a0.getD s8_29.toNat default)) (fun x36 => if x36 then Option.map Sum.inr (some (s8_29)) else Go.L.chk (Go.L.I64 (s8_29 + (1 : Int))) (some (Sum.inl (s8_29 + (1 : Int)))))) else Option.map Sum.inr (idxf_isPath_1_k1)
noncomputable def idxf_isPath_1_l2 (a0 : List (List UInt8)) (s : Int) : Option (Int) := Go.L.run (idxf_isPath_1_bl2 a0) s
noncomputable def idxf_isPath_1 (a0 : List (List UInt8)) : Option (Int) :=
 (idxf_isPath_1_l2 a0) (0 : Int)
theorem idxf_isPath_1_ok (w : World) (H : PH) (hH : Le H (hp w)) {a0 : List (List UInt8)} {v0_0 : Value} (h0_0 : Vec .st H v0_0 (a0)) {r : Int} (h : idxf_isPath_1 a0 = some r) :
  Ok Tryz.prog 112 [v0_0, .func (.func 81) #[] #[]] w (fun v w' => Ext w w' ∧ v = .int .i64 r) := by
 refine Ok_enter (n := 19) [(0, v0_0), (1, .func (.func 81) #[] #[])] func112 rfl rfl rfl rfl rfl ?_
 have hL := Lcl.start w
 refine W_pz 1 rfl ?_
 refine W_cut (σ := Unit) (fun (_ : Unit) => []) (fun (_ : Unit) wr => Lcl w [] wr ∧ idxf_isPath_1_k1 = some r) ?_ ?_
 ·refine W_p 1 rfl ?_
  refine S_v (r_len rfl underlying30 h0_0) rfl ?_
  refine S_pz 1 rfl ?_
  refine W_block ?_
  obtain ⟨n30, h⟩ := Go.L.run_some h
  refine W_loop (σ := Int × Nat) (fun ⟨s8_29, n⟩ => [(0, v0_0), (1, .func (.func 81) #[] #[]), (7, .int .i64 (a0.length : Int)), (8, .int .i64 s8_29)]) (fun ⟨s8_29, n⟩ wr => Lcl w [] wr ∧ Go.L.itr (idxf_isPath_1_bl2 a0) n s8_29 = some r) (fun ⟨s8_29, n⟩ => n) ((0 : Int), n30) (.cons rfl (.cons rfl (.cons rfl (.cons rfl (Sub.nil _))))) ⟨hL, h⟩ ?_
  rintro ⟨s8_29, nn30⟩ wr30 ⟨hL30, h⟩
  obtain ⟨n30, e30, rfl, h, hm30⟩ := Go.L.itr_some h
  refine W_pz 1 rfl ?_
  refine W_seq ?_
  refine W_if rfl (fun hc32 => ?_) (fun hc32 => ?_)
  ·replace h := Go.L.ite_p hc32 h
   refine W_skip ?_
   refine At_seq ?_
   refine W_seq ?_
   refine W_block ?_
   refine W_pz 2 rfl ?_
   refine W_p 3 rfl ?_
   obtain ⟨hk35, h⟩ := Go.L.chk_some h
   refine S_index rfl rfl underlying30 zr9 h0_0 s8_29.toNat (Int.toNat_of_nonneg hk35.1).symm (idx_lt hk35) rfl ?_
   rintro p34 _ rfl hp34
   refine S_v (r_load1 rfl underlying9 rfl hp34 (hH.trans hL30.arg)) rfl ?_
   obtain ⟨x36, hb36, h⟩ := Go.L.bind_some h
   refine S_callwL rfl rfl rfl hL30 (shapes_isPath_1_ok _ _ (gz_le hH hL30) hb36) ?_
   rintro _ w37 rfl hx37 hL37 hle37
   refine S_seqnil ?_
   refine W_cond rfl (fun hc38 => ?_) (fun hc38 => ?_)
   ·replace h := Go.L.ite_t hc38 h
    refine W_pz 2 rfl ?_
    refine W_ret ?_
    refine At_block_ret ?_
    refine At_seq_ret ?_
    refine At_loop_ret ?_
    replace h := Go.L.Nxt.out h hm30
    refine At_block_ret ?_
    refine At_cut_ret ?_
    obtain rfl := Option.some.inj h
    refine At_body rfl rfl ?_
    exact ⟨hL37.ext, rfl⟩
   ·replace h := Go.L.ite_f hc38 h
    refine W_skip ?_
    refine At_block ?_
    refine At_seq ?_
    refine W_region ?_
    obtain ⟨hk41, h⟩ := Go.L.chk_some h
    refine S_v (r_ar64 rfl rfl rfl hk41) rfl ?_
    refine S_pu 1 rfl ?_
    refine S_nil ?_
    have h := Go.L.Nxt.again h hm30
    refine At_round ((s8_29 + (1 : Int)), n30) (.cons rfl (.cons rfl (.cons rfl (.cons rfl (Sub.nil _))))) ⟨hL37, h⟩ (Nat.lt_succ_self _)
  ·replace h := Go.L.ite_n hc32 h
   refine W_exit ?_
   refine At_seq_exit ?_
   refine At_loop_exit ?_
   replace h := Go.L.Nxt.out h hm30
   refine At_exit ?_
   refine At_cut () (Sub.nil _) ⟨hL30, h⟩
 ·rintro _ wr15 ⟨hL15, h⟩
  refine W_pz 1 rfl ?_
  refine W_ret ?_
  obtain rfl := Option.some.inj h
  refine At_body rfl rfl ?_
  exact ⟨hL15.ext, rfl⟩
noncomputable def conf_isPath_1 (a0 : List (List UInt8)) : Option (Bool) :=
 Option.bind (idxf_isPath_1 a0) (fun x1 => some (decide ((0 : Int) ≤ x1)))
theorem conf_isPath_1_ok (w : World) (H : PH) (hH : Le H (hp w)) {a0 : List (List UInt8)} {v0_0 : Value} (h0_0 : Vec .st H v0_0 (a0)) {r : Bool} (h : conf_isPath_1 a0 = some r) :
  Ok Tryz.prog 80 [v0_0, .func (.func 81) #[] #[]] w (fun v w' => Ext w w' ∧ v = .bool r) := by
 refine Ok_enter (n := 9) [(0, v0_0), (1, .func (.func 81) #[] #[])] func80 rfl rfl rfl rfl rfl ?_
 have hL := Lcl.start w
 refine W_pz 1 rfl ?_
 refine W_p 2 rfl ?_
 obtain ⟨x1, hb1, h⟩ := Go.L.bind_some h
 refine S_callL rfl rfl hL (idxf_isPath_1_ok _ _ (gz_le hH hL) (h0_0.mono (gz_left hH)) hb1) ?_
 rintro _ w2 rfl hx2 hL2 hle2
 refine S_pz 2 rfl ?_
 refine W_ret ?_
 obtain rfl := Option.some.inj h
 refine At_body rfl rfl ?_
 exact ⟨hL2.ext, rfl⟩
noncomputable def idxf_checkNode_2_k1 : Option (Int) :=
 some ((-1 : Int))
noncomputable def idxf_checkNode_2_bl2 (a0 : List (List UInt8)) : Int → Option ((Int) ⊕ (Int)) := fun s8_29 =>
 if s8_29 < (a0.length : Int) then Go.L.chk (0 ≤ s8_29 ∧ s8_29 < (a0.length : Int)) (Option.bind (value_checkNode_2 (a0.getD s8_29.toNat default)) (fun x36 => if x36 then Option.map Sum.inr (some (s8_29)) else Go.L.chk (Go.L.I64 (s8_29 + (1 : Int))) (some (Sum.inl (s8_29 + (1 : Int)))))) else Option.map Sum.inr (idxf_checkNode_2_k1)
noncomputable def idxf_checkNode_2_l2 (a0 : List (List UInt8)) (s : Int) : Option (Int) := Go.L.run (idxf_checkNode_2_bl2 a0) s
noncomputable def idxf_checkNode_2 (a0 : List (List UInt8)) : Option (Int) :=
 (idxf_checkNode_2_l2 a0) (0 : Int)
theorem idxf_checkNode_2_ok (w : World) (H : PH) (hH : Le H (hp w)) {a0 : List (List UInt8)} {v0_0 : Value} (h0_0 : Vec .st H v0_0 (a0)) {r : Int} (h : idxf_checkNode_2 a0 = some r) :
  Ok Tryz.prog 112 [v0_0, .func (.func 154) #[] #[]] w (fun v w' => Ext w w' ∧ v = .int .i64 r) := by
 refine Ok_enter (n := 19) [(0, v0_0), (1, .func (.func 154) #[] #[])] func112 rfl rfl rfl rfl rfl ?_
 have hL := Lcl.start w
 refine W_pz 1 rfl ?_
 refine W_cut (σ := Unit) (fun (_ : Unit) => []) (fun (_ : Unit) wr => Lcl w [] wr ∧ idxf_checkNode_2_k1 = some r) ?_ ?_
 ·refine W_p 1 rfl ?_
  refine S_v (r_len rfl underlying30 h0_0) rfl ?_
  refine S_pz 1 rfl ?_
  refine W_block ?_
  obtain ⟨n30, h⟩ := Go.L.run_some h
  refine W_loop (σ := Int × Nat) (fun ⟨s8_29, n⟩ => [(0, v0_0), (1, .func (.func 154) #[] #[]), (7, .int .i64 (a0.length : Int)), (8, .int .i64 s8_29)]) (fun ⟨s8_29, n⟩ wr => Lcl w [] wr ∧ Go.L.itr (idxf_checkNode_2_bl2 a0) n s8_29 = some r) (fun ⟨s8_29, n⟩ => n) ((0 : Int), n30) (.cons rfl (.cons rfl (.cons rfl (.cons rfl (Sub.nil _))))) ⟨hL, h⟩ ?_
  rintro ⟨s8_29, nn30⟩ wr30 ⟨hL30, h⟩
  obtain ⟨n30, e30, rfl, h, hm30⟩ := Go.L.itr_some h
  refine W_pz 1 rfl ?_
  refine W_seq ?_
  refine W_if rfl (fun hc32 => ?_) (fun hc32 => ?_)
  ·replace h := Go.L.ite_p hc32 h
   refine W_skip ?_
   refine At_seq ?_
   refine W_seq ?_
   refine W_block ?_
   refine W_pz 2 rfl ?_
   refine W_p 3 rfl ?_
   obtain ⟨hk35, h⟩ := Go.L.chk_some h
   refine S_index rfl rfl underlying30 zr9 h0_0 s8_29.toNat (Int.toNat_of_nonneg hk35.1).symm (idx_lt hk35) rfl ?_
   rintro p34 _ rfl hp34
   refine S_v (r_load1 rfl underlying9 rfl hp34 (hH.trans hL30.arg)) rfl ?_
   obtain ⟨x36, hb36, h⟩ := Go.L.bind_some h
   refine S_callwL rfl rfl rfl hL30 (value_checkNode_2_ok _ _ (gz_le hH hL30) hb36) ?_
   rintro _ w37 rfl hx37 hL37 hle37
   refine S_seqnil ?_
   refine W_cond rfl (fun hc38 => ?_) (fun hc38 => ?_)
   ·replace h := Go.L.ite_t hc38 h
    refine W_pz 2 rfl ?_
    refine W_ret ?_
    refine At_block_ret ?_
    refine At_seq_ret ?_
    refine At_loop_ret ?_
    replace h := Go.L.Nxt.out h hm30
    refine At_block_ret ?_
    refine At_cut_ret ?_
    obtain rfl := Option.some.inj h
    refine At_body rfl rfl ?_
    exact ⟨hL37.ext, rfl⟩
   ·replace h := Go.L.ite_f hc38 h
    refine W_skip ?_
    refine At_block ?_
    refine At_seq ?_
    refine W_region ?_
    obtain ⟨hk41, h⟩ := Go.L.chk_some h
    refine S_v (r_ar64 rfl rfl rfl hk41) rfl ?_
    refine S_pu 1 rfl ?_
    refine S_nil ?_
    have h := Go.L.Nxt.again h hm30
    refine At_round ((s8_29 + (1 : Int)), n30) (.cons rfl (.cons rfl (.cons rfl (.cons rfl (Sub.nil _))))) ⟨hL37, h⟩ (Nat.lt_succ_self _)
  ·replace h := Go.L.ite_n hc32 h
   refine W_exit ?_
   refine At_seq_exit ?_
   refine At_loop_exit ?_
   replace h := Go.L.Nxt.out h hm30
   refine At_exit ?_
   refine At_cut () (Sub.nil _) ⟨hL30, h⟩
 ·rintro _ wr15 ⟨hL15, h⟩
  refine W_pz 1 rfl ?_
  refine W_ret ?_
  obtain rfl := Option.some.inj h
  refine At_body rfl rfl ?_
  exact ⟨hL15.ext, rfl⟩
noncomputable def conf_checkNode_2 (a0 : List (List UInt8)) : Option (Bool) :=
 Option.bind (idxf_checkNode_2 a0) (fun x1 => some (decide ((0 : Int) ≤ x1)))
theorem conf_checkNode_2_ok (w : World) (H : PH) (hH : Le H (hp w)) {a0 : List (List UInt8)} {v0_0 : Value} (h0_0 : Vec .st H v0_0 (a0)) {r : Bool} (h : conf_checkNode_2 a0 = some r) :
  Ok Tryz.prog 80 [v0_0, .func (.func 154) #[] #[]] w (fun v w' => Ext w w' ∧ v = .bool r) := by
 refine Ok_enter (n := 9) [(0, v0_0), (1, .func (.func 154) #[] #[])] func80 rfl rfl rfl rfl rfl ?_
 have hL := Lcl.start w
 refine W_pz 1 rfl ?_
 refine W_p 2 rfl ?_
 obtain ⟨x1, hb1, h⟩ := Go.L.bind_some h
 refine S_callL rfl rfl hL (idxf_checkNode_2_ok _ _ (gz_le hH hL) (h0_0.mono (gz_left hH)) hb1) ?_
 rintro _ w2 rfl hx2 hL2 hle2
 refine S_pz 2 rfl ?_
 refine W_ret ?_
 obtain rfl := Option.some.inj h
 refine At_body rfl rfl ?_
 exact ⟨hL2.ext, rfl⟩
end Go.Proofs.YtmfiaecglndldaaGreatDoor
end
section
namespace Go.Proofs.YtmfiaecglndldaaGreatDoor
open Go Go.E Go.RowKit
set_option maxHeartbeats 1000000
set_option maxRecDepth 10000
open _root_.Go.Proofs.Tryz
noncomputable def shapes_isPath (a0 : List UInt8) : Option (Bool) :=
 if (a0.length : Int) ≤ (330 : Int) then Option.bind (shapes_steps a0) (fun x3 => Option.bind (conf_isPath_1 x3) (fun x5 => some (!x5))) else some (false)
theorem shapes_isPath_ok (w : World) (H : PH) (hH : Le H (hp w)) {a0 : List UInt8}   {r : Bool} (h : shapes_isPath a0 = some r) :
  Ok Tryz.prog 43 [.string ⟨(a0).toArray⟩] w (fun v w' => Ext w w' ∧ v = .bool r) := by
 refine Ok_enter (n := 12) [(0, .string ⟨(a0).toArray⟩)] func43 rfl rfl rfl rfl rfl ?_
 have hL := Lcl.start w
 refine W_pz 1 rfl ?_
 refine W_p 1 rfl ?_
 refine S_v (r_lenS rfl underlying9) rfl ?_
 refine S_pu 2 rfl ?_
 refine S_split (s := 6) rfl (fun hg1 => ?_) (fun hg1 => ?_)
 ·replace h := Go.L.ite_p (of_decide_eq_true hg1) h
  refine S_guarded rfl rfl hg1 ?_
  refine S_v (RunsAt_pu rfl) rfl ?_
  refine S_guarded rfl rfl hg1 ?_
  obtain ⟨x3, hb3, h⟩ := Go.L.bind_some h
  refine S_callL rfl rfl hL (shapes_steps_ok _ _ (gz_le hH hL) hb3) ?_
  rintro u4_0 w4 ⟨_, rfl, hR4_0⟩ hx4 hL4 hle4
  have hv4_0 := hR4_0.vecG hH hL hx4
  refine S_guarded rfl rfl hg1 ?_
  obtain ⟨x5, hb5, h⟩ := Go.L.bind_some h
  refine S_callL rfl rfl hL4 (conf_isPath_1_ok _ _ (gz_le hH hL4) hv4_0 hb5) ?_
  rintro _ w6 rfl hx6 hL6 hle6
  replace hv4_0 := hv4_0.mono (gz_mono hH hle6)
  refine S_guarded rfl rfl hg1 ?_
  refine S_v (RunsAt_pu rfl) rfl ?_
  refine S_v (r_pickT rfl hg1 rfl) rfl ?_
  refine S_pz 1 rfl ?_
  refine W_ret ?_
  obtain rfl := Option.some.inj h
  refine At_body rfl rfl ?_
  exact ⟨hL6.ext, rfl⟩
 ·replace h := Go.L.ite_n (of_decide_eq_false hg1) h
  iterate 4 refine S_unwanted rfl rfl hg1 rfl ?_
  refine S_v (r_pickF rfl hg1 rfl) rfl ?_
  refine S_pz 1 rfl ?_
  refine W_ret ?_
  obtain rfl := Option.some.inj h
  refine At_body rfl rfl ?_
  exact ⟨hL.ext, rfl⟩
noncomputable def slices_CompactFunc_string_string_k4 (l233 : List (List UInt8)) (s5_234 : Int) : Option (((List (List UInt8)) × Int) ⊕ ((List (List UInt8)))) :=
 Go.L.chk (0 ≤ s5_234 ∧ s5_234 ≤ (l233.length : Int)) (Go.L.chk (0 ≤ s5_234 ∧ s5_234 ≤ ((l233.take s5_234.toNat ++ List.replicate (l233.length - s5_234.toNat) ([] : List UInt8)).length : Int)) (Option.map Sum.inr (some (((l233.take s5_234.toNat ++ List.replicate (l233.length - s5_234.toNat) ([] : List UInt8)).take s5_234.toNat)))))
noncomputable def slices_CompactFunc_string_string_bl5 (s5_128 : Int) : (List (List UInt8)) × Int × Int → Option (((List (List UInt8)) × Int × Int) ⊕ (((List (List UInt8)) × Int) ⊕ ((List (List UInt8))))) := fun ⟨l263, s5_264, s7_265⟩ =>
 if s7_265 < ((l263.drop s5_128.toNat).length : Int) then Go.L.chk (0 ≤ s7_265 ∧ s7_265 < ((l263.drop s5_128.toNat).length : Int)) (Go.L.chk (Go.L.I64 (s7_265 - (1 : Int))) (Go.L.chk (0 ≤ (s7_265 - (1 : Int)) ∧ (s7_265 - (1 : Int)) < ((l263.drop s5_128.toNat).length : Int)) (Option.bind (shapes_matches_1 ((l263.drop s5_128.toNat).getD s7_265.toNat default) ((l263.drop s5_128.toNat).getD ((s7_265 - (1 : Int)).toNat) default)) (fun x279 => if !x279 then Go.L.chk (0 ≤ s7_265 ∧ s7_265 < ((l263.drop s5_128.toNat).length : Int)) (Go.L.chk (0 ≤ s5_264 ∧ s5_264 < (l263.length : Int)) (Go.L.chk (Go.L.I64 (s5_264 + (1 : Int))) (Go.L.chk (Go.L.I64 (s7_265 + (1 : Int))) (some (Sum.inl ((l263.set s5_264.toNat ((l263.drop s5_128.toNat).getD s7_265.toNat default)), (s5_264 + (1 : Int)), (s7_265 + (1 : Int)))))))) else Go.L.chk (Go.L.I64 (s7_265 + (1 : Int))) (some (Sum.inl (l263, s5_264, (s7_265 + (1 : Int))))))))) else Option.map Sum.inr (slices_CompactFunc_string_string_k4 l263 s5_264)
noncomputable def slices_CompactFunc_string_string_l5 (s5_128 : Int) (s : (List (List UInt8)) × Int × Int) : Option (((List (List UInt8)) × Int) ⊕ ((List (List UInt8)))) := Go.L.run (slices_CompactFunc_string_string_bl5 s5_128) s
noncomputable def slices_CompactFunc_string_string_k3 (l127 : List (List UInt8)) (s5_186 : Int) : Option (((List (List UInt8)) × Int) ⊕ ((List (List UInt8)))) :=
 Go.L.chk (Go.L.I64 (s5_186 + (1 : Int))) (some (Sum.inl (l127, (s5_186 + (1 : Int)))))
noncomputable def slices_CompactFunc_string_string_k1 (l65 : List (List UInt8)) : Option ((List (List UInt8))) :=
 some (l65)
noncomputable def slices_CompactFunc_string_string_bl2 : (List (List UInt8)) × Int → Option (((List (List UInt8)) × Int) ⊕ ((List (List UInt8)))) := fun ⟨l127, s5_128⟩ =>
 if s5_128 < (l127.length : Int) then Go.L.chk (0 ≤ s5_128 ∧ s5_128 < (l127.length : Int)) (Go.L.chk (Go.L.I64 (s5_128 - (1 : Int))) (Go.L.chk (0 ≤ (s5_128 - (1 : Int)) ∧ (s5_128 - (1 : Int)) < (l127.length : Int)) (Option.bind (shapes_matches_1 (l127.getD s5_128.toNat default) (l127.getD ((s5_128 - (1 : Int)).toNat) default)) (fun x198 => if x198 then Go.L.chk (0 ≤ s5_128 ∧ s5_128 ≤ (l127.length : Int)) ((slices_CompactFunc_string_string_l5 s5_128) (l127, s5_128, (1 : Int))) else (slices_CompactFunc_string_string_k3 l127) s5_128)))) else Option.map Sum.inr (slices_CompactFunc_string_string_k1 l127)
noncomputable def slices_CompactFunc_string_string_l2 (s : (List (List UInt8)) × Int) : Option ((List (List UInt8))) := Go.L.run (slices_CompactFunc_string_string_bl2) s
noncomputable def slices_CompactFunc_string_string (a0 : List (List UInt8)) : Option ((List (List UInt8))) :=
 if (a0.length : Int) < (2 : Int) then some (a0) else slices_CompactFunc_string_string_l2 (a0, (1 : Int))
theorem slices_CompactFunc_string_string_fr {w0 w : World} {H : PH} (hH : Le H (hp w0)) {O : List Res} {a0 : List (List UInt8)} {va0 : Value} {xsa0 : List Value} (hL : Lcl w0 (HAppend.hAppend ([.row (va0) 9 1 (a0).length (xsa0)] : List Res) O) w) (hea0 : Elems .st (gz H w0 w (HAppend.hAppend ([.row (va0) 9 1 (a0).length (xsa0)] : List Res) O)) (a0) xsa0) {r : (List (List UInt8))} (h : slices_CompactFunc_string_string a0 = some r) :
  Ok Tryz.prog 82 [va0, .func (.func 83) #[] #[]] w (fun v w' => ∃ (u0 : Value) (y0 : List Value), v = u0 ∧ Lcl w0 (HAppend.hAppend ([.row u0 9 1 (r).length y0] : List Res) O) w' ∧ Le (fz w (HAppend.hAppend ([.row (va0) 9 1 (a0).length (xsa0)] : List Res) O)) (fz w' (HAppend.hAppend ([.row u0 9 1 (r).length y0] : List Res) O)) ∧ Elems .st (gz H w0 w' (HAppend.hAppend ([.row u0 9 1 (r).length y0] : List Res) O)) (r) y0) := by
 refine Ok_enter (n := 66) [(0, va0), (1, .func (.func 83) #[] #[])] func82 rfl rfl rfl rfl rfl ?_
 have hT := Le.refl (fz w (HAppend.hAppend ([.row (va0) 9 1 (a0).length (xsa0)] : List Res) O))
 refine W_pz 1 rfl ?_
 refine W_seq ?_
 refine W_p 1 rfl ?_
 refine S_v (r_lenR (i := 0) rfl underlying30 hL rfl) rfl ?_
 refine S_pz 1 rfl ?_
 refine W_if rfl (fun hc1 => ?_) (fun hc1 => ?_)
 ·replace h := Go.L.ite_p hc1 h
  refine W_pz 2 rfl ?_
  refine W_ret ?_
  refine At_seq_ret ?_
  obtain rfl := Option.some.inj h
  refine At_body rfl rfl ?_
  exact ⟨va0, xsa0, rfl, hL, hT, hea0⟩
 ·replace h := Go.L.ite_n hc1 h
  refine W_skip ?_
  refine At_seq ?_
  refine W_cut (σ := (List (List UInt8)) × Value × (List Value)) (fun ⟨l65, vl65, xsl65⟩ => [(0, vl65)]) (fun ⟨l65, vl65, xsl65⟩ wr => InO w0 (HAppend.hAppend ([.row (vl65) 9 1 (l65).length (xsl65)] : List Res) O) wr fun Oz => Elems .st (gz H w0 wr Oz) (l65) (xsl65) ∧ Le (fz w (HAppend.hAppend ([.row (va0) 9 1 (a0).length (xsa0)] : List Res) O)) (fz wr Oz) ∧ slices_CompactFunc_string_string_k1 l65 = some r) ?_ ?_
  ·refine W_pz 1 rfl ?_
   refine W_block ?_
   obtain ⟨n129, h⟩ := Go.L.run_some h
   refine W_loop (σ := (List (List UInt8)) × Int × Value × (List Value) × Nat) (fun ⟨l127, s5_128, vl127, xsl127, n⟩ => [(0, vl127), (1, .func (.func 83) #[] #[]), (5, .int .i64 s5_128)]) (fun ⟨l127, s5_128, vl127, xsl127, n⟩ wr => InO w0 (HAppend.hAppend ([.row (vl127) 9 1 (l127).length (xsl127)] : List Res) O) wr fun Oz => Elems .st (gz H w0 wr Oz) (l127) (xsl127) ∧ Le (fz w (HAppend.hAppend ([.row (va0) 9 1 (a0).length (xsa0)] : List Res) O)) (fz wr Oz) ∧ Go.L.itr slices_CompactFunc_string_string_bl2 n (l127, s5_128) = some r) (fun ⟨l127, s5_128, vl127, xsl127, n⟩ => n) (a0, (1 : Int), va0, xsa0, n129) (.cons rfl (.cons rfl (.cons rfl (Sub.nil _)))) ⟨hL, hea0, hT, h⟩ ?_
   rintro ⟨l127, s5_128, vl127, xsl127, nn129⟩ wr129 ⟨hL129, hel127, hT, h⟩
   obtain ⟨n129, e129, rfl, h, hm129⟩ := Go.L.itr_some h
   refine W_seq ?_
   refine W_p 2 rfl ?_
   refine S_v (r_lenR (i := 0) rfl underlying30 hL129 rfl) rfl ?_
   refine S_pz 1 rfl ?_
   refine W_if rfl (fun hc131 => ?_) (fun hc131 => ?_)
   ·replace h := Go.L.ite_p hc131 h
    refine W_skip ?_
    refine At_seq ?_
    refine W_cut (σ := Int) (fun s5_186 => [(0, vl127), (1, .func (.func 83) #[] #[]), (5, .int .i64 s5_186)]) (fun s5_186 wr => InO w0 (HAppend.hAppend ([.row (vl127) 9 1 (l127).length (xsl127)] : List Res) O) wr fun Oz => Elems .st (gz H w0 wr Oz) (l127) (xsl127) ∧ Le (fz w (HAppend.hAppend ([.row (va0) 9 1 (a0).length (xsa0)] : List Res) O)) (fz wr Oz) ∧ (slices_CompactFunc_string_string_k3 l127) s5_186 = some e129) ?_ ?_
    ·refine W_block ?_
     refine W_seqd (.q 0 (.q 1 (.q 2 (.q 3 (.q 4 (.q 5 (.q 6 (.q 7 (.q 8 (.q 9 (.tail 10))))))))))) mixed (by kernel_rfl) (fun w189 hx189 => ?_)
     have hL190 := hL129.call hx189
     have hle190 := fz_ext hL129 hx189
     replace hel127 := hel127.mono (gz_mono hH hle190)
     replace hT := hT.trans hle190
     refine D_pu 3 rfl ?_
     obtain ⟨hk192, h⟩ := Go.L.chk_some h
     refine D_index rfl rfl rfl underlying30 zr9 (hL190.vecN hH (i := 0) rfl hel127) s5_128.toNat (Int.toNat_of_nonneg hk192.1).symm (idx_lt hk192) rfl ?_
     rintro p191 _ rfl hp191
     refine D_v (r_load1 rfl underlying9 rfl hp191 (Le.refl _)) rfl rfl ?_
     refine D_pu 2 rfl ?_
     obtain ⟨hk193, h⟩ := Go.L.chk_some h
     refine D_v (r_ar64 rfl rfl rfl hk193) rfl rfl ?_
     obtain ⟨hk195, h⟩ := Go.L.chk_some h
     refine D_index rfl rfl rfl underlying30 zr9 (hL190.vecN hH (i := 0) rfl hel127) ((s5_128 - (1 : Int)).toNat) (Int.toNat_of_nonneg hk195.1).symm (idx_lt hk195) rfl ?_
     rintro p194 _ rfl hp194
     refine D_v (r_load1 rfl underlying9 rfl hp194 (Le.refl _)) rfl rfl ?_
     refine D_tail (fun w196 hx196 => ?_)
     have hL197 := hL190.call hx196
     have hle197 := fz_ext hL190 hx196
     replace hel127 := hel127.mono (gz_mono hH hle197)
     replace hT := hT.trans hle197
     obtain ⟨x198, hb198, h⟩ := Go.L.bind_some h
     refine S_callwL rfl rfl rfl hL197 (shapes_matches_1_ok _ _ (gz_le hH hL197) hb198) ?_
     rintro _ w199 rfl hx199 hL199 hle199
     replace hel127 := hel127.mono (gz_mono hH hle199)
     replace hT := hT.trans hle199
     refine S_seqnil ?_
     refine W_cond rfl (fun hc200 => ?_) (fun hc200 => ?_)
     ·replace h := Go.L.ite_t hc200 h
      refine W_p 2 rfl ?_
      obtain ⟨hk203, h⟩ := Go.L.chk_some h
      refine S_rsub 0 rfl rfl underlying30 zr9 hL199 rfl hk203 rfl ?_
      intro v202 hs202
      refine S_pz 1 rfl ?_
      refine W_cut (σ := (List (List UInt8)) × Int × (List Value)) (fun ⟨l233, s5_234, xsl233⟩ => [(0, vl127), (5, .int .i64 s5_234)]) (fun ⟨l233, s5_234, xsl233⟩ wr => InO w0 (HAppend.hAppend ([.row (vl127) 9 1 (l233).length (xsl233)] : List Res) O) wr fun Oz => Elems .st (gz H w0 wr Oz) (l233) (xsl233) ∧ Le (fz w (HAppend.hAppend ([.row (va0) 9 1 (a0).length (xsa0)] : List Res) O)) (fz wr Oz) ∧ slices_CompactFunc_string_string_k4 l233 s5_234 = some e129) ?_ ?_
      ·refine W_pz 1 rfl ?_
       refine W_block ?_
       obtain ⟨n266, h⟩ := Go.L.run_some h
       refine W_loop (σ := (List (List UInt8)) × Int × Int × (List Value) × Nat) (fun ⟨l263, s5_264, s7_265, xsl263, n⟩ => [(0, vl127), (1, .func (.func 83) #[] #[]), (5, .int .i64 s5_264), (6, v202), (7, .int .i64 s7_265)]) (fun ⟨l263, s5_264, s7_265, xsl263, n⟩ wr => InO w0 (HAppend.hAppend ([.row (vl127) 9 1 (l263).length (xsl263)] : List Res) O) wr fun Oz => Elems .st (gz H w0 wr Oz) (l263) (xsl263) ∧ Le (fz w (HAppend.hAppend ([.row (va0) 9 1 (a0).length (xsa0)] : List Res) O)) (fz wr Oz) ∧ Go.L.itr (slices_CompactFunc_string_string_bl5 s5_128) n (l263, s5_264, s7_265) = some e129) (fun ⟨l263, s5_264, s7_265, xsl263, n⟩ => n) (l127, s5_128, (1 : Int), xsl127, n266) (.cons rfl (.cons rfl (.cons rfl (.cons rfl (.cons rfl (Sub.nil _)))))) ⟨hL199, hel127, hT, h⟩ ?_
       rintro ⟨l263, s5_264, s7_265, xsl263, nn266⟩ wr266 ⟨hL266, hel263, hT, h⟩
       obtain ⟨n266, e266, rfl, h, hm266⟩ := Go.L.itr_some h
       refine W_seq ?_
       refine W_p 2 rfl ?_
       refine S_v (r_len rfl underlying30 (RSub.vec hs202 (hL266.vecN hH (i := 0) rfl hel263) rfl)) rfl ?_
       refine S_pz 1 rfl ?_
       refine W_if rfl (fun hc268 => ?_) (fun hc268 => ?_)
       ·replace h := Go.L.ite_p hc268 h
        refine W_skip ?_
        refine At_seq ?_
        refine W_seq ?_
        refine W_block ?_
        refine W_seqd (.q 0 (.q 1 (.q 2 (.q 3 (.q 4 (.q 5 (.q 6 (.q 7 (.q 8 (.q 9 (.tail 10))))))))))) mixed (by kernel_rfl) (fun w270 hx270 => ?_)
        have hL271 := hL266.call hx270
        have hle271 := fz_ext hL266 hx270
        replace hel263 := hel263.mono (gz_mono hH hle271)
        replace hT := hT.trans hle271
        refine D_pu 3 rfl ?_
        obtain ⟨hk273, h⟩ := Go.L.chk_some h
        refine D_index rfl rfl rfl underlying30 zr9 (RSub.vec hs202 (hL271.vecN hH (i := 0) rfl hel263) rfl) s7_265.toNat (Int.toNat_of_nonneg hk273.1).symm (idx_lt hk273) rfl ?_
        rintro p272 _ rfl hp272
        refine D_v (r_load1 rfl underlying9 rfl hp272 (Le.refl _)) rfl rfl ?_
        refine D_pu 2 rfl ?_
        obtain ⟨hk274, h⟩ := Go.L.chk_some h
        refine D_v (r_ar64 rfl rfl rfl hk274) rfl rfl ?_
        obtain ⟨hk276, h⟩ := Go.L.chk_some h
        refine D_index rfl rfl rfl underlying30 zr9 (RSub.vec hs202 (hL271.vecN hH (i := 0) rfl hel263) rfl) ((s7_265 - (1 : Int)).toNat) (Int.toNat_of_nonneg hk276.1).symm (idx_lt hk276) rfl ?_
        rintro p275 _ rfl hp275
        refine D_v (r_load1 rfl underlying9 rfl hp275 (Le.refl _)) rfl rfl ?_
        refine D_tail (fun w277 hx277 => ?_)
        have hL278 := hL271.call hx277
        have hle278 := fz_ext hL271 hx277
        replace hel263 := hel263.mono (gz_mono hH hle278)
        replace hT := hT.trans hle278
        obtain ⟨x279, hb279, h⟩ := Go.L.bind_some h
        refine S_callwL rfl rfl rfl hL278 (shapes_matches_1_ok _ _ (gz_le hH hL278) hb279) ?_
        rintro _ w280 rfl hx280 hL280 hle280
        replace hel263 := hel263.mono (gz_mono hH hle280)
        replace hT := hT.trans hle280
        refine S_pz 1 rfl ?_
        refine W_cond rfl (fun hc281 => ?_) (fun hc281 => ?_)
        ·replace h := Go.L.ite_t hc281 h
         refine W_p 4 rfl ?_
         obtain ⟨hk284, h⟩ := Go.L.chk_some h
         refine S_index rfl rfl underlying30 zr9 (RSub.vec hs202 (hL280.vecN hH (i := 0) rfl hel263) rfl) s7_265.toNat (Int.toNat_of_nonneg hk284.1).symm (idx_lt hk284) rfl ?_
         rintro p283 _ rfl hp283
         refine S_v (r_load1 rfl underlying9 rfl hp283 (Le.refl _)) rfl ?_
         obtain ⟨hk286, h⟩ := Go.L.chk_some h
         refine S_indexR 0 rfl rfl underlying30 zr9 hL280 rfl s5_264.toNat (Int.toNat_of_nonneg hk286.1).symm (idx_lt hk286) rfl ?_
         intro p285 hp285
         refine S_storeE (z := (l263.drop s5_128.toNat).getD s7_265.toNat default) (j := s5_264.toNat) 0 rfl rfl rfl zr9 hH hL280 rfl hel263 hp285 rfl (idx_lt hk286) rfl ?_
         intro w287 xs287 hL287 hle287 he287
         replace hT := hT.trans hle287
         refine S_seqnil ?_
         refine W_region ?_
         refine S_pu 1 rfl ?_
         obtain ⟨hk288, h⟩ := Go.L.chk_some h
         refine S_v (r_ar64 rfl rfl rfl hk288) rfl ?_
         refine S_pu 1 rfl ?_
         refine S_nil ?_
         refine At_block ?_
         refine At_seq ?_
         refine W_region ?_
         refine S_pu 1 rfl ?_
         obtain ⟨hk289, h⟩ := Go.L.chk_some h
         refine S_v (r_ar64 rfl rfl rfl hk289) rfl ?_
         refine S_pu 1 rfl ?_
         refine S_nil ?_
         have h := Go.L.Nxt.again h hm266
         refine At_round ((l263.set s5_264.toNat ((l263.drop s5_128.toNat).getD s7_265.toNat default)), (s5_264 + (1 : Int)), (s7_265 + (1 : Int)), xs287, n266) (.cons rfl (.cons rfl (.cons rfl (.cons rfl (.cons rfl (Sub.nil _)))))) ⟨hL287, he287, hT, h⟩ (Nat.lt_succ_self _)
        ·replace h := Go.L.ite_f hc281 h
         refine W_skip ?_
         refine At_block ?_
         refine At_seq ?_
         refine W_region ?_
         refine S_pu 1 rfl ?_
         obtain ⟨hk291, h⟩ := Go.L.chk_some h
         refine S_v (r_ar64 rfl rfl rfl hk291) rfl ?_
         refine S_pu 1 rfl ?_
         refine S_nil ?_
         have h := Go.L.Nxt.again h hm266
         refine At_round (l263, s5_264, (s7_265 + (1 : Int)), xsl263, n266) (.cons rfl (.cons rfl (.cons rfl (.cons rfl (.cons rfl (Sub.nil _)))))) ⟨hL280, hel263, hT, h⟩ (Nat.lt_succ_self _)
       ·replace h := Go.L.ite_n hc268 h
        refine W_exit ?_
        refine At_seq_exit ?_
        refine At_loop_exit ?_
        replace h := Go.L.Nxt.out h hm266
        refine At_exit ?_
        refine At_cut (l263, s5_264, xsl263) (.cons rfl (.cons rfl (Sub.nil _))) ⟨hL266, hel263, hT, h⟩
      ·rintro ⟨l233, s5_234, xsl233⟩ wr235 ⟨hL235, hel233, hT, h⟩
       refine W_p 2 rfl ?_
       obtain ⟨hk295, h⟩ := Go.L.chk_some h
       refine S_rsub 0 rfl rfl underlying30 zr9 hL235 rfl hk295 rfl ?_
       intro v294 hs294
       refine S_clearR (r := .st) (l := l233) (z := ([] : List UInt8)) 0 rfl hs294 underlying30 zr9 rfl rfl rfl hH hL235 rfl hel233 (fun _ => rfl) ?_
       intro w296 xs296 hL296 hle296 he296
       replace hT := hT.trans hle296
       refine S_seqnil ?_
       refine W_p 2 rfl ?_
       obtain ⟨hk298, h⟩ := Go.L.chk_some h
       refine S_cutR (r := .st) (l := (l233.take s5_234.toNat ++ List.replicate (l233.length - s5_234.toNat) ([] : List UInt8))) 0 rfl rfl underlying30 zr9 rfl hH hL296 rfl he296 hk298 rfl ?_
       intro v297 xs297 hL297 hle297 he297
       replace hT := hT.trans hle297
       refine S_pz 1 rfl ?_
       refine W_ret ?_
       refine At_block_ret ?_
       refine At_cut_ret ?_
       refine At_loop_ret ?_
       replace h := Go.L.Nxt.out h hm129
       refine At_block_ret ?_
       refine At_cut_ret ?_
       obtain rfl := Option.some.inj h
       refine At_body rfl rfl ?_
       exact ⟨v297, xs297, rfl, hL297, hT, he297⟩
     ·replace h := Go.L.ite_f hc200 h
      refine W_skip ?_
      refine At_block ?_
      refine At_cut s5_128 (.cons rfl (.cons rfl (.cons rfl (Sub.nil _)))) ⟨hL199, hel127, hT, h⟩
    ·rintro s5_186 wr187 ⟨hL187, hel127, hT, h⟩
     refine W_region ?_
     refine S_pu 1 rfl ?_
     obtain ⟨hk301, h⟩ := Go.L.chk_some h
     refine S_v (r_ar64 rfl rfl rfl hk301) rfl ?_
     refine S_pu 1 rfl ?_
     refine S_nil ?_
     have h := Go.L.Nxt.again h hm129
     refine At_round (l127, (s5_186 + (1 : Int)), vl127, xsl127, n129) (.cons rfl (.cons rfl (.cons rfl (Sub.nil _)))) ⟨hL187, hel127, hT, h⟩ (Nat.lt_succ_self _)
   ·replace h := Go.L.ite_n hc131 h
    refine W_exit ?_
    refine At_seq_exit ?_
    refine At_loop_exit ?_
    replace h := Go.L.Nxt.out h hm129
    refine At_exit ?_
    refine At_cut (l127, vl127, xsl127) (.cons rfl (Sub.nil _)) ⟨hL129, hel127, hT, h⟩
  ·rintro ⟨l65, vl65, xsl65⟩ wr66 ⟨hL66, hel65, hT, h⟩
   refine W_pz 2 rfl ?_
   refine W_ret ?_
   obtain rfl := Option.some.inj h
   refine At_body rfl rfl ?_
   exact ⟨vl65, xsl65, rfl, hL66, hT, hel65⟩
noncomputable def shapes_matches (a0 : List UInt8) (a1 : List UInt8) : Option (Bool) :=
 Option.bind (shapes_steps a0) (fun x1 => Option.bind (slices_CompactFunc_string_string x1) (fun x3 => Option.bind (shapes_steps a1) (fun x5 => Option.bind (shapes_match x3 x5) (fun x7 => some (x7)))))
theorem shapes_matches_ok (w : World) (H : PH) (hH : Le H (hp w)) {a0 : List UInt8} {a1 : List UInt8}   {r : Bool} (h : shapes_matches a0 a1 = some r) :
  Ok Tryz.prog 44 [.string ⟨(a0).toArray⟩, .string ⟨(a1).toArray⟩] w (fun v w' => Ext w w' ∧ v = .bool r) := by
 refine Ok_enter (n := 13) [(0, .string ⟨(a0).toArray⟩), (1, .string ⟨(a1).toArray⟩)] func44 rfl rfl rfl rfl rfl ?_
 have hL := Lcl.start w
 refine W_pz 1 rfl ?_
 refine W_p 1 rfl ?_
 obtain ⟨x1, hb1, h⟩ := Go.L.bind_some h
 refine S_callL rfl rfl hL (shapes_steps_ok _ _ (gz_le hH hL) hb1) ?_
 rintro u2_0 w2 ⟨_, rfl, hR2_0⟩ hx2 hL2 hle2
 obtain ⟨xs2, hL2, hle2, he2⟩ := hR2_0.take hH hL hx2
 obtain ⟨x3, hb3, h⟩ := Go.L.bind_some h
 refine S_call rfl rfl (slices_CompactFunc_string_string_fr (a0 := x1) (O := []) hH hL2 he2 hb3) ?_
 rintro u4_0 w4 ⟨_, y4_0, rfl, hL4, hle4, hf4_0⟩
 refine S_pz 1 rfl ?_
 refine W_p 2 rfl ?_
 obtain ⟨x5, hb5, h⟩ := Go.L.bind_some h
 refine S_callL rfl rfl hL4 (shapes_steps_ok _ _ (gz_le hH hL4) hb5) ?_
 rintro u6_0 w6 ⟨_, rfl, hR6_0⟩ hx6 hL6 hle6
 have hv6_0 := hR6_0.vecG hH hL4 hx6
 replace hf4_0 := hf4_0.mono (gz_mono hH hle6)
 obtain ⟨x7, hb7, h⟩ := Go.L.bind_some h
 refine S_callL rfl rfl hL6 (shapes_match_ok _ _ (Le.refl _) (hL6.vecN hH (i := 0) rfl hf4_0) (hv6_0.mono (gz_le hH hL6)) hb7) ?_
 rintro _ w8 rfl hx8 hL8 hle8
 replace hf4_0 := hf4_0.mono (gz_mono hH hle8)
 replace hv6_0 := hv6_0.mono (gz_mono hH hle8)
 refine S_pz 1 rfl ?_
 refine W_ret ?_
 obtain rfl := Option.some.inj h
 refine At_body rfl rfl ?_
 exact ⟨hL8.ext, rfl⟩
noncomputable def shapes_Match (a0 : List UInt8) (a1 : List UInt8) : Option (Bool × (Int × Int)) :=
 Option.bind (shapes_Check a0) (fun x2 => if x2.1 = (0 : Int) ∧ x2.2 = (0 : Int) then (if (330 : Int) < (a1.length : Int) then Option.bind (shapes_fault (3 : Int) (-2 : Int)) (fun x16 => some (false, (x16.1, x16.2))) else Option.bind (shapes_isPath a1) (fun x20 => if !x20 then Option.bind (shapes_fault (6 : Int) (-2 : Int)) (fun x24 => some (false, (x24.1, x24.2))) else Option.bind (shapes_matches a0 a1) (fun x28 => some (x28, ((0 : Int), (0 : Int)))))) else some (false, (x2.1, x2.2)))
theorem shapes_Match_ok (w : World) (H : PH) (hH : Le H (hp w)) {a0 : List UInt8} {a1 : List UInt8}   {r : Bool × (Int × Int)} (h : shapes_Match a0 a1 = some r) :
  Ok Tryz.prog 12 [.string ⟨(a0).toArray⟩, .string ⟨(a1).toArray⟩] w (fun v w' => Ext w w' ∧ v = .tuple #[.bool r.1, .agg #[.int .i64 r.2.1, .int .i64 r.2.2]]) := by
 refine Ok_enter (n := 25) [(0, .string ⟨(a0).toArray⟩), (1, .string ⟨(a1).toArray⟩)] func12 rfl rfl rfl rfl rfl ?_
 have hL := Lcl.start w
 refine W_p 1 rfl ?_
 refine S_alloc zr23 rfl rfl hL ?_
 intro w1 b1 hL1 hle1 _
 refine S_seqnil ?_
 refine W_seq ?_
 refine W_p 1 rfl ?_
 obtain ⟨x2, hb2, h⟩ := Go.L.bind_some h
 refine S_callL rfl rfl hL1 (shapes_Check_ok _ _ (gz_le hH hL1) hb2) ?_
 rintro _ w3 rfl hx3 hL3 hle3
 refine S_alloc zr23 rfl rfl hL3 ?_
 intro w4 b4 hL4 hle4 _
 refine S_storeBN 0 rfl rfl rfl zr23 hL4 rfl rfl (onc rfl (onc rfl on0)) ?_
 intro w5 hL5 hle5
 refine S_seqnil ?_
 refine W_seqr ?_
 refine S_v (r_loadBN 0 rfl underlying23 rfl zr23 hL5 rfl) rfl ?_
 refine S_v (r_build rfl (fun _ => bld23_z _)) rfl ?_
 refine S_v (r_neA rfl rfl eqg23 (eq23 _ _ _ _ )) rfl ?_
 refine S_seqnil ?_
 refine W_ifn rfl (fun hc6 => ?_) (fun hc6 => ?_)
 ·replace h := Go.L.ite_n hc6 h
  refine W_seqd (.q 0 (.q 1 (.tail 2))) mixed (by kernel_rfl) (fun w8 hx8 => ?_)
  have hL9 := hL5.call hx8
  refine D_v (r_loadBN 0 rfl underlying23 rfl zr23 hL9 rfl) rfl rfl ?_
  refine D_pu 1 rfl ?_
  refine D_tail (fun w10 hx10 => ?_)
  have hL11 := hL9.call hx10
  refine S_storeBN 1 rfl rfl rfl zr23 hL11 rfl rfl (onc rfl (onc rfl on0)) ?_
  intro w12 hL12 hle12
  refine S_seqnil ?_
  refine W_ret ?_
  refine At_seq_ret ?_
  obtain rfl := Option.some.inj h
  refine At_got2 rfl (.tmp rfl) (.cell rfl underlying23 rfl zr23 (box_ptr (i := 1) hL12 rfl)) ?_
  exact ⟨hL12.ext, rfl⟩
 ·replace h := Go.L.ite_p hc6 h
  refine W_skip ?_
  refine At_seq ?_
  refine W_seq ?_
  refine W_p 1 rfl ?_
  refine S_v (r_lenS rfl underlying9) rfl ?_
  refine S_pz 1 rfl ?_
  refine W_if rfl (fun hc14 => ?_) (fun hc14 => ?_)
  ·replace h := Go.L.ite_p hc14 h
   refine W_seqr ?_
   obtain ⟨x16, hb16, h⟩ := Go.L.bind_some h
   refine S_callL rfl rfl hL5 (shapes_fault_ok _ _ (gz_le hH hL5) hb16) ?_
   rintro _ w17 rfl hx17 hL17 hle17
   refine S_pu 1 rfl ?_
   refine S_storeBN 1 rfl rfl rfl zr23 hL17 rfl rfl (onc rfl (onc rfl on0)) ?_
   intro w18 hL18 hle18
   refine S_seqnil ?_
   refine W_ret ?_
   refine At_seq_ret ?_
   obtain rfl := Option.some.inj h
   refine At_got2 rfl (.tmp rfl) (.cell rfl underlying23 rfl zr23 (box_ptr (i := 1) hL18 rfl)) ?_
   exact ⟨hL18.ext, rfl⟩
  ·replace h := Go.L.ite_n hc14 h
   refine W_skip ?_
   refine At_seq ?_
   refine W_seq ?_
   refine W_p 1 rfl ?_
   obtain ⟨x20, hb20, h⟩ := Go.L.bind_some h
   refine S_callL rfl rfl hL5 (shapes_isPath_ok _ _ (gz_le hH hL5) hb20) ?_
   rintro _ w21 rfl hx21 hL21 hle21
   refine S_pz 1 rfl ?_
   refine W_cond rfl (fun hc22 => ?_) (fun hc22 => ?_)
   ·replace h := Go.L.ite_t hc22 h
    refine W_seqr ?_
    obtain ⟨x24, hb24, h⟩ := Go.L.bind_some h
    refine S_callL rfl rfl hL21 (shapes_fault_ok _ _ (gz_le hH hL21) hb24) ?_
    rintro _ w25 rfl hx25 hL25 hle25
    refine S_pu 1 rfl ?_
    refine S_storeBN 1 rfl rfl rfl zr23 hL25 rfl rfl (onc rfl (onc rfl on0)) ?_
    intro w26 hL26 hle26
    refine S_seqnil ?_
    refine W_ret ?_
    refine At_seq_ret ?_
    obtain rfl := Option.some.inj h
    refine At_got2 rfl (.tmp rfl) (.cell rfl underlying23 rfl zr23 (box_ptr (i := 1) hL26 rfl)) ?_
    exact ⟨hL26.ext, rfl⟩
   ·replace h := Go.L.ite_f hc22 h
    refine W_skip ?_
    refine At_seq ?_
    refine W_p 2 rfl ?_
    obtain ⟨x28, hb28, h⟩ := Go.L.bind_some h
    refine S_callL rfl rfl hL21 (shapes_matches_ok _ _ (gz_le hH hL21) hb28) ?_
    rintro _ w29 rfl hx29 hL29 hle29
    refine S_v (r_build rfl (fun _ => bld23_z _)) rfl ?_
    refine S_pu 1 rfl ?_
    refine S_storeBN 1 rfl rfl rfl zr23 hL29 rfl rfl (onc rfl (onc rfl on0)) ?_
    intro w30 hL30 hle30
    refine S_seqnil ?_
    refine W_ret ?_
    obtain rfl := Option.some.inj h
    refine At_got2 rfl (.tmp rfl) (.cell rfl underlying23 rfl zr23 (box_ptr (i := 1) hL30 rfl)) ?_
    exact ⟨hL30.ext, rfl⟩
end Go.Proofs.YtmfiaecglndldaaGreatDoor
end
