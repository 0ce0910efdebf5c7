/- Generated walks: laws on shares that write into shares. -/
import Derived.Test.YtidedcbaahiplaaP2
import Derived.KernelRfl
namespace Go.Proofs.Ytidedcbaahiplaa
open Go Go.E Go.RowKit
noncomputable def shf_fault (a0 : Int) (a1 : Int) : Option ((Int × Int)) :=
  some ((a0, a1))

set_option maxRecDepth 10000 in
theorem shf_fault_ok (w : World) (H : PH) (hH : Le H (hp w)) {a0 : Int} {a1 : Int}   {r : (Int × Int)} (h : shf_fault a0 a1 = some r) :
    Ok Try.prog 37 [.int .i64 a0, .int .i64 a1] w (fun v w' => Ext w w' ∧ v = .agg #[.int .i64 r.1, .int .i64 r.2]) := by
  refine Ok_enter (n := 8) [(0, .int .i64 a0), (1, .int .i64 a1)] Try.func37 rfl rfl rfl rfl rfl ?_
  have hL := Lcl.start w
  refine W_seqr ?_
  refine S_alloc zr25 rfl rfl hL ?_
  intro w1 b1 hL1 hle1 _
  refine S_seqnil ?_
  refine W_seqr ?_
  refine S_pu 2 rfl ?_
  refine S_v (r_build rfl (fun _ => bld25_0_1 _ _ _)) rfl ?_
  refine S_storeBN 0 rfl rfl rfl zr25 hL1 rfl rfl (onc rfl (onc rfl on0)) ?_
  intro w2 hL2 hle2
  refine S_seqnil ?_
  refine W_ret ?_
  obtain rfl := Option.some.inj h
  refine At_got1 rfl (.cell rfl Try.underlying25 rfl zr25 (box_ptr (i := 0) hL2 rfl)) ?_
  exact ⟨hL2.ext, rfl⟩

noncomputable def shf_valid (a0 : Int) : Option (Bool) :=
  some (decide (((1 : Int) ≤ a0) ∧ (a0 ≤ (10 : Int))))

set_option maxRecDepth 10000 in
theorem shf_valid_ok (w : World) (H : PH) (hH : Le H (hp w)) {a0 : Int}   {r : Bool} (h : shf_valid a0 = some r) :
    Ok Try.prog 38 [.int .i64 a0] w (fun v w' => Ext w w' ∧ v = .bool r) := by
  refine Ok_enter (n := 9) [(0, .int .i64 a0)] Try.func38 rfl rfl rfl rfl rfl ?_
  have hL := Lcl.start w
  refine W_seqr ?_
  refine S_pu 1 rfl ?_
  refine S_seqnil ?_
  refine W_seqr ?_
  refine S_pu 3 rfl ?_
  refine S_and 2 2 rfl rfl rfl rfl rfl rfl ?_
  refine S_pu 1 rfl ?_
  refine S_seqnil ?_
  refine W_ret ?_
  obtain rfl := Option.some.inj h
  refine At_body rfl rfl ?_
  exact ⟨hL.ext, rfl⟩

def evalL (S : List UInt8) (m : Int) (R : List UInt8) (x : UInt8) : Option (List UInt8) := Go.L.chk (S.length ≤ 4096 ∧ 1 ≤ m ∧ m ≤ 10 ∧ R.length = (m.toNat - 1) * S.length) (some (M.ev S m.toNat R x))
theorem eval_l (w : World) (H : PH) (hH : Le H (hp w)) {u v : Value} {S R : List UInt8} {m : Int} {x : UInt8} (ha : Vec .byte H u S) (hb : Vec .byte H v R) {r : List UInt8} (h : evalL S m R x = some r) : Ok Try.prog 39 [u, .int .i64 m, v, .int .u8 (x.toNat : Int)] w (fun v w' => Ext w w' ∧ ∃ u0, v = u0 ∧ OwnH 5 .byte H w w' u0 r) := by
  obtain ⟨hk, h⟩ := Go.L.chk_some h
  obtain rfl := Option.some.inj h
  have h1 := eval_ok w (m := m.toNat) (x := x) (ha.mono hH) (hb.mono hH) hk.1 (by omega) (by omega) hk.2.2.2
  rw [Int.toNat_of_nonneg (by omega)] at h1
  exact h1.mono fun v w' ⟨hx, ho⟩ => ⟨hx, v, rfl, ho.toH⟩
noncomputable def shares_Split_k1 (l42 : List (Int × (List UInt8))) : Option ((List (Int × (List UInt8))) × (Int × Int)) :=
  some (l42, ((0 : Int), (0 : Int)))
noncomputable def shares_Split_bl2 (a0 : List UInt8) (a1 : Int) (a2 : Int) (a3 : List UInt8) : (List (Int × (List UInt8))) × Int → Option (((List (Int × (List UInt8))) × Int) ⊕ ((List (Int × (List UInt8))) × (Int × Int))) := fun ⟨l54, s11_55⟩ =>
  if s11_55 ≤ a2 then Option.bind (evalL a0 a1 a3 (Go.L.u8 s11_55)) (fun x60 => Go.L.chk (Go.E.Cap 32 (l54.length + 1)) (Go.L.chk (Go.L.I64 (s11_55 + (1 : Int))) (some (Sum.inl ((l54 ++ [(s11_55, x60)]), (s11_55 + (1 : Int))))))) else Option.map Sum.inr (shares_Split_k1 l54)
noncomputable def shares_Split_l2 (a0 : List UInt8) (a1 : Int) (a2 : Int) (a3 : List UInt8) (s : (List (Int × (List UInt8))) × Int) : Option ((List (Int × (List UInt8))) × (Int × Int)) := Go.L.run (shares_Split_bl2 a0 a1 a2 a3) s
noncomputable def shares_Split (a0 : List UInt8) (a1 : Int) (a2 : Int) (a3 : List UInt8) : Option ((List (Int × (List UInt8))) × (Int × Int)) :=
  if (4096 : Int) < (a0.length : Int) then Option.bind (shf_fault (3 : Int) (-1 : Int)) (fun x4 => some ([], (x4.1, x4.2))) else Option.bind (shf_valid a1) (fun x8 => if !x8 then Option.bind (shf_fault (4 : Int) (-2 : Int)) (fun x12 => some ([], (x12.1, x12.2))) else (if (a2 < a1) ∨ ((10 : Int) < a2) then Option.bind (shf_fault (4 : Int) (-3 : Int)) (fun x18 => some ([], (x18.1, x18.2))) else Go.L.chk (Go.L.I64 (a1 - (1 : Int))) (Go.L.chk (Go.L.I64 ((a1 - (1 : Int)) * (a0.length : Int))) (if (a3.length : Int) = ((a1 - (1 : Int)) * (a0.length : Int)) then (shares_Split_l2 a0 a1 a2 a3) (([] : List (Int × (List UInt8))), (1 : Int)) else Option.bind (shf_fault (9 : Int) (-4 : Int)) (fun x26 => some ([], (x26.1, x26.2)))))))

set_option maxRecDepth 10000 in
theorem shares_Split_ok (w : World) (H : PH) (hH : Le H (hp w)) {a0 : List UInt8} {a1 : Int} {a2 : Int} {a3 : List UInt8} {v0_0 : Value} {v3_0 : Value} (h0_0 : Vec .byte H v0_0 (a0)) (h3_0 : Vec .byte H v3_0 (a3)) {r : (List (Int × (List UInt8))) × (Int × Int)} (h : shares_Split a0 a1 a2 a3 = some r) :
    Ok Try.prog 12 [v0_0, .int .i64 a1, .int .i64 a2, v3_0] w (fun v w' => Ext w w' ∧ ∃ u0, ∃ vs : List Value, v = .tuple #[u0, .agg #[.int .i64 r.2.1, .int .i64 r.2.2]] ∧ (r.1).length = vs.length ∧ Lcl w (.row u0 32 2 (r.1).length (nC Nb.s (r.1) vs) :: nT Nb.s 5 (r.1) vs) w') := by
  refine Ok_enter (n := 59) [(0, v0_0), (1, .int .i64 a1), (2, .int .i64 a2), (3, v3_0)] Try.func12 rfl rfl rfl rfl rfl ?_
  have hL := Lcl.start w
  refine W_seqr ?_
  refine S_pu 1 rfl ?_
  refine S_alloc zr25 rfl rfl hL ?_
  intro w1 b1 hL1 hle1 _
  refine S_seqnil ?_
  refine W_seq ?_
  refine W_block ?_
  refine W_seqr ?_
  refine S_pu 1 rfl ?_
  refine S_v (r_len rfl Try.underlying22 h0_0) rfl ?_
  refine S_pu 2 rfl ?_
  refine S_seqnil ?_
  refine W_if rfl (fun hc2 => ?_) (fun hc2 => ?_)
  · replace h := Go.L.ite_p hc2 h
    refine W_seqr ?_
    obtain ⟨x4, hb4, h⟩ := Go.L.bind_some h
    refine S_callL rfl rfl hL1 (shf_fault_ok _ _ (gz_le hH hL1) hb4) ?_
    rintro _ w5 rfl hx5 hL5 hle5
    refine S_pu 1 rfl ?_
    refine S_storeBN 0 rfl rfl rfl zr25 hL5 rfl rfl (onc rfl (onc rfl on0)) ?_
    intro w6 hL6 hle6
    refine S_seqnil ?_
    refine W_ret ?_
    refine At_block_ret ?_
    refine At_seq_ret ?_
    obtain rfl := Option.some.inj h
    refine At_got2 rfl (.tmp rfl) (.cell rfl Try.underlying25 rfl zr25 (box_ptr (i := 0) hL6 rfl)) ?_
    exact ⟨hL6.ext, _, [], rfl, rfl, (row_nil (nest_drop (A := []) hL6) 32 2).1⟩
  · replace h := Go.L.ite_n hc2 h
    refine W_seqr ?_
    refine S_pu 1 rfl ?_
    obtain ⟨x8, hb8, h⟩ := Go.L.bind_some h
    refine S_callL rfl rfl hL1 (shf_valid_ok _ _ (gz_le hH hL1) hb8) ?_
    rintro _ w9 rfl hx9 hL9 hle9
    refine S_pu 2 rfl ?_
    refine S_seqnil ?_
    refine W_cond rfl (fun hc10 => ?_) (fun hc10 => ?_)
    · replace h := Go.L.ite_t hc10 h
      refine W_seqr ?_
      obtain ⟨x12, hb12, h⟩ := Go.L.bind_some h
      refine S_callL rfl rfl hL9 (shf_fault_ok _ _ (gz_le hH hL9) hb12) ?_
      rintro _ w13 rfl hx13 hL13 hle13
      refine S_pu 1 rfl ?_
      refine S_storeBN 0 rfl rfl rfl zr25 hL13 rfl rfl (onc rfl (onc rfl on0)) ?_
      intro w14 hL14 hle14
      refine S_seqnil ?_
      refine W_ret ?_
      refine At_block_ret ?_
      refine At_seq_ret ?_
      obtain rfl := Option.some.inj h
      refine At_got2 rfl (.tmp rfl) (.cell rfl Try.underlying25 rfl zr25 (box_ptr (i := 0) hL14 rfl)) ?_
      exact ⟨hL14.ext, _, [], rfl, rfl, (row_nil (nest_drop (A := []) hL14) 32 2).1⟩
    · replace h := Go.L.ite_f hc10 h
      refine W_seqr ?_
      refine S_pu 4 rfl ?_
      refine S_or 2 3 rfl rfl rfl rfl rfl rfl ?_
      refine S_pu 1 rfl ?_
      refine S_seqnil ?_
      refine W_if rfl (fun hc16 => ?_) (fun hc16 => ?_)
      · replace h := Go.L.ite_p hc16 h
        refine W_seqr ?_
        obtain ⟨x18, hb18, h⟩ := Go.L.bind_some h
        refine S_callL rfl rfl hL9 (shf_fault_ok _ _ (gz_le hH hL9) hb18) ?_
        rintro _ w19 rfl hx19 hL19 hle19
        refine S_pu 1 rfl ?_
        refine S_storeBN 0 rfl rfl rfl zr25 hL19 rfl rfl (onc rfl (onc rfl on0)) ?_
        intro w20 hL20 hle20
        refine S_seqnil ?_
        refine W_ret ?_
        refine At_block_ret ?_
        refine At_seq_ret ?_
        obtain rfl := Option.some.inj h
        refine At_got2 rfl (.tmp rfl) (.cell rfl Try.underlying25 rfl zr25 (box_ptr (i := 0) hL20 rfl)) ?_
        exact ⟨hL20.ext, _, [], rfl, rfl, (row_nil (nest_drop (A := []) hL20) 32 2).1⟩
      · replace h := Go.L.ite_n hc16 h
        refine W_seqr ?_
        refine S_pu 1 rfl ?_
        refine S_v (r_len rfl Try.underlying22 h3_0) rfl ?_
        refine S_pu 1 rfl ?_
        obtain ⟨hk22, h⟩ := Go.L.chk_some h
        refine S_v (r_ar64 rfl rfl rfl hk22) rfl ?_
        refine S_pu 1 rfl ?_
        refine S_v (r_len rfl Try.underlying22 h0_0) rfl ?_
        obtain ⟨hk23, h⟩ := Go.L.chk_some h
        refine S_v (r_ar64 rfl rfl rfl hk23) rfl ?_
        refine S_pu 2 rfl ?_
        refine S_seqnil ?_
        refine W_ifn rfl (fun hc24 => ?_) (fun hc24 => ?_)
        · replace h := Go.L.ite_n hc24 h
          refine W_seqr ?_
          obtain ⟨x26, hb26, h⟩ := Go.L.bind_some h
          refine S_callL rfl rfl hL9 (shf_fault_ok _ _ (gz_le hH hL9) hb26) ?_
          rintro _ w27 rfl hx27 hL27 hle27
          refine S_pu 1 rfl ?_
          refine S_storeBN 0 rfl rfl rfl zr25 hL27 rfl rfl (onc rfl (onc rfl on0)) ?_
          intro w28 hL28 hle28
          refine S_seqnil ?_
          refine W_ret ?_
          refine At_block_ret ?_
          refine At_seq_ret ?_
          obtain rfl := Option.some.inj h
          refine At_got2 rfl (.tmp rfl) (.cell rfl Try.underlying25 rfl zr25 (box_ptr (i := 0) hL28 rfl)) ?_
          exact ⟨hL28.ext, _, [], rfl, rfl, (row_nil (nest_drop (A := []) hL28) 32 2).1⟩
        · replace h := Go.L.ite_p hc24 h
          refine W_skip ?_
          refine At_block ?_
          refine At_seq ?_
          refine W_seqr ?_
          refine S_pu 1 rfl ?_
          obtain ⟨hL30, hle30⟩ := row_nil hL9 32 2
          refine S_seqnil ?_
          refine W_cut (σ := (List (Int × (List UInt8))) × (List Value) × Value) (fun (⟨l42, vsl42, vl42⟩ : (List (Int × (List UInt8))) × (List Value) × Value) => [(9, .pointer (some ⟨b1, 0, none⟩)), (10, vl42)]) (fun (⟨l42, vsl42, vl42⟩ : (List (Int × (List UInt8))) × (List Value) × Value) wr => Lcl w ([.row (vl42) 32 2 (l42).length (nC Nb.s (l42) (vsl42)), .box b1 [.int .i64 (0 : Int), .int .i64 (0 : Int)] 25] ++ nT Nb.s 5 (l42) (vsl42)) wr ∧ (l42).length = (vsl42).length ∧ shares_Split_k1 l42 = some r) ?_ ?_
          · refine W_seqr ?_
            refine S_pu 1 rfl ?_
            refine S_seqnil ?_
            refine W_block ?_
            obtain ⟨n56, h⟩ := Go.L.run_some h
            refine W_loop (σ := (List (Int × (List UInt8))) × Int × (List Value) × Value × Nat) (fun (⟨l54, s11_55, vsl54, vl54, n⟩ : (List (Int × (List UInt8))) × Int × (List Value) × Value × Nat) => [(0, v0_0), (1, .int .i64 a1), (2, .int .i64 a2), (3, v3_0), (9, .pointer (some ⟨b1, 0, none⟩)), (10, vl54), (11, .int .i64 s11_55)]) (fun (⟨l54, s11_55, vsl54, vl54, n⟩ : (List (Int × (List UInt8))) × Int × (List Value) × Value × Nat) wr => Lcl w ([.row (vl54) 32 2 (l54).length (nC Nb.s (l54) (vsl54)), .box b1 [.int .i64 (0 : Int), .int .i64 (0 : Int)] 25] ++ nT Nb.s 5 (l54) (vsl54)) wr ∧ (l54).length = (vsl54).length ∧ Go.L.itr (shares_Split_bl2 a0 a1 a2 a3) n (l54, s11_55) = some r) (fun (⟨l54, s11_55, vsl54, vl54, n⟩ : (List (Int × (List UInt8))) × Int × (List Value) × Value × Nat) => n) (([] : List (Int × (List UInt8))), (1 : Int), ([] : List Value), .slice none 0 0, n56) (.cons rfl (.cons rfl (.cons rfl (.cons rfl (.cons rfl (.cons rfl (.cons rfl (Sub.nil _)))))))) ⟨hL30, rfl, h⟩ ?_
            rintro ⟨l54, s11_55, vsl54, vl54, nn56⟩ wr56 ⟨hL56, hnl54, h⟩
            obtain ⟨n56, e56, rfl, h, hm56⟩ := Go.L.itr_some h
            refine W_seq ?_
            refine W_seqr ?_
            refine S_pu 3 rfl ?_
            refine S_seqnil ?_
            refine W_if rfl (fun hc58 => ?_) (fun hc58 => ?_)
            · replace h := Go.L.ite_p hc58 h
              refine W_skip ?_
              refine At_seq ?_
              refine W_seq ?_
              refine W_block ?_
              refine W_region ?_
              refine S_pu 6 rfl ?_
              refine S_v (r_conv Try.underlying3 Try.underlying5 rfl (conv_64_u8 _)) rfl ?_
              obtain ⟨x60, hb60, h⟩ := Go.L.bind_some h
              refine S_callL rfl rfl hL56 (eval_l _ _ (gz_le hH hL56) (h0_0.mono (gz_left hH)) (h3_0.mono (gz_left hH)) hb60) ?_
              rintro u61_0 w61 ⟨_, rfl, hR61_0⟩ hx61 hL61 hle61
              obtain ⟨xs61, hL61, hle61, he61⟩ := hR61_0.take hH hL56 hx61
              refine S_v (r_build rfl (fun _ => bld32_0_1 _ _ (row_one (hL61.at (i := 0) rfl)) _)) rfl ?_
              obtain ⟨hk63, h⟩ := Go.L.chk_some h
              refine S_pushQ (N := Nb.s) (e := 5) (l := l54) (vs := vsl54) [.row (u61_0) 5 1 (x60).length (xs61), .row (vl54) 32 2 (l54).length (nC Nb.s (l54) (vsl54)), .box b1 [.int .i64 (0 : Int), .int .i64 (0 : Int)] 25] (fun v' => [.row (v') 32 2 ((l54 ++ [(s11_55, x60)])).length (nC Nb.s ((l54 ++ [(s11_55, x60)])) ((vsl54 ++ [u61_0]))), .box b1 [.int .i64 (0 : Int), .int .i64 (0 : Int)] 25]) 1 0 ((s11_55, x60)) rfl (fun _ => bsl23_1 _ _ _) rfl rfl (fun _ => rfl) Try.underlying23 zr32 rfl rfl hL61 hnl54 rfl rfl (by decide) he61 hk63 (fun _ => rfl) ?_
              intro u62 v62 w62 hn62 hL62 hle62
              refine S_pu 1 rfl ?_
              refine S_nil ?_
              refine At_block ?_
              refine At_seq ?_
              refine W_region ?_
              refine S_pu 1 rfl ?_
              obtain ⟨hk64, h⟩ := Go.L.chk_some h
              refine S_v (r_ar64 rfl rfl rfl hk64) rfl ?_
              refine S_pu 1 rfl ?_
              refine S_nil ?_
              have h := Go.L.Nxt.again h hm56
              refine At_round ((l54 ++ [(s11_55, x60)]), (s11_55 + (1 : Int)), (vsl54 ++ [u61_0]), v62, n56) (.cons rfl (.cons rfl (.cons rfl (.cons rfl (.cons rfl (.cons rfl (.cons rfl (Sub.nil _)))))))) ⟨hL62, hn62, h⟩ (Nat.lt_succ_self _)
            · replace h := Go.L.ite_n hc58 h
              refine W_exit ?_
              refine At_seq_exit ?_
              refine At_loop_exit ?_
              replace h := Go.L.Nxt.out h hm56
              refine At_exit ?_
              refine At_cut (l54, vsl54, vl54) (.cons rfl (.cons rfl (Sub.nil _))) ⟨hL56, hnl54, h⟩
          · rintro ⟨l42, vsl42, vl42⟩ wr43 ⟨hL43, hnl42, h⟩
            refine W_seqr ?_
            refine S_pu 1 rfl ?_
            refine S_v (r_build rfl (fun _ => bld25_z _)) rfl ?_
            refine S_pu 1 rfl ?_
            refine S_storeBN 1 rfl rfl rfl zr25 hL43 rfl rfl (onc rfl (onc rfl on0)) ?_
            intro w67 hL67 hle67
            refine S_seqnil ?_
            refine W_ret ?_
            obtain rfl := Option.some.inj h
            refine At_got2 rfl (.tmp rfl) (.cell rfl Try.underlying25 rfl zr25 (box_ptr (i := 1) hL67 rfl)) ?_
            have hL68 := hL67.dropAt (i := 1) rfl
            exact ⟨hL68.ext, _, _, rfl, hnl42, hL68⟩
end Go.Proofs.Ytidedcbaahiplaa
